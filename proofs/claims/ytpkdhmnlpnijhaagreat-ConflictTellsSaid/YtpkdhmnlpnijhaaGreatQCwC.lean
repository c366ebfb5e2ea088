/-
  The reference's small numbers.
-/
import Derived.Test.YtpkdhmnlpnijhaaGreatQRefB
import Derived.Test.YtpkdhmnlpnijhaaGreatQCwB
import Derived.Test.YtpkdhmnlpnijhaaGreatQDualX
namespace Go.Proofs.YtpkdhmnlpnijhaaGreat
set_option linter.unusedVariables false
set_option linter.unusedSimpArgs false
set_option linter.unusedSectionVars false
open Go Go.RowKit
theorem rintN (n : Int) (hn : n = 0 ∨ n = 1 ∨ n = -1) : ContractN Tryz.prog 90 [dI n] (encF (ofQ (n : Rat))) := rint_c n (by omega) (by omega)
set_option maxRecDepth 100000
set_option maxHeartbeats 16000000
theorem few12_c (s : SysD) : ContractN Tryz.prog 26 [encS s] (dB (fewS s 5 8 4)) := by
 refine Contract.toN ?_ rfl
 have hres := Tryz.results26
 have q1 := fewS_c s 5 8 4 (by decide) (by decide)
 refine inC Tryz.func26 rfl Tryz.ntmps26 ?_
 exact aGo hres trivial
theorem has12_c (l : List Int) (x : Int) (hl : (l.length : Int) ≤ 1099511627776) : ContractN Tryz.prog 133 [encInts l, dI x] (dB (hasI l x)) := by
 refine Contract.toN ?_ rfl
 refine inC Tryz.func133 rfl Tryz.ntmps133 ?_
 have hres := Tryz.results133
 refine aGo hres ?_
 repeat with_reducible intro K hK
 refine aLoopT (fun (k : Nat) => [(0, encInts l), (1, dI x), (5, dI k)]) (fun _ => []) 0 0 (fun k => k ≤ l.length ∧ (l.take k).all (fun y => x != y) = true) (fun k => l.length - k) 0 ⟨by omega, rfl⟩ ?_ ?_
 · exact leGo trivial
 rintro k ⟨hk, hn⟩
 have hw := wrap1 k
 have h0 : (0 : Int) ≤ k := by omega
 by_cases h1 : (k : Int) < l.length
 · obtain ⟨y, hx⟩ := getE (l := l) (k := k) (by omega)
   cases h2 : (y == x)
   · refine aGo (cj4 hres h0 h1 (cj3 hx hw h2)) ?_
     repeat with_reducible intro K hK
     have h3 : (fun y => x != y) y = true := by
      have : ¬ y = x := by simpa using h2
      simp; exact fun h => this h.symm
     exact loop_end (k + 1) ⟨by omega, all_take_succ hx hn h3⟩ (by omega) (by exact leGo trivial)
   · have h3 : y = x := by simpa using h2
     refine aGo (cj4 hres h0 h1 (cj3 hx hw h2)) ?_
     repeat with_reducible intro K hK
     exact bool_eq (by unfold hasI; rw [all_not hx (by simp [h3])]; rfl)
 · refine aGo (cj2 hres h1) ?_
   repeat with_reducible intro K hK
   rw [List.take_of_length_le (by omega)] at hn
   exact bool_eq (by unfold hasI; rw [hn]; rfl)
theorem asc_pre {rows : List Int} {n : Int} {k : Nat} (h : (List.range k).all (ascAt rows n) = true) : ∀ (j : Nat) (x : Int), j < k → rows[j]? = some x → (j : Int) ≤ x ∧ x < n
 | 0, x, hj, hx => by
   have := List.all_eq_true.1 h 0 (List.mem_range.2 hj)
   simp only [ascAt, prevI, hx, Option.getD_some, Bool.and_eq_true, decide_eq_true_eq] at this
   omega
 | j + 1, x, hj, hx => by
   have hk := (List.getElem?_eq_some_iff.1 hx).1
   obtain ⟨y, hy⟩ := getE (l := rows) (k := j) (by omega)
   have ih := asc_pre h j y (by omega) hy
   have := List.all_eq_true.1 h (j + 1) (List.mem_range.2 hj)
   simp only [ascAt, prevI, hx, hy, Option.getD_some, Bool.and_eq_true, decide_eq_true_eq] at this
   push_cast
   omega
theorem list12_c (rows : List Int) (n : Int) (hn : n ≤ 1099511627776) : ContractN Tryz.prog 131 [encInts rows, dI n] (dB (ascR rows n)) := by
 refine Contract.toN ?_ rfl
 have hres := Tryz.results131
 refine inC Tryz.func131 rfl Tryz.ntmps131 ?_
 refine aGo hres ?_
 repeat with_reducible intro K hK
 refine aLoopT (fun (k : Nat) => [(0, encInts rows), (1, dI n), (5, dI k)]) (fun _ => []) 0 0 (fun k => k ≤ rows.length ∧ (List.range k).all (ascAt rows n) = true ∧ -1 ≤ prevI rows k) (fun k => rows.length - k) 0 ⟨by omega, rfl, Int.le_refl _⟩ ?_ ?_
 · exact leGo trivial
 rintro k ⟨hk, hg, hp⟩
 have hkb : (k : Int) ≤ 1099511627776 := by
  rcases Nat.eq_zero_or_pos k with e | e
  · rw [e]; decide
  · obtain ⟨y, hy⟩ := getE (l := rows) (k := k - 1) (by omega)
    have := asc_pre hg (k - 1) y (by omega) hy
    omega
 have hw := wrap1 k
 have h0 : (0 : Int) ≤ k := by omega
 by_cases h1 : (k : Int) < rows.length
 · obtain ⟨x, hx⟩ := getE (l := rows) (k := k) (by omega)
   have ea : ascAt rows n k = (decide (prevI rows k < x) && decide (x < n)) := by unfold ascAt; rw [hx]; rfl
   have bad : ascAt rows n k = false → D.v (.bool false) = dB (ascR rows n) := fun h => bool_eq (by
    unfold ascR
    exact (List.all_eq_false.2 ⟨k, List.mem_range.2 (by omega), by rw [h]; decide⟩).symm)
   have good : ascAt rows n k = true → (List.range (k + 1)).all (ascAt rows n) = true := fun h => by
    rw [List.range_succ, List.all_append, hg, Bool.true_and]
    simp only [List.all_cons, List.all_nil, Bool.and_true]; exact h
   have pn : prevI rows (k + 1) = x := by show rows[k]?.getD 0 = x; rw [hx]; rfl
   by_cases h2 : x < 0
   · refine aGo (cj4 hres h0 h1 (cj3 hx hw h2)) ?_
     repeat with_reducible intro K hK
     exact bad (by rw [ea, decide_eq_false (by omega), Bool.false_and])
   by_cases h3 : x ≥ n
   · refine aGo (cj4 hres h0 h1 (cj4 hx hw h2 h3)) ?_
     repeat with_reducible intro K hK
     exact bad (by rw [ea, decide_eq_false (p := x < n) (by omega), Bool.and_false])
   by_cases h4 : (k : Int) > 0
   rotate_left
   · have ek : prevI rows k = -1 := by
       obtain rfl : k = 0 := by omega
       rfl
     refine aGo (cj4 hres h0 h1 (cj4 hx hw h2 (cj2 h3 h4))) ?_
     repeat with_reducible intro K hK
     exact loop_end (k + 1) ⟨by omega, good (by rw [ea, decide_eq_true (by omega), decide_eq_true (p := x < n) (by omega)]; rfl), by rw [pn]; omega⟩ (by omega) (by exact leGo trivial)
   obtain ⟨j, hj⟩ : ∃ j, k = j + 1 := ⟨k - 1, by omega⟩
   obtain ⟨y, hy⟩ := getE (l := rows) (k := j) (by omega)
   have ep : prevI rows k = y := by rw [hj]; show rows[j]?.getD 0 = y; rw [hy]; rfl
   have hwj : IntKind.i64.wrap ((k : Int) - 1) = (j : Int) := (wrap_in (by omega) (by omega)).trans (by omega)
   have j0 : (0 : Int) ≤ j := by omega
   have j1 : (j : Int) < rows.length := by omega
   by_cases h5 : y ≥ x
   · refine aGo (cj4 hres h0 h1 (cj4 hx hw h2 (cj4 h3 h4 hy (cj4 hwj j0 j1 h5)))) ?_
     repeat with_reducible intro K hK
     exact bad (by rw [ea, ep, decide_eq_false (by omega), Bool.false_and])
   · refine aGo (cj4 hres h0 h1 (cj4 hx hw h2 (cj4 h3 h4 hy (cj4 hwj j0 j1 h5)))) ?_
     repeat with_reducible intro K hK
     exact loop_end (k + 1) ⟨by omega, good (by rw [ea, ep, decide_eq_true (by omega), decide_eq_true (p := x < n) (by omega)]; rfl), by rw [pn]; omega⟩ (by omega) (by exact leGo trivial)
 · obtain rfl : k = rows.length := by omega
   refine aGo (cj2 hres h1) ?_
   repeat with_reducible intro K hK
   exact bool_eq hg.symm
theorem without12_c (L : List Nat) (i : Nat) (hl : L.length ≤ 64) : Contract Tryz.prog 127 [encInts (ints L), dI i] (encInts (ints (L.filter fun k => k != i))) := by
 have hres := Tryz.results127
 obtain ⟨F, hF⟩ : ∃ F : Nat → List Nat, F = fun k => (L.take k).filter fun k => k != i := ⟨_, rfl⟩
 have F0 : F 0 = [] := by rw [hF]; rfl
 have Fz : ∀ k, L[k]? = some i → F (k + 1) = F k := fun k h => by rw [hF]; simp only; rw [List.take_add_one, h, List.filter_append]; simp
 have Fs : ∀ k x, L[k]? = some x → x ≠ i → F (k + 1) = F k ++ [x] := fun k x h hx => by rw [hF]; simp only; rw [List.take_add_one, h, List.filter_append]; simp [hx]
 have Fe : (L.filter fun k => k != i) = F L.length := by rw [hF]; simp only; rw [List.take_length]
 rw [Fe]
 refine inC Tryz.func127 rfl Tryz.ntmps127 ?_
 refine aGo hres ?_
 repeat with_reducible intro K hK
 refine aLoopT (fun (k : Nat) => [(0, encInts (ints L)), (1, dI i), (5, .ls 0 (F k).length), (6, dI k)]) (fun k => [(0, ⟨3, (F k).length, 1, (ints (F k)).map fun x => [dI x], 0, false⟩)]) 1 0 (fun k => k ≤ L.length ∧ (F k).length ≤ k) (fun k => L.length - k) 0 ⟨by omega, by rw [F0]; decide⟩ ?_ ?_
 · exact leGo F0
 rintro k ⟨hk, hf⟩
 have hw := wrap1 k
 have h0 : (0 : Int) ≤ k := by omega
 by_cases h1 : (k : Int) < L.length
 · obtain ⟨x, hx⟩ := getE (l := L) (k := k) (by omega)
   by_cases h2 : x = i
   · subst h2
     have F1 := Fz k hx
     have e2 : ((x : Int) != x) = false := by simp
     refine aGo (cj4 hres h0 h1 (cj3 hx hw e2)) ?_
     repeat with_reducible intro K hK
     exact loop_end (k + 1) ⟨by omega, by rw [F1]; omega⟩ (by omega) (by exact leGo F1)
   · have F1 := Fs k x hx h2
     have e2 : ((x : Int) != i) = true := by simp; omega
     refine aGo (cj4 hres h0 h1 (cj3 hx hw e2)) ?_
     repeat with_reducible intro K hK
     exact loop_end (k + 1) ⟨by omega, by rw [F1, List.length_append]; simp; omega⟩ (by omega) (by exact leGo F1)
 · obtain rfl : k = L.length := by omega
   refine aGo (cj2 hres h1) ?_
   repeat with_reducible intro K hK
   rw [map_map_id (fun _ => rfl)]
theorem sameInts_c (a : List Int) (hl : (a.length : Int) ≤ 4096) : ContractN Tryz.prog 30 [encInts a, encInts a] (dB true) := by
 refine Contract.toN ?_ rfl
 have hres := Tryz.results30
 have h0 : ((a.length : Int) != a.length) = false := by simp
 refine inC Tryz.func30 rfl Tryz.ntmps30 ?_
 refine aGo (cj2 hres h0) ?_
 repeat with_reducible intro K hK
 refine aLoopT (fun (k : Nat) => [(0, encInts a), (1, encInts a), (5, dI k)]) (fun _ => []) 0 0 (fun k => k ≤ a.length) (fun k => a.length - k) 0 (by omega) ?_ ?_
 · exact leGo trivial
 rintro k hk
 have hw := wrap1 k
 have k0 : (0 : Int) ≤ k := by omega
 by_cases h1 : (k : Int) < a.length
 · obtain ⟨x, hx⟩ := getE (l := a) (k := k) (by omega)
   have e2 : (x != x) = false := by simp
   refine aGo (cj4 hres k0 h1 (cj3 hx hw e2)) ?_
   repeat with_reducible intro K hK
   exact loop_end (k + 1) (by omega) (by omega) (by exact leGo trivial)
 · exact aGo (cj2 hres h1) trivial
def rowX (k n : Int) : RowD := ⟨[⟨0, ofQ ((1 : Int) : Rat)⟩], k, ofQ (n : Rat)⟩
theorem row12_c (k n : Int) (h1 : -1000 ≤ n) (h2 : n ≤ 1000) : Contract Tryz.prog 116 [dI k, dI n] (encW (rowX k n)) := by
 have hres := Tryz.results116
 have k1 := rint_c 1 (by decide) (by decide)
 have k2 := rint_c n (by omega) (by omega)
 refine inC Tryz.func116 rfl Tryz.ntmps116 ?_
 refine aGo hres ?_
 repeat with_reducible intro K hK
 rfl
def listX (a b c d : Int) : List FracD := [ofQ (a : Rat), ofQ (b : Rat), ofQ (c : Rat), ofQ (d : Rat)]
theorem listX_c (a b c d : Int) (ha : -1000 ≤ a ∧ a ≤ 1000) (hb : -1000 ≤ b ∧ b ≤ 1000) (hc : -1000 ≤ c ∧ c ≤ 1000) (hd : -1000 ≤ d ∧ d ≤ 1000) : Contract Tryz.prog 117 [dI a, dI b, dI c, dI d] (encFs (listX a b c d)) := by
 have hres := Tryz.results117
 have k1 := rint_c a (by omega) (by omega)
 have k2 := rint_c b (by omega) (by omega)
 have k3 := rint_c c (by omega) (by omega)
 have k4 := rint_c d (by omega) (by omega)
 refine inC Tryz.func117 rfl Tryz.ntmps117 ?_
 refine aGo hres ?_
 repeat with_reducible intro K hK
 rfl
def one12 (n : Int) : Prop := n = 0 ∨ n = 1 ∨ n = -1
theorem listXN (a b c d : Int) (ha : one12 a) (hb : one12 b) (hc : one12 c) (hd : one12 d) : ContractN Tryz.prog 117 [dI a, dI b, dI c, dI d] (encFs (listX a b c d)) := by
 have hres := Tryz.results117
 have k1 := rintN a ha
 have k2 := rintN b hb
 have k3 := rintN c hc
 have k4 := rintN d hd
 refine ContractN.ofA fun I => (CallA.inline Tryz.func117 rfl (by kernel_rfl) (by kernel_rfl) (by kernel_rfl) ?_)
 rw [Tryz.ntmps117]
 refine aGo hres ?_
 repeat with_reducible intro K hK
 rfl
def sysX : SysD := ⟨1, [rowX 0 1, rowX 1 5, rowX 0 6, rowX 1 0]⟩
def sysY : SysD := ⟨1, [rowX 0 1, rowX 1 5]⟩
theorem confX : Conf sysX := ⟨by decide +kernel, by decide +kernel⟩
theorem confY : Conf sysY := ⟨by decide +kernel, by decide +kernel⟩
theorem nsX (L : List Nat) (hl : L.length ≤ 6000) {y : List FracD} (h : refutesD (partD sysX L) y = true) : nsC sysX L = true := (nsC_part confX.r hl).2 fun _ => refutes_no h
theorem nsN {s : SysD} (hs : rightS s = true) (L : List Nat) (hl : L.length ≤ 6000) {x : List FracD} (h : holdsS (partD s L) x = true) : nsC s L = false := by
 cases hn : nsC s L with
 | false => rfl
 | true => rw [(nsC_part hs hl).1 hn x] at h; cases h
theorem x23 : nsC sysX [2, 3] = true := nsX [2, 3] (by decide) (y := [ofQ 1, ofQ (-1)]) (by decide +kernel)
theorem x123 : nsC sysX [1, 2, 3] = true := nsC_mono sysX [2, 3] _ (by decide) x23
theorem x0123 : nsC sysX [0, 1, 2, 3] = true := nsC_mono sysX [2, 3] _ (by decide) x23
theorem x3 : nsC sysX [3] = false := nsN confX.r [3] (by decide) (x := [ofQ 0]) (by decide +kernel)
theorem x2 : nsC sysX [2] = false := nsN confX.r [2] (by decide) (x := [ofQ 6]) (by decide +kernel)
theorem y01 : nsC sysY [0, 1] = false := nsN confY.r [0, 1] (by decide) (x := [ofQ 1]) (by decide +kernel)
theorem confX_is : confD sysX = [2, 3] := by
 have l1 : leftC (nsC sysX) 4 1 = [1, 2, 3] := by show (if nsC sysX [1, 2, 3] then [1, 2, 3] else [0, 1, 2, 3]) = _; rw [x123]; rfl
 have l2 : leftC (nsC sysX) 4 2 = [2, 3] := by
  show (if nsC sysX ((leftC (nsC sysX) 4 1).filter fun k => k != 1) then (leftC (nsC sysX) 4 1).filter fun k => k != 1 else leftC (nsC sysX) 4 1) = _
  rw [l1]
  show (if nsC sysX [2, 3] then [2, 3] else [1, 2, 3]) = _
  rw [x23]; rfl
 have l3 : leftC (nsC sysX) 4 3 = [2, 3] := by
  show (if nsC sysX ((leftC (nsC sysX) 4 2).filter fun k => k != 2) then (leftC (nsC sysX) 4 2).filter fun k => k != 2 else leftC (nsC sysX) 4 2) = _
  rw [l2]
  show (if nsC sysX [3] then [3] else [2, 3]) = _
  rw [x3]; rfl
 have l4 : leftC (nsC sysX) 4 4 = [2, 3] := by
  show (if nsC sysX ((leftC (nsC sysX) 4 3).filter fun k => k != 3) then (leftC (nsC sysX) 4 3).filter fun k => k != 3 else leftC (nsC sysX) 4 3) = _
  rw [l3]
  show (if nsC sysX [2] then [2] else [2, 3]) = _
  rw [x2]; rfl
 unfold confD
 rw [show List.range sysX.r.length = [0, 1, 2, 3] from rfl, x0123, if_pos rfl]
 exact l4
theorem confY_is : confD sysY = [] := by
 unfold confD
 rw [show List.range sysY.r.length = [0, 1] from rfl, y01]; rfl
theorem tnX : tnS sysX := (confX.fit (L := [0, 1, 2, 3]) (by decide)).tn
theorem tnL (a b c d : Int) (ha : -1000 ≤ a ∧ a ≤ 1000) (hb : -1000 ≤ b ∧ b ≤ 1000) (hc : -1000 ≤ c ∧ c ≤ 1000) (hd : -1000 ≤ d ∧ d ≤ 1000) : tnFs (listX a b c d) := by
 refine ⟨by simp [listX], fun f hf => ?_⟩
 have h : ∀ n : Int, -1000 ≤ n ∧ n ≤ 1000 → tnF (ofQ (n : Rat)) := fun n hn => by
  have := szQ_int n (by omega) (by omega)
  show (szQ (n : Rat) : Int) ≤ 262144
  omega
 simp only [listX, List.mem_cons, List.not_mem_nil, or_false] at hf
 rcases hf with rfl | rfl | rfl | rfl
 · exact h _ ha
 · exact h _ hb
 · exact h _ hc
 · exact h _ hd
theorem chkX (rows : List Int) (a b c d : Int) (ha : -1000 ≤ a ∧ a ≤ 1000) (hb : -1000 ≤ b ∧ b ≤ 1000) (hc : -1000 ≤ c ∧ c ≤ 1000) (hd : -1000 ≤ d ∧ d ≤ 1000) (hl : (rows.length : Int) ≤ 1099511627776) {v : Bool} (h : check12 sysX rows (listX a b c d) = v) : Contract Tryz.prog 34 [encS sysX, encInts rows, encFs (listX a b c d)] (dB v) := by
 rw [← h]; exact check12_c sysX rows _ tnX (tnL a b c d ha hb hc hd) hl
theorem small12_c : Contract Tryz.prog 25 [] (dB true) := by
 have hres := Tryz.results25
 have r1 := row12_c 0 1 (by decide) (by decide)
 have r2 := row12_c 1 5 (by decide) (by decide)
 have r3 := row12_c 0 6 (by decide) (by decide)
 have r4 := row12_c 1 0 (by decide) (by decide)
 have q1 := conflict12_c sysX confX
 rw [confX_is] at q1
 have q2 := conflict12_c sysY confY
 rw [confY_is] at q2
 have q3 := conflict12_no ⟨-1, []⟩ ⟨by decide, fun w hw => by cases hw⟩ (by decide +kernel)
 have q4 := sameInts_c [2, 3] (by decide)
 have q5 := part12_c sysX [2, 3] (few12_sm confX.f) (by decide)
 have e5 : part12 sysX [2, 3] = ⟨1, [rowX 0 6, rowX 1 0]⟩ := by
  unfold part12
  rw [confX.r, show ascR [2, 3] (sysX.r.length : Int) = true by decide +kernel]; rfl
 rw [e5] at q5
 have l1 := listX_c 0 0 1 (-1) (by decide) (by decide) (by decide) (by decide)
 have l2 := listXN 0 (-1) 1 0 (.inl rfl) (.inr (.inr rfl)) (.inr (.inl rfl)) (.inl rfl)
 have l3 := listX_c 0 (-1) 2 (-1) (by decide) (by decide) (by decide) (by decide)
 have c1 := chkX [2, 3] 0 0 1 (-1) (by decide) (by decide) (by decide) (by decide) (by decide) (v := true) (by decide +kernel)
 have c2 := chkX [2, 3] 0 (-1) 1 0 (by decide) (by decide) (by decide) (by decide) (by decide) (v := false) (by decide +kernel)
 have c3 := chkX [2, 3] 0 (-1) 2 (-1) (by decide) (by decide) (by decide) (by decide) (by decide) (v := false) (by decide +kernel)
 have c4 := chkX [1, 2] 0 (-1) 1 0 (by decide) (by decide) (by decide) (by decide) (by decide) (v := true) (by decide +kernel)
 have c5 := chkX [2, 1] 0 (-1) 1 0 (by decide) (by decide) (by decide) (by decide) (by decide) (v := false) (by decide +kernel)
 have b00 : ((0 : Int) != 0) = false := rfl
 have b11 : ((1 : Int) != 1) = false := rfl
 have b22 : ((2 : Int) != 2) = false := rfl
 refine inC Tryz.func25 rfl Tryz.ntmps25 ?_
 repeat ((fail_if_success (with_reducible refine at_region 2 ?_)); first
     | (refine hK _ ?_; clear hK; clear K)
     | (refine aSeq fun K hK => ?_)
     | (refine aBlock ?_)
     | (refine aSkip ?_)
     | (refine aExit ?_)
     | (refine aRet ?_)
     | (refine aOps _ rfl (by kernel_rfl) ?_)
     | (refine aRunK _ rfl mixed (by kernel_rfl) (by kernel_rfl) fun KE hE => ?_)
     | (refine hE _ _ (by kernel_rfl) (intsOk_no rfl) ?_; clear hE; clear KE)
     | (refine hE _ _ (by kernel_rfl) (intsOk_yes ?hi ?hj) ?_; (case hi => (repeat (refine intsDead_updB rfl ?_)); exact intsDead_nil); (case hj => simp); clear hE; clear KE)
     | (refine aCondT rfl ?hc ?_; case hc => simp only [go_sem, ↓reduceIte, hres])
     | (refine aCondF rfl ?hc ?_; case hc => simp only [go_sem, ↓reduceIte, hres])
     | (refine callT_of (r1) ?_ ?_; rotate_left; (repeat (refine intsDead_updB rfl ?_)); exact intsDead_nil)
     | (refine callT_ofN (r1) ?_)
     | (refine callU_of (r1) rfl ?_)
     | (refine callU_ofN (r1) rfl ?_)
     | (refine callT_of (r2) ?_ ?_; rotate_left; (repeat (refine intsDead_updB rfl ?_)); exact intsDead_nil)
     | (refine callT_ofN (r2) ?_)
     | (refine callU_of (r2) rfl ?_)
     | (refine callU_ofN (r2) rfl ?_)
     | (refine callT_of (r3) ?_ ?_; rotate_left; (repeat (refine intsDead_updB rfl ?_)); exact intsDead_nil)
     | (refine callT_ofN (r3) ?_)
     | (refine callU_of (r3) rfl ?_)
     | (refine callU_ofN (r3) rfl ?_)
     | (refine callT_of (r4) ?_ ?_; rotate_left; (repeat (refine intsDead_updB rfl ?_)); exact intsDead_nil)
     | (refine callT_ofN (r4) ?_)
     | (refine callU_of (r4) rfl ?_)
     | (refine callU_ofN (r4) rfl ?_)
     | (simp only [go_sem, ↓reduceIte, hres])
     | (refine And.intro ?ho ?_; (case ho => omega))
     | (clear hK; clear K))
 refine aLe (le_kill 0 rfl) (aLe (le_cells 1 4 rfl) ?_)
 simp only [go_sem, fzT]
 exact aGo (cj4 hres b00 b11 b22) trivial
set_option maxHeartbeats 32000000
theorem range_get (l : List RowD) : ∀ n : Nat, n ≤ l.length → (List.range n).filterMap (fun i => l[i]?) = l.take n
 | 0, _ => rfl
 | n + 1, h => by
   obtain ⟨x, hx⟩ := getE (l := l) (k := n) (by omega)
   rw [List.range_succ, List.filterMap_append, range_get l n (by omega), List.take_add_one]
   simp [hx]
theorem part_range (s : SysD) : partD s (List.range s.r.length) = s := by
 obtain ⟨n, r⟩ := s
 unfold partD
 simp only
 rw [range_get r r.length (Nat.le_refl _), List.take_length]
end Go.Proofs.YtpkdhmnlpnijhaaGreat
