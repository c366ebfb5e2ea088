/-
  The reference's digits, walked over data: trim, digit, less, plus, minus, times, over.
-/
import Derived.Test.YtpkdhmnlpnijhaaGreatVConv
namespace Go.Proofs.YtpkdhmnlpnijhaaGreat
set_option linter.unusedVariables false
set_option linter.unusedSimpArgs false
set_option linter.unusedSectionVars false
open Go Go.RowKit
set_option maxRecDepth 100000
set_option maxHeartbeats 8000000
theorem rdigit_c (l : List Int) (k : Nat) : ContractN Tryz.prog 252 [encInts l, dI k] (dI (dg l k)) := by
 have hres := Tryz.results252
 refine inN Tryz.func252 rfl Tryz.ntmps252 fun I => ?_
 have h0 : (0 : Int) ≤ k := by omega
 by_cases h1 : (k : Int) < l.length
 · obtain ⟨x, hx⟩ := getE (l := l) (k := k) (by omega)
   rw [dg_some hx]
   exact aGo (cj4 hres h0 h1 hx) trivial
 · rw [dg_none (by omega)]
   exact aGo (cj2 hres h1) trivial
theorem rtrim_c (l : List Int) (hl : (l.length : Int) ≤ 8796093022208) : ContractN Tryz.prog 245 [encInts l] (encInts (trimL l)) := by
 have hres := Tryz.results245
 refine inN Tryz.func245 rfl Tryz.ntmps245 fun I => ?_
 refine aGo hres ?_
 repeat with_reducible intro K hK
 refine aLoopT (fun (m : Nat) => [(0, encInts l), (3, dI m)]) (fun _ => []) 0 0 (fun m => m ≤ l.length ∧ trimL (l.take m) = trimL l) (fun m => m) l.length ⟨by omega, by rw [List.take_length]⟩ ?_ ?_
 · exact leGo hres
 rintro m ⟨hm, ht⟩
 have j1 : ∀ l : List Int, (l.map fun x => [dI x]).map (List.map datJ) = l.map fun x => [dI x] := fun l => by rw [List.map_map]; exact List.map_congr_left fun x _ => rfl
 have m0 : (0 : Int) ≤ m := by omega
 have m1 : (m : Int) ≤ l.length := by omega
 cases m with
 | zero =>
   have hc : ¬ ((0 : Nat) : Int) > 0 := by decide
   refine aGo (cj4 hres hc m0 m1) ?_
   rw [show trimL l = [] by rw [← ht]; rfl]
   rfl
 | succ j =>
   obtain ⟨x, hx⟩ := getE (l := l) (k := j) (by omega)
   have hc : ((j + 1 : Nat) : Int) > 0 := by omega
   have hw : IntKind.i64.wrap (((j + 1 : Nat) : Int) - 1) = (j : Int) := (wrap_in (by omega) (by omega)).trans (by omega)
   have j0 : (0 : Int) ≤ j := by omega
   have jl : (j : Int) < l.length := by omega
   by_cases h0 : x = 0
   · subst h0
     have hz : ((0 : Int) == 0) = true := rfl
     refine aGo (cj4 hres hc hw (cj4 j0 jl hx hz)) ?_
     repeat with_reducible intro K hK
     exact loop_end j ⟨by omega, by rw [← ht, trimL_take_zero hx]⟩ (by omega) (leGo hres)
   · have hz : (x == 0) = false := by simpa using h0
     have e : trimL l = l.take (j + 1) := by
      have h2 := trim_take (l.take (j + 1))
      rw [trimL_take_last hx h0, List.take_take, Nat.min_self] at h2
      exact ht.symm.trans h2
     refine aGo (cj4 hres hc hw (cj4 j0 jl hx (cj3 hz m0 m1))) ?_
     intro KI hKI KI2 hKI2
     refine ⟨⟨fun e he => ?_, ?_, ?_⟩, hKI2 _ ?_⟩
     · obtain ⟨y, _, rfl⟩ := List.mem_map.1 (List.mem_of_mem_take he)
       exact ⟨rfl, rfl⟩
     · rw [List.length_take, List.length_map]; omega
     · rw [List.length_take, List.length_map]; omega
     · rw [← List.map_take]
       refine aGo (cj2 hres (j1 (l.take (j + 1)))) ?_
       rw [e]
       refine congrArg D.sl ?_
       rw [List.map_map]
       exact List.map_congr_left fun x _ => rfl
theorem rless_c (a b : List Int) (da : Dig a) (db : Dig b) (la : (a.length : Int) ≤ 9007199254740992) (lb : (b.length : Int) ≤ 9007199254740992) : ContractN Tryz.prog 224 [encInts a, encInts b] (dB (decide (val a < val b))) := by
 have hres := Tryz.results224
 refine inN Tryz.func224 rfl Tryz.ntmps224 fun I => ?_
 obtain ⟨M, hM⟩ : ∃ M, M = max a.length b.length := ⟨_, rfl⟩
 have hmx : (if (b.length : Int) > a.length then (b.length : Int) else (a.length : Int)) = (M : Int) := by split <;> omega
 have hw0 : IntKind.i64.wrap ((M : Int) - 1) = (M : Int) - 1 := wrap_in (by omega) (by omega)
 refine aGo (cj3 hres hmx hw0) ?_
 repeat with_reducible intro K hK
 refine aLoopT (fun (m : Nat) => [(0, encInts a), (1, encInts b), (5, dI ((m : Int) - 1))]) (fun _ => []) 0 0 (fun m => m ≤ M ∧ ∀ j, m ≤ j → dg a j = dg b j) (fun m => m) M ⟨by omega, fun j hj => by rw [dg_none (by omega), dg_none (by omega)]⟩ ?_ ?_
 · exact leGo (cj3 hres hmx hw0)
 rintro m ⟨hm, hd⟩
 cases m with
 | zero =>
   rw [show ((0 : Nat) : Int) - 1 = -1 by rfl]
   have hc : ¬ (-1 : Int) ≥ 0 := by decide
   refine aGo (cj2 hres hc) ?_
   exact bool_eq (decide_eq_false (by rw [val_dg_eq M a b (by omega) (by omega) fun j => hd j (Nat.zero_le _)]; omega)).symm
 | succ j =>
   rw [show ((j + 1 : Nat) : Int) - 1 = j by omega]
   have hc : (j : Int) ≥ 0 := by omega
   have k1 := rdigit_c a j
   have k2 := rdigit_c b j
   have hw : IntKind.i64.wrap ((j : Int) - 1) = (j : Int) - 1 := wrap_in (by omega) (by omega)
   by_cases he : dg a j = dg b j
   · rw [he] at k1
     have hne : (dg b j != dg b j) = false := by simp
     refine aGo (cj4 hres hc hne hw) ?_
     repeat with_reducible intro K hK
     exact loop_end j ⟨by omega, fun i hi => by rcases Nat.eq_or_lt_of_le hi with rfl | h; exact he; exact hd i h⟩ (by omega) (leGo hres)
   · have hne : (dg a j != dg b j) = true := by simpa using he
     refine aGo (cj3 hres hc hne) ?_
     refine bool_eq ?_
     by_cases hl : dg a j < dg b j
     · rw [decide_eq_true hl, decide_eq_true (less_law j a b da db (fun i hi => hd i hi) hl)]
     · have := less_law j b a db da (fun i hi => (hd i hi).symm) (by omega)
       rw [decide_eq_false hl, decide_eq_false (by omega)]
theorem plus_roomG {a b o : List Int} {i : Nat} {c : Int} (ha : Dig a) (hb : Dig b) (h : PlusInv a b i o c) (n : Nat) (hna : a.length ≤ n) (hnb : b.length ≤ n) (hi : n < i) : c = 0 := by
 obtain ⟨h1, h2, h3, h4, h5⟩ := h
 rw [List.take_of_length_le (by omega), List.take_of_length_le (by omega)] at h5
 have h6 := val_lt ha
 have h7 := val_lt hb
 have h8 := bp_le hna
 have h9 := bp_le hnb
 have h10 := bp_le (show n + 1 ≤ i from hi)
 have h11 := dig_nonneg h2
 have h12 : bp (n + 1) = 1048576 * bp n := by simp [bp, Int.mul_comm]
 have h13 := bp_pos n
 by_cases hc : c < 1
 · omega
 · have : c = 1 := by omega
   subst this
   omega
theorem rplus_c (a b : List Int) (da : Dig a) (db : Dig b) (la : (a.length : Int) ≤ 4398046511104) (lb : (b.length : Int) ≤ 4398046511104) : ContractN Tryz.prog 249 [encInts a, encInts b] (encInts (digs (val a + val b).toNat)) := by
 have hres := Tryz.results249
 refine inN Tryz.func249 rfl Tryz.ntmps249 fun I => ?_
 refine aGo hres ?_
 repeat with_reducible intro K hK
 refine aLe (le_row 5 3 1 rfl) ?_
 obtain ⟨n, hn⟩ : ∃ n, n = max a.length b.length := ⟨_, rfl⟩
 refine aLoopT (fun (p : Nat × List Int × Int) => [(0, encInts a), (1, encInts b), (5, .ls 0 p.1), (6, dI p.2.2), (7, dI p.1)]) (fun p => [(0, ⟨3, p.1, 1, p.2.1.map (fun x => [dI x]), 0, false⟩)]) 1 0 (fun p => p.1 ≤ n + 1 ∧ PlusInv a b p.1 p.2.1 p.2.2) (fun p => n + 1 - p.1) (0, [], 0) ⟨by omega, plus_start a b⟩ ?_ ?_
 · exact leGo hres
 rintro ⟨i, o, c⟩ ⟨hi, hA⟩
 simp only at hi hA ⊢
 have hA' := hA
 obtain ⟨hol, hod, hc0, hc1, _⟩ := hA'
 have j1 : (o.map fun x => [dI x]).map (List.map datJ) = o.map fun x => [dI x] := by rw [List.map_map]; exact List.map_congr_left fun x _ => rfl
 obtain ⟨hw, i0⟩ := wrap2 i
 have k1 := rdigit_c a i
 have k2 := rdigit_c b i
 obtain ⟨hS, hx0, hx1⟩ := plus_step da db hA rfl rfl
 have b1 := dg_bounds da i
 have b2 := dg_bounds db i
 generalize dg a i = x at *
 generalize dg b i = y at *
 have s1 : IntKind.i64.wrap (x + y) = x + y := wrap_in (by omega) (by omega)
 have s2 : IntKind.i64.wrap (x + y + c) = x + y + c := wrap_in (by omega) (by omega)
 have tm : (x + y + c).tmod 1048576 = (x + y + c) % 1048576 := Int.tmod_eq_emod_of_nonneg hx0
 have td : IntKind.i64.wrap ((x + y + c).tdiv 1048576) = (x + y + c) / 1048576 := by
  rw [Int.tdiv_eq_ediv_of_nonneg hx0]; exact wrap_in (by omega) (by omega)
 have nxt : i ≤ n → (fun p : Nat × List Int × Int => p.1 ≤ n + 1 ∧ PlusInv a b p.1 p.2.1 p.2.2) (i + 1, o ++ [(x + y + c) % 1048576], (x + y + c) / 1048576) := fun h => ⟨by simp only; omega, hS⟩
 by_cases h1 : (i : Int) < a.length
 · refine aGo (cj4 hres h1 hw (cj4 s1 s2 tm (cj2 td hol))) ?_
   repeat with_reducible intro K hK
   exact loop_end _ (nxt (by omega)) (by simp only; omega) (leGo (cj3 tm td hol))
 by_cases h2 : (i : Int) < b.length
 · refine aGo (cj4 hres h1 hw (cj4 s1 s2 tm (cj3 td hol h2))) ?_
   repeat with_reducible intro K hK
   exact loop_end _ (nxt (by omega)) (by simp only; omega) (leGo (cj3 tm td hol))
 by_cases h3 : c > 0
 · have hin : i ≤ n := Nat.le_of_not_lt fun hh => by have := plus_roomG da db hA n (by omega) (by omega) hh; omega
   refine aGo (cj4 hres h1 hw (cj4 s1 s2 tm (cj4 td hol h2 h3))) ?_
   repeat with_reducible intro K hK
   exact loop_end _ (nxt hin) (by simp only; omega) (leGo (cj3 tm td hol))
 · obtain rfl : c = 0 := by omega
   obtain ⟨d1, d2⟩ := plus_end hA (by omega) (by omega)
   have k4 := rtrim_c o (by omega)
   rw [trim_digs d1, d2] at k4
   exact aGo (cj4 hres h1 h2 (cj2 h3 j1)) trivial
theorem rtimes_c (a b : List Int) (da : Dig a) (db : Dig b) (la : (a.length : Int) ≤ 2199023255552) (lb : (b.length : Int) ≤ 2199023255552) : ContractN Tryz.prog 236 [encInts a, encInts b] (encInts (digs (val a * val b).toNat)) := by
 have hres := Tryz.results236
 have z0 : (0 : Int) ≤ (a.length : Int) + b.length := by omega
 have zw : IntKind.i64.wrap ((a.length : Int) + b.length) = (a.length : Int) + b.length := wrap_in (by omega) (by omega)
 refine inN Tryz.func236 rfl Tryz.ntmps236 fun I => ?_
 refine aGo (cj3 hres z0 zw) ?_
 repeat with_reducible intro K hK
 refine aLoopT (fun (p : Nat × List Int) => [(0, encInts a), (1, encInts b), (5, .ls 0 1), (6, dI p.1)]) (fun p => [(0, ⟨3, 1, 1, p.2.map (fun x => [dI x]), 0, false⟩)]) 1 0 (fun p => p.1 ≤ a.length ∧ MulInv a b p.1 p.2) (fun p => a.length - p.1) (0, List.replicate (a.length + b.length) 0) ⟨by omega, mul_start a b⟩ ?_ ?_
 · refine leGo (cj2 hres (?_ : ((a.length : Int) + b.length).toNat = a.length + b.length))
   omega
 rintro ⟨j, o⟩ ⟨hj, hA⟩
 simp only at hj hA ⊢
 have hol : o.length = a.length + b.length := hA.1
 have j1 : ∀ o : List Int, (o.map fun x => [dI x]).map (List.map datJ) = o.map fun x => [dI x] := fun o => by rw [List.map_map]; exact List.map_congr_left fun x _ => rfl
 obtain ⟨hw, i0⟩ := wrap2 j
 by_cases h1 : (j : Int) < a.length
 rotate_left
 · obtain rfl : j = a.length := by omega
   obtain ⟨d1, d2⟩ := mul_end hA
   have k4 := rtrim_c o (by omega)
   rw [trim_digs d1, d2] at k4
   exact aGo (cj3 hres h1 (j1 o)) trivial
 obtain ⟨x, hx⟩ := getE (l := a) (k := j) (by omega)
 have hxb := dig_get da hx
 refine aGo (cj3 hres h1 hw) ?_
 repeat (guard_target =~ ∀ _ : St → Prop, _; intro K' hK')
 refine aLoopT (fun (p : Nat × List Int × Int) => [(0, encInts a), (1, encInts b), (5, .ls 0 1), (6, dI j), (7, dI p.2.2), (8, dI p.1)]) (fun p => [(0, ⟨3, 1, 1, p.2.1.map (fun x => [dI x]), 0, false⟩)]) 1 0 (fun p => p.1 ≤ b.length + 1 ∧ MulIn a b j x p.1 p.2.1 p.2.2) (fun p => b.length + 1 - p.1) (0, o, 0) ⟨by omega, mul_in x hA⟩ ?_ ?_
 · exact leGo hres
 clear hA hol
 rintro ⟨k, o, c⟩ ⟨hk, hA⟩
 simp only at hk hA ⊢
 have hol : o.length = a.length + b.length := hA.1
 obtain ⟨_, hod, hc0, hc1, _⟩ := id hA
 obtain ⟨hwk, k0⟩ := wrap2 k
 have done : ¬ (k : Int) < b.length → ¬ c > 0 → MulInv a b (j + 1) o := fun h2 h3 => by
  obtain rfl : c = 0 := by omega
  exact mul_out_ref hx hA (by omega)
 have body : ((k : Int) < b.length ∨ c > 0) → k ≤ b.length := fun h => by
  rcases h with h | h
  · omega
  · exact Nat.le_of_not_lt fun hh => by have := mul_room da db hx hA (by omega) h; omega
 have go : k ≤ b.length → ∃ z, o[j + k]? = some z ∧ ∃ v w : Int, (0 ≤ dg b k ∧ dg b k < 1048576) ∧ v = (z + x * dg b k + c) % 1048576 ∧ w = (z + x * dg b k + c) / 1048576 ∧ IntKind.i64.wrap (x * dg b k) = x * dg b k ∧ IntKind.i64.wrap (z + x * dg b k) = z + x * dg b k ∧ IntKind.i64.wrap (z + x * dg b k + c) = z + x * dg b k + c ∧ (z + x * dg b k + c).tmod 1048576 = v ∧ IntKind.i64.wrap ((z + x * dg b k + c).tdiv 1048576) = w ∧ MulIn a b j x (k + 1) (o.set (j + k) v) w := fun h => by
  obtain ⟨z, hz⟩ := getE (l := o) (k := j + k) (by omega)
  have hpb := dig_get hod hz
  have hyb := dg_bounds db k
  obtain ⟨m1, m2, m3, m4⟩ := mul_bounds hpb hxb hyb ⟨hc0, hc1⟩
  have hS := mul_step db hxb hA rfl hz
  generalize hY : x * dg b k = Y at *
  refine ⟨z, hz, _, _, hyb, rfl, rfl, wrap_in (by omega) (by omega), wrap_in (by omega) (by omega), wrap_in (by omega) (by omega), Int.tmod_eq_emod_of_nonneg m3, ?_, hS⟩
  rw [Int.tdiv_eq_ediv_of_nonneg m3]; exact wrap_in (by omega) (by omega)
 have kd := rdigit_c b k
 by_cases hb : k ≤ b.length
 rotate_left
 · have h2 : ¬ (k : Int) < b.length := fun h => hb (body (.inl h))
   have h3 : ¬ c > 0 := fun h => hb (body (.inr h))
   refine aGo (cj4 hres h2 h3 hw) ?_
   repeat with_reducible intro K2 hK2
   exact loop_end (j + 1, o) ⟨by simp only; omega, done h2 h3⟩ (by simp only; omega) (leGo hres)
 obtain ⟨z, hz, v, w, hyb, _, _, s1, s2, s3, tm, td, hS⟩ := go hb
 generalize dg b k = y at *
 have s0 : IntKind.i64.wrap ((j : Int) + k) = (j : Int) + k := wrap_in (by omega) (by omega)
 have t0 : (0 : Int) ≤ (j : Int) + k := by omega
 have t1 : ((j : Int) + k).toNat = j + k := by omega
 have t2 : (j : Int) + k < o.length := by omega
 have n0 : (0 : Nat) ≤ j + k := Nat.zero_le _
 have hset : (o.map fun x => [dI x]).set (j + k) [dI v] = (o.set (j + k) v).map fun x => [dI x] := by rw [List.map_set]
 by_cases h2 : (k : Int) < b.length
 · refine aGo (cj4 hres h1 h2 (cj4 s0 s1 s2 (cj4 s3 tm td (cj4 t0 t1 t2 (cj4 hz hx i0 (cj3 hwk k0 n0)))))) ?_
   repeat with_reducible intro K2 hK2
   rw [hset]
   clear hset
   generalize o.set (j + k) v = o2 at hS ⊢
   exact loop_end (k + 1, o2, w) ⟨by simp only; omega, hS⟩ (by simp only; omega) (leGo hres)
 by_cases h3 : c > 0
 · refine aGo (cj4 hres h1 h2 (cj4 s0 s1 s2 (cj4 s3 tm td (cj4 t0 t1 t2 (cj4 hz hx i0 (cj4 hwk k0 h3 n0)))))) ?_
   repeat with_reducible intro K2 hK2
   rw [hset]
   clear hset
   generalize o.set (j + k) v = o2 at hS ⊢
   exact loop_end (k + 1, o2, w) ⟨by simp only; omega, hS⟩ (by simp only; omega) (leGo hres)
 · refine aGo (cj4 hres h2 h3 hw) ?_
   repeat with_reducible intro K2 hK2
   exact loop_end (j + 1, o) ⟨by simp only; omega, done h2 h3⟩ (by simp only; omega) (leGo hres)
theorem rminus_c (a b : List Int) (da : Dig a) (db : Dig b) (la : (a.length : Int) ≤ 4398046511104) (hl : b.length ≤ a.length) (hle : val b ≤ val a) : ContractN Tryz.prog 250 [encInts a, encInts b] (encInts (digs (val a - val b).toNat)) := by
 have hres := Tryz.results250
 refine inN Tryz.func250 rfl Tryz.ntmps250 fun I => ?_
 refine aGo hres ?_
 repeat with_reducible intro K hK
 refine aLe (le_row 5 3 1 rfl) ?_
 refine aLoopT (fun (p : Nat × List Int × Int) => [(0, encInts a), (1, encInts b), (5, .ls 0 p.1), (6, dI p.2.2), (7, dI p.1)]) (fun p => [(0, ⟨3, p.1, 1, p.2.1.map (fun x => [dI x]), 0, false⟩)]) 1 0 (fun p => p.1 ≤ a.length ∧ MinusInv a b p.1 p.2.1 p.2.2) (fun p => a.length - p.1) (0, [], 0) ⟨by omega, minus_start a b⟩ ?_ ?_
 · exact leGo hres
 rintro ⟨i, o, c⟩ ⟨hi, hA⟩
 simp only at hi hA ⊢
 obtain ⟨hol, hod, hc0, hc1, _⟩ := id hA
 have j1 : (o.map fun x => [dI x]).map (List.map datJ) = o.map fun x => [dI x] := by rw [List.map_map]; exact List.map_congr_left fun x _ => rfl
 obtain ⟨hw, i0⟩ := wrap2 i
 by_cases h1 : (i : Int) < a.length
 rotate_left
 · obtain rfl : i = a.length := by omega
   obtain ⟨d1, d2⟩ := minus_end hA hl hle
   have k4 := rtrim_c o (by omega)
   rw [trim_digs d1, d2] at k4
   exact aGo (cj3 hres h1 j1) trivial
 obtain ⟨x, hx⟩ := getE (l := a) (k := i) (by omega)
 have k2 := rdigit_c b i
 have b1 := dig_get da hx
 have b2 := dg_bounds db i
 have hS := fun z c' hz => minus_step (c' := c') (z := z) da db hA (dg_some hx) rfl hz
 generalize dg b i = y at *
 have s1 : IntKind.i64.wrap (x - y) = x - y := wrap_in (by omega) (by omega)
 have s2 : IntKind.i64.wrap (x - y - c) = x - y - c := wrap_in (by omega) (by omega)
 by_cases h2 : x - y - c < 0
 · have s3 : IntKind.i64.wrap (x - y - c + 1048576) = x - y - c + 1048576 := wrap_in (by omega) (by omega)
   refine aGo (cj4 hres h1 hw (cj4 s1 s2 s3 (cj4 h2 i0 hx hol))) ?_
   repeat with_reducible intro K hK
   exact loop_end (i + 1, o ++ [x - y - c + 1048576], 1) ⟨by simp only; omega, hS _ _ (.inr ⟨h2, rfl, rfl⟩)⟩ (by simp only; omega) (leGo (cj3 hres s3 hol))
 · refine aGo (cj4 hres h1 hw (cj4 s1 s2 h2 (cj3 i0 hx hol))) ?_
   repeat with_reducible intro K hK
   exact loop_end (i + 1, o ++ [x - y - c], 0) ⟨by simp only; omega, hS _ _ (.inl ⟨by omega, rfl, rfl⟩)⟩ (by simp only; omega) (leGo (cj2 hres hol))
theorem rover_c (n D : Nat) (la : ((digs n).length : Int) ≤ 1099511627776) (lb : ((digs D).length : Int) ≤ 1099511627776) (hD : 0 < D) : ContractN Tryz.prog 222 [encInts (digs n), encInts (digs D)] (.tup [encInts (digs (n / D)), encInts (digs (n % D))]) := by
 have hres := Tryz.results222
 refine inN Tryz.func222 rfl Tryz.ntmps222 fun I => ?_
 have hdn := (norm_digs n).1
 have hend := fun (R : Nat) (q : List Int) (h : OverInv (digs n) D 0 q R) => over_end h
 have hstart := over_start (digs n) hD
 obtain ⟨ad, ea⟩ : ∃ l, digs n = l := ⟨_, rfl⟩
 rw [ea] at hdn hend la hstart ⊢
 have hw0 : IntKind.i64.wrap ((ad.length : Int) - 1) = (ad.length : Int) - 1 := wrap_in (by omega) (by omega)
 refine aGo (cj2 hres hw0) ?_
 repeat with_reducible intro K hK
 refine aLe (le_row 7 3 1 rfl) (aLe (le_kill 1 rfl) (aLe (le_temp 7 4) ?_))
 simp only [go_sem, fzT]
 refine aLoopT (fun (p : Nat × List Int × Nat) => [(0, encInts ad), (1, encInts (digs D)), (6, .ls 0 1), (7, encInts (digs p.2.2)), (8, dI ((p.1 : Int) - 1))]) (fun p => [(0, ⟨3, 1, 1, p.2.1.map (fun x => [dI x]), 0, false⟩)]) 1 0 (fun p => p.1 ≤ ad.length ∧ OverInv ad D p.1 p.2.1 p.2.2) (fun p => p.1) (ad.length, List.replicate ad.length 0, 0) ⟨by omega, hstart⟩ ?_ ?_
 · rw [digs_zero]
   exact leGo (cj2 hres hw0)
 rintro ⟨m, o, R⟩ ⟨hm, hA⟩
 simp only at hm hA ⊢
 have hol : o.length = ad.length := hA.1
 have hRD : R < D := hA.2.2.1
 have j1 : ∀ o : List Int, (o.map fun x => [dI x]).map (List.map datJ) = o.map fun x => [dI x] := fun o => by rw [List.map_map]; exact List.map_congr_left fun x _ => rfl
 cases m with
 | zero =>
   rw [show ((0 : Nat) : Int) - 1 = -1 by rfl]
   have hc : ¬ (-1 : Int) ≥ 0 := by decide
   obtain ⟨d1, d2, d3⟩ := hend _ _ hA
   have k4 := rtrim_c o (by omega)
   rw [trim_digs d1, d2] at k4
   refine aGo (cj3 hres hc (j1 o)) ?_
   rw [← d3]
 | succ j =>
   rw [show ((j + 1 : Nat) : Int) - 1 = j by omega]
   obtain ⟨x, hx⟩ := getE (l := ad) (k := j) (by omega)
   have hxb := dig_get hdn hx
   have hc : (j : Int) ≥ 0 := by omega
   have jl : (j : Int) < ad.length := by omega
   have j0 : (0 : Int) ≤ j := by omega
   have hwj : IntKind.i64.wrap ((j : Int) - 1) = (j : Int) - 1 := wrap_in (by omega) (by omega)
   obtain ⟨S, hS⟩ : ∃ S, S = 1048576 * R + x.toNat := ⟨_, rfl⟩
   have hSD : S < D * 1048576 := by omega
   have hlR : ((digs R).length : Int) ≤ 1099511627776 := by have := digs_le (a := R) (b := D) (by omega); omega
   have hlS : ((digs S).length : Int) ≤ 1099511627777 := by
    have h1 : (digs S).length ≤ (digs D).length + 1 := length_digs_le (by
     have := lt_length_digs D
     rw [bp]; omega)
    omega
   have k1 := rtrim_c (x :: digs R) (by simp only [List.length_cons]; omega)
   rw [show trimL (x :: digs R) = digs S by
    rw [hS]
    refine trim_digs' (dig_cons.2 ⟨hxb, (norm_digs R).1⟩) ?_
    simp only [val, val_digs]
    omega] at k1
   rw [show encInts (x :: digs R) = .sl ([dI x] :: (digs R).map fun x => [dI x]) from rfl] at k1
   refine aGo (cj4 hres hc jl (cj3 j0 hx (j1 (digs R)))) ?_
   repeat with_reducible intro K hK
   refine aLoopT (fun (p : Nat × Nat) => [(0, encInts ad), (1, encInts (digs D)), (6, .ls 0 1), (7, encInts (digs S)), (8, dI j), (9, dI p.1), (10, dI p.2)]) (fun _ => [(0, ⟨3, 1, 1, o.map (fun x => [dI x]), 0, false⟩)]) 1 0 (fun p => p.1 < p.2 ∧ p.2 ≤ 1048576 ∧ D * p.1 ≤ S ∧ S < D * p.2) (fun p => p.2 - p.1) (0, 1048576) ⟨by decide, by decide, by simp only; omega, by simp only; omega⟩ ?_ ?_
   · exact leGo hres
   rintro ⟨lo, hi⟩ ⟨q1, q2, q3, q4⟩
   simp only at q1 q2 q3 q4 ⊢
   have w1 : IntKind.i64.wrap ((hi : Int) - lo) = (hi : Int) - lo := wrap_in (by omega) (by omega)
   by_cases hg : (hi : Int) - lo > 1
   · obtain ⟨mid, hmid⟩ : ∃ mid : Nat, (mid : Int) = ((lo : Int) + hi) / 2 := ⟨(lo + hi) / 2, by omega⟩
     have w2 : IntKind.i64.wrap ((lo : Int) + hi) = (lo : Int) + hi := wrap_in (by omega) (by omega)
     have w3 : IntKind.i64.wrap (((lo : Int) + hi).tdiv 2) = mid := by
      rw [Int.tdiv_eq_ediv_of_nonneg (by omega), ← hmid]; exact wrap_in (by omega) (by omega)
     have k2 := rtimes_c (digs D) [(mid : Int)] (norm_digs D).1 (dig_cons.2 ⟨by omega, dig_nil⟩) (by omega) (by simp)
     rw [show (val (digs D) * val [(mid : Int)]).toNat = D * mid by simp [val, val_digs]; rw [← Int.natCast_mul]; rfl] at k2
     have hlm : ((digs (D * mid)).length : Int) ≤ 9007199254740992 := by
      have h1 : (digs (D * mid)).length ≤ (digs D).length + 1 := length_digs_le (by
       have := lt_length_digs D
       have h2 : D * mid ≤ D * 1048576 := Nat.mul_le_mul_left _ (by omega)
       rw [bp]; omega)
      omega
     have k3 := rless_c (digs S) (digs (D * mid)) (norm_digs _).1 (norm_digs _).1 (by omega) hlm
     rw [val_digs, val_digs] at k3
     by_cases hlt : S < D * mid
     · rw [decide_eq_true (show (S : Int) < (D * mid : Nat) by omega)] at k3
       refine aGo (cj4 hres w1 hg (cj2 w2 w3)) ?_
       repeat with_reducible intro K hK
       exact loop_end (lo, mid) ⟨by simp only; omega, by simp only; omega, q3, hlt⟩ (by simp only; omega) (leGo hres)
     · rw [decide_eq_false (show ¬ (S : Int) < (D * mid : Nat) by omega)] at k3
       refine aGo (cj4 hres w1 hg (cj2 w2 w3)) ?_
       repeat with_reducible intro K hK
       exact loop_end (mid, hi) ⟨by simp only; omega, by simp only; omega, by simp only; omega, q4⟩ (by simp only; omega) (leGo hres)
   · obtain rfl : hi = lo + 1 := by omega
     obtain ⟨z, hp⟩ : ∃ z, o[j]? = some z := ⟨_, List.getElem?_eq_getElem (by omega)⟩
     have E1 := over_step hdn hA hx (by rw [← hS]; exact q3) (by rw [← hS]; exact q4) (by omega)
     rw [← hS] at E1
     have k2 := rtrim_c [(lo : Int)] (by simp)
     rw [show trimL [(lo : Int)] = digs lo from trim_digs' (dig_cons.2 ⟨by omega, dig_nil⟩) (by simp [val])] at k2
     have hl1 : (digs lo).length ≤ 1 := length_digs_le (by simp only [bp]; omega)
     have k3 := rtimes_c (digs D) (digs lo) (norm_digs D).1 (norm_digs lo).1 (by omega) (by omega)
     rw [val_digs, val_digs, show ((D : Int) * lo).toNat = D * lo by rw [← Int.natCast_mul]; rfl] at k3
     have k4 := rminus_c (digs S) (digs (D * lo)) (norm_digs _).1 (norm_digs _).1 (by omega) (digs_le q3) (by rw [val_digs, val_digs]; omega)
     rw [val_digs, val_digs, show ((S : Int) - (D * lo : Nat)).toNat = S - D * lo by omega] at k4
     have jo : (j : Int) < o.length := by omega
     have n0 : (0 : Nat) ≤ j := Nat.zero_le _
     have hset : (o.map fun x => [dI x]).set j [dI (lo : Int)] = (o.set j (lo : Int)).map fun x => [dI x] := by rw [List.map_set]
     have hm' : j ≤ ad.length := by omega
     refine aGo (cj4 hres w1 hg (cj4 jo n0 hp (cj2 j0 hwj))) ?_
     repeat with_reducible intro K hK
     rw [hset]
     clear hset
     generalize o.set j (lo : Int) = o2 at E1 ⊢
     exact loop_end (j, o2, S - D * lo) ⟨by simp only; omega, E1⟩ (by simp only; omega) (leGo hres)
end Go.Proofs.YtpkdhmnlpnijhaaGreat
