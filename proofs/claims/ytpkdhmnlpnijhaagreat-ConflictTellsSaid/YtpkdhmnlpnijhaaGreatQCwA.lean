/-
  Layer 12: right, copied, Part.
-/
import Derived.Test.YtpkdhmnlpnijhaaGreatQCf
import Derived.Test.YtpkdhmnlpnijhaaGreatQNf
import Derived.Test.YtpkdhmnlpnijhaaGreatQSimB
import Derived.Test.YtpkdhmnlpnijhaaGreatQLinB
import Derived.Test.YtpkdhmnlpnijhaaGreatQSd
namespace Go.Proofs.YtpkdhmnlpnijhaaGreat
set_option linter.unusedVariables false
set_option linter.unusedSimpArgs false
set_option linter.unusedSectionVars false
open Go Go.RowKit
set_option maxRecDepth 100000
set_option maxHeartbeats 16000000
def prevI (rows : List Int) : Nat → Int
 | 0 => -1
 | k + 1 => rows[k]?.getD 0
def ascAt (rows : List Int) (n : Int) (k : Nat) : Bool := decide (prevI rows k < rows[k]?.getD 0) && decide (rows[k]?.getD 0 < n)
def ascR (rows : List Int) (n : Int) : Bool := (List.range rows.length).all (ascAt rows n)
theorem right12_c (rows : List Int) (n : Int) (hl : (rows.length : Int) ≤ 1099511627776) : ContractN Tryz.prog 129 [encInts rows, dI n] (dB (ascR rows n)) := by
 refine Contract.toN ?_ rfl
 have hres := Tryz.results129
 refine inC Tryz.func129 rfl Tryz.ntmps129 ?_
 refine aGo hres ?_
 repeat with_reducible intro K hK
 have p0 : prevI rows 0 = -1 := rfl
 refine aLoopT (fun (k : Nat) => [(1, dI n), (5, dI (prevI rows k)), (8, encInts rows), (9, dI rows.length), (10, dI k)]) (fun _ => []) 0 0 (fun k => k ≤ rows.length ∧ (List.range k).all (ascAt rows n) = true) (fun k => rows.length - k) 0 ⟨by omega, rfl⟩ ?_ ?_
 · exact leGo p0
 rintro k ⟨hk, hg⟩
 have hw := wrap1 k
 have h0 : (0 : Int) ≤ k := by omega
 by_cases h1 : (k : Int) < rows.length
 · obtain ⟨x, hx⟩ := getE (l := rows) (k := k) (by omega)
   have ea : ascAt rows n k = (decide (prevI rows k < x) && decide (x < n)) := by unfold ascAt; rw [hx]; rfl
   have bad : ascAt rows n k = false → D.v (.bool false) = dB (ascR rows n) := fun h => bool_eq (by
    unfold ascR
    exact (List.all_eq_false.2 ⟨k, List.mem_range.2 (by omega), by rw [h]; decide⟩).symm)
   have pn : prevI rows (k + 1) = x := by show rows[k]?.getD 0 = x; rw [hx]; rfl
   by_cases h2 : x ≤ prevI rows k
   · refine aGo (cj4 hres h0 h1 (cj3 hx hw h2)) ?_
     repeat with_reducible intro K hK
     exact bad (by rw [ea, decide_eq_false (by omega), Bool.false_and])
   by_cases h3 : x ≥ n
   · refine aGo (cj4 hres h0 h1 (cj4 hx hw h2 h3)) ?_
     repeat with_reducible intro K hK
     exact bad (by rw [ea, decide_eq_false (p := x < n) (by omega), Bool.and_false])
   refine aGo (cj4 hres h0 h1 (cj4 hx hw h2 h3)) ?_
   repeat with_reducible intro K hK
   exact loop_end (k + 1) ⟨by omega, by
    rw [List.range_succ, List.all_append, hg, Bool.true_and]
    simp only [List.all_cons, List.all_nil, Bool.and_true]
    rw [ea, decide_eq_true (by omega), decide_eq_true (p := x < n) (by omega)]; rfl⟩ (by omega) (by exact leGo pn)
 · obtain rfl : k = rows.length := by omega
   refine aGo (cj2 hres h1) ?_
   repeat with_reducible intro K hK
   exact bool_eq hg.symm
theorem fresh12_c (f : FracD) (hz : szF f ≤ 262144) : Contract Tryz.prog 199 [encF f] (encF f) := by
 have hres := Tryz.results199
 have hp : f.p.d.length ≤ 262144 := by have : f.p.d.length ≤ szF f := Nat.le_max_left _ _; omega
 have hq : f.q.d.length ≤ 262144 := by have : f.q.d.length ≤ szF f := Nat.le_max_right _ _; omega
 have k1 := nclone_c f.p.d (by omega)
 have k2 := nclone_c f.q.d (by omega)
 refine inC Tryz.func199 rfl Tryz.ntmps199 ?_
 exact aGo hres trivial
theorem info_term0 : (Tryz.prog.info? 107).map (fun i => (i.zero.map fun z => z.cells.size, i.size, i.bytes)) = some (some 5, 5, 72) := by kernel_rfl
theorem info_term12 : ∃ i z, Tryz.prog.info? 107 = some i ∧ i.zero = some z ∧ i.size = 5 ∧ i.bytes = 72 ∧ z.cells.size = 5 := by
 have h := info_term0
 cases hi : Tryz.prog.info? 107 with
 | none => rw [hi] at h; cases h
 | some i =>
   rw [hi] at h
   simp only [Option.map_some, Option.some.injEq, Prod.mk.injEq] at h
   obtain ⟨h1, h2, h3⟩ := h
   cases hz : i.zero with
   | none => rw [hz] at h1; cases h1
   | some z => rw [hz] at h1; exact ⟨i, z, rfl, hz, h2, h3, by simpa using h1⟩
theorem cloneT0_c : ContractN Tryz.prog 198 [.sl []] (.sl []) := by
 refine ⟨⟨_, _, Tryz.func198, rfl, by kernel_rfl⟩, fun S w vs hf hvs => ?_⟩
 obtain ⟨v, rfl, h1⟩ := reps1 hvs
 obtain ⟨a, cap, rfl, hcap, _, _⟩ := h1.inv_sl
 obtain ⟨i0, z, hi, hz0, hz1, hz2, hz3⟩ := info_term12
 have hnil := fun (W : World) n c n' c' => Lib.run_eql_slice_nil (P := Tryz.prog) W 25 107 a n c n' c' Tryz.underlying25
 cases a with
 | none =>
   go_enter Tryz.func198, Tryz.ntmps198
   go_wp2_with fail
   go_ret
   exact ⟨_, rfl, Below.refl _ _, .sl0 _ _ (by unfold maxLen; omega)⟩
 | some A =>
   go_enter Tryz.func198, Tryz.ntmps198
   go_wp2_with (at_builtin; refine wpList_append_src _ (by rfl) _ _ _ (by rfl) w.heap.size 107 i0 z 5 _ Tryz.underlying25 hi hz0 hz1 hz2 hz3 (by omega) _ 0 [] (by rfl) (World.ownsRow_made w #[] 0 (Nat.le_refl _) (Nat.zero_le _) (by simp)) (some A) 0 cap [] (by rfl) ⟨rfl, .inl rfl⟩ (by simp) (by unfold maxLen; omega) (by omega) (by simp) ?_; intro v' w1 hown hgrow hat)
   go_ret
   refine ⟨_, rfl, ?_, ?_⟩
   · exact ((Below.refl _ _).alloc (Nat.le_refl _) _).grown hgrow (by simp) (by intro k hk; simp [Value.ownBlock] at hk; omega)
   · rcases hown.2 with ⟨rfl, _⟩ | ⟨g, cap, cur, rfl, _, _, _, hc, _⟩
     · exact .sl0 _ _ (by unfold maxLen; omega)
     · exact .sl0 _ _ hc
theorem set_same {l : List (List D)} {k : Nat} {e : List D} (h : l[k]? = some e) : l.set k e = l := by
 refine List.ext_getElem? fun i => ?_
 by_cases hi : k = i
 · subst hi; rw [List.getElem?_set_self (List.getElem?_eq_some_iff.1 h).1, h]
 · rw [List.getElem?_set_ne hi]
theorem copied12_c (w : RowD) (hl : w.t.length ≤ 64) (hv : szF w.v ≤ 262144) (ht : ∀ t ∈ w.t, szF t.f ≤ 262144) : Contract Tryz.prog 130 [encW w] (encW w) := by
 have hres := Tryz.results130
 have hresC := Tryz.results198
 obtain ⟨t, wk, wv⟩ := w
 have kv := fresh12_c wv hv
 simp only at hl ht
 match t, hl, ht with
 | [], hl, ht =>
   have kc := cloneT0_c
   refine inC Tryz.func130 rfl Tryz.ntmps130 ?_
   refine aGo hres ?_
   repeat with_reducible intro K hK
   refine aLoopT (fun (_ : Nat) => [(1, .lp 0 0 0 0), (2, .lp 1 0 0 0), (10, .sl []), (11, dI 0), (12, dI 0)]) (fun _ => [(0, ⟨61, 0, 6, [cW ⟨[], wk, wv⟩], 0, false⟩), (1, ⟨61, 0, 6, [[.nil, dI 0, dI 0, .nil, dI 0, .nil]], 0, false⟩)]) 2 0 (fun _ => True) (fun _ => 0) 0 trivial ?_ ?_
   · exact leGo trivial
   rintro _ _
   refine aGo hres ?_
   repeat with_reducible intro K hK
   rfl
 | t0 :: t, hl, ht =>
   obtain ⟨T, eT⟩ : ∃ T, t0 :: t = T := ⟨_, rfl⟩
   rw [eT] at hl ht ⊢
   obtain ⟨c0, cs, ec⟩ : ∃ c0 cs, T.map cT = c0 :: cs := ⟨_, _, by rw [← eT]; rfl⟩
   have lT : (c0 :: cs).length = T.length := by rw [← ec, List.length_map]
   have lT' : cs.length + 1 = T.length := lT
   have e1 : encTs T = .sl (c0 :: cs) := by show D.sl (T.map cT) = _; rw [ec]
   have e2 : List.map (List.map datJ) (c0 :: cs) = c0 :: cs := by rw [← ec]; exact map_map_id (f := cT) (g := datJ) (fun _ => rfl) _
   have hb : ((T.length : Nat) : Int) * 72 ≤ 140737488355328 := by omega
   have hb2 : ((T.length : Nat) : Int) ≤ 64 := by omega
   refine inC Tryz.func130 rfl Tryz.ntmps130 ?_
   refine aGo (cj2 hres e1) ?_
   repeat with_reducible intro K hK
   refine callT_in Tryz.func198 rfl (by kernel_rfl) (by kernel_rfl) (by kernel_rfl) ?_
   rw [Tryz.ntmps198]
   refine aGo (cj4 hresC hb hb2 (cj3 e1 e2 lT')) ?_
   repeat with_reducible intro K hK
   have hcell : ∀ x ∈ c0 :: cs, x.length = 5 ∧ x.all D.isCell = true := by
    rw [← ec]
    intro x hx
    obtain ⟨u, _, rfl⟩ := List.mem_map.1 hx
    exact ⟨rfl, rfl⟩
   refine ⟨⟨⟨hcell c0 (by simp), fun x hx => hcell x (by simp [hx])⟩, by omega⟩, ?_⟩
   refine aGo (cj3 hres hresC lT') ?_
   repeat with_reducible intro K hK
   refine aLoopT (fun (k : Nat) => [(1, .lp 0 0 0 0), (2, .lp 1 0 0 0), (10, .ls 2 1), (11, dI T.length), (12, dI k)]) (fun _ => [(0, ⟨61, 0, 6, [.ls 2 1 :: dI wk :: cF wv], 0, false⟩), (1, ⟨61, 0, 6, [[.nil, dI 0, dI 0, .nil, dI 0, .nil]], 0, false⟩), (2, ⟨107, 1, 5, T.map cT, 0, false⟩)]) 3 0 (fun k => k ≤ T.length) (fun k => T.length - k) 0 (by omega) ?_ ?_
   · have ec' := ec.symm
     exact leGo ec'
   rintro k hk
   have hw := wrap1 k
   have h0 : (0 : Int) ≤ k := by omega
   have kz : (0 : Nat) ≤ k := Nat.zero_le _
   by_cases h1 : (k : Int) < T.length
   · obtain ⟨x, hx⟩ := getE (l := T) (k := k) (by omega)
     have kx := fresh12_c x.f (ht x (mem_at hx))
     have hs1 : (T.map cT).set k (dI x.v :: cF x.f) = T.map cT := set_same (by rw [List.getElem?_map, hx]; rfl)
     refine aGo (cj4 hres h0 kz (cj4 h1 hw hx hs1)) ?_
     repeat with_reducible intro K hK
     exact loop_end (k + 1) (by omega) (by omega) (by exact leGo trivial)
   · obtain rfl : k = T.length := by omega
     refine aGo (cj2 hres h1) ?_
     repeat with_reducible intro K hK
     rw [map_map_id (fun _ => rfl)]
def part12 (s : SysD) (rows : List Int) : SysD := if rightS s && ascR rows s.r.length then partD s (rows.map Int.toNat) else ⟨0, []⟩
theorem asc_ge {rows : List Int} {n : Int} (h : ascR rows n = true) : ∀ (k : Nat) (x : Int), rows[k]? = some x → (k : Int) ≤ x ∧ x < n
 | 0, x, hx => by
   have := List.all_eq_true.1 h 0 (List.mem_range.2 (List.getElem?_eq_some_iff.1 hx).1)
   simp only [ascAt, prevI, hx, Option.getD_some, Bool.and_eq_true, decide_eq_true_eq] at this
   omega
 | k + 1, x, hx => by
   have hk := (List.getElem?_eq_some_iff.1 hx).1
   obtain ⟨y, hy⟩ := getE (l := rows) (k := k) (by omega)
   have ih := asc_ge h k y hy
   have := List.all_eq_true.1 h (k + 1) (List.mem_range.2 hk)
   simp only [ascAt, prevI, hx, hy, Option.getD_some, Bool.and_eq_true, decide_eq_true_eq] at this
   push_cast
   omega
theorem asc_len {rows : List Int} {n : Nat} (h : ascR rows n = true) : rows.length ≤ n := by
 rcases Nat.eq_zero_or_pos rows.length with h0 | h0
 · omega
 · obtain ⟨x, hx⟩ := getE (l := rows) (k := rows.length - 1) (by omega)
   have := asc_ge h _ x hx
   omega
structure Sm12 (s : SysD) : Prop where
 sm : smS s
 l : s.r.length ≤ 64
 w : ∀ w ∈ s.r, w.t.length ≤ 64 ∧ szF w.v ≤ 262144 ∧ ∀ t ∈ w.t, szF t.f ≤ 262144
theorem part12_c (s : SysD) (rows : List Int) (h : Sm12 s) (hl : (rows.length : Int) ≤ 1099511627776) : Contract Tryz.prog 32 [encS s, encInts rows] (encS (part12 s rows)) := by
 have hres := Tryz.results32
 have q1 := lrightS_c s h.sm
 have q2 := right12_c rows s.r.length hl
 unfold part12
 cases h1 : rightS s
 · rw [h1] at q1
   refine inC Tryz.func32 rfl Tryz.ntmps32 ?_
   refine aGo hres ?_
   repeat with_reducible intro K hK
   rfl
 rw [h1] at q1
 cases h2 : ascR rows s.r.length
 · rw [h2] at q2
   refine inC Tryz.func32 rfl Tryz.ntmps32 ?_
   refine aGo hres ?_
   repeat with_reducible intro K hK
   rfl
 rw [h2] at q2
 rw [Bool.and_self, if_pos rfl]
 have hl2 := asc_len h2
 have hL := h.l
 obtain ⟨F, hF⟩ : ∃ F : Nat → List RowD, F = fun k => (partD s ((rows.take k).map Int.toNat)).r := ⟨_, rfl⟩
 have F0 : F 0 = [] := by rw [hF]; rfl
 have Fs : ∀ k i w, rows[k]? = some i → s.r[i.toNat]? = some w → F (k + 1) = F k ++ [w] := fun k i w hi hw => by
  rw [hF]
  simp only [partD]
  rw [List.take_add_one, hi]
  simp [hw]
 have Fe : partD s (rows.map Int.toNat) = ⟨s.n, F rows.length⟩ := by rw [hF]; simp only [partD]; rw [List.take_of_length_le (Nat.le_refl _)]
 rw [Fe]
 refine inC Tryz.func32 rfl Tryz.ntmps32 ?_
 refine aGo hres ?_
 repeat with_reducible intro K hK
 clear q1 q2
 refine aLe (le_rowIn (b := ⟨24, 0, 2, [[dI s.n, .nil]], 0, false⟩) (e := [dI s.n, .nil]) 2 0 1 61 6 rfl rfl rfl) ?_
 refine aLoopT (fun (k : Nat) => [(2, .lp 0 0 0 0), (4, .lp 1 0 0 0), (5, .lp 2 0 0 0), (23, encInts rows), (24, dI rows.length), (25, dI k)])
  (fun k => [(0, ⟨24, 0, 2, [cS s], 0, false⟩), (1, ⟨24, 0, 2, [[dI 0, .nil]], 0, false⟩), (2, ⟨24, 0, 2, [[dI s.n, .ls 3 k]], 0, false⟩), (3, ⟨61, k, 6, (F k).map cW, 0, false⟩)]) 4 0 (fun k => k ≤ rows.length ∧ (F k).length = k) (fun k => rows.length - k) 0 ⟨by omega, by rw [F0]; rfl⟩ ?_ ?_
 · exact leGo F0
 rintro k ⟨hk, hf⟩
 have hw := wrap1 k
 have h0 : (0 : Int) ≤ k := by omega
 by_cases h3 : (k : Int) < rows.length
 · obtain ⟨i, hi⟩ := getE (l := rows) (k := k) (by omega)
   have hib := asc_ge h2 k i hi
   obtain ⟨j, rfl⟩ := Int.eq_ofNat_of_zero_le (show 0 ≤ i by omega)
   have j0 : (0 : Int) ≤ j := by omega
   have j1 : (j : Int) < s.r.length := by omega
   obtain ⟨w, hw2⟩ := getE (l := s.r) (k := j) (by omega)
   obtain ⟨w1, w2, w3⟩ := h.w w (mem_at hw2)
   have q3 := copied12_c w w1 w2 w3
   have F1 := Fs k j w hi hw2
   refine aGo (cj4 hres h0 j0 (cj4 h3 j1 hi (cj3 hw2 hw hf))) ?_
   repeat with_reducible intro K hK
   exact loop_end (k + 1) ⟨by omega, by rw [F1, List.length_append, hf]; rfl⟩ (by omega) (by exact leGo F1)
 · obtain rfl : k = rows.length := by omega
   refine aLe (le_kill 3 rfl) (aLe (le_cells 2 4 rfl) ?_)
   simp only [go_sem, fzT]
   refine aGo (cj2 hres h3) ?_
   repeat with_reducible intro K hK
   rw [map_map_id (fun _ => rfl)]
section
variable [Ifl]
theorem aClear1 {n rid : Nat} {Q : Exit → St → Prop} {s : St} {o1 o2 o3 o4 : Oper} {id ver i : Nat} {es : List (List D)}
    (g1 : o1.guard = none) (g2 : o2.guard = none) (g3 : o3.guard = none) (g4 : o4.guard = none)
    (d1 : o1.dst = some 36) (d2 : o2.dst = some 37) (d3 : o3.dst = some 38) (d4 : o4.dst = none)
    (p1 : o1.op = .move (.tmp 0)) (p2 : o2.op = .move (.tmp 5)) (p3 : o3.op = .slice 28 (.tmp 36) (some (.tmp 37)) none none)
    (p4 : o4.op = .call { callee := .builtin .clear, args := #[.tmp 38], argTypes := #[28] })
    (hf1 : fitsOp n o1 = true) (hf2 : fitsOp n o2 = true) (hn : 38 < n) (h0 : s.t 0 = .ls id ver) (h5 : s.t 5 = dI i) (hm : s.m id = some ⟨3, ver, 1, es, 0, false⟩) (hi : es.length = i + 1)
    (hQ : Q .normal { s with t := upd (upd (upd s.t 36 (.ls id ver)) 37 (dI i)) 38 .junk, m := upd s.m id (some ⟨3, ver, 1, es.set i [dI 0], 0, false⟩) }) :
    AWP Tryz.prog n (.region rid #[o1, o2, o3, o4] false) Q s := by
 intro E B β a w hr
 refine wp_region_lit (l := [o1, o2, o3, o4]) ?_
 -- the two moves
 refine wpList_plain g1 fun K1 hK1 => opA_wp (K := fun s' => s' = { s with t := upd s.t 36 (.ls id ver) }) hf1 hr ?_ ?_
 · unfold opA
   rw [p1, d1]
   simp only [opF, rd, h0, Res.pure, putT, ov, List.length_nil, Nat.add_zero]
   exact ⟨trivial, .inl trivial, trivial⟩
 rintro s1 β1 a1 w1 r1 rfl
 refine hK1 _ _ (wpList_plain g2 fun K2 hK2 => opA_wp (K := fun s' => s' = { s with t := upd (upd s.t 36 (.ls id ver)) 37 (dI i) }) hf2 r1 ?_ ?_)
 · unfold opA
   rw [p2, d2]
   simp only [opF, rd, Res.pure, putT, ov, List.length_nil, Nat.add_zero, upd_ne s.t (D.ls id ver) (show (5 : Nat) ≠ 36 by decide), h5]
   exact ⟨trivial, .inl trivial, trivial⟩
 rintro s2 β2 a2 w2 r2 rfl
 refine hK2 _ _ ?_
 -- the slice
 have t36 : Rep β2 s.m (safe E β2 s.m) w2 (a2.eval (.tmp 36)) (.ls id ver) := r2.tmp 36 (by omega)
 have t37 : Rep β2 s.m (safe E β2 s.m) w2 (a2.eval (.tmp 37)) (dI i) := r2.tmp 37 (by omega)
 have e37 := t37.inv_v
 obtain ⟨A, nn, cap, blk, e36, hb, hv, hcase⟩ := t36.inv_ls
 rw [hm] at hb
 obtain rfl := Option.some.inj hb
 obtain ⟨c1, c2, c3, c4⟩ := hcase rfl
 simp only at c1 c4
 obtain ⟨b, hbe, rfl, hcap⟩ : ∃ b, β2 id = some b ∧ A = some ⟨b, 0, none⟩ ∧ rowCap w2 b (cap * 1) := by
  rcases c4 with ⟨h, _⟩ | h
  · have := r2.mem.non id _ hm h
    simp only at this
    rw [this] at hi; simp at hi
  · exact h
 obtain ⟨_, cs, hcs, hlen, hcell⟩ := r2.mem.row id _ b hm hbe
 simp only [Nat.mul_one] at hlen hcell hcap
 have hlen' : es.length ≤ cs.size := hlen
 obtain ⟨cs', T', fr', hcs', hsz⟩ := hcap
 rw [hcs] at hcs'
 cases hcs'
 obtain ⟨i0, hinf, hz0, hz1, hz2⟩ := info_int3
 have hrb := run_bounds (P := Tryz.prog) (w := w2) true nn cap i nn (some (.int .i64 i)) none (.inr ⟨_, rfl⟩) (.inl ⟨rfl, rfl⟩) (by omega) (by omega) (by omega) (by omega)
 have he3 : execOp a2.eval o3 = (do pure (.value (← Instr.sliceAt 28 (a2.eval (.tmp 36)) (some (a2.eval (.tmp 37))) none none))) := by unfold execOp; rw [p3]; rfl
 have hsl : (Instr.sliceAt 28 (a2.eval (.tmp 36)) (some (a2.eval (.tmp 37))) none none).run Tryz.prog w2 = .ok (.slice (if cap = i then some ⟨b, 0, none⟩ else some ⟨b, i, none⟩) (nn - i) (cap - i)) w2 := by
  rw [e36, e37]
  unfold Instr.sliceAt
  simp only [Sem.run_bind, run_underlying Tryz.underlying28, Result.andThen_ok]
  unfold Instr.slice
  simp only [Sem.run_bind, run_underlying Tryz.underlying28, Result.andThen_ok, hrb]
  simp [sizeOf, typeInfo, hinf, hz1, Addr.add]
  by_cases hi0 : i = 0
  · subst hi0; split <;> rfl
  · rw [if_neg hi0]
 have hci : cap ≠ i := by omega
 rw [if_neg hci, show nn - i = 1 by omega] at hsl
 refine wpList_plain g3 fun K3 hK3 => ?_
 unfold Oper.wp
 rw [show (execOp a2.eval o3).run Tryz.prog w2 = .ok (.value (.slice (some ⟨b, i, none⟩) 1 (cap - i))) w2 by rw [he3]; simp [hsl]]
 show K3 (a2.put o3.dst (.slice (some ⟨b, i, none⟩) 1 (cap - i))) w2
 refine hK3 _ _ ?_
 obtain ⟨β3, r3⟩ := r2.put (dst := o3.dst) (After.same r2.mem (.junk (.slice (some ⟨b, i, none⟩) 1 (cap - i))))
 have e38 : (a2.put o3.dst (.slice (some ⟨b, i, none⟩) 1 (cap - i))).eval (.tmp 38) = .slice (some ⟨b, i, none⟩) 1 (cap - i) := by
  rw [eval_put (by rw [r2.width]; exact hn), d3, if_pos rfl]
 have e36' : (a2.put o3.dst (.slice (some ⟨b, i, none⟩) 1 (cap - i))).eval (.tmp 36) = .slice (some ⟨b, 0, none⟩) nn cap := by
  rw [eval_put (k := 36) (by rw [r2.width]; exact Nat.lt_trans (by decide) hn), d3, if_neg (by decide)]; exact e36
 generalize a2.put o3.dst (.slice (some ⟨b, i, none⟩) 1 (cap - i)) = a3 at r3 e38 e36' ⊢
 rw [d3] at r3
 -- clear
 have hcl := Lib.run_clear_slice (P := Tryz.prog) w2 28 3 o4.type (.int .i64 0) Tryz.underlying28 (fun w => by simp [zeroValue, typeInfo, hinf, hz0]) rfl rfl b i 1 (cap - i) (by omega)
  (fun j hj => by obtain rfl : j = 0 := by omega
                  rw [Nat.add_zero, cell_of hcs]; simp; omega)
  (fun j hj => by simp [World.frozen?, hcs])
 have e4 : (execOp a3.eval o4).run Tryz.prog w2 = .ok (.value (.tuple #[])) (w2.setCells b i [.int .i64 0]) := by
  unfold execOp
  rw [p4]
  simp [resolve, invoke, builtin, e38, hcl]
 refine wpList_plain g4 fun K4 hK4 => ?_
 unfold Oper.wp
 rw [e4]
 show K4 (a3.put o4.dst (.tuple #[])) (w2.setCells b i [.int .i64 0])
 refine hK4 _ _ ?_
 -- the store that does the same
 have hty := ty_3
 have hb3 : β3 id = some b := by
  have t36 : Rep β3 s.m (safe E β3 s.m) w2 (a3.eval (.tmp 36)) (.ls id ver) := r3.tmp 36 (by omega)
  rw [e36'] at t36
  obtain ⟨A, n', cap', blk, e, hb, hv, hcase⟩ := t36.inv_ls
  rw [hm] at hb
  obtain rfl := Option.some.inj hb
  obtain ⟨_, _, _, c4⟩ := hcase rfl
  rcases c4 with ⟨_, h, _⟩ | ⟨b', h1, h2, _⟩
  · subst h; cases e
  · subst h2; cases e; exact h1
 have hlp : Rep β3 s.m (safe E β3 s.m) w2 (.pointer (some ⟨b, i, none⟩)) (.lp id ver i 0) := .lp b i id ver i 0 _ hm (Nat.le_refl _) (fun _ => ⟨hb3, by simp⟩)
 obtain ⟨e0, he0⟩ := getE (l := es) (k := i) (by omega)
 have h01 : e0.length = 1 := r3.mem.wid id _ hm i e0 he0
 have hspl : spliceE e0 0 [dI 0] = [dI 0] := by
  match e0, h01 with
  | [x], _ => rfl
 obtain ⟨w', hs, ha⟩ := store_run (r := ⟨True, .v undef, [id], [(id, ⟨3, ver, 1, es.set i [dI 0], 0, false⟩)], []⟩) hty r3.mem hlp (.v (.int .i64 0)) (by
  have hbk : blkAt s.m id ver = some ⟨3, ver, 1, es, 0, false⟩ := by unfold blkAt; rw [hm]; exact if_pos rfl
  unfold storeF
  simp only [D.cells?, Value.oneCell', if_true]
  rw [hbk]
  simp only [he0, hspl]
  rw [if_pos ⟨trivial, rfl, rfl, Nat.zero_le _, by simp [h01]⟩])
 have hst : (Instr.storeAt 3 (.pointer (some ⟨b, i, none⟩)) (.int .i64 0)).run Tryz.prog w2 = .ok () (w2.setCells b i [.int .i64 0]) := by
  have hc := run_storeCells_cells (P := Tryz.prog) b i [.int .i64 0] 0 w2 (fun j hj => by
   obtain rfl : j = 0 := by simp at hj; omega
   simp only [Nat.add_zero]; rw [cell_of hcs]; simp; omega) (fun j hj => by simp [World.frozen?, hcs]) (by simp [Value.oneCell'])
  unfold Instr.storeAt Instr.sureAddr storeVar
  simp [sizeOf, typeInfo, hinf, hz1, Value.cells]
  simpa using hc
 rw [hst] at hs
 obtain rfl : w2.setCells b i [.int .i64 0] = w' := by simpa using hs
 have ha' : After E β3 s.m s.nx w2 (upd s.m id (some ⟨3, ver, 1, es.set i [dI 0], 0, false⟩)) (.tuple #[]) .junk (w2.setCells b i [.int .i64 0]) := by
  obtain ⟨β', x1, x2, x3, _⟩ := ha
  exact ⟨β', x1, x2, x3, .junk _⟩
 obtain ⟨β4, r4⟩ := r3.put (dst := o4.dst) ha'
 rw [d4] at r4
 refine wpList_nil ?_
 rw [d4]
 exact ⟨_, β4, r4, hQ⟩
end
abbrev ints (L : List Nat) : List Int := L.map fun (i : Nat) => (i : Int)
theorem ints_nat (L : List Nat) : (ints L).map Int.toNat = L := by
 rw [List.map_map]
 exact map_map_id0 L
where map_map_id0 : ∀ L : List Nat, L.map (Int.toNat ∘ fun (i : Nat) => (i : Int)) = L
 | [] => rfl
 | i :: L => by simp only [List.map_cons, map_map_id0 L]; rfl
def hasI (l : List Int) (x : Int) : Bool := !l.all (fun y => x != y)
theorem hasI_iff {l : List Int} {x : Int} : hasI l x = true ↔ x ∈ l := by
 unfold hasI
 rw [Bool.not_eq_true', List.all_eq_false]
 constructor
 · rintro ⟨y, hy, h⟩
   have : x = y := by simpa using h
   rw [this]; exact hy
 · intro h
   exact ⟨x, h, by simp⟩
theorem hasI_ints {L : List Nat} {i : Nat} : hasI (ints L) i = true ↔ i ∈ L := by
 rw [hasI_iff, List.mem_map]
 constructor
 · rintro ⟨a, h, e⟩
   have : a = i := by exact_mod_cast e
   rw [← this]; exact h
 · exact fun h => ⟨i, h, rfl⟩
def idxI12 (l : List Int) (x : Int) : Int := if l.all (fun y => x != y) then -1 else l.findIdx (fun y => !(x != y))
theorem idx_ge (l : List Int) (x : Int) : decide (idxI12 l x ≥ 0) = hasI l x := by
 unfold idxI12 hasI
 cases l.all fun y => x != y
 · simp only [Bool.false_eq_true, if_false, Bool.not_false]; exact decide_eq_true (by omega)
 · rfl
theorem index12_c (l : List Int) (x : Int) (hl : (l.length : Int) ≤ 1099511627776) : ContractN Tryz.prog 197 [encInts l, dI x] (dI (idxI12 l x)) := by
 refine Contract.toN ?_ rfl
 refine inC Tryz.func197 rfl Tryz.ntmps197 ?_
 have hres := Tryz.results197
 refine aGo hres ?_
 repeat with_reducible intro K hK
 refine aLoopT (fun (k : Nat) => [(0, encInts l), (1, dI x), (7, dI l.length), (8, dI k)]) (fun _ => []) 0 0 (fun k => k ≤ l.length ∧ (l.take k).all (fun y => x != y) = true) (fun k => l.length - k) 0 ⟨by omega, rfl⟩ ?_ ?_
 · exact leGo trivial
 rintro k ⟨hk, hn⟩
 have hw := wrap1 k
 have h0 : (0 : Int) ≤ k := by omega
 by_cases h1 : (k : Int) < l.length
 · obtain ⟨y, hx⟩ := getE (l := l) (k := k) (by omega)
   cases h2 : (x == y)
   · refine aGo (cj4 hres h0 h1 (cj3 hx hw h2)) ?_
     repeat with_reducible intro K hK
     exact loop_end (k + 1) ⟨by omega, all_take_succ hx hn (by simp [bne, h2])⟩ (by omega) (by exact leGo trivial)
   · have hx2 : (fun y => x != y) y = false := by simp [bne, h2]
     refine aGo (cj4 hres h0 h1 (cj3 hx hw h2)) ?_
     repeat with_reducible intro K hK
     have : idxI12 l x = k := by
      have h3 : l.all (fun y => x != y) = false := all_not hx hx2
      unfold idxI12
      rw [h3, any_take_no hx hn hx2]; rfl
     rw [this]
 · refine aGo (cj2 hres h1) ?_
   repeat with_reducible intro K hK
   rw [List.take_of_length_le (by omega)] at hn
   have : idxI12 l x = -1 := by unfold idxI12; rw [hn]; rfl
   rw [this]
theorem contains12_c (l : List Int) (x : Int) (hl : (l.length : Int) ≤ 1099511627776) : ContractN Tryz.prog 124 [encInts l, dI x] (dB (hasI l x)) := by
 refine Contract.toN ?_ rfl
 refine inC Tryz.func124 rfl Tryz.ntmps124 ?_
 have hres := Tryz.results124
 have hc := index12_c l x hl
 refine aGo hres ?_
 repeat with_reducible intro K hK
 exact bool_eq (idx_ge _ _)
structure Conf (s : SysD) : Prop where
 r : rightS s = true
 f : fewS s 5 8 4 = true
theorem few12_rows {s : SysD} (h : fewS s 5 8 4 = true) : s.n ≤ 5 ∧ s.r.length ≤ 8 ∧ ∀ w ∈ s.r, w.t.length ≤ 5 ∧ szF w.v ≤ 4 ∧ ∀ t ∈ w.t, szF t.f ≤ 4 := by
 simp only [fewS, Bool.and_eq_true, decide_eq_true_eq, List.all_eq_true] at h
 obtain ⟨⟨h1, h2⟩, h3⟩ := h
 refine ⟨h1, by omega, fun w hw => ?_⟩
 obtain ⟨a, b⟩ := h3 w hw
 have := fewT_sz a
 have := fewF_sz b
 exact ⟨by omega, by omega, fewT_nat 4 (by decide) a⟩
theorem few12_sm {s : SysD} (h : fewS s 5 8 4 = true) : Sm12 s := by
 obtain ⟨a, b, c⟩ := few12_rows h
 exact ⟨fewS_sm (by decide) (by decide) (by decide) h, by omega, fun w hw => ⟨by have := (c w hw).1; omega, by have := (c w hw).2.1; omega, fun t ht => by have := (c w hw).2.2 t ht; omega⟩⟩
section
variable {s : SysD} (c : Conf s)
include c
theorem Conf.fit {L : List Nat} (hl : L.length ≤ 8) : Fit (partD s L) [] 4 5 := by
 obtain ⟨a, b, e⟩ := few12_rows c.f
 have := part_len s L
 refine ⟨by omega, fun _ => by show s.n ≤ 16; omega, fun _ => .inl (by show s.n ≤ 5; omega), fun w hw => ?_, ⟨by simp, fun t ht => by cases ht⟩, by decide, by decide⟩
 obtain ⟨i, _, hi⟩ := part_mem.1 hw
 have := e w (List.mem_of_getElem? hi)
 exact ⟨by omega, this.2⟩
theorem Conf.tn {L : List Nat} (hl : L.length ≤ 8) : tnO (leastE (partD s L) []) := by
 obtain ⟨a, b, e⟩ := few12_rows c.f
 have hp := part_right c.r (rows := L) (by omega)
 have h1 := Nat.mul_le_mul_right (Dic.grow 4 5 + 4 + 1) (show (partD s L).n.toNat + 1 ≤ 6 by show s.n.toNat + 1 ≤ 6; omega)
 rw [show Dic.grow 4 5 = 4437 from rfl] at h1
 exact least_tnB (c.fit hl) (by rw [show Dic.grow 4 5 = 4437 from rfl]; omega) (by rw [show Dic.grow 4 5 = 4437 from rfl]; decide) hp (right_nilT hp)
end
theorem asc_ints {L : List Nat} {n : Nat} (h : ascR (ints L) n = true) : L.length ≤ n ∧ ∀ i ∈ L, i < n := by
 have h1 := asc_len h
 simp only [ints, List.length_map] at h1
 refine ⟨h1, fun i hi => ?_⟩
 obtain ⟨k, hk⟩ := List.getElem?_of_mem hi
 have := asc_ge h k i (by rw [List.getElem?_map, hk]; rfl)
 omega
noncomputable def refU (s : SysD) (L : List Nat) : List Nat := if nsC s L then usedC L (leastE (partD s L) []).y else []
theorem part12_ints {s : SysD} (hs : rightS s = true) {L : List Nat} (ha : ascR (ints L) s.r.length = true) : part12 s (ints L) = partD s L := by
 unfold part12; rw [hs, ha, ints_nat]; rfl
theorem refuted12_c (s : SysD) (c : Conf s) (L : List Nat) (ha : ascR (ints L) s.r.length = true) : Contract Tryz.prog 120 [encS s, encInts (ints L)] (.tup [encInts (ints (refU s L)), dB (nsC s L)]) := by
 have hres := Tryz.results120
 obtain ⟨hl, hlt⟩ := asc_ints ha
 obtain ⟨_, h8, _⟩ := few12_rows c.f
 have q1 := part12_c s (ints L) (few12_sm c.f) (by simp [ints]; omega)
 rw [part12_ints c.r ha] at q1
 have hp := part_right c.r (rows := L) (by omega)
 have q2 := solution_c (partD s L) (c.fit (L := L) (by omega))
 cases hn : nsC s L
 · have hk : (leastE (partD s L) []).k ≠ 1 := fun h => by rw [(nsC_least c.r (by omega)).2 h] at hn; cases hn
   rw [show solD (partD s L) = ((leastE (partD s L) []).x, [], true) by unfold solD; rw [hp, if_pos rfl, if_neg hk]] at q2
   rw [show refU s L = [] by unfold refU; rw [hn]; rfl]
   refine inC Tryz.func120 rfl Tryz.ntmps120 ?_
   refine aGo hres ?_
   repeat with_reducible intro K hK
   rfl
 have hk := (nsC_least c.r (by omega)).1 hn
 rw [show solD (partD s L) = ([], (leastE (partD s L) []).y, false) by unfold solD; rw [hp, if_pos rfl, if_pos hk]] at q2
 rw [show refU s L = usedC L (leastE (partD s L) []).y by unfold refU; rw [hn]; rfl]
 have hchk := least_check hp (right_nilT hp)
 have htn := c.tn (L := L) (by omega)
 have href : refutesD (partD s L) (leastE (partD s L) []).y = true := by
  rcases check_cases hchk with ⟨h, _⟩ | ⟨_, h, _⟩ | ⟨h, _⟩
  · rw [hk] at h; exact absurd h (by decide)
  · exact h
  · rw [hk] at h; exact absurd h (by decide)
 have hyz : ∀ f ∈ (leastE (partD s L) []).y, szF f ≤ 262144 := fun f hf => by
  have := htn.2.2.1.2 f hf
  unfold tnF at this; omega
 generalize (leastE (partD s L) []).y = y at q2 href hyz
 have hlow : (lowerD (partD s L) [] y).2 = true := by
  simp only [refutesD, Bool.and_eq_true] at href; exact href.1
 obtain ⟨_, hyl, hyo, _⟩ := lower_iff.1 hlow
 rw [part_length hlt] at hyl
 obtain ⟨F, hF⟩ : ∃ F : Nat → List Nat, F = fun k => ((L.zip y).take k).filterMap fun p => if qOf p.2 = 0 then none else some p.1 := ⟨_, rfl⟩
 have F0 : F 0 = [] := by rw [hF]; rfl
 have Fz : ∀ k i f, L[k]? = some i → y[k]? = some f → qOf f = 0 → F (k + 1) = F k := fun k i f hi hf h => by
  have hz : (L.zip y)[k]? = some (i, f) := by rw [List.getElem?_zip_eq_some]; exact ⟨hi, hf⟩
  rw [hF]; simp only; rw [List.take_add_one, hz, List.filterMap_append]; simp [h]
 have Fs : ∀ k i f, L[k]? = some i → y[k]? = some f → qOf f ≠ 0 → F (k + 1) = F k ++ [i] := fun k i f hi hf h => by
  have hz : (L.zip y)[k]? = some (i, f) := by rw [List.getElem?_zip_eq_some]; exact ⟨hi, hf⟩
  rw [hF]; simp only; rw [List.take_add_one, hz, List.filterMap_append]; simp [h]
 have Fe : usedC L y = F y.length := by rw [hF]; unfold usedC; simp only; rw [List.take_of_length_le (by rw [List.length_zip]; omega)]
 rw [Fe]
 refine inC Tryz.func120 rfl Tryz.ntmps120 ?_
 refine aGo hres ?_
 repeat with_reducible intro K hK
 clear q1 q2
 refine aLe (le_row 9 3 1 rfl) ?_
 refine aLoopT (fun (k : Nat) => [(1, encInts (ints L)), (9, .ls 1 (F k).length), (21, encFs y), (22, dI y.length), (23, dI k)]) (fun k => [(1, ⟨3, (F k).length, 1, (ints (F k)).map fun x => [dI x], 0, false⟩)]) 2 0 (fun k => k ≤ y.length ∧ (F k).length ≤ k) (fun k => y.length - k) 0 ⟨by omega, by rw [F0]; decide⟩ ?_ ?_
 · exact leGo F0
 rintro k ⟨hkl, hfl⟩
 have hw := wrap1 k
 have h0 : (0 : Int) ≤ k := by omega
 by_cases h1 : (k : Int) < y.length
 · obtain ⟨f, hf⟩ := getE (l := y) (k := k) (by omega)
   obtain ⟨i, hi⟩ := getE (l := L) (k := k) (by omega)
   have h1L : (k : Int) < L.length := by omega
   have of := List.all_eq_true.1 hyo f (mem_at hf)
   have zf := hyz f (mem_at hf)
   have q3 := fsign_c f (by omega)
   have hsg : sgnD f = 0 ↔ qOf f = 0 := by
    obtain ⟨q, rfl⟩ : ∃ q, f = ofQ q := ⟨_, okF_eq of⟩
    rw [sgnD_ofQ, qOf_ofQ]; exact sgQ_zero
   by_cases h2 : qOf f = 0
   · have e2 : (sgnD f != 0) = false := by simp [hsg.2 h2]
     have F1 := Fz k i f hi hf h2
     refine aGo (cj4 hres h0 h1 (cj3 hf hw e2)) ?_
     repeat with_reducible intro K hK
     exact loop_end (k + 1) ⟨by omega, by rw [F1]; omega⟩ (by omega) (by exact leGo F1)
   · have e2 : (sgnD f != 0) = true := by simp; exact fun h => h2 (hsg.1 h)
     have F1 := Fs k i f hi hf h2
     refine aGo (cj4 hres h0 h1 (cj4 h1L hf hi (cj2 hw e2))) ?_
     repeat with_reducible intro K hK
     exact loop_end (k + 1) ⟨by omega, by rw [F1, List.length_append]; simp; omega⟩ (by omega) (by exact leGo F1)
 · obtain rfl : k = y.length := by omega
   refine aGo (cj2 hres h1) ?_
   repeat with_reducible intro K hK
   rw [map_map_id (fun _ => rfl)]
def zeroAt (y : List FracD) (i : Nat) : Bool := ((y[i]?).map fun f => decide (qOf f = 0)).getD true
def coverI (rows : List Int) (y : List FracD) (i : Nat) : Bool := zeroAt y i || hasI rows i
def check12 (s : SysD) (rows : List Int) (y : List FracD) : Bool := refutesD s y && (ascR rows s.r.length && (List.range y.length).all (coverI rows y))
theorem check12_c (s : SysD) (rows : List Int) (y : List FracD) (hs : tnS s) (hy : tnFs y) (hl : (rows.length : Int) ≤ 1099511627776) : Contract Tryz.prog 34 [encS s, encInts rows, encFs y] (dB (check12 s rows y)) := by
 have hres := Tryz.results34
 have q1 := drefutes_c s y hs hy
 have q2 := right12_c rows s.r.length hl
 have e0 : check12 s rows y = (refutesD s y && (ascR rows s.r.length && (List.range y.length).all (coverI rows y))) := rfl
 generalize check12 s rows y = R at e0 ⊢
 cases h1 : refutesD s y
 · rw [h1] at q1 e0
   refine inC Tryz.func34 rfl Tryz.ntmps34 ?_
   refine aGo hres ?_
   repeat with_reducible intro K hK
   exact bool_eq (by rw [e0]; rfl)
 have hlow : (lowerD s [] y).2 = true := by
  simp only [refutesD, Bool.and_eq_true] at h1; exact h1.1
 obtain ⟨_, hyl, hyo, _⟩ := lower_iff.1 hlow
 rw [h1] at q1
 rw [h1, Bool.true_and] at e0
 cases h2 : ascR rows s.r.length
 · rw [h2] at q2 e0
   refine inC Tryz.func34 rfl Tryz.ntmps34 ?_
   refine aGo hres ?_
   repeat with_reducible intro K hK
   exact bool_eq (by rw [e0]; rfl)
 rw [h2] at q2
 rw [h2, Bool.true_and] at e0
 have hy64 := hy.1
 refine inC Tryz.func34 rfl Tryz.ntmps34 ?_
 refine aGo hres ?_
 repeat with_reducible intro K hK
 clear q1 q2
 refine aLoopT (fun (k : Nat) => [(1, encInts rows), (21, encFs y), (22, dI y.length), (23, dI k)]) (fun _ => []) 1 0 (fun k => k ≤ y.length ∧ (List.range k).all (coverI rows y) = true) (fun k => y.length - k) 0 ⟨by omega, rfl⟩ ?_ ?_
 · exact leGo trivial
 rintro k ⟨hk, hg⟩
 have hw := wrap1 k
 have h0 : (0 : Int) ≤ k := by omega
 by_cases h3 : (k : Int) < y.length
 · obtain ⟨f, hf⟩ := getE (l := y) (k := k) (by omega)
   have of := List.all_eq_true.1 hyo f (mem_at hf)
   have zf := hy.2 f (mem_at hf)
   unfold tnF at zf
   have q3 := fsign_c f (by omega)
   have q4 := contains12_c rows k hl
   have ez : coverI rows y k = (decide (qOf f = 0) || hasI rows k) := by unfold coverI zeroAt; rw [hf]; rfl
   have hsg : sgnD f = 0 ↔ qOf f = 0 := by
    obtain ⟨q, rfl⟩ : ∃ q, f = ofQ q := ⟨_, okF_eq of⟩
    rw [sgnD_ofQ, qOf_ofQ]; exact sgQ_zero
   have nxt : coverI rows y k = true → (List.range (k + 1)).all (coverI rows y) = true := fun h => by
    rw [List.range_succ, List.all_append, hg, Bool.true_and]
    simp only [List.all_cons, List.all_nil, Bool.and_true]; exact h
   by_cases h4 : qOf f = 0
   · have e2 : (sgnD f != 0) = false := by simp [hsg.2 h4]
     refine aGo (cj4 hres h0 h3 (cj3 hf hw e2)) ?_
     repeat with_reducible intro K hK
     exact loop_end (k + 1) ⟨by omega, nxt (by rw [ez, decide_eq_true h4]; rfl)⟩ (by omega) (by exact leGo trivial)
   have e2 : (sgnD f != 0) = true := by simp; exact fun h => h4 (hsg.1 h)
   cases h5 : hasI rows k
   · rw [h5] at q4
     refine aGo (cj4 hres h0 h3 (cj3 hf hw e2)) ?_
     repeat with_reducible intro K hK
     exact bool_eq (by
      rw [e0]
      exact (List.all_eq_false.2 ⟨k, List.mem_range.2 (by omega), by rw [ez, h5, decide_eq_false h4]; decide⟩).symm)
   · rw [h5] at q4
     refine aGo (cj4 hres h0 h3 (cj3 hf hw e2)) ?_
     repeat with_reducible intro K hK
     exact loop_end (k + 1) ⟨by omega, nxt (by rw [ez, h5, Bool.or_true])⟩ (by omega) (by exact leGo trivial)
 · obtain rfl : k = y.length := by omega
   refine aGo (cj2 hres h3) ?_
   repeat with_reducible intro K hK
   exact bool_eq (by rw [e0, hg])
end Go.Proofs.YtpkdhmnlpnijhaaGreat
