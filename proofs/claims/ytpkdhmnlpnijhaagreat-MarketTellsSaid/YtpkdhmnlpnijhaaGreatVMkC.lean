/-
  Layer 44: market.Best, the walk.
-/
import Derived.Test.YtpkdhmnlpnijhaaGreatVMkB
namespace Go.Proofs.YtpkdhmnlpnijhaaGreat
set_option linter.unusedVariables false
set_option linter.unusedSimpArgs false
set_option linter.unusedSectionVars false
open Go Go.RowKit
set_option maxRecDepth 100000
set_option maxHeartbeats 16000000
theorem le_cellsT [Ifl] {s : St} (id n : Nat) {b : Blk} {es' : List (List D)} (hb : s.m id = some b) (he : b.es.map (List.map (fzT false s.m n)) = es') : StLe s { s with m := upd s.m id (some { b with es := es' }) } := by
 subst he; exact le_cells id n hb
def rowsA (M : Mkt) (k : Nat) : List RowD := (List.range k).map (supW M)
def rowsB (M : Mkt) (i : Nat) : List RowD := (List.range M.m).map (supW M) ++ (List.range i).map oneW
theorem rowsA_succ (M : Mkt) (k : Nat) : rowsA M (k + 1) = rowsA M k ++ [supW M k] := by unfold rowsA; rw [List.range_succ, List.map_append]; rfl
theorem rowsB_succ (M : Mkt) (i : Nat) : rowsB M (i + 1) = rowsB M i ++ [oneW i] := by unfold rowsB; rw [List.range_succ, List.map_append, ← List.append_assoc]; rfl
theorem rowsA_len (M : Mkt) (k : Nat) : (rowsA M k).length = k := by simp [rowsA]
theorem rowsB_len (M : Mkt) (k : Nat) : (rowsB M k).length = M.m + k := by simp [rowsB]
theorem rowsB_zero (M : Mkt) : rowsB M 0 = rowsA M M.m := by simp [rowsB, rowsA]
theorem best44_c (supply : List Int) (offers : List OffD) (h6 : right44 supply offers = true → offers.length ≤ 6) (sm : SmM supply offers) : Contract Tryz.prog 16 [encInts supply, encOfs offers] (.tup [encDl (best44 supply offers).1, dI (best44 supply offers).2]) := by
 have hres := Tryz.results16
 have kr := right44_c supply offers sm
 cases hr : right44 supply offers
 · rw [hr] at kr
   rw [show best44 supply offers = (zDl, 1) by unfold best44; rw [hr]; rfl]
   refine inC Tryz.func16 rfl Tryz.ntmps16 ?_
   refine aGo hres ?_
   repeat with_reducible intro K hK
   rfl
 rw [hr] at kr
 have h := right44_iff.1 hr
 have h6 := h6 hr
 have hm1 := h.m1
 have hm0 := h.m0
 have hfit := h.fit h6
 have hopt := h.opt
 obtain ⟨o0, ox, oy, opx, opy, _, _, _, ov⟩ := sysM_best (M := mkt supply offers) (by have := h.n1; show offers.length ≤ 700; omega) (by have := h.m1; show supply.length ≤ 700; omega) (fun k _ => by have := h.sb k; show (0 : Rat) ≤ ((supply[k]?.getD 0 : Int) : Rat); exact Rat.intCast_nonneg.2 this.1) hopt
 have kl := least_c (sysM (mkt supply offers)) (goalM (mkt supply offers)) hfit
 have hs := sysM_right (M := mkt supply offers) (by have := h.n1; show offers.length ≤ 700; omega) (by have := h.m1; show supply.length ≤ 700; omega)
 rw [show leastD (sysM (mkt supply offers)) (goalM (mkt supply offers)) = (optM supply offers, 0) by unfold leastD optM; rw [hs, goalM_right]; rfl] at kl
 rw [show best44 supply offers = (dealM supply offers, 0) by unfold best44; rw [hr]; rfl]
 have kO := nO_c
 have nn : offers.length ≤ 16 := by omega
 have kg := terms_c offers.length (fun i => -(bidI offers i)) 86 [.ep [[encOfs offers]] 0 0] nn (fun i _ => by have := h.pb i; omega) (fun _ => rfl) rfl (fun _ => rfl) (fun i hi => by
  have ho : offers[i]? = some offers[i] := List.getElem?_eq_getElem hi
  have hb := h.bid ho
  have := bid1_c offers i ho (by rw [hb.1]; exact hb.2)
  rw [hb.1] at this; exact this)
 rw [show (termsOf offers.length fun i => ((-(bidI offers i) : Int) : Rat)) = goalM (mkt supply offers) by
  unfold goalM
  congr 1] at kg
 refine inC Tryz.func16 rfl Tryz.ntmps16 ?_
 refine aGo hres ?_
 repeat with_reducible intro K hK
 refine aLe (le_kill 0 rfl) (aLe (le_rowIn 2 0 1 61 6 rfl rfl rfl) ?_)
 have eA0 : rowsA (mkt supply offers) 0 = [] := rfl
 refine aLoopT (fun (k : Nat) => [(0, encInts supply), (3, .lp 0 0 0 0), (4, .lp 1 0 0 0), (6, .lp 2 0 0 0), (23, encInts supply), (24, dI supply.length), (25, dI k)])
  (fun k => [(0, ⟨42, 0, 1, [[encOfs offers]], 0, true⟩), (1, ⟨44, 0, 6, [[.nil, .nil, dI 0, .nil, dI 0, .nil]], 0, false⟩), (2, ⟨24, 0, 2, [[dI offers.length, .ls 3 k]], 0, false⟩), (3, ⟨61, k, 6, (rowsA (mkt supply offers) k).map cW, 0, false⟩)]) 4 0 (fun k => k ≤ supply.length) (fun k => supply.length - k) 0 (by omega) ?_ ?_
 · exact leGo eA0
 · rintro k hk
   obtain ⟨hw, k0⟩ := wrap2 k
   have hla := rowsA_len (mkt supply offers) k
   by_cases h1 : (k : Int) < supply.length
   · obtain ⟨x, hx⟩ := getE (l := supply) (k := k) (by omega)
     have hxb := h.s x (mem_at hx)
     have kx := nI_c x hxb.1 (by omega)
     have kt := terms_n offers.length (wantI offers k) 85 [.ep [[encOfs offers]] 0 0, .ep [[dI k]] 0 0] nn (fun i _ => by have := h.wb k i; omega) (fun _ => rfl) rfl (fun _ => rfl) (fun i hi => by
      have ho : offers[i]? = some offers[i] := List.getElem?_eq_getElem hi
      exact want1_c offers k i ho (h.want ho (by omega)).1)
     have er := rowsA_succ (mkt supply offers) k
     have ew : supW (mkt supply offers) k = ⟨termsOf offers.length fun i => (wantI offers k i : Rat), 1, ofQ (x : Rat)⟩ := by
      show (⟨_, _, ofQ ((supply[k]?.getD 0 : Int) : Rat)⟩ : RowD) = _
      rw [hx]; rfl
     rw [ew] at er
     refine aGo (cj4 hres k0 h1 (cj3 hx hw hla)) ?_
     repeat with_reducible intro K hK
     exact loop_end (k + 1) (by omega) (by omega) (by exact leGo er)
   · obtain rfl : k = supply.length := by omega
     refine aGo (cj2 hres h1) ?_
     repeat with_reducible intro K hK
     have eB0 : rowsA (mkt supply offers) supply.length = rowsB (mkt supply offers) 0 := (rowsB_zero _).symm
     refine aLoopT (fun (i : Nat) => [(0, encInts supply), (3, .lp 0 0 0 0), (4, .lp 1 0 0 0), (6, .lp 2 0 0 0), (43, encOfs offers), (44, dI offers.length), (45, dI i)])
      (fun i => [(0, ⟨42, 0, 1, [[encOfs offers]], 0, true⟩), (1, ⟨44, 0, 6, [[.nil, .nil, dI 0, .nil, dI 0, .nil]], 0, false⟩), (2, ⟨24, 0, 2, [[dI offers.length, .ls 3 (supply.length + i)]], 0, false⟩), (3, ⟨61, supply.length + i, 6, (rowsB (mkt supply offers) i).map cW, 0, false⟩)]) 4 0 (fun i => i ≤ offers.length) (fun i => offers.length - i) 0 (by omega) ?_ ?_
     · exact leGo eB0
     · rintro i hi
       obtain ⟨hwi, i0⟩ := wrap2 i
       have hlb := rowsB_len (mkt supply offers) i
       by_cases h2 : (i : Int) < offers.length
       · have hlb2 : (((rowsB (mkt supply offers) i).length + 1 : Nat) : Int) ≤ 100 := by rw [hlb]; show ((supply.length + i + 1 : Nat) : Int) ≤ 100; omega
         refine aGo (cj4 hres i0 h2 (cj2 hwi hlb)) ?_
         repeat with_reducible intro K hK
         refine loop_end (i + 1) (by omega) (by omega) ?_
         refine (le_kill 4 rfl).trans ((le_cellsT 3 4 (es' := (rowsB (mkt supply offers) (i + 1)).map cW) rfl ?_).trans ?_)
         · rw [rowsB_succ, List.map_append, List.map_append, map_map_id (fun _ => rfl)]
           refine congrArg (List.map cW (rowsB (mkt supply offers) i) ++ ·) ?_
           simp only [go_sem, fzT, List.map]
           rfl
         · have ea : supply.length + (i + 1) = supply.length + i + 1 := by omega
           exact leGo ea
       · obtain rfl : i = offers.length := by omega
         have eS : rowsB (mkt supply offers) offers.length = (sysM (mkt supply offers)).r := rfl
         refine aLe (le_kill 3 rfl) (aLe (le_cellsT 2 4 (es' := [cS (sysM (mkt supply offers))]) rfl ?_) ?_)
         · simp only [go_sem, fzT, List.map]
           rw [map_map_id (fun _ => rfl), eS]
           rfl
         have hly : ((supply.length : Nat) : Int) ≤ (optM supply offers).y.length := by rw [oy]; show ((supply.length : Nat) : Int) ≤ ((supply.length + offers.length : Nat) : Int); omega
         have m0 : (0 : Int) ≤ supply.length := by omega
         have tn := least_tnB hfit (by rw [sysM_n, show Dic.grow 4 6 = 17749 from rfl]; show (offers.length + 1) * (17749 + 4 + 1) ≤ 262144; omega) (by have := termsOf_len (fun i => -((mkt supply offers).P i)) offers.length; rw [show Dic.grow 4 6 = 17749 from rfl]; show ((termsOf offers.length fun i => -((mkt supply offers).P i)).length + 1) * (17749 + 4 + 1) ≤ 262144; omega) hs goalM_right
         have kv := fneg_c (optM supply offers).v (by have := tn.1; unfold tnF at this; unfold optM; omega)
         have e0k : ((optM supply offers).k != 0) = false := by rw [o0]; rfl
         refine aGo (cj4 hres h2 hly (cj3 m0 o0 e0k)) ?_
         repeat with_reducible intro K hK
         obtain ⟨Z, hZ⟩ : ∃ Z, Z = (optM supply offers).y.take supply.length := ⟨_, rfl⟩
         have eZ : List.take supply.length (List.map cF (optM supply offers).y) = Z.map cF := by rw [hZ, List.map_take]
         have lZ : Z.length = supply.length := by rw [hZ, List.length_take]; omega
         have zZ : ∀ f ∈ Z, (szF f : Int) ≤ 549755813888 := fun f hf => by
          rw [hZ] at hf
          have := tn.2.2.1.2 f (List.mem_of_mem_take hf)
          unfold tnF at this; omega
         have eD : dealM supply offers = ⟨(optM supply offers).x, Z.map negD, negD (optM supply offers).v⟩ := by rw [hZ]; rfl
         obtain ⟨F, hF⟩ : ∃ F : Nat → List FracD, F = fun j => (Z.take j).map negD := ⟨_, rfl⟩
         have F0 : F 0 = [] := by rw [hF]; rfl
         have Fl : ∀ j, j ≤ Z.length → (F j).length = j := fun j hj => by rw [hF]; simp only [List.length_map, List.length_take]; omega
         have FZ : Z.map negD = F supply.length := by rw [hF]; simp only; rw [List.take_of_length_le (by omega)]
         have Fs : ∀ j f, Z[j]? = some f → F (j + 1) = F j ++ [negD f] := fun j f h => by rw [hF]; simp only; rw [List.take_add_one, h]; simp
         clear kl kg ov
         generalize (optM supply offers).x = ax at *
         generalize negD (optM supply offers).v = av at *
         refine aLe (le_rowIn (b := ⟨44, 0, 6, [encFs ax :: .nil :: cF av], 0, false⟩) (e := encFs ax :: .nil :: cF av) 5 0 1 32 4 rfl rfl rfl) ?_
         refine aLoopT (fun (j : Nat) => [(4, .lp 1 0 0 0), (12, .lp 5 0 0 0), (87, encFs Z), (88, dI supply.length), (89, dI j)])
          (fun j => [(1, ⟨44, 0, 6, [[.nil, .nil, dI 0, .nil, dI 0, .nil]], 0, false⟩), (5, ⟨44, 0, 6, [encFs ax :: .ls 6 j :: cF av], 0, false⟩), (6, ⟨32, j, 4, (F j).map cF, 0, false⟩)]) 7 0 (fun j => j ≤ supply.length) (fun j => supply.length - j) 0 (by omega) ?_ ?_
         · exact leGo (cj3 F0 eZ lZ)
         rintro j hj
         obtain ⟨hwj, j0⟩ := wrap2 j
         by_cases h3 : (j : Int) < supply.length
         · obtain ⟨f, hf⟩ := getE (l := Z) (k := j) (by omega)
           have kf := fneg_c f (zZ f (mem_at hf))
           have F1 := Fs j f hf
           have F2 := Fl j (by omega)
           have h3Z : (j : Int) < Z.length := by omega
           refine aGo (cj4 hres j0 h3 (cj4 h3Z hf hwj F2)) ?_
           repeat with_reducible intro K hK
           exact loop_end (j + 1) (by omega) (by omega) (by exact leGo F1)
         · obtain rfl : j = supply.length := by omega
           refine aLe (le_kill 6 rfl) (aLe (le_cellsT 5 4 (es' := [cDl ⟨ax, F supply.length, av⟩]) rfl ?_) ?_)
           · simp only [go_sem, fzT, List.map]
             rw [map_map_id (fun _ => rfl)]
           refine aGo (cj2 hres h3) ?_
           repeat with_reducible intro K hK
           rw [eD, FZ]
theorem szF_ofQ (q : Rat) : szF (ofQ q) = szQ q := rfl
theorem sgn_lt {f : FracD} (o : okF f = true) : sgnD f < 0 ↔ qOf f < 0 := by
 obtain ⟨q, rfl⟩ : ∃ q, f = ofQ q := ⟨_, okF_eq o⟩
 rw [sgnD_ofQ, qOf_ofQ]; exact sgQ_lt
theorem sgn_gt {f : FracD} (o : okF f = true) : sgnD f > 0 ↔ 0 < qOf f := by
 obtain ⟨q, rfl⟩ : ∃ q, f = ofQ q := ⟨_, okF_eq o⟩
 rw [sgnD_ofQ, qOf_ofQ]; exact sgQ_gt
theorem cmp_gt {f g : FracD} (o : okF f = true) (o2 : okF g = true) : cmpD f g > 0 ↔ qOf g < qOf f := by
 obtain ⟨q, rfl⟩ : ∃ q, f = ofQ q := ⟨_, okF_eq o⟩
 obtain ⟨r, rfl⟩ : ∃ q, g = ofQ q := ⟨_, okF_eq o2⟩
 rw [cmpD_ofQ, qOf_ofQ, qOf_ofQ]
 have h := @sgQ_gt (q - r)
 constructor
 · intro h1; have := h.1 h1; grind
 · intro h1; exact h.2 (by grind)
theorem chk1_c (offers : List OffD) (k i : Nat) {o : OffD} {x : Int} (ho : offers[i]? = some o) (hx : o.wants[k]? = some x) : ContractN Tryz.prog 104 [dI i, .ep [[encOfs offers]] 0 0, .ep [[dI k]] 0 0] (dI x) := by
 refine Contract.toN ?_ rfl
 refine inC Tryz.func104 rfl Tryz.ntmps104 ?_
 have hres := Tryz.results104
 have i0 : (0 : Int) ≤ i := by omega
 have k0 : (0 : Int) ≤ k := by omega
 exact aGo (cj4 hres i0 k0 (cj2 ho hx)) trivial
theorem chk2_c (offers : List OffD) (i : Nat) {o : OffD} (ho : offers[i]? = some o) : ContractN Tryz.prog 105 [dI i, .ep [[encOfs offers]] 0 0] (dI o.price) := by
 refine Contract.toN ?_ rfl
 refine inC Tryz.func105 rfl Tryz.ntmps105 ?_
 have hres := Tryz.results105
 have i0 : (0 : Int) ≤ i := by omega
 exact aGo (cj3 hres i0 ho) trivial
theorem chk3_c (supply : List Int) (i : Nat) {x : Int} (hx : supply[i]? = some x) : ContractN Tryz.prog 106 [dI i, .ep [[encInts supply]] 0 0] (dI x) := by
 refine Contract.toN ?_ rfl
 refine inC Tryz.func106 rfl Tryz.ntmps106 ?_
 have hres := Tryz.results106
 have i0 : (0 : Int) ≤ i := by omega
 exact aGo (cj3 hres i0 hx) trivial
section
variable {supply : List Int} {offers : List OffD} (h : RightM supply offers)
include h
theorem RightM.dot_sz {fs : List FracD} {n : Nat → Int} {B : Nat} (of : okP fs = true) (hl : fs.length ≤ 16) (hz : ∀ f ∈ fs, szF f ≤ B) (hB : B ≤ 262144) (hn : ∀ i, 0 ≤ n i ∧ n i ≤ 1125899906842624) : (szQ (dotI fs n fs.length) : Int) ≤ 4500000 := by
 have ss := dotI_sz of hz (fun i hi => szI_le (n i) (hn i).1 (hn i).2) fs.length (Nat.le_refl _)
 have sk : fs.length * (B + 4 + 1) ≤ 16 * (B + 4 + 1) := Nat.mul_le_mul_right _ (by omega)
 omega
theorem RightM.bound_sz {p : List FracD} {B : Nat} (op : okP p = true) (hl : p.length ≤ 16) (hz : ∀ f ∈ p, szF f ≤ B) (hB : B ≤ 262144) : ∀ n : Nat, (szQ (boundI supply offers p n) : Int) ≤ 4500000 + n * 4500010
 | 0 => by
   have := h.dot_sz op hl hz hB (n := fun k => supply[k]?.getD 0) (fun k => ⟨(h.sb k).1, by have := (h.sb k).2; omega⟩)
   have e : boundI supply offers p 0 = paidI supply p := by unfold boundI; simp only [sumN]; grind
   rw [e]; unfold paidI; omega
 | n + 1 => by
   have ih := RightM.bound_sz op hl hz hB n
   have e : boundI supply offers p (n + 1) = boundI supply offers p n + max0 ((bidI offers n : Rat) - costK offers p n) := by unfold boundI; simp only [sumN]; grind
   have a := szQ_add (boundI supply offers p n) (max0 ((bidI offers n : Rat) - costK offers p n))
   have b := h.dot_sz op hl hz hB (n := fun k => wantI offers k n) (fun k => ⟨(h.wb k n).1, by have := (h.wb k n).2; omega⟩)
   have b' : (szQ (costK offers p n) : Int) ≤ 4500000 := b
   have c := szI_le (bidI offers n) (h.pb n).1 (h.pb n).2
   have d : szQ (max0 ((bidI offers n : Rat) - costK offers p n)) ≤ 1 + szQ (bidI offers n : Rat) + szQ (costK offers p n) := by
    unfold max0
    split
    · rw [show (bidI offers n : Rat) - costK offers p n = (bidI offers n : Rat) + -(costK offers p n) by grind]
      have := szQ_add (bidI offers n : Rat) (-(costK offers p n))
      rw [szQ_neg] at this
      omega
    · have := sz_0; omega
   rw [e]
   push_cast
   omega
theorem RightM.cost_at {p : List FracD} {i : Nat} {o : OffD} (ho : offers[i]? = some o) : costI p o = costK offers p i := by
 unfold costI costK dotI
 refine sumN_congr _ fun k _ => ?_
 unfold wantI
 rw [ho]; rfl
theorem RightM.bid_at {i : Nat} {o : OffD} (ho : offers[i]? = some o) : o.price = bidI offers i := (h.bid ho).1
end
theorem check44_c (supply : List Int) (offers : List OffD) (d : DealD) (sm : SmM supply offers) (zx : ∀ f ∈ d.x, szF f ≤ 262144) (zp : ∀ f ∈ d.p, szF f ≤ 262144) : Contract Tryz.prog 21 [encInts supply, encOfs offers, encDl d] (dB (check44 supply offers d)) := by
 have hres := Tryz.results21
 have kr := right44_c supply offers sm
 obtain ⟨X, p, v⟩ := d
 simp only at zx zp
 cases hr : right44 supply offers
 · rw [hr] at kr
   refine inC Tryz.func21 rfl Tryz.ntmps21 ?_
   refine aGo hres ?_
   repeat with_reducible intro K hK
   exact bool_eq (by simp [check44, hr])
 rw [hr] at kr
 cases h1 : (X.length : Int) != offers.length
 rotate_left
 · refine inC Tryz.func21 rfl Tryz.ntmps21 ?_
   refine aGo (cj2 hres h1) ?_
   repeat with_reducible intro K hK
   exact bool_eq (by simp at h1; simp [check44]; omega)
 cases h2 : (p.length : Int) != supply.length
 rotate_left
 · refine inC Tryz.func21 rfl Tryz.ntmps21 ?_
   refine aGo (cj3 hres h1 h2) ?_
   repeat with_reducible intro K hK
   exact bool_eq (by simp at h2; simp [check44]; omega)
 have lx : X.length = offers.length := by simp at h1; omega
 have lp : p.length = supply.length := by simp at h2; omega
 have h := right44_iff.1 hr
 have hm := h.m1
 have hn := h.n1
 have e0 : check44 supply offers ⟨X, p, v⟩ = (X.all shOk && ((List.range supply.length).all (matOk supply offers ⟨X, p, v⟩) && (sameF v (ofQ (worthI offers X)) && sameF v (ofQ (boundI supply offers p offers.length))))) := by
  unfold check44
  rw [hr, decide_eq_true lx, decide_eq_true lp]; rfl
 generalize check44 supply offers ⟨X, p, v⟩ = R at e0 ⊢
 refine inC Tryz.func21 rfl Tryz.ntmps21 ?_
 refine aGo (cj3 hres h1 h2) ?_
 repeat with_reducible intro K hK
 refine aLoopT (fun (k : Nat) => [(3, .lp 0 0 0 0), (4, .lp 1 0 0 0), (5, .lp 2 0 0 0), (38, encFs X), (39, dI X.length), (40, dI k)])
  (fun _ => [(0, ⟨28, 0, 1, [[encInts supply]], 0, false⟩), (1, ⟨42, 0, 1, [[encOfs offers]], 0, false⟩), (2, ⟨44, 0, 6, [cDl ⟨X, p, v⟩], 0, false⟩)]) 3 0 (fun k => k ≤ X.length ∧ (X.take k).all shOk = true) (fun k => X.length - k) 0 ⟨by omega, rfl⟩ ?_ ?_
 · exact leGo trivial
 rintro k ⟨hk, hg⟩
 obtain ⟨hw, k0⟩ := wrap2 k
 have k1 := fint_c 1 (by decide) (by decide)
 by_cases h3 : (k : Int) < X.length
 · obtain ⟨f, hf⟩ := getE (l := X) (k := k) (by omega)
   have zf := zx f (mem_at hf)
   have q1 := fright_c f (by omega)
   have q2 := fsign_c f (by omega)
   have q3 := fcompare_c f (ofQ ((1 : Int) : Rat)) (by omega) (by decide +kernel)
   have bad : shOk f = false → D.v (.bool false) = dB R := fun e => bool_eq (by rw [e0, all_not hf e]; rfl)
   cases h4 : okF f
   · rw [h4] at q1
     refine aGo (cj4 hres k0 h3 (cj2 hf hw)) ?_
     repeat with_reducible intro K hK
     exact bad (by simp [shOk, h4])
   rw [h4] at q1
   by_cases h5 : sgnD f < 0
   · refine aGo (cj4 hres k0 h3 (cj3 hf hw h5)) ?_
     repeat with_reducible intro K hK
     exact bad (by have := (sgn_lt h4).1 h5; simp only [shOk, h4, Bool.true_and, Bool.and_eq_false_iff, decide_eq_false_iff_not]; left; grind)
   by_cases h6 : cmpD f (ofQ ((1 : Int) : Rat)) > 0
   · refine aGo (cj4 hres k0 h3 (cj4 hf hw h5 h6)) ?_
     repeat with_reducible intro K hK
     exact bad (by have := (cmp_gt h4 (okF_ofQ _)).1 h6; rw [qOf_ofQ] at this; simp only [shOk, h4, Bool.true_and, Bool.and_eq_false_iff, decide_eq_false_iff_not]; right; grind)
   refine aGo (cj4 hres k0 h3 (cj4 hf hw h5 h6)) ?_
   repeat with_reducible intro K hK
   exact loop_end (k + 1) ⟨by omega, all_take_succ hf hg (by
    have a := mt (sgn_lt h4).2 h5
    have b := mt (cmp_gt h4 (okF_ofQ _)).2 h6
    rw [qOf_ofQ] at b
    simp only [shOk, h4, Bool.true_and, Bool.and_eq_true, decide_eq_true_eq]
    constructor <;> grind)⟩ (by omega) (by exact leGo trivial)
 obtain rfl : k = X.length := by omega
 rw [List.take_of_length_le (by omega)] at hg
 clear hk k0 hw
 rw [hg, Bool.true_and] at e0
 have ox := (shares_ok hg).1
 refine aGo (cj2 hres h3) ?_
 repeat with_reducible intro K hK
 refine aLe (le_kill 1 rfl) ?_
 refine aLoopT (fun (k : Nat) => [(3, .lp 0 0 0 0), (4, .lp 1 0 0 0), (5, .lp 2 0 0 0), (59, encInts supply), (60, dI supply.length), (61, dI k)])
  (fun _ => [(0, ⟨28, 0, 1, [[encInts supply]], 0, false⟩), (1, ⟨42, 0, 1, [[encOfs offers]], 0, true⟩), (2, ⟨44, 0, 6, [cDl ⟨X, p, v⟩], 0, false⟩)]) 3 0 (fun k => k ≤ supply.length ∧ (List.range k).all (matOk supply offers ⟨X, p, v⟩) = true) (fun k => supply.length - k) 0 ⟨by omega, rfl⟩ ?_ ?_
 · exact leGo trivial
 rintro k ⟨hk, hg2⟩
 obtain ⟨hw, k0⟩ := wrap2 k
 by_cases h4 : (k : Int) < supply.length
 · obtain ⟨x, hx⟩ := getE (l := supply) (k := k) (by omega)
   obtain ⟨f, hf⟩ := getE (l := p) (k := k) (by omega)
   have h4p : (k : Int) < p.length := by omega
   have zf := zp f (mem_at hf)
   have hxb := h.s x (mem_at hx)
   have q1 := fright_c f (by omega)
   have q2 := fsign_c f (by omega)
   have q3 := nI_c x hxb.1 (by omega)
   have bz := h.dot_sz ox (by omega) zx (Nat.le_refl _) (n := wantI offers k) (fun i => ⟨(h.wb k i).1, by have := (h.wb k i).2; omega⟩)
   have q4 := dot_c X (wantI offers k) 104 [.ep [[encOfs offers]] 0 0, .ep [[dI k]] 0 0] ox (by omega) zx (Nat.le_refl _) (fun i _ => ⟨(h.wb k i).1, by have := (h.wb k i).2; omega⟩) (fun _ => rfl) rfl (fun _ => rfl) (fun i hi => by
    have ho : offers[i]? = some (offers[i]'(by omega)) := List.getElem?_eq_getElem (by omega)
    exact chk1_c offers k i ho (h.want ho (by omega)).1)
   have sx := szI_le x hxb.1 (by omega)
   have q5 := fcompare_c (ofQ (dotI X (wantI offers k) X.length)) (ofQ (x : Rat)) (by rw [szF_ofQ]; omega) (by rw [szF_ofQ]; omega)
   have bad : matOk supply offers ⟨X, p, v⟩ k = false → D.v (.bool false) = dB R := fun e => bool_eq (by
    have : (List.range supply.length).all (matOk supply offers ⟨X, p, v⟩) = false := by
     rw [List.all_eq_false]
     exact ⟨k, List.mem_range.2 (by omega), by rw [e]; simp⟩
    rw [e0, this]; rfl)
   have em : matOk supply offers ⟨X, p, v⟩ k = (prOk f && decide (usedI offers X k ≤ (x : Rat))) := by
    simp only [matOk, fitsM, hf, hx, Option.map_some, Option.getD_some]
   rw [em] at bad
   cases h5 : okF f
   · rw [h5] at q1
     refine aGo (cj4 hres k0 h4 (cj4 h4p hx hf hw)) ?_
     repeat with_reducible intro K hK
     exact bad (by simp [prOk, h5])
   rw [h5] at q1
   by_cases h6 : sgnD f < 0
   · refine aGo (cj4 hres k0 h4 (cj4 h4p hx hf (cj2 hw h6))) ?_
     repeat with_reducible intro K hK
     exact bad (by have := (sgn_lt h5).1 h6; simp only [prOk, h5, Bool.true_and, Bool.and_eq_false_iff, decide_eq_false_iff_not]; left; grind)
   by_cases h7 : cmpD (ofQ (dotI X (wantI offers k) X.length)) (ofQ (x : Rat)) > 0
   · refine aGo (cj4 hres k0 h4 (cj4 h4p hx hf (cj3 hw h6 h7))) ?_
     repeat with_reducible intro K hK
     exact bad (by have := (cmp_gt (okF_ofQ _) (okF_ofQ _)).1 h7; rw [qOf_ofQ, qOf_ofQ] at this; simp only [Bool.and_eq_false_iff, decide_eq_false_iff_not]; right; unfold usedI; grind)
   refine aGo (cj4 hres k0 h4 (cj4 h4p hx hf (cj3 hw h6 h7))) ?_
   repeat with_reducible intro K hK
   exact loop_end (k + 1) ⟨by omega, by
    rw [List.range_succ, List.all_append, hg2, Bool.true_and]
    simp only [List.all_cons, List.all_nil, Bool.and_true]
    rw [em]
    have a := mt (sgn_lt h5).2 h6
    have b := mt (cmp_gt (okF_ofQ _) (okF_ofQ _)).2 h7
    rw [qOf_ofQ, qOf_ofQ] at b
    simp only [prOk, h5, Bool.true_and, Bool.and_eq_true, decide_eq_true_eq]
    unfold usedI
    constructor <;> grind⟩ (by omega) (by exact leGo trivial)
 obtain rfl : k = supply.length := by omega
 clear hk k0 hw
 rw [hg2, Bool.true_and] at e0
 have op : okP p = true := by
  have hg3 := List.all_eq_true.1 hg2
  refine List.all_eq_true.2 fun q hq => ?_
  obtain ⟨i, hi⟩ := List.getElem?_of_mem hq
  have hi' := (List.getElem?_eq_some_iff.1 hi).1
  have := hg3 i (List.mem_range.2 (by omega))
  simp only [matOk, hi, Option.map_some, Option.getD_some, prOk, Bool.and_eq_true] at this
  exact this.1.1
 have w1 := h.dot_sz ox (by omega) zx (Nat.le_refl _) (n := bidI offers) (fun i => h.pb i)
 have q1 := dot_c X (bidI offers) 105 [.ep [[encOfs offers]] 0 0] ox (by omega) zx (Nat.le_refl _) (fun i _ => h.pb i) (fun _ => rfl) rfl (fun _ => rfl) (fun i hi => by
  have ho : offers[i]? = some (offers[i]'(by omega)) := List.getElem?_eq_getElem (by omega)
  have := chk2_c offers i ho
  rw [(h.bid ho).1] at this; exact this)
 have q2 := dot_c p (fun k => supply[k]?.getD 0) 106 [.ep [[encInts supply]] 0 0] op (by omega) zp (Nat.le_refl _) (fun i _ => ⟨(h.sb i).1, by have := (h.sb i).2; omega⟩) (fun _ => rfl) rfl (fun _ => rfl) (fun i hi => by
  have hx : supply[i]? = some (supply[i]'(by omega)) := List.getElem?_eq_getElem (by omega)
  have e : supply[i]'(by omega) = supply[i]?.getD 0 := by rw [hx]; rfl
  rw [← e]; exact chk3_c supply i hx)
 refine aGo (cj2 hres h4) ?_
 repeat with_reducible intro K hK
 have b0 : dotI p (fun k => supply[k]?.getD 0) p.length = boundI supply offers p 0 := by unfold boundI paidI; simp only [sumN]; grind
 refine aLoopT (fun (k : Nat) => [(5, .lp 2 0 0 0), (11, .lp 3 0 0 0), (12, .lp 4 0 0 0), (101, encOfs offers), (102, dI offers.length), (103, dI k)])
  (fun k => [(2, ⟨44, 0, 6, [cDl ⟨X, p, v⟩], 0, false⟩), (3, ⟨32, 0, 4, [cF (ofQ (worthI offers X))], 0, false⟩), (4, ⟨32, 0, 4, [cF (ofQ (boundI supply offers p k))], 0, false⟩)]) 5 0 (fun k => k ≤ offers.length) (fun k => offers.length - k) 0 (by omega) ?_ ?_
 · have w0 : dotI X (bidI offers) X.length = worthI offers X := rfl
   exact leGo (cj2 b0 w0)
 rintro k hk
 obtain ⟨hw, k0⟩ := wrap2 k
 by_cases h5 : (k : Int) < offers.length
 · obtain ⟨o, ho⟩ := getE (l := offers) (k := k) (by omega)
   have hob := h.w o (mem_at ho)
   have q3 := nI_c o.price hob.2.2.1 (by omega)
   have q4 := cost44_c p o op (by omega) zp (Nat.le_refl _) (by omega) (fun x hx => ⟨(hob.2.1 x hx).1, by have := (hob.2.1 x hx).2; omega⟩)
   have cz := h.dot_sz op (by omega) zp (Nat.le_refl _) (n := fun i => wantI offers i k) (fun i => ⟨(h.wb i k).1, by have := (h.wb i k).2; omega⟩)
   have ec := h.cost_at (p := p) ho
   have cz' : (szQ (costI p o) : Int) ≤ 4500000 := by rw [ec]; exact cz
   have pz := szI_le o.price hob.2.2.1 hob.2.2.2
   have q5 := nsub_c (o.price : Rat) (costI p o) (by omega) (by omega)
   have gz : szQ ((o.price : Rat) - costI p o) ≤ 1 + szQ (o.price : Rat) + szQ (costI p o) := by
    rw [show (o.price : Rat) - costI p o = (o.price : Rat) + -(costI p o) by grind]
    have := szQ_add (o.price : Rat) (-(costI p o))
    rw [szQ_neg] at this
    omega
   have q6 := fsign_c (ofQ ((o.price : Rat) - costI p o)) (by rw [szF_ofQ]; omega)
   have bz := h.bound_sz op (by omega) zp (Nat.le_refl _) k
   have q7 := nadd_c (boundI supply offers p k) ((o.price : Rat) - costI p o) (by omega) (by omega)
   have eb : boundI supply offers p (k + 1) = boundI supply offers p k + max0 ((o.price : Rat) - costI p o) := by
    rw [h.bid_at ho, ec]
    unfold boundI; simp only [sumN]; grind
   by_cases h6 : sgnD (ofQ ((o.price : Rat) - costI p o)) > 0
   · have g := (sgn_gt (okF_ofQ _)).1 h6
     rw [qOf_ofQ] at g
     have em : max0 ((o.price : Rat) - costI p o) = (o.price : Rat) - costI p o := by unfold max0; rw [if_pos g]
     rw [em] at eb
     rw [← eb] at q7
     refine aGo (cj4 hres k0 h5 (cj3 ho hw h6)) ?_
     repeat with_reducible intro K hK
     exact loop_end (k + 1) (by omega) (by omega) (by exact leGo trivial)
   · have g := mt (sgn_gt (okF_ofQ _)).2 h6
     rw [qOf_ofQ] at g
     have em : max0 ((o.price : Rat) - costI p o) = 0 := by unfold max0; rw [if_neg g]
     rw [em] at eb
     have eb' : boundI supply offers p (k + 1) = boundI supply offers p k := by rw [eb]; grind
     refine aGo (cj4 hres k0 h5 (cj3 ho hw h6)) ?_
     repeat with_reducible intro K hK
     exact loop_end (k + 1) (by omega) (by omega) (by exact leGo eb')
 · obtain rfl : k = offers.length := by omega
   have q3 := fsame_c v (ofQ (worthI offers X))
   have q4 := fsame_c v (ofQ (boundI supply offers p offers.length))
   cases h6 : sameF v (ofQ (worthI offers X))
   · rw [h6] at q3 e0
     refine aGo (cj2 hres h5) ?_
     repeat with_reducible intro K hK
     exact bool_eq (by rw [e0]; rfl)
   · rw [h6, Bool.true_and] at e0
     rw [h6] at q3
     rw [← e0] at q4
     exact aGo (cj2 hres h5) trivial
theorem wrong1_c (f : FracD) (z : szF f ≤ 262144) : Contract Tryz.prog 110 [encF f] (dB (!okF f)) := by
 refine inC Tryz.func110 rfl Tryz.ntmps110 ?_
 have hres := Tryz.results110
 have q1 := fright_c f (by omega)
 cases h : okF f
 all_goals
  rw [h] at q1
  exact aGo hres trivial
def outF (l : List FracD) : Int := if okP l then -1 else l.findIdx (fun y => !okF y)
theorem outF_ge (l : List FracD) : decide (outF l ≥ 0) = !okP l := by
 unfold outF
 cases okP l
 · simp only [Bool.false_eq_true, if_false, Bool.not_false]; exact decide_eq_true (by omega)
 · rfl
theorem wrongI_c (l : List FracD) (hl : (l.length : Int) ≤ 4096) (hz : ∀ f ∈ l, szF f ≤ 262144) : Contract Tryz.prog 193 [encFs l, .clo 110 []] (dI (outF l)) := by
 refine inC Tryz.func193 rfl Tryz.ntmps193 ?_
 have hres := Tryz.results193
 refine aGo hres ?_
 repeat with_reducible intro K hK
 refine aLoopT (fun (k : Nat) => [(0, encFs l), (1, .clo 110 []), (7, dI l.length), (8, dI k)]) (fun _ => []) 0 0 (fun k => k ≤ l.length ∧ (l.take k).all okF = true) (fun k => l.length - k) 0 ⟨by omega, rfl⟩ ?_ ?_
 · exact leGo trivial
 · rintro k ⟨hk, hn⟩
   obtain ⟨hw, h0⟩ := wrap2 k
   by_cases h1 : (k : Int) < l.length
   · obtain ⟨f, hx⟩ := getE (l := l) (k := k) (by omega)
     have hc := wrong1_c f (hz f (mem_at hx))
     cases h2 : okF f
     · rw [h2] at hc
       refine aGo (cj4 hres h0 h1 (cj2 hx hw)) ?_
       repeat with_reducible intro K hK
       have : outF l = k := by
        have h3 : okP l = false := all_not hx h2
        simp only [outF, h3, any_take_no hx hn h2]; rfl
       rw [this]
     · rw [h2] at hc
       refine aGo (cj4 hres h0 h1 (cj2 hx hw)) ?_
       repeat with_reducible intro K hK
       exact loop_end (k + 1) ⟨by omega, all_take_succ hx hn h2⟩ (by omega) (by exact leGo trivial)
   · refine aGo (cj2 hres h1) ?_
     repeat with_reducible intro K hK
     rw [List.take_of_length_le (by omega)] at hn
     have : outF l = -1 := by have h3 : okP l = true := hn; simp only [outF, h3]; rfl
     rw [this]
theorem wrongC_c (l : List FracD) (hl : (l.length : Int) ≤ 4096) (hz : ∀ f ∈ l, szF f ≤ 262144) : Contract Tryz.prog 111 [encFs l, .clo 110 []] (dB (!okP l)) := by
 refine inC Tryz.func111 rfl Tryz.ntmps111 ?_
 have hres := Tryz.results111
 have hc := wrongI_c l hl hz
 refine aGo hres ?_
 repeat with_reducible intro K hK
 exact bool_eq (outF_ge _)
def payI (offers : List OffD) (d : DealD) (i : Nat) : Rat := atP d.x i * costK offers d.p i
def lenO (n : Nat) (o : OffD) : Bool := decide (o.wants.length = n)
def payOk (offers : List OffD) (d : DealD) : Bool := decide (offers.length = d.x.length) && (okP d.x && (okP d.p && offers.all (lenO d.p.length)))
def paysA (offers : List OffD) (d : DealD) : List FracD := if payOk offers d then fracsOf offers.length (payI offers d) else []
structure SmP (offers : List OffD) (d : DealD) : Prop where
 o : offers.length ≤ 15
 w : ∀ o ∈ offers, ∀ x ∈ o.wants, -9223372036854775808 ≤ x ∧ x ≤ 9223372036854775807
 lp : d.p.length ≤ 15
 lx : d.x.length ≤ 15
 zx : ∀ f ∈ d.x, szF f ≤ 262144
 zp : ∀ f ∈ d.p, szF f ≤ 262144
theorem cost_atA {offers : List OffD} {p : List FracD} {i : Nat} {o : OffD} (ho : offers[i]? = some o) : costI p o = costK offers p i := by
 unfold costI costK dotI
 refine sumN_congr _ fun k _ => ?_
 unfold wantI
 rw [ho]; rfl
theorem costI_sz {p : List FracD} {o : OffD} (op : okP p = true) (hl : p.length ≤ 16) (hz : ∀ f ∈ p, szF f ≤ 262144) (hw : o.wants.length = p.length) (hn : ∀ x ∈ o.wants, -9223372036854775808 ≤ x ∧ x ≤ 9223372036854775807) : (szQ (costI p o) : Int) ≤ 4500000 := by
 have ss := dotI_sz (n := fun i => o.wants[i]?.getD 0) (C := 4) op hz (fun i hi => by
  have e : o.wants[i]? = some (o.wants[i]'(by omega)) := List.getElem?_eq_getElem (by omega)
  have b := hn _ (List.mem_of_getElem? e)
  show szQ ((o.wants[i]?.getD 0 : Int) : Rat) ≤ 4
  rw [e, Option.getD_some]
  exact szQ_int _ b.1 (by omega)) p.length (Nat.le_refl _)
 have sk : p.length * (262144 + 4 + 1) ≤ 16 * (262144 + 4 + 1) := Nat.mul_le_mul_right _ (by omega)
 unfold costI
 omega
theorem paysA_c (offers : List OffD) (d : DealD) (S : SmP offers d) : Contract Tryz.prog 23 [encOfs offers, encDl d] (encFs (paysA offers d)) := by
 have hres := Tryz.results23
 obtain ⟨X, p, v⟩ := d
 obtain ⟨hn, hwi, lp, lx, zx, zp⟩ := S
 simp only at lp lx zx zp
 have e0 : payOk offers ⟨X, p, v⟩ = (decide (offers.length = X.length) && (okP X && (okP p && offers.all (lenO p.length)))) := rfl
 have bad : payOk offers ⟨X, p, v⟩ = false → paysA offers ⟨X, p, v⟩ = [] := fun h => by unfold paysA; rw [h]; rfl
 have good : payOk offers ⟨X, p, v⟩ = true → paysA offers ⟨X, p, v⟩ = fracsOf offers.length (payI offers ⟨X, p, v⟩) := fun h => by unfold paysA; rw [h]; rfl
 generalize paysA offers ⟨X, p, v⟩ = R at bad good ⊢
 generalize payOk offers ⟨X, p, v⟩ = B at bad good e0
 have q1 := wrongC_c X (by omega) zx
 have q2 := wrongC_c p (by omega) zp
 cases h1 : ((offers.length : Int) != X.length)
 rotate_left
 · obtain rfl := bad (by simp at h1; rw [e0, decide_eq_false (by omega)]; rfl)
   refine inC Tryz.func23 rfl Tryz.ntmps23 ?_
   refine aGo (cj2 hres h1) ?_
   repeat with_reducible intro K hK
   rfl
 have lX : offers.length = X.length := by simp at h1; omega
 rw [decide_eq_true lX, Bool.true_and] at e0
 cases ox : okP X
 · rw [ox] at q1 e0
   obtain rfl := bad e0
   refine inC Tryz.func23 rfl Tryz.ntmps23 ?_
   refine aGo (cj2 hres h1) ?_
   repeat with_reducible intro K hK
   rfl
 rw [ox] at q1 e0
 rw [Bool.true_and] at e0
 cases op : okP p
 · rw [op] at q2 e0
   obtain rfl := bad e0
   refine inC Tryz.func23 rfl Tryz.ntmps23 ?_
   refine aGo (cj2 hres h1) ?_
   repeat with_reducible intro K hK
   rfl
 rw [op] at q2 e0
 rw [Bool.true_and] at e0
 refine inC Tryz.func23 rfl Tryz.ntmps23 ?_
 refine aGo (cj2 hres h1) ?_
 repeat with_reducible intro K hK
 obtain ⟨F, hF⟩ : ∃ F : Nat → List FracD, F = fun n => fracsOf n (payI offers ⟨X, p, v⟩) := ⟨_, rfl⟩
 have F0 : F 0 = [] := by rw [hF]; rfl
 have Fs : ∀ n, F (n + 1) = F n ++ [ofQ (payI offers ⟨X, p, v⟩ n)] := fun n => by rw [hF]; simp only [fracsOf, List.range_succ, List.map_append]; rfl
 have Fl : ∀ n, (F n).length = n := fun n => by rw [hF]; exact fracs_len _ _
 have Fe : fracsOf offers.length (payI offers ⟨X, p, v⟩) = F offers.length := by rw [hF]
 refine aLe (le_row 6 32 4 rfl) ?_
 refine aLoopT (fun (k : Nat) => [(3, .lp 0 0 0 0), (6, .ls 1 k), (29, encOfs offers), (30, dI offers.length), (31, dI k)])
  (fun k => [(0, ⟨44, 0, 6, [cDl ⟨X, p, v⟩], 0, false⟩), (1, ⟨32, k, 4, (F k).map cF, 0, false⟩)]) 2 0 (fun k => k ≤ offers.length ∧ (offers.take k).all (lenO p.length) = true) (fun k => offers.length - k) 0 ⟨by omega, rfl⟩ ?_ ?_
 · exact leGo F0
 rintro k ⟨hk, hg⟩
 obtain ⟨hw, k0⟩ := wrap2 k
 by_cases h5 : (k : Int) < offers.length
 · obtain ⟨o, ho⟩ := getE (l := offers) (k := k) (by omega)
   obtain ⟨f, hf⟩ := getE (l := X) (k := k) (by omega)
   have h5x : (k : Int) < X.length := by omega
   have hob := hwi o (mem_at ho)
   cases h6 : ((o.wants.length : Int) != p.length)
   rotate_left
   · obtain rfl := bad (by rw [e0]; exact all_not ho (by simp at h6; simp [lenO]; omega))
     refine aGo (cj4 hres k0 h5 (cj3 ho hw h6)) ?_
     repeat with_reducible intro K hK
     rfl
   have h7 : o.wants.length = p.length := by simp at h6; omega
   have q4 := costA_c p o op (by omega) zp (Nat.le_refl _) h7 hob
   have ec := cost_atA (p := p) ho
   have cz' := costI_sz op (by omega) zp h7 hob
   have of := List.all_eq_true.1 ox f (mem_at hf)
   have zf := zx f (mem_at hf)
   have q5 := nmul_c (qOf f) (costI p o) (by rw [szF_ok of]; omega) (by omega)
   rw [← okF_eq of] at q5
   have e1 : ofQ (qOf f * costI p o) = ofQ (payI offers ⟨X, p, v⟩ k) := by unfold payI; rw [ec, at_get hf]
   rw [e1] at q5
   have F1 := Fs k
   have F2 := Fl k
   refine aGo (cj4 hres k0 h5 (cj4 h5x ho hf (cj3 hw h6 F2))) ?_
   repeat with_reducible intro K hK
   exact loop_end (k + 1) ⟨by omega, all_take_succ ho hg (by simp [lenO, h7])⟩ (by omega) (by exact leGo F1)
 · obtain rfl : k = offers.length := by omega
   rw [List.take_of_length_le (by omega)] at hg
   refine aGo (cj2 hres h5) ?_
   repeat with_reducible intro K hK
   rw [map_map_id (fun _ => rfl), good (by rw [e0]; exact hg), Fe]
theorem GoodD.payOk {supply : List Int} {offers : List OffD} {d : DealD} (G : GoodD supply offers d) : payOk offers d = true := by
 unfold Go.Proofs.YtpkdhmnlpnijhaaGreat.payOk
 rw [decide_eq_true G.lx.symm, G.ox, G.op]
 exact List.all_eq_true.2 fun o ho => by simp only [lenO, decide_eq_true_eq]; rw [(G.r.w o ho).1, G.lp]
theorem pays44_c (supply : List Int) (offers : List OffD) (d : DealD) (G : GoodD supply offers d) (zx : ∀ f ∈ d.x, szF f ≤ 262144) (zp : ∀ f ∈ d.p, szF f ≤ 262144) : Contract Tryz.prog 23 [encOfs offers, encDl d] (encFs (fracsOf offers.length (payI offers d))) := by
 have := paysA_c offers d ⟨by have := G.r.n1; omega, fun o ho x hx => by have := (G.r.w o ho).2.1 x hx; omega, by have := G.lp; have := G.r.m1; omega, by have := G.lx; have := G.r.n1; omega, zx, zp⟩
 unfold paysA at this
 rw [if_pos G.payOk] at this
 exact this
end Go.Proofs.YtpkdhmnlpnijhaaGreat
