/-
  The reference's market: Right.
-/
import Derived.Test.YtpkdhmnlpnijhaaGreatVMkB
import Derived.Test.YtpkdhmnlpnijhaaGreatVZB
import Derived.Test.YtpkdhmnlpnijhaaGreatVMkC
import Derived.Test.YtpkdhmnlpnijhaaGreatVMkD
import Derived.Test.YtpkdhmnlpnijhaaGreatVZL
namespace Go.Proofs.YtpkdhmnlpnijhaaGreat
set_option linter.unusedVariables false
set_option linter.unusedSimpArgs false
set_option linter.unusedSectionVars false
open Go Go.RowKit
set_option maxRecDepth 100000
set_option maxHeartbeats 8000000
theorem rright44_c (supply : List Int) (offers : List OffD) (h : SmM supply offers) : ContractN Tryz.prog 19 [encInts supply, encOfs offers] (dB (right44 supply offers)) := by
 refine Contract.toN ?_ rfl
 have hres := Tryz.results19
 obtain ⟨hs, ho, hw⟩ := h
 refine inC Tryz.func19 rfl Tryz.ntmps19 ?_
 by_cases h1 : (supply.length : Int) < 1
 · refine aGo (cj2 hres h1) ?_
   repeat with_reducible intro K hK
   exact bool_eq (by simp [right44]; omega)
 by_cases h2 : (supply.length : Int) > 6
 · refine aGo (cj3 hres h1 h2) ?_
   repeat with_reducible intro K hK
   exact bool_eq (by simp [right44]; omega)
 by_cases h3 : (offers.length : Int) > 12
 · refine aGo (cj4 hres h1 h2 h3) ?_
   repeat with_reducible intro K hK
   exact bool_eq (by simp [right44]; omega)
 have a1 : decide (1 ≤ supply.length) = true := decide_eq_true (by omega)
 have a2 : decide (supply.length ≤ 6) = true := decide_eq_true (by omega)
 have a3 : decide (offers.length ≤ 12) = true := decide_eq_true (by omega)
 have e0 : right44 supply offers = (betB 1000000 supply && offers.all (rightO supply.length)) := by simp only [right44, a1, a2, a3, Bool.true_and]
 rw [e0]
 refine aGo (cj4 hres h1 h2 h3) ?_
 repeat with_reducible intro K hK
 refine aLoopT (fun (k : Nat) => [(0, encInts supply), (1, encOfs offers), (5, dI k)]) (fun _ => []) 0 0 (fun k => k ≤ supply.length ∧ betB 1000000 (supply.take k) = true) (fun k => supply.length - k) 0 ⟨by omega, rfl⟩ ?_ ?_
 · exact leGo trivial
 rintro k ⟨hk, hg⟩
 obtain ⟨hw1, h0⟩ := wrap2 k
 by_cases h4 : (k : Int) < supply.length
 · obtain ⟨x, hx⟩ := getE (l := supply) (k := k) (by omega)
   have bad : inB 1000000 x = false → D.v (.bool false) = dB (betB 1000000 supply && offers.all (rightO supply.length)) := fun h => bool_eq (by rw [show betB 1000000 supply = false from all_not hx h]; rfl)
   by_cases h5 : x < 0
   · refine aGo (cj4 hres h0 h4 (cj2 hx h5)) ?_
     repeat with_reducible intro K hK
     exact bad (by simp [inB]; omega)
   by_cases h6 : x > 1000000
   · refine aGo (cj4 hres h0 h4 (cj3 hx h5 h6)) ?_
     repeat with_reducible intro K hK
     exact bad (by simp [inB]; omega)
   · refine aGo (cj4 hres h0 h4 (cj4 hx h5 h6 hw1)) ?_
     repeat with_reducible intro K hK
     exact loop_end (k + 1) ⟨by omega, all_take_succ hx hg (by simp [inB]; omega)⟩ (by omega) (by exact leGo trivial)
 obtain rfl : k = supply.length := by omega
 rw [List.take_length] at hg
 refine aGo (cj2 hres h4) ?_
 repeat with_reducible intro K hK
 clear hw1 h0 h4 hk
 refine aLoopT (fun (k : Nat) => [(0, encInts supply), (1, encOfs offers), (6, dI k)]) (fun _ => []) 0 0 (fun k => k ≤ offers.length ∧ (offers.take k).all (rightO supply.length) = true) (fun k => offers.length - k) 0 ⟨by omega, rfl⟩ ?_ ?_
 · exact leGo trivial
 rintro k ⟨hk, hq⟩
 obtain ⟨hw1, h0⟩ := wrap2 k
 by_cases h5 : (k : Int) < offers.length
 rotate_left
 · refine aGo (cj2 hres h5) ?_
   repeat with_reducible intro K hK
   rw [List.take_of_length_le (by omega)] at hq
   exact bool_eq (by rw [hg, hq]; rfl)
 obtain ⟨o, hx⟩ := getE (l := offers) (k := k) (by omega)
 have bad : rightO supply.length o = false → D.v (.bool false) = dB (betB 1000000 supply && offers.all (rightO supply.length)) := fun h => bool_eq (by rw [hg, all_not hx h]; rfl)
 cases h6 : (o.wants.length : Int) != supply.length
 rotate_left
 · refine aGo (cj4 hres h0 h5 (cj2 hx h6)) ?_
   repeat with_reducible intro K hK
   exact bad (by simp at h6; simp [rightO]; omega)
 have h6' : o.wants.length = supply.length := by simp at h6; omega
 by_cases h7 : o.price < 0
 · refine aGo (cj4 hres h0 h5 (cj3 hx h6 h7)) ?_
   repeat with_reducible intro K hK
   exact bad (by simp [rightO, betB, inB]; omega)
 by_cases h8 : o.price > 1125899906842624
 · refine aGo (cj4 hres h0 h5 (cj4 hx h6 h7 h8)) ?_
   repeat with_reducible intro K hK
   exact bad (by simp [rightO, betB, inB]; omega)
 have hp : betB 1125899906842624 [o.price] = true := by simp [betB, inB]; omega
 refine aGo (cj4 hres h0 h5 (cj4 hx h6 h7 h8)) ?_
 repeat with_reducible intro K hK
 refine aLoopT (fun (j : Nat) => [(0, encInts supply), (1, encOfs offers), (6, dI k), (7, dI j)]) (fun _ => []) 0 0 (fun j => j ≤ supply.length ∧ betB 1000000 (o.wants.take j) = true) (fun j => supply.length - j) 0 ⟨by omega, rfl⟩ ?_ ?_
 · exact leGo trivial
 rintro j ⟨hj, hr⟩
 obtain ⟨hw2, j0⟩ := wrap2 j
 by_cases h9 : (j : Int) < supply.length
 rotate_left
 · refine aGo (cj3 hres h9 hw1) ?_
   repeat with_reducible intro K hK
   rw [List.take_of_length_le (by omega)] at hr
   exact loop_end (k + 1) ⟨by omega, all_take_succ hx hq (by simp [rightO, h6', hr, hp])⟩ (by omega) (by exact leGo trivial)
 obtain ⟨x, hy⟩ := getE (l := o.wants) (k := j) (by omega)
 have j1 : (j : Int) < o.wants.length := by omega
 by_cases g1 : x < 0
 · refine aGo (cj4 hres h0 h5 (cj4 hx j0 h9 (cj3 j1 hy g1))) ?_
   repeat with_reducible intro K hK
   exact bad (by simp [rightO, show betB 1000000 o.wants = false from all_not hy (by simp [inB]; omega)])
 by_cases g2 : x > 1000000
 · refine aGo (cj4 hres h0 h5 (cj4 hx j0 h9 (cj4 j1 hy g1 g2))) ?_
   repeat with_reducible intro K hK
   exact bad (by simp [rightO, show betB 1000000 o.wants = false from all_not hy (by simp [inB]; omega)])
 · refine aGo (cj4 hres h0 h5 (cj4 hx j0 h9 (cj4 j1 hy g1 (cj2 g2 hw2)))) ?_
   repeat with_reducible intro K hK
   exact loop_end (j + 1) ⟨by omega, all_take_succ hy hr (by simp [inB]; omega)⟩ (by omega) (by exact leGo trivial)
def dealA (supply : List Int) (A : OptD) : DealD := ⟨A.x, (A.y.take supply.length).map negD, negD A.v⟩
theorem deal_goodA {supply : List Int} {offers : List OffD} (h : RightM supply offers) {A : OptD} (hA : checkD (sysM (mkt supply offers)) (goalM (mkt supply offers)) A = true) : GoodD supply offers (dealA supply A) := by
 have hn := h.n1
 have hm := h.m1
 obtain ⟨_, lx, ly, ox, oy, hD, hp, he, hv⟩ := sysM_best (M := mkt supply offers) (by show offers.length ≤ 700; omega) (by show supply.length ≤ 700; omega) (fun k _ => by have := h.sb k; show (0 : Rat) ≤ ((supply[k]?.getD 0 : Int) : Rat); exact Rat.intCast_nonneg.2 this.1) hA
 have ly' : A.y.length = supply.length + offers.length := ly
 have ea : ∀ k, k < supply.length → atP ((A.y.take supply.length).map negD) (k : Nat) = -(atP A.y (k : Nat)) := fun k hk => at_neg oy hk (by omega)
 have ec : ∀ i, (mkt supply offers).cost (fun k => atP ((A.y.take supply.length).map negD) k) i = (mkt supply offers).cost (fun k => -(atP A.y k)) i := fun i => sumN_congr _ fun k hk => by show atP ((A.y.take supply.length).map negD) (k : Nat) * _ = -(atP A.y (k : Nat)) * _; rw [ea k hk]
 refine ⟨h, lx, by show ((A.y.take supply.length).map negD).length = supply.length; rw [List.length_map, List.length_take, ly']; omega, ox, okP_neg (List.all_eq_true.2 fun f hf => List.all_eq_true.1 oy f (List.mem_of_mem_take hf)), ⟨hD, fun k hk => by show 0 ≤ atP ((A.y.take supply.length).map negD) (k : Nat); rw [ea k hk]; exact hp k hk, ?_⟩, ?_⟩
 · refine he.trans ?_
   unfold Mkt.bound
   congr 1
   · exact (sumN_congr _ fun k hk => by show atP ((A.y.take supply.length).map negD) (k : Nat) * _ = _; rw [ea k hk]).symm
   · exact sumN_congr _ fun i _ => by rw [← ec i]; rfl
 · show negD A.v = ofQ ((mkt supply offers).worth fun i => atP A.x i)
   rw [hv, negD_ofQ, Rat.neg_neg]
noncomputable def optR (supply : List Int) (offers : List OffD) : OptD := leastR (sysM (mkt supply offers)) (goalM (mkt supply offers))
noncomputable def bestR (supply : List Int) (offers : List OffD) : DealD × Int := if right44 supply offers then (dealA supply (optR supply offers), 0) else (zDl, 1)
section
variable {supply : List Int} {offers : List OffD} (h : RightM supply offers)
include h
theorem RightM.sys : rightS (sysM (mkt supply offers)) = true := sysM_right (by have := h.n1; show offers.length ≤ 700; omega) (by have := h.m1; show supply.length ≤ 700; omega)
theorem RightM.optR : checkD (sysM (mkt supply offers)) (goalM (mkt supply offers)) (optR supply offers) = true := leastR_check h.sys goalM_right
theorem RightM.good : GoodD supply offers (dealA supply (Go.Proofs.YtpkdhmnlpnijhaaGreat.optR supply offers)) := deal_goodA h h.optR
theorem RightM.same_v : (Go.Proofs.YtpkdhmnlpnijhaaGreat.optR supply offers).v = (optM supply offers).v := (leastR_agrees h.sys goalM_right).2
theorem RightM.rfit (h6 : offers.length ≤ 6) : RFit (sysM (mkt supply offers)) (goalM (mkt supply offers)) 4 6 := by
 have F := h.fit h6
 have hm := h.m1
 have tl : ∀ f : Nat → Rat, (termsOf offers.length f).length ≤ 6 := fun f => by have := termsOf_len f offers.length; omega
 refine ⟨F.l, F.n, fun w hw => ⟨?_, (F.w w hw).2⟩, ⟨tl _, F.g.2⟩, by decide, by decide⟩
 simp only [sysM, List.mem_append, List.mem_map] at hw
 rcases hw with ⟨k, _, rfl⟩ | ⟨i, _, rfl⟩
 · exact tl _
 · show 1 ≤ 6; decide
end
set_option maxHeartbeats 16000000
theorem rterms_c (n : Nat) (f : Nat → Int) (hl : n ≤ 16) (hn : ∀ i, i < n → -1125899906842624 ≤ f i ∧ f i ≤ 1125899906842624) : Contract Tryz.prog 88 [encInts ((List.range n).map f)] (encTs (termsOf n fun i => (f i : Rat))) := by
 have hres := Tryz.results88
 obtain ⟨c, hc⟩ : ∃ c : Nat → Rat, (fun i => (f i : Rat)) = c := ⟨_, rfl⟩
 have hci : ∀ i, (f i : Rat) = c i := fun i => by rw [← hc]
 rw [hc]
 have ht0 := termsOf_zero c
 obtain ⟨L, hL⟩ : ∃ L, (List.range n).map f = L := ⟨_, rfl⟩
 have hLl : L.length = n := by rw [← hL]; simp
 have hLg : ∀ u, u < n → L[u]? = some (f u) := fun u hu => by rw [← hL, List.getElem?_map, List.getElem?_range hu]; rfl
 rw [hL]
 refine inC Tryz.func88 rfl Tryz.ntmps88 ?_
 refine aGo hres ?_
 repeat with_reducible intro K hK
 refine aLe (le_row 3 107 5 rfl) ?_
 refine aLoopT (fun (u : Nat) => [(0, encInts L), (3, .ls 0 (termsOf u c).length), (4, dI u)]) (fun u => [(0, ⟨107, (termsOf u c).length, 5, (termsOf u c).map cT, 0, false⟩)]) 1 0 (fun u => u ≤ n) (fun u => n - u) 0 (by omega) ?_ ?_
 · exact leGo ht0
 rintro u hu
 obtain ⟨hwu, u0⟩ := wrap2 u
 have htl := termsOf_len c u
 by_cases h1 : (u : Int) < L.length
 · obtain ⟨n0, n1⟩ := hn u (by omega)
   have hx := hLg u (by omega)
   have ki := rint_c (f u) (by omega) (by omega)
   rw [hci] at ki
   by_cases h7 : f u = 0
   · have h8 : (f u != 0) = false := by simp [h7]
     have e3 := termsOf_skip (c := c) (n := u) (by rw [← hci, h7]; rfl)
     refine aGo (cj4 hres u0 h1 (cj3 hwu hx h8)) ?_
     repeat with_reducible intro K hK
     exact loop_end (u + 1) (by omega) (by omega) (by exact leGo e3)
   · have h8 : (f u != 0) = true := by simp [h7]
     have e3 := termsOf_yes (c := c) (n := u) (by rw [← hci]; exact_mod_cast h7)
     refine aGo (cj4 hres u0 h1 (cj3 hwu hx h8)) ?_
     repeat with_reducible intro K hK
     exact loop_end (u + 1) (by omega) (by omega) (by exact leGo e3)
 · obtain rfl : u = n := by omega
   refine aGo (cj2 hres h1) ?_
   repeat with_reducible intro K hK
   rw [map_map_id (fun _ => rfl)]
theorem times_neg1 {n : Nat} (hn : n ≤ 700) (f : Nat → Rat) : timesD (termsOf n f) (ofQ ((-1 : Int) : Rat)) = termsOf n fun i => -(f i) := by
 have hr : rightT (termsOf n f) 1500 = true := termsOf_right (by omega)
 rw [timesD_yes hr (by decide +kernel)]
 unfold termsOf
 rw [List.map_filterMap]
 congr 1
 funext v
 by_cases h : f v = 0
 · have h2 : -(f v) = 0 := by grind
   rw [if_pos h, if_pos h2]; rfl
 · have h2 : ¬ -(f v) = 0 := by grind
   rw [if_neg h, if_neg h2]
   show some (mulT _ _) = _
   unfold mulT
   simp only
   rw [qOf_ofQ, qOf_ofQ, show f v * ((-1 : Int) : Rat) = -(f v) by rw [show ((-1 : Int) : Rat) = -1 from rfl]; grind]
theorem RightM.tnR {supply : List Int} {offers : List OffD} (h : RightM supply offers) (h6 : offers.length ≤ 6) : tnO (Go.Proofs.YtpkdhmnlpnijhaaGreat.optR supply offers) := by
 have tn := least_tnB (h.fit h6) (by rw [sysM_n, show Dic.grow 4 6 = 17749 from rfl]; show (offers.length + 1) * (17749 + 4 + 1) ≤ 262144; omega) (by have := termsOf_len (fun i => -((mkt supply offers).P i)) offers.length; rw [show Dic.grow 4 6 = 17749 from rfl]; show ((termsOf offers.length fun i => -((mkt supply offers).P i)).length + 1) * (17749 + 4 + 1) ≤ 262144; omega) h.sys goalM_right
 exact leastR_tn (h.rfit h6) h.sys goalM_right (by have := h.same_v; unfold Go.Proofs.YtpkdhmnlpnijhaaGreat.optR at this; rw [this]; exact tn.1)
theorem rbest44_c (supply : List Int) (offers : List OffD) (h6 : right44 supply offers = true → offers.length ≤ 6) (sm : SmM supply offers) : Contract Tryz.prog 17 [encInts supply, encOfs offers] (.tup [encDl (bestR supply offers).1, dI (bestR supply offers).2]) := by
 have hres := Tryz.results17
 have kr := rright44_c supply offers sm
 cases hr : right44 supply offers
 · rw [hr] at kr
   rw [show bestR supply offers = (zDl, 1) by unfold bestR; rw [hr]; rfl]
   refine inC Tryz.func17 rfl Tryz.ntmps17 ?_
   refine aGo hres ?_
   repeat with_reducible intro K hK
   rfl
 rw [hr] at kr
 have h := right44_iff.1 hr
 have h6 := h6 hr
 have hm1 := h.m1
 have hm0 := h.m0
 have R := h.rfit h6
 have F := h.fit h6
 have hopt := h.optR
 obtain ⟨o0, ox, oy, opx, opy, _, _, _, ov⟩ := sysM_best (M := mkt supply offers) (by have := h.n1; show offers.length ≤ 700; omega) (by have := h.m1; show supply.length ≤ 700; omega) (fun k _ => by have := h.sb k; show (0 : Rat) ≤ ((supply[k]?.getD 0 : Int) : Rat); exact Rat.intCast_nonneg.2 this.1) hopt
 have kl := zleast_c (sysM (mkt supply offers)) (goalM (mkt supply offers)) R.big
 rw [show leastRD (sysM (mkt supply offers)) (goalM (mkt supply offers)) = (optR supply offers, 0) by unfold leastRD optR; rw [h.sys, goalM_right]; rfl] at kl
 rw [show bestR supply offers = (dealA supply (optR supply offers), 0) by unfold bestR; rw [hr]; rfl]
 refine inC Tryz.func17 rfl Tryz.ntmps17 ?_
 refine aGo hres ?_
 repeat with_reducible intro K hK
 clear kr
 refine aLe (le_rowIn 1 0 1 61 6 rfl rfl rfl) ?_
 have eA0 : rowsA (mkt supply offers) 0 = [] := rfl
 have nn : offers.length ≤ 16 := by omega
 refine aLoopT (fun (k : Nat) => [(0, encInts supply), (1, encOfs offers), (4, .lp 0 0 0 0), (6, .lp 1 0 0 0), (7, dI k)])
  (fun k => [(0, ⟨44, 0, 6, [[.nil, .nil, dI 0, .nil, dI 0, .nil]], 0, false⟩), (1, ⟨24, 0, 2, [[dI offers.length, .ls 2 k]], 0, false⟩), (2, ⟨61, k, 6, (rowsA (mkt supply offers) k).map cW, 0, false⟩)]) 3 0 (fun k => k ≤ supply.length) (fun k => supply.length - k) 0 (by omega) ?_ ?_
 · exact leGo eA0
 rintro k hk
 obtain ⟨hw, k0⟩ := wrap2 k
 have hla := rowsA_len (mkt supply offers) k
 by_cases h1 : (k : Int) < supply.length
 · obtain ⟨x, hx⟩ := getE (l := supply) (k := k) (by omega)
   have hxb := h.s x (mem_at hx)
   have kx := rint_c x (by omega) (by omega)
   have kw := rwants_c h k (by omega)
   have kt := rterms_c offers.length (wantI offers k) nn (fun i _ => by have := h.wb k i; omega)
   rw [show (List.range offers.length).map (wantI offers k) = wantsL offers k from rfl] at kt
   have er := rowsA_succ (mkt supply offers) k
   have ew : supW (mkt supply offers) k = ⟨termsOf offers.length fun i => (wantI offers k i : Rat), 1, ofQ (x : Rat)⟩ := by
    show (⟨_, _, ofQ ((supply[k]?.getD 0 : Int) : Rat)⟩ : RowD) = _
    rw [hx]; rfl
   rw [ew] at er
   generalize wantsL offers k = WL at *
   refine aGo (cj4 hres k0 h1 (cj3 hx hw hla)) ?_
   repeat with_reducible intro K hK
   exact loop_end (k + 1) (by omega) (by omega) (by exact leGo er)
 obtain rfl : k = supply.length := by omega
 refine aGo (cj2 hres h1) ?_
 repeat with_reducible intro K hK
 have eB0 : rowsA (mkt supply offers) supply.length = rowsB (mkt supply offers) 0 := (rowsB_zero _).symm
 have kO := rint_c 1 (by decide) (by decide)
 rw [show ((1 : Int) : Rat) = 1 from rfl] at kO
 refine aLoopT (fun (i : Nat) => [(0, encInts supply), (1, encOfs offers), (4, .lp 0 0 0 0), (6, .lp 1 0 0 0), (8, dI i)])
  (fun i => [(0, ⟨44, 0, 6, [[.nil, .nil, dI 0, .nil, dI 0, .nil]], 0, false⟩), (1, ⟨24, 0, 2, [[dI offers.length, .ls 2 (supply.length + i)]], 0, false⟩), (2, ⟨61, supply.length + i, 6, (rowsB (mkt supply offers) i).map cW, 0, false⟩)]) 3 0 (fun i => i ≤ offers.length) (fun i => offers.length - i) 0 (by omega) ?_ ?_
 · exact leGo eB0
 rintro i hi
 obtain ⟨hwi, i0⟩ := wrap2 i
 have hlb := rowsB_len (mkt supply offers) i
 by_cases h2 : (i : Int) < offers.length
 · have hlb2 : (((rowsB (mkt supply offers) i).length + 1 : Nat) : Int) ≤ 100 := by rw [hlb]; show ((supply.length + i + 1 : Nat) : Int) ≤ 100; omega
   refine aGo (cj4 hres i0 h2 (cj2 hwi hlb)) ?_
   repeat with_reducible intro K hK
   refine loop_end (i + 1) (by omega) (by omega) ?_
   refine (le_kill 3 rfl).trans ((le_cellsT 2 3 (es' := (rowsB (mkt supply offers) (i + 1)).map cW) rfl ?_).trans ?_)
   · rw [rowsB_succ, List.map_append, List.map_append, map_map_id (fun _ => rfl)]
     refine congrArg (List.map cW (rowsB (mkt supply offers) i) ++ ·) ?_
     simp only [go_sem, fzT, List.map]
     rfl
   · have ea : supply.length + (i + 1) = supply.length + i + 1 := by omega
     exact leGo ea
 obtain rfl : i = offers.length := by omega
 have eS : rowsB (mkt supply offers) offers.length = (sysM (mkt supply offers)).r := rfl
 refine aLe (le_kill 2 rfl) (aLe (le_cellsT 1 3 (es' := [cS (sysM (mkt supply offers))]) rfl ?_) ?_)
 · simp only [go_sem, fzT, List.map]
   rw [map_map_id (fun _ => rfl), eS]
   rfl
 have tn := h.tnR h6
 have ly0 : ((supply.length : Nat) : Int) ≤ (optR supply offers).y.length := by rw [oy]; show ((supply.length : Nat) : Int) ≤ ((supply.length + offers.length : Nat) : Int); omega
 have m0 : (0 : Int) ≤ supply.length := by omega
 have kb := rbids_c h
 have kt := rterms_c offers.length (bidI offers) nn (fun i _ => by have := h.pb i; omega)
 rw [show (List.range offers.length).map (bidI offers) = bidsL offers from rfl] at kt
 have zt : smT (termsOf offers.length fun i => (bidI offers i : Rat)) := by
  refine ⟨by have := termsOf_len (fun i => (bidI offers i : Rat)) offers.length; omega, fun t ht => ?_⟩
  simp only [termsOf, List.mem_filterMap, List.mem_range] at ht
  obtain ⟨u, _, hu⟩ := ht
  split at hu
  · cases hu
  · cases hu
    have := h.pb u
    have := szI_le (bidI offers u) this.1 this.2
    show (szQ (bidI offers u : Rat) : Int) ≤ 4194304
    omega
 have km := rint_c (-1) (by decide) (by decide)
 have kx := rtimesT_c _ (ofQ ((-1 : Int) : Rat)) zt (by unfold smF; decide +kernel)
 rw [times_neg1 (by omega), show (termsOf offers.length fun i => -(bidI offers i : Rat)) = goalM (mkt supply offers) from rfl] at kx
 have kv := rnegA_c (optR supply offers).v (by have := tn.1; unfold tnF at this; omega)
 refine aGo (cj3 hres h2 m0) ?_
 repeat with_reducible intro K hK
 have zY : ∀ f ∈ (optR supply offers).y, (szF f : Int) ≤ 549755813888 := fun f hf => by
  have := tn.2.2.1.2 f hf
  unfold tnF at this; omega
 clear kl kx kt kb kv km kO ov o0 opx opy ox oy tn zt hopt R F eS eB0 eA0
 generalize optR supply offers = O at *
 obtain ⟨F, hF⟩ : ∃ F : Nat → List FracD, F = fun j => (O.y.take j).map negD := ⟨_, rfl⟩
 have F0 : F 0 = [] := by rw [hF]; rfl
 have Fl : ∀ j, j ≤ supply.length → (F j).length = j := fun j hj => by rw [hF]; simp only [List.length_map, List.length_take]; omega
 have Fs : ∀ j f, O.y[j]? = some f → F (j + 1) = F j ++ [negD f] := fun j f h => by rw [hF]; simp only; rw [List.take_add_one, h]; simp
 have eD : dealA supply O = ⟨O.x, F supply.length, negD O.v⟩ := by rw [hF]; rfl
 generalize negD O.v = av at *
 refine aLe (le_rowIn (b := ⟨44, 0, 6, [encFs O.x :: .nil :: cF av], 0, false⟩) (e := encFs O.x :: .nil :: cF av) 4 0 1 32 4 rfl rfl rfl) ?_
 refine aLoopT (fun (j : Nat) => [(0, encInts supply), (4, .lp 0 0 0 0), (9, .lp 3 0 0 0), (11, .lp 4 0 0 0), (12, dI j)])
  (fun j => [(0, ⟨44, 0, 6, [[.nil, .nil, dI 0, .nil, dI 0, .nil]], 0, false⟩), (3, ⟨35, 0, 8, [cO O], 0, false⟩), (4, ⟨44, 0, 6, [encFs O.x :: .ls 5 j :: cF av], 0, false⟩), (5, ⟨32, j, 4, (F j).map cF, 0, false⟩)]) 6 0 (fun j => j ≤ supply.length) (fun j => supply.length - j) 0 (by omega) ?_ ?_
 · exact leGo F0
 rintro j hj
 obtain ⟨hwj, j0⟩ := wrap2 j
 by_cases h3 : (j : Int) < supply.length
 · obtain ⟨f, hf⟩ := getE (l := O.y) (k := j) (by omega)
   have kf := rnegA_c f (zY f (mem_at hf))
   have F1 := Fs j f hf
   have F2 := Fl j (by omega)
   have h3Z : (j : Int) < O.y.length := by omega
   refine aGo (cj4 hres j0 h3 (cj4 h3Z hf hwj F2)) ?_
   repeat with_reducible intro K hK
   exact loop_end (j + 1) (by omega) (by omega) (by exact leGo F1)
 · obtain rfl : j = supply.length := by omega
   refine aLe (le_kill 5 rfl) (aLe (le_cellsT 4 3 (es' := [cDl ⟨O.x, F supply.length, av⟩]) rfl ?_) ?_)
   · simp only [go_sem, fzT, List.map]
     rw [map_map_id (fun _ => rfl)]
   refine aGo (cj2 hres h3) ?_
   repeat with_reducible intro K hK
   rw [eD]
theorem rpaysA_c (offers : List OffD) (d : DealD) (S : SmP offers d) : Contract Tryz.prog 24 [encOfs offers, encDl d] (encFs (paysA offers d)) := by
 have hres := Tryz.results24
 obtain ⟨X, p, v⟩ := d
 obtain ⟨hn, hwi, lp, lx, zx, zp⟩ := S
 simp only at lp lx zx zp
 have e0 : payOk offers ⟨X, p, v⟩ = (decide (offers.length = X.length) && (okP X && (okP p && offers.all (lenO p.length)))) := rfl
 have bad : payOk offers ⟨X, p, v⟩ = false → paysA offers ⟨X, p, v⟩ = [] := fun h => by unfold paysA; rw [h]; rfl
 have good : payOk offers ⟨X, p, v⟩ = true → paysA offers ⟨X, p, v⟩ = fracsOf offers.length (payI offers ⟨X, p, v⟩) := fun h => by unfold paysA; rw [h]; rfl
 generalize paysA offers ⟨X, p, v⟩ = R at bad good ⊢
 generalize payOk offers ⟨X, p, v⟩ = B at bad good e0
 have q1 := rpoint_c X ⟨by omega, fun f hf => by have := zx f hf; unfold smF; omega⟩
 have q2 := rpoint_c p ⟨by omega, fun f hf => by have := zp f hf; unfold smF; omega⟩
 cases h1 : ((offers.length : Int) != X.length)
 rotate_left
 · obtain rfl := bad (by simp at h1; rw [e0, decide_eq_false (by omega)]; rfl)
   refine inC Tryz.func24 rfl Tryz.ntmps24 ?_
   refine aGo (cj2 hres h1) ?_
   repeat with_reducible intro K hK
   rfl
 have lX : offers.length = X.length := by simp at h1; omega
 rw [decide_eq_true lX, Bool.true_and] at e0
 cases ox : okP X
 · rw [ox] at q1 e0
   obtain rfl := bad e0
   refine inC Tryz.func24 rfl Tryz.ntmps24 ?_
   refine aGo (cj2 hres h1) ?_
   repeat with_reducible intro K hK
   rfl
 rw [ox] at q1 e0
 rw [Bool.true_and] at e0
 cases op : okP p
 · rw [op] at q2 e0
   obtain rfl := bad e0
   refine inC Tryz.func24 rfl Tryz.ntmps24 ?_
   refine aGo (cj2 hres h1) ?_
   repeat with_reducible intro K hK
   rfl
 rw [op] at q2 e0
 rw [Bool.true_and] at e0
 refine inC Tryz.func24 rfl Tryz.ntmps24 ?_
 refine aGo (cj2 hres h1) ?_
 repeat with_reducible intro K hK
 obtain ⟨F, hF⟩ : ∃ F : Nat → List FracD, F = fun n => fracsOf n (payI offers ⟨X, p, v⟩) := ⟨_, rfl⟩
 have F0 : F 0 = [] := by rw [hF]; rfl
 have Fs : ∀ n, F (n + 1) = F n ++ [ofQ (payI offers ⟨X, p, v⟩ n)] := fun n => by rw [hF]; simp only [fracsOf, List.range_succ, List.map_append]; rfl
 have Fl : ∀ n, (F n).length = n := fun n => by rw [hF]; exact fracs_len _ _
 have Fe : fracsOf offers.length (payI offers ⟨X, p, v⟩) = F offers.length := by rw [hF]
 refine aLe (le_row 5 32 4 rfl) ?_
 refine aLoopT (fun (k : Nat) => [(0, encOfs offers), (3, .lp 0 0 0 0), (5, .ls 1 k), (6, dI k)])
  (fun k => [(0, ⟨44, 0, 6, [cDl ⟨X, p, v⟩], 0, false⟩), (1, ⟨32, k, 4, (F k).map cF, 0, false⟩)]) 2 0 (fun k => k ≤ offers.length ∧ (offers.take k).all (lenO p.length) = true) (fun k => offers.length - k) 0 ⟨by omega, rfl⟩ ?_ ?_
 · exact leGo F0
 rintro k ⟨hk, hg⟩
 obtain ⟨hw, k0⟩ := wrap2 k
 by_cases h5 : (k : Int) < offers.length
 · obtain ⟨o, ho⟩ := getE (l := offers) (k := k) (by omega)
   obtain ⟨f, hf⟩ := getE (l := X) (k := k) (by omega)
   have h5x : (k : Int) < X.length := by omega
   have hob := hwi o (mem_at ho)
   cases h6 : ((o.wants.length : Int) != p.length)
   rotate_left
   · obtain rfl := bad (by rw [e0]; exact all_not ho (by simp at h6; simp [lenO]; omega))
     refine aGo (cj4 hres k0 h5 (cj3 ho hw h6)) ?_
     repeat with_reducible intro K hK
     rfl
   have h7 : o.wants.length = p.length := by simp at h6; omega
   have q4 := rdotA_c p o.wants op (by omega) zp (Nat.le_refl _) h7 hob
   rw [show costW p o.wants = costI p o from rfl] at q4
   have ec := cost_atA (p := p) ho
   have cz' := costI_sz op (by omega) zp h7 hob
   have of := List.all_eq_true.1 ox f (mem_at hf)
   have zf := zx f (mem_at hf)
   have q5 := rmulF_c f (ofQ (costI p o)) (by omega) (by rw [szF_ofQ]; omega)
   have e1 : mulD f (ofQ (costI p o)) = (ofQ (payI offers ⟨X, p, v⟩ k), 0) := by rw [okF_eq of, mulD_ofQ]; unfold payI; rw [ec, at_get hf]
   rw [e1] at q5
   have F1 := Fs k
   have F2 := Fl k
   refine aGo (cj4 hres k0 h5 (cj4 h5x ho hf (cj3 hw h6 F2))) ?_
   repeat with_reducible intro K hK
   exact loop_end (k + 1) ⟨by omega, all_take_succ ho hg (by simp [lenO, h7])⟩ (by omega) (by exact leGo F1)
 · obtain rfl : k = offers.length := by omega
   rw [List.take_of_length_le (by omega)] at hg
   refine aGo (cj2 hres h5) ?_
   repeat with_reducible intro K hK
   rw [map_map_id (fun _ => rfl), good (by rw [e0]; exact hg), Fe]
section
variable {supply : List Int} {offers : List OffD} (h : RightM supply offers)
include h
theorem rbound44_c (p : List FracD) (op : okP p = true) (lp : p.length = supply.length) (zp : ∀ f ∈ p, szF f ≤ 262144) : Contract Tryz.prog 99 [encInts supply, encOfs offers, encFs p] (encF (ofQ (boundI supply offers p offers.length))) := by
 have hres := Tryz.results99
 have hm := h.m1
 have hn := h.n1
 have q0 := rdotA_c p supply op (by omega) zp (Nat.le_refl _) lp.symm (fun x hx => by have := h.s x hx; omega)
 have b0 : costW p supply = boundI supply offers p 0 := by unfold boundI paidI costW; simp only [sumN]; grind
 rw [b0] at q0
 refine inC Tryz.func99 rfl Tryz.ntmps99 ?_
 refine aGo hres ?_
 repeat with_reducible intro K hK
 refine aLoopT (fun (k : Nat) => [(1, encOfs offers), (2, encFs p), (6, .lp 0 0 0 0), (7, .lp 1 0 0 0), (8, dI k)])
  (fun k => [(0, ⟨32, 0, 4, [zc], 0, false⟩), (1, ⟨32, 0, 4, [cF (ofQ (boundI supply offers p k))], 0, false⟩)]) 2 0 (fun k => k ≤ offers.length) (fun k => offers.length - k) 0 (by omega) ?_ ?_
 · exact leGo trivial
 rintro k hk
 obtain ⟨hw, k0⟩ := wrap2 k
 by_cases h5 : (k : Int) < offers.length
 · obtain ⟨o, ho⟩ := getE (l := offers) (k := k) (by omega)
   have hob := h.w o (mem_at ho)
   have q3 := rint_c o.price (by omega) (by omega)
   have q4 := rdotA_c p o.wants op (by omega) zp (Nat.le_refl _) (by omega) (fun x hx => by have := hob.2.1 x hx; omega)
   rw [show costW p o.wants = costI p o from rfl] at q4
   have ec := cost_atA (p := p) ho
   have cz' := costI_sz (o := o) op (by omega) zp (by omega) (fun x hx => by have := hob.2.1 x hx; omega)
   have pz := szI_le o.price hob.2.2.1 hob.2.2.2
   have q5 := rsubF_c (ofQ (o.price : Rat)) (ofQ (costI p o)) (by rw [szF_ofQ]; omega) (by rw [szF_ofQ]; omega)
   rw [subD_ofQ] at q5
   have gz : szQ ((o.price : Rat) - costI p o) ≤ 1 + szQ (o.price : Rat) + szQ (costI p o) := by
    rw [show (o.price : Rat) - costI p o = (o.price : Rat) + -(costI p o) by grind]
    have := szQ_add (o.price : Rat) (-(costI p o))
    rw [szQ_neg] at this
    omega
   have q6 := (rsignF_c (ofQ ((o.price : Rat) - costI p o)) (by rw [szF_ofQ]; omega)).toN rfl
   have bz := h.bound_sz op (by omega) zp (Nat.le_refl _) k
   have q7 := raddF_c (ofQ (boundI supply offers p k)) (ofQ ((o.price : Rat) - costI p o)) (by rw [szF_ofQ]; omega) (by rw [szF_ofQ]; omega)
   rw [addD_ofQ] at q7
   have eb : boundI supply offers p (k + 1) = boundI supply offers p k + max0 ((o.price : Rat) - costI p o) := by
    rw [h.bid_at ho, ec]
    unfold boundI; simp only [sumN]; grind
   by_cases h6 : sgnD (ofQ ((o.price : Rat) - costI p o)) > 0
   · have g := (sgn_gt (okF_ofQ _)).1 h6
     rw [qOf_ofQ] at g
     have em : max0 ((o.price : Rat) - costI p o) = (o.price : Rat) - costI p o := by unfold max0; rw [if_pos g]
     rw [em] at eb
     rw [← eb] at q7
     refine aGo (cj4 hres k0 h5 (cj3 ho hw h6)) ?_
     repeat with_reducible intro K hK
     exact loop_end (k + 1) (by omega) (by omega) (by exact leGo trivial)
   · have g := mt (sgn_gt (okF_ofQ _)).2 h6
     rw [qOf_ofQ] at g
     have em : max0 ((o.price : Rat) - costI p o) = 0 := by unfold max0; rw [if_neg g]
     rw [em] at eb
     have eb' : boundI supply offers p (k + 1) = boundI supply offers p k := by rw [eb]; grind
     refine aGo (cj4 hres k0 h5 (cj3 ho hw h6)) ?_
     repeat with_reducible intro K hK
     exact loop_end (k + 1) (by omega) (by omega) (by exact leGo eb')
 · obtain rfl : k = offers.length := by omega
   exact aGo (cj2 hres h5) trivial
end
theorem check44_div (supply : List Int) (offers : List OffD) (d : DealD) : check44 supply offers d = (right44 supply offers && (divB supply offers d.x && (decide (d.p.length = supply.length) && (d.p.all prOk && (sameF d.v (ofQ (worthI offers d.x)) && sameF d.v (ofQ (boundI supply offers d.p offers.length))))))) := by
 unfold check44 divB
 by_cases hp : d.p.length = supply.length
 · have hm : (List.range supply.length).all (matOk supply offers d) = (d.p.all prOk && (List.range supply.length).all (fitsM supply offers d.x)) := by
     rw [Bool.eq_iff_iff]
     simp only [matOk, Bool.and_eq_true, List.all_eq_true, List.mem_range]
     constructor
     · intro h
       refine ⟨fun q hq => ?_, fun k hk => (h k hk).2⟩
       obtain ⟨k, hk⟩ := List.getElem?_of_mem hq
       have := (h k (by have := (List.getElem?_eq_some_iff.1 hk).1; omega)).1
       rw [hk] at this
       exact this
     · rintro ⟨a, b⟩ k hk
       have e : d.p[k]? = some (d.p[k]'(by omega)) := List.getElem?_eq_getElem (by omega)
       rw [e]
       exact ⟨a _ (List.getElem_mem _), b k hk⟩
   rw [hm]
   cases right44 supply offers <;> cases decide (d.x.length = offers.length) <;> cases decide (d.p.length = supply.length) <;> cases d.x.all shOk <;> cases d.p.all prOk <;> cases (List.range supply.length).all (fitsM supply offers d.x) <;> simp
 · rw [decide_eq_false hp]
   cases right44 supply offers <;> cases decide (d.x.length = offers.length) <;> simp
theorem rcheck44_c (supply : List Int) (offers : List OffD) (d : DealD) (sm : SmM supply offers) (lx : d.x.length ≤ 15) (zx : ∀ f ∈ d.x, szF f ≤ 262144) (zp : ∀ f ∈ d.p, szF f ≤ 262144) (zv : (szF d.v : Int) ≤ 9007199254740992) : Contract Tryz.prog 20 [encInts supply, encOfs offers, encDl d] (dB (check44 supply offers d)) := by
 have hres := Tryz.results20
 have kr := rright44_c supply offers sm
 have e0 := check44_div supply offers d
 obtain ⟨X, p, v⟩ := d
 simp only at zx zp lx zv e0
 generalize check44 supply offers ⟨X, p, v⟩ = R at e0 ⊢
 cases hr : right44 supply offers
 · rw [hr] at kr e0
   refine inC Tryz.func20 rfl Tryz.ntmps20 ?_
   refine aGo hres ?_
   repeat with_reducible intro K hK
   exact bool_eq (by rw [e0]; rfl)
 rw [hr] at kr e0
 rw [Bool.true_and] at e0
 have h := right44_iff.1 hr
 have hm := h.m1
 have hn := h.n1
 have kd := division44_c h X zx lx
 cases hd : divB supply offers X
 · rw [hd] at kd e0
   refine inC Tryz.func20 rfl Tryz.ntmps20 ?_
   refine aGo hres ?_
   repeat with_reducible intro K hK
   exact bool_eq (by rw [e0]; rfl)
 rw [hd] at kd e0
 rw [Bool.true_and] at e0
 obtain ⟨lX, ox, _⟩ := divB_iff.1 hd
 cases h2 : (p.length : Int) != supply.length
 rotate_left
 · refine inC Tryz.func20 rfl Tryz.ntmps20 ?_
   refine aGo (cj2 hres h2) ?_
   repeat with_reducible intro K hK
   exact bool_eq (by rw [e0, decide_eq_false (by simp at h2; omega)]; rfl)
 have lp : p.length = supply.length := by simp at h2; omega
 rw [decide_eq_true lp, Bool.true_and] at e0
 refine inC Tryz.func20 rfl Tryz.ntmps20 ?_
 refine aGo (cj2 hres h2) ?_
 repeat with_reducible intro K hK
 refine aLoopT (fun (k : Nat) => [(0, encInts supply), (1, encOfs offers), (5, .lp 0 0 0 0), (7, dI k)])
  (fun _ => [(0, ⟨44, 0, 6, [cDl ⟨X, p, v⟩], 0, false⟩)]) 1 0 (fun k => k ≤ p.length ∧ (p.take k).all prOk = true) (fun k => p.length - k) 0 ⟨by omega, rfl⟩ ?_ ?_
 · exact leGo trivial
 rintro k ⟨hk, hg⟩
 obtain ⟨hw, k0⟩ := wrap2 k
 by_cases h3 : (k : Int) < p.length
 · obtain ⟨f, hf⟩ := getE (l := p) (k := k) (by omega)
   have zf := zp f (mem_at hf)
   have q1 := (rrightF_c f (by omega)).toN rfl
   have q2 := (rsignF_c f (by omega)).toN rfl
   have bad : prOk f = false → D.v (.bool false) = dB R := fun e => bool_eq (by rw [e0, all_not hf e]; rfl)
   cases h4 : okF f
   · rw [h4] at q1
     refine aGo (cj4 hres k0 h3 (cj2 hf hw)) ?_
     repeat with_reducible intro K hK
     exact bad (by simp [prOk, h4])
   rw [h4] at q1
   by_cases h5 : sgnD f < 0
   · refine aGo (cj4 hres k0 h3 (cj3 hf hw h5)) ?_
     repeat with_reducible intro K hK
     exact bad (by have := (sgn_lt h4).1 h5; simp only [prOk, h4, Bool.true_and, decide_eq_false_iff_not]; grind)
   refine aGo (cj4 hres k0 h3 (cj3 hf hw h5)) ?_
   repeat with_reducible intro K hK
   exact loop_end (k + 1) ⟨by omega, all_take_succ hf hg (by
    have a := mt (sgn_lt h4).2 h5
    simp only [prOk, h4, Bool.true_and, decide_eq_true_eq]
    grind)⟩ (by omega) (by exact leGo trivial)
 obtain rfl : k = p.length := by omega
 rw [List.take_of_length_le (by omega)] at hg
 clear hk k0 hw
 rw [hg, Bool.true_and] at e0
 have op : okP p = true := List.all_eq_true.2 fun q hq => by
  have := List.all_eq_true.1 hg q hq
  simp only [prOk, Bool.and_eq_true] at this
  exact this.1
 have q1 := worth44_c h X ox lX zx
 have q2 := rsameF_c v (ofQ (worthI offers X)) zv
 have q3 := rbound44_c h p op lp zp
 have q4 := rsameF_c v (ofQ (boundI supply offers p offers.length)) zv
 cases h6 : sameF v (ofQ (worthI offers X))
 · rw [h6] at q2 e0
   refine aGo (cj2 hres h3) ?_
   repeat with_reducible intro K hK
   exact bool_eq (by rw [e0]; rfl)
 · rw [h6, Bool.true_and] at e0
   rw [h6] at q2
   rw [← e0] at q4
   exact aGo (cj2 hres h3) trivial
set_option maxHeartbeats 32000000
theorem paysA_sz (offers : List OffD) (d : DealD) (S : SmP offers d) : ((paysA offers d).length : Int) ≤ 4096 ∧ ∀ f ∈ paysA offers d, (szF f : Int) ≤ 9007199254740992 := by
 unfold paysA
 cases h : payOk offers d
 · rw [if_neg Bool.false_ne_true]; exact ⟨by decide, fun f hf => by cases hf⟩
 rw [if_pos rfl]
 simp only [payOk, Bool.and_eq_true, decide_eq_true_eq] at h
 obtain ⟨lx, ox, op, hl⟩ := h
 have hn := S.o
 refine ⟨by rw [fracs_len]; omega, fun f hf => ?_⟩
 obtain ⟨i, hi, rfl⟩ := List.mem_map.1 hf
 have hi := List.mem_range.1 hi
 rw [szF_ofQ]
 have ho : offers[i]? = some offers[i] := List.getElem?_eq_getElem hi
 have hx : d.x[i]? = some (d.x[i]'(by omega)) := List.getElem?_eq_getElem (by omega)
 have h7 := List.all_eq_true.1 hl _ (List.getElem_mem hi)
 simp only [lenO, decide_eq_true_eq] at h7
 have c := costI_sz op (by have := S.lp; omega) S.zp h7 (S.w _ (List.getElem_mem hi))
 have m := szQ_mul (atP d.x (i : Nat)) (costK offers d.p i)
 rw [← cost_atA ho] at m
 have a : szQ (atP d.x (i : Nat)) ≤ 262144 := by
  rw [at_get hx, szF_ok (List.all_eq_true.1 ox _ (List.getElem_mem _))]
  exact S.zx _ (List.getElem_mem _)
 unfold payI
 rw [← cost_atA ho]
 omega
theorem marketTells_c (k0 : Contract Tryz.prog 14 [] (dB true)) (supply : List Int) (offers : List OffD) (d : DealD) (hwi : ∀ o ∈ offers, ∀ x ∈ o.wants, -9223372036854775808 ≤ x ∧ x ≤ 9223372036854775807) : Contract Tryz.prog 4 [encInts supply, encOfs offers, encDl d] (dB true) := by
 have hres := Tryz.results4
 have q1 := few44_c supply offers d 3 6
 cases h1 : few44 supply offers d 3 6
 · rw [h1] at q1
   refine inC Tryz.func4 rfl Tryz.ntmps4 ?_
   repeat (first
    | (refine hK _ ?_; clear hK; clear K)
    | (refine aSeq fun K hK => ?_)
    | (refine aBlock ?_)
    | (refine aSkip ?_)
    | (refine aExit ?_)
    | (refine aRet ?_)
    | (refine aOps _ rfl (by kernel_rfl) ?_)
    | (refine aRunK _ rfl mixed (by kernel_rfl) (by kernel_rfl) fun KE hE => ?_)
    | (refine hE _ _ (by kernel_rfl) (intsOk_no rfl) ?_; clear hE; clear KE)
    | (refine hE _ _ (by kernel_rfl) (intsOk_yes ?hi ?hj) ?_; (case hi => (repeat (refine intsDead_updB rfl ?_)); exact intsDead_nil); (case hj => simp); clear hE; clear KE)
    | (refine aCondT rfl ?hc ?_; case hc => simp only [go_sem, ↓reduceIte, hres])
    | (refine aCondF rfl ?hc ?_; case hc => simp only [go_sem, ↓reduceIte, hres])
    | (refine callT_of (k0) ?_ ?_; rotate_left; (repeat (refine intsDead_updB rfl ?_)); exact intsDead_nil)
    | (refine callT_ofN (k0) ?_)
    | (refine callU_of (k0) rfl ?_)
    | (refine callU_ofN (k0) rfl ?_)
    | (refine callT_of (q1) ?_ ?_; rotate_left; (repeat (refine intsDead_updB rfl ?_)); exact intsDead_nil)
    | (refine callT_ofN (q1) ?_)
    | (refine callU_of (q1) rfl ?_)
    | (refine callU_ofN (q1) rfl ?_)
    | (simp only [go_sem, ↓reduceIte, hres])
    | (refine And.intro ?ho ?_; (case ho => omega))
    | (clear hK; clear K))
 rw [h1] at q1
 have sm := few44_sm h1
 obtain ⟨sx, sp, sv⟩ := few44_sz h1
 have fl : d.x.length ≤ 15 ∧ d.p.length ≤ 15 := by
  simp only [few44, Bool.and_eq_true] at h1
  obtain ⟨_, _, a, b, _⟩ := h1
  have := (fewP_sz a).1
  have := (fewP_sz b).1
  omega
 have S : SmP offers d := ⟨sm.o, hwi, fl.2, fl.1, fun f hf => by have := sx f hf; omega, fun f hf => by have := sp f hf; omega⟩
 have q2 := right44_c supply offers sm
 have q3 := rright44_c supply offers sm
 have h6 : right44 supply offers = true → offers.length ≤ 6 := fun hr => by have := few44_o (by decide) h1 hr; omega
 have q4 := best44_c supply offers h6 sm
 have q5 := rbest44_c supply offers h6 sm
 have q6 := check44_c supply offers d sm S.zx S.zp
 have q7 := rcheck44_c supply offers d sm fl.1 S.zx S.zp (by omega)
 have q8 := paysA_c offers d S
 have q9 := rpaysA_c offers d S
 have ps := paysA_sz offers d S
 have qa := samep_c (paysA offers d) ps.1 ps.2
 generalize paysA offers d = P at q8 q9 qa
 have b00 : ((0 : Int) != 0) = false := rfl
 have b01 : ((1 : Int) != 1) = false := rfl
 have b02 : ((1 : Int) != 0) = true := rfl
 have b03 : ((1 : Int) == 0) = false := rfl
 have b04 : ((0 : Int) == 0) = true := rfl
 cases hr : right44 supply offers
 · rw [show best44 supply offers = (zDl, 1) by unfold best44; rw [hr]; rfl] at q4
   rw [show bestR supply offers = (zDl, 1) by unfold bestR; rw [hr]; rfl] at q5
   have q10 := check44_c supply offers zDl sm (fun f hf => by cases hf) (fun f hf => by cases hf)
   rw [hr] at q2 q3
   rw [show check44 supply offers d = false by unfold check44; rw [hr]; rfl] at q6 q7
   rw [show check44 supply offers zDl = false by unfold check44; rw [hr]; rfl] at q10
   refine inC Tryz.func4 rfl Tryz.ntmps4 ?_
   repeat (first
    | (refine hK _ ?_; clear hK; clear K)
    | (refine aSeq fun K hK => ?_)
    | (refine aBlock ?_)
    | (refine aSkip ?_)
    | (refine aExit ?_)
    | (refine aRet ?_)
    | (refine aOps _ rfl (by kernel_rfl) ?_)
    | (refine aRunK _ rfl mixed (by kernel_rfl) (by kernel_rfl) fun KE hE => ?_)
    | (refine hE _ _ (by kernel_rfl) (intsOk_no rfl) ?_; clear hE; clear KE)
    | (refine hE _ _ (by kernel_rfl) (intsOk_yes ?hi ?hj) ?_; (case hi => (repeat (refine intsDead_updB rfl ?_)); exact intsDead_nil); (case hj => simp); clear hE; clear KE)
    | (refine aCondT rfl ?hc ?_; case hc => simp only [go_sem, ↓reduceIte, hres, b00, b01, b02, b03, b04])
    | (refine aCondF rfl ?hc ?_; case hc => simp only [go_sem, ↓reduceIte, hres, b00, b01, b02, b03, b04])
    | (refine callT_of (k0) ?_ ?_; rotate_left; (repeat (refine intsDead_updB rfl ?_)); exact intsDead_nil)
    | (refine callT_ofN (k0) ?_)
    | (refine callU_of (k0) rfl ?_)
    | (refine callU_ofN (k0) rfl ?_)
    | (refine callT_of (q1) ?_ ?_; rotate_left; (repeat (refine intsDead_updB rfl ?_)); exact intsDead_nil)
    | (refine callT_ofN (q1) ?_)
    | (refine callU_of (q1) rfl ?_)
    | (refine callU_ofN (q1) rfl ?_)
    | (refine callT_of (q2) ?_ ?_; rotate_left; (repeat (refine intsDead_updB rfl ?_)); exact intsDead_nil)
    | (refine callT_ofN (q2) ?_)
    | (refine callU_of (q2) rfl ?_)
    | (refine callU_ofN (q2) rfl ?_)
    | (refine callT_of (q3) ?_ ?_; rotate_left; (repeat (refine intsDead_updB rfl ?_)); exact intsDead_nil)
    | (refine callT_ofN (q3) ?_)
    | (refine callU_of (q3) rfl ?_)
    | (refine callU_ofN (q3) rfl ?_)
    | (refine callT_of (q4) ?_ ?_; rotate_left; (repeat (refine intsDead_updB rfl ?_)); exact intsDead_nil)
    | (refine callT_ofN (q4) ?_)
    | (refine callU_of (q4) rfl ?_)
    | (refine callU_ofN (q4) rfl ?_)
    | (refine callT_of (q5) ?_ ?_; rotate_left; (repeat (refine intsDead_updB rfl ?_)); exact intsDead_nil)
    | (refine callT_ofN (q5) ?_)
    | (refine callU_of (q5) rfl ?_)
    | (refine callU_ofN (q5) rfl ?_)
    | (refine callT_of (q6) ?_ ?_; rotate_left; (repeat (refine intsDead_updB rfl ?_)); exact intsDead_nil)
    | (refine callT_ofN (q6) ?_)
    | (refine callU_of (q6) rfl ?_)
    | (refine callU_ofN (q6) rfl ?_)
    | (refine callT_of (q7) ?_ ?_; rotate_left; (repeat (refine intsDead_updB rfl ?_)); exact intsDead_nil)
    | (refine callT_ofN (q7) ?_)
    | (refine callU_of (q7) rfl ?_)
    | (refine callU_ofN (q7) rfl ?_)
    | (refine callT_of (q8) ?_ ?_; rotate_left; (repeat (refine intsDead_updB rfl ?_)); exact intsDead_nil)
    | (refine callT_ofN (q8) ?_)
    | (refine callU_of (q8) rfl ?_)
    | (refine callU_ofN (q8) rfl ?_)
    | (refine callT_of (q9) ?_ ?_; rotate_left; (repeat (refine intsDead_updB rfl ?_)); exact intsDead_nil)
    | (refine callT_ofN (q9) ?_)
    | (refine callU_of (q9) rfl ?_)
    | (refine callU_ofN (q9) rfl ?_)
    | (refine callT_of (qa) ?_ ?_; rotate_left; (repeat (refine intsDead_updB rfl ?_)); exact intsDead_nil)
    | (refine callT_ofN (qa) ?_)
    | (refine callU_of (qa) rfl ?_)
    | (refine callU_ofN (qa) rfl ?_)
    | (refine callT_of (q10) ?_ ?_; rotate_left; (repeat (refine intsDead_updB rfl ?_)); exact intsDead_nil)
    | (refine callT_ofN (q10) ?_)
    | (refine callU_of (q10) rfl ?_)
    | (refine callU_ofN (q10) rfl ?_)
    | (simp only [go_sem, ↓reduceIte, hres, b00, b01, b02, b03, b04])
    | (refine And.intro ?ho ?_; (case ho => omega))
    | (clear hK; clear K))
 have R := right44_iff.1 hr
 obtain ⟨b0, bg⟩ := best44_good hr
 have bz := deal_sz R (h6 hr)
 rw [show dealM supply offers = (best44 supply offers).1 by unfold best44; rw [hr]; rfl] at bz
 rw [b0] at q4
 have wg := R.good
 have wt := R.tnR (h6 hr)
 rw [show bestR supply offers = (dealA supply (optR supply offers), 0) by unfold bestR; rw [hr]; rfl] at q5
 have wz : (∀ f ∈ (dealA supply (optR supply offers)).x, szF f ≤ 262144) ∧ ∀ f ∈ (dealA supply (optR supply offers)).p, szF f ≤ 262144 := by
  refine ⟨fun f hf => ?_, fun f hf => ?_⟩
  · have := wt.2.1.2 f hf
    unfold tnF at this; omega
  · obtain ⟨g, hg, rfl⟩ := List.mem_map.1 hf
    have := wt.2.2.1.2 g (List.mem_of_mem_take hg)
    unfold tnF at this
    have : szF (negD g) ≤ szF g := by
     unfold negD
     split
     · rename_i ho
       rw [szF_ofQ, szQ_neg, szF_ok ho]; exact Nat.le_refl _
     · exact Nat.zero_le _
    omega
 generalize (best44 supply offers).1 = A at *
 generalize dealA supply (optR supply offers) = W at *
 have vz : ∀ {A : DealD}, GoodD supply offers A → (∀ f ∈ A.x, szF f ≤ 262144) → (szF A.v : Int) ≤ 4500000 := fun {A} g z => by
  have := R.dot_sz g.ox (by have := g.lx; have := R.n1; omega) z (Nat.le_refl _) (n := bidI offers) (fun i => R.pb i)
  rw [g.v, szF_ofQ, ← worth_eq g.lx]
  exact this
 have va := vz bg bz.1
 have q10 := rcheck44_c supply offers A sm (by have := bg.lx; have := R.n1; omega) bz.1 bz.2 (by omega)
 rw [check44_iff.2 bg] at q10
 have q11 := check44_c supply offers W sm wz.1 wz.2
 rw [check44_iff.2 wg] at q11
 have es : sameF A.v W.v = true := by rw [show W.v = A.v by rw [bg.v, wg.v, wg.b.same bg.b]]; exact sameF_self _
 have q12 := rsameF_c A.v W.v (by omega)
 rw [es] at q12
 rw [hr] at q2 q3
 cases hc : check44 supply offers d
 all_goals
  rw [hc] at q6 q7
  refine inC Tryz.func4 rfl Tryz.ntmps4 ?_
  repeat (first
   | (refine hK _ ?_; clear hK; clear K)
   | (refine aSeq fun K hK => ?_)
   | (refine aBlock ?_)
   | (refine aSkip ?_)
   | (refine aExit ?_)
   | (refine aRet ?_)
   | (refine aOps _ rfl (by kernel_rfl) ?_)
   | (refine aRunK _ rfl mixed (by kernel_rfl) (by kernel_rfl) fun KE hE => ?_)
   | (refine hE _ _ (by kernel_rfl) (intsOk_no rfl) ?_; clear hE; clear KE)
   | (refine hE _ _ (by kernel_rfl) (intsOk_yes ?hi ?hj) ?_; (case hi => (repeat (refine intsDead_updB rfl ?_)); exact intsDead_nil); (case hj => simp); clear hE; clear KE)
   | (refine aCondT rfl ?hc ?_; case hc => simp only [go_sem, ↓reduceIte, hres, b00, b01, b02, b03, b04])
   | (refine aCondF rfl ?hc ?_; case hc => simp only [go_sem, ↓reduceIte, hres, b00, b01, b02, b03, b04])
   | (refine callT_of (k0) ?_ ?_; rotate_left; (repeat (refine intsDead_updB rfl ?_)); exact intsDead_nil)
   | (refine callT_ofN (k0) ?_)
   | (refine callU_of (k0) rfl ?_)
   | (refine callU_ofN (k0) rfl ?_)
   | (refine callT_of (q1) ?_ ?_; rotate_left; (repeat (refine intsDead_updB rfl ?_)); exact intsDead_nil)
   | (refine callT_ofN (q1) ?_)
   | (refine callU_of (q1) rfl ?_)
   | (refine callU_ofN (q1) rfl ?_)
   | (refine callT_of (q2) ?_ ?_; rotate_left; (repeat (refine intsDead_updB rfl ?_)); exact intsDead_nil)
   | (refine callT_ofN (q2) ?_)
   | (refine callU_of (q2) rfl ?_)
   | (refine callU_ofN (q2) rfl ?_)
   | (refine callT_of (q3) ?_ ?_; rotate_left; (repeat (refine intsDead_updB rfl ?_)); exact intsDead_nil)
   | (refine callT_ofN (q3) ?_)
   | (refine callU_of (q3) rfl ?_)
   | (refine callU_ofN (q3) rfl ?_)
   | (refine callT_of (q4) ?_ ?_; rotate_left; (repeat (refine intsDead_updB rfl ?_)); exact intsDead_nil)
   | (refine callT_ofN (q4) ?_)
   | (refine callU_of (q4) rfl ?_)
   | (refine callU_ofN (q4) rfl ?_)
   | (refine callT_of (q5) ?_ ?_; rotate_left; (repeat (refine intsDead_updB rfl ?_)); exact intsDead_nil)
   | (refine callT_ofN (q5) ?_)
   | (refine callU_of (q5) rfl ?_)
   | (refine callU_ofN (q5) rfl ?_)
   | (refine callT_of (q6) ?_ ?_; rotate_left; (repeat (refine intsDead_updB rfl ?_)); exact intsDead_nil)
   | (refine callT_ofN (q6) ?_)
   | (refine callU_of (q6) rfl ?_)
   | (refine callU_ofN (q6) rfl ?_)
   | (refine callT_of (q7) ?_ ?_; rotate_left; (repeat (refine intsDead_updB rfl ?_)); exact intsDead_nil)
   | (refine callT_ofN (q7) ?_)
   | (refine callU_of (q7) rfl ?_)
   | (refine callU_ofN (q7) rfl ?_)
   | (refine callT_of (q8) ?_ ?_; rotate_left; (repeat (refine intsDead_updB rfl ?_)); exact intsDead_nil)
   | (refine callT_ofN (q8) ?_)
   | (refine callU_of (q8) rfl ?_)
   | (refine callU_ofN (q8) rfl ?_)
   | (refine callT_of (q9) ?_ ?_; rotate_left; (repeat (refine intsDead_updB rfl ?_)); exact intsDead_nil)
   | (refine callT_ofN (q9) ?_)
   | (refine callU_of (q9) rfl ?_)
   | (refine callU_ofN (q9) rfl ?_)
   | (refine callT_of (qa) ?_ ?_; rotate_left; (repeat (refine intsDead_updB rfl ?_)); exact intsDead_nil)
   | (refine callT_ofN (qa) ?_)
   | (refine callU_of (qa) rfl ?_)
   | (refine callU_ofN (qa) rfl ?_)
   | (refine callT_of (q10) ?_ ?_; rotate_left; (repeat (refine intsDead_updB rfl ?_)); exact intsDead_nil)
   | (refine callT_ofN (q10) ?_)
   | (refine callU_of (q10) rfl ?_)
   | (refine callU_ofN (q10) rfl ?_)
   | (refine callT_of (q11) ?_ ?_; rotate_left; (repeat (refine intsDead_updB rfl ?_)); exact intsDead_nil)
   | (refine callT_ofN (q11) ?_)
   | (refine callU_of (q11) rfl ?_)
   | (refine callU_ofN (q11) rfl ?_)
   | (refine callT_of (q12) ?_ ?_; rotate_left; (repeat (refine intsDead_updB rfl ?_)); exact intsDead_nil)
   | (refine callT_ofN (q12) ?_)
   | (refine callU_of (q12) rfl ?_)
   | (refine callU_ofN (q12) rfl ?_)
   | (simp only [go_sem, ↓reduceIte, hres, b00, b01, b02, b03, b04])
   | (refine And.intro ?ho ?_; (case ho => omega))
   | (clear hK; clear K))
abbrev OffI : Type := { o : OffD // ∀ x ∈ o.wants, -9223372036854775808 ≤ x ∧ x ≤ 9223372036854775807 }
abbrev cOfI (o : OffI) : List D := cOf o.1
theorem marketTellsI_c (k0 : Contract Tryz.prog 14 [] (dB true)) (supply : List Int) (offers : List OffI) (d : DealD) : Contract Tryz.prog 4 [encInts supply, .sl (offers.map cOfI), encDl d] (dB true) := by
 have := marketTells_c k0 supply (offers.map Subtype.val) d (fun o ho => by
  obtain ⟨x, _, rfl⟩ := List.mem_map.1 ho
  exact x.2)
 unfold encOfs at this
 rw [List.map_map] at this
 exact this
section
set_option linter.constructorNameAsVariable false
variable {n : Nat} {x : List D}
theorem int_ofB (h : Shown Tryz.prog (n + 1) 3 x) : ∃ a : { a : Int // -9223372036854775808 ≤ a ∧ a ≤ 9223372036854775807 }, x = [dI a.1] := by
 unfold Shown at h
 simp only [Tryz.underlying3] at h
 obtain ⟨a, rfl, hw⟩ := h
 have hw' : (decide (IntKind.i64.min ≤ a) && decide (a ≤ IntKind.i64.max)) = true := hw
 rw [Bool.and_eq_true, decide_eq_true_eq, decide_eq_true_eq] at hw'
 have e1 : IntKind.i64.min = -9223372036854775808 := by decide
 have e2 : IntKind.i64.max = 9223372036854775807 := by decide
 exact ⟨⟨a, by rw [← e1, ← e2]; exact hw'⟩, rfl⟩
theorem offer_ofB (h : Shown Tryz.prog (n + 3) 102 x) : ∃ o, x = cOfI o := by
 unfold Shown at h
 simp only [Tryz.underlying102, List.foldr] at h
 obtain ⟨_, _, rfl, h1, _, _, rfl, h2, rfl⟩ := h
 unfold Shown at h1
 simp only [Tryz.underlying28] at h1
 obtain ⟨es, rfl, _, h1⟩ := h1
 obtain ⟨l, rfl⟩ := map_of_all (fun x hx => int_ofB (h1 x hx))
 obtain ⟨b, rfl⟩ := int_of h2
 refine ⟨⟨⟨l.map Subtype.val, b⟩, fun x hx => ?_⟩, ?_⟩
 · obtain ⟨y, _, rfl⟩ := List.mem_map.1 hx
   exact y.2
 · show _ = [encInts (l.map Subtype.val), dI b]
   unfold encInts
   rw [List.map_map]
   rfl
end
end Go.Proofs.YtpkdhmnlpnijhaaGreat
