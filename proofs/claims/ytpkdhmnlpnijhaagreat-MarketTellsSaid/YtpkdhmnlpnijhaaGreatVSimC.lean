/-
  The coefficients of a right list of terms (plain).
-/
import Derived.Test.YtpkdhmnlpnijhaaGreatVDualW
import Derived.Test.YtpkdhmnlpnijhaaGreatVSimB
import Derived.Test.YtpkdhmnlpnijhaaGreatVDualP
namespace Go.Proofs.YtpkdhmnlpnijhaaGreat
set_option linter.unusedVariables false
set_option linter.unusedSimpArgs false
set_option linter.unusedSectionVars false
open Go Go.RowKit
set_option maxRecDepth 100000
theorem goR_above {n : Int} : ∀ (l : List TermD) (last : Int), goR n last l = true → ∀ t ∈ l, last < t.v
 | [], _, _, t, h => by cases h
 | u :: l, last, h, t, ht => by
   have h' := goR_cons.1 h
   rcases List.mem_cons.1 ht with rfl | ht
   · exact h'.1
   · have := goR_above l u.v h'.2.2.2 t ht; omega
theorem goR_before {n : Int} : ∀ (l : List TermD) (last : Int), goR n last l = true → ∀ (i : Nat) (t : TermD), l[i]? = some t → dotS (indI t.v) (l.take i) = 0
 | [], _, _, i, t, h => by simp at h
 | u :: l, last, h, 0, t, ht => rfl
 | u :: l, last, h, i + 1, t, ht => by
   have h' := goR_cons.1 h
   have h1 := goR_before l u.v h'.2.2.2 i t (by simpa using ht)
   have h2 := goR_above l u.v h'.2.2.2 t (List.mem_of_getElem? (by simpa using ht))
   rw [List.take_succ_cons]
   simp only [dotS, h1, indI, if_neg (show ¬ u.v = t.v by omega)]; grind
theorem coef_before {l : List TermD} {n : Int} (h : rightT l n = true) {i : Nat} {t : TermD} (ht : l[i]? = some t) (h0 : 0 ≤ t.v) : coefT (l.take i) t.v.toNat = 0 := by
 simp only [rightT, Bool.and_eq_true] at h
 unfold coefT
 rw [show ((t.v.toNat : Nat) : Int) = t.v by omega]
 exact goR_before l (-1) h.2 i t ht
theorem coef_succ {l : List TermD} {i : Nat} {t : TermD} (ht : l[i]? = some t) (h0 : 0 ≤ t.v) (u : Nat) : coefT (l.take (i + 1)) u = coefT (l.take i) u + if u = t.v.toNat then qOf t.f else 0 := by
 unfold coefT
 rw [dot_take_succ ht]
 simp only [indI]
 by_cases e : u = t.v.toNat
 · rw [if_pos e, if_pos (by omega)]; grind
 · rw [if_neg e, if_neg (by omega)]; grind
theorem coef_at {l : List TermD} {n : Int} (h : rightT l n = true) {i : Nat} {t : TermD} (ht : l[i]? = some t) (h0 : 0 ≤ t.v) : coefT l t.v.toNat = qOf t.f := by
 have h1 : ∀ k, i + 1 + k ≤ l.length → coefT (l.take (i + 1 + k)) t.v.toNat = qOf t.f := by
  intro k
  induction k with
  | zero => intro _; rw [Nat.add_zero, coef_succ ht h0, if_pos rfl, coef_before h ht h0]; grind
  | succ k ih =>
    intro hk
    obtain ⟨u, hu⟩ := getE (l := l) (k := i + 1 + k) (by omega)
    have hu0 := (rightT_mem h (mem_at hu)).1
    have hne : t.v.toNat ≠ u.v.toNat := fun e => by
     have hb := coef_before h hu hu0
     rw [← e, ih (by omega)] at hb
     exact (rightT_mem h (mem_at ht)).2.2.2 hb
    rw [← Nat.add_assoc, coef_succ hu hu0, if_neg hne, ih (by omega)]; grind
 have hi := (List.getElem?_eq_some_iff.1 ht).1
 have := h1 (l.length - (i + 1)) (by omega)
 rw [show i + 1 + (l.length - (i + 1)) = l.length by omega, List.take_length] at this
 exact this
set_option maxHeartbeats 16000000
theorem Cl.none {m : Mem} {nx id : Nat} (h : Cl m nx) (hi : nx ≤ id) : m id = none := by
 cases hm : m id with
 | none => rfl
 | some b => have := (h id b hm).1; omega
def addIds (I : Ids) (m x : Nat) : Ids := { I with A := fun k => if k = m then x else I.A k, vR := I.vR + 1, vO := I.vO + 1, vF := I.vF + 1 }
def sgQ' (turned : Bool) (q : Rat) : Rat := if turned then -q else q
def addRow (d : Dic) (w : RowD) (turned : Bool) : Dic :=
 { d with m := d.m + 1, own := fun k => if k = d.m then d.n + d.m else d.own k, v := fun k => if k = d.m then sgQ' turned (qOf w.v) else d.v k, a := fun k => if k = d.m then (fun j => sgQ' turned (coefT w.t j)) else d.a k }
theorem coef_set {l : List TermD} {n : Nat} {N : Int} (h : rightT l N = true) {i : Nat} {t : TermD} (ht : l[i]? = some t) (h0 : 0 ≤ t.v) (ho : okF t.f = true) :
    (ratL n (coefT (l.take i))).set t.v.toNat [dI t.f.p.s, encInts t.f.p.d, dI t.f.q.s, encInts t.f.q.d] = ratL n (coefT (l.take (i + 1))) := by
 have e : [dI t.f.p.s, encInts t.f.p.d, dI t.f.q.s, encInts t.f.q.d] = cF (ofQ (qOf t.f)) := by rw [← okF_eq ho]
 rw [e, rat_set]
 refine rat_congr fun u _ => ?_
 rw [coef_succ ht h0]
 by_cases e : u = t.v.toNat
 · subst e; rw [if_pos rfl, if_pos rfl, coef_before h ht h0]; grind
 · rw [if_neg e, if_neg e]; grind
def turnK (l : List TermD) (i : Nat) (u : Nat) : Rat := coefT l u - 2 * coefT (l.take i) u
theorem turnK_zero (l : List TermD) : turnK l 0 = coefT l := by funext u; unfold turnK; simp only [List.take_zero, coefT, dotS]; grind
theorem turnK_all (l : List TermD) : turnK l l.length = fun u => -coefT l u := by funext u; unfold turnK; rw [List.take_length]; grind
theorem turn_set {l : List TermD} {n : Nat} {N : Int} (h : rightT l N = true) {i : Nat} {t : TermD} (ht : l[i]? = some t) (h0 : 0 ≤ t.v) :
    (ratL n (turnK l i)).set t.v.toNat (cF (ofQ (-qOf t.f))) = ratL n (turnK l (i + 1)) := by
 rw [rat_set]
 refine rat_congr fun u _ => ?_
 unfold turnK
 rw [coef_succ ht h0]
 by_cases e : u = t.v.toNat
 · subst e; rw [if_pos rfl, if_pos rfl, coef_before h ht h0, coef_at h ht h0]; grind
 · rw [if_neg e, if_neg e]; grind
structure DicFr (fr : List (List D)) (m : Mem) (I : Ids) (d : Dic) (src : Nat → Nat × Bool) : Prop where
 hp : m I.p = some (pB I d.n)
 hR : m I.R = some (rB I d.m d.v)
 hG : m I.G = some (fB d.n d.g)
 hO : m I.O = some (iB 3 I.vO d.m d.own)
 hFr : m I.Fr = some ⟨3, I.vFr, 1, fr, 0, false⟩
 hF : m I.F = some (sB I.vF d.m src)
 hA : ∀ k, k < d.m → m (I.A k) = some (fB d.n (d.a k))
theorem DicFr.lt {fr : List (List D)} {m : Mem} {I : Ids} {d : Dic} {src : Nat → Nat × Bool} {nx : Nat} (h : DicFr fr m I d src) (hc : Cl m nx) {id : Nat} (hi : inD I d.m id) : id < nx := by
 rcases hi with rfl | rfl | rfl | rfl | rfl | rfl | ⟨k, hk, rfl⟩
 · exact (hc _ _ h.hp).1
 · exact (hc _ _ h.hR).1
 · exact (hc _ _ h.hG).1
 · exact (hc _ _ h.hO).1
 · exact (hc _ _ h.hFr).1
 · exact (hc _ _ h.hF).1
 · exact (hc _ _ (h.hA k hk)).1
theorem DicFr.keep {fr : List (List D)} {m m' : Mem} {I : Ids} {d : Dic} {src : Nat → Nat × Bool} (h : DicFr fr m I d src) (hf : ∀ id, inD I d.m id → m' id = m id) : DicFr fr m' I d src :=
 ⟨(hf _ (.inl rfl)).trans h.hp, (hf _ (.inr (.inl rfl))).trans h.hR, (hf _ (.inr (.inr (.inl rfl)))).trans h.hG, (hf _ (.inr (.inr (.inr (.inl rfl))))).trans h.hO, (hf _ (.inr (.inr (.inr (.inr (.inl rfl)))))).trans h.hFr,
   (hf _ (.inr (.inr (.inr (.inr (.inr (.inl rfl))))))).trans h.hF, fun k hk => (hf _ (.inr (.inr (.inr (.inr (.inr (.inr ⟨k, hk, rfl⟩))))))).trans (h.hA k hk)⟩
theorem DicFr.at {m : Mem} {I : Ids} {d : Dic} {src : Nat → Nat × Bool} (h : DicFr (tabL d.n fun j => [dI (d.free j)]) m I d src) : DicAt m I d src := ⟨h.hp, h.hR, h.hG, h.hO, h.hFr, h.hF, h.hA⟩
theorem tab_succ (k : Nat) (c : Nat → List D) : tabL (k + 1) c = tabL k c ++ [c k] := by unfold tabL; rw [List.range_succ, List.map_append]; rfl
theorem DicFr.add {fr : List (List D)} {m m' : Mem} {I : Ids} {d : Dic} {src : Nat → Nat × Bool} {nx x : Nat} (h : DicFr fr m I d src) (ap : Apart I d.m) (lt : ∀ id, inD I d.m id → id < nx) (w : RowD) (row : Nat) (turned : Bool) {c : Nat → Rat} {Q : Rat}
    (h1 : m' I.p = some ⟨152, 0, 6, [[dI d.n, .ls I.R (I.vR + 1), .ls I.G 1, .ls I.O (I.vO + 1), .ls I.Fr I.vFr, .ls I.F (I.vF + 1)]], 0, false⟩)
    (h2 : m' I.R = some ⟨156, I.vR + 1, 5, rowsL I d.m d.v ++ [[dI (ofQ Q).p.s, encInts (ofQ Q).p.d, dI (ofQ Q).q.s, encInts (ofQ Q).q.d, .ls x 1]], 0, false⟩)
    (h3 : m' I.O = some ⟨3, I.vO + 1, 1, (tabL d.m fun i => [dI (d.own i)]) ++ [[dI ((d.n + d.m : Nat) : Int)]], 0, false⟩)
    (h4 : m' I.F = some ⟨185, I.vF + 1, 2, (tabL d.m fun i => [dI (src i).1, dB (src i).2]) ++ [[dI (row : Int), dB turned]], 0, false⟩)
    (h5 : m' x = some (fB d.n c)) (hc : ∀ j, j < d.n → c j = sgQ' turned (coefT w.t j)) (hQ : Q = sgQ' turned (qOf w.v)) (hf : ∀ id, id < nx → id ≠ I.p → id ≠ I.R → id ≠ I.O → id ≠ I.F → m' id = m id) :
    DicFr fr m' (addIds I d.m x) (addRow d w turned) (fun k => if k = d.m then (row, turned) else src k) := by
 refine ⟨h1, h2.trans ?_, ?_, h3.trans ?_, ?_, h4.trans ?_, fun k hk => ?_⟩
 · unfold rB rowsL
   show _ = some (Blk.mk _ _ _ (tabL (d.m + 1) _) _ _)
   rw [tab_succ]
   refine congrArg (fun l => some (Blk.mk _ _ _ l 0 false)) (_root_.congr (congrArg HAppend.hAppend (tab_congr fun k hk => ?_)) (congrArg (fun x => [x]) ?_))
   · simp only [addRow, addIds, if_neg (show ¬ k = d.m by omega)]
   · simp only [addRow, addIds, if_pos, ← hQ]; rfl
 · exact (hf _ (lt _ (.inr (.inr (.inl rfl)))) ap.pG.symm ap.RG.symm ap.GO ap.GF).trans h.hG
 · unfold iB
   show _ = some (Blk.mk _ _ _ (tabL (d.m + 1) _) _ _)
   rw [tab_succ]
   refine congrArg (fun l => some (Blk.mk _ _ _ l 0 false)) (_root_.congr (congrArg HAppend.hAppend (tab_congr fun k hk => ?_)) (congrArg (fun x => [x]) ?_))
   · simp only [addRow, if_neg (show ¬ k = d.m by omega)]
   · simp only [addRow, if_pos]
 · exact (hf _ (lt _ (.inr (.inr (.inr (.inr (.inl rfl)))))) ap.pFr.symm ap.RFr.symm ap.OFr.symm ap.FrF).trans h.hFr
 · unfold sB
   show _ = some (Blk.mk _ _ _ (tabL (d.m + 1) _) _ _)
   rw [tab_succ]
   refine congrArg (fun l => some (Blk.mk _ _ _ l 0 false)) (_root_.congr (congrArg HAppend.hAppend (tab_congr fun k hk => ?_)) (congrArg (fun x => [x]) ?_))
   · simp only [if_neg (show ¬ k = d.m by omega)]
   · simp only [if_pos]
 · by_cases e : k = d.m
   · subst e
     simp only [addIds, addRow, if_pos]
     refine h5.trans ?_
     unfold fB
     rw [rat_congr hc]
   · have hk2 : k < d.m := by have : k < d.m + 1 := hk; omega
     simp only [addIds, addRow, if_neg e]
     exact (hf _ (lt _ (.inr (.inr (.inr (.inr (.inr (.inr ⟨k, hk2, rfl⟩))))))) (ap.Ap k hk2) (ap.AR k hk2) (ap.AO k hk2) (ap.AF k hk2)).trans (h.hA k hk2)
theorem put_a [Ifl] {fr : List (List D)} {I : Ids} {d : Dic} {src : Nat → Nat × Bool} {m : Mem} {nx : Nat} (h : DicFr fr m I d src) (ap : Apart I d.m) (row : Nat) (w : RowD) (turned : Bool) (hm : (d.m : Int) ≤ 4000) (hn : (d.n : Int) ≤ 4000) (hrow : (row : Int) ≤ 4096)
    (hr : rightT w.t d.n = true) (hv : okF w.v = true) (sw : smW w) :
    CallA Tryz.prog 148 [.lp I.p 0 0 0, dI row, encW w, dB turned] m nx fun d' m' nx' => d' = oneD [] ∧ nx + 1 < nx' ∧ DicFr fr m' (addIds I d.m (nx + 1)) (addRow d w turned) (fun k => if k = d.m then (row, turned) else src k) ∧ ∀ id, id < nx → ¬ inD I d.m id → m' id = m id := by
 obtain ⟨wt, wk, wv⟩ := w
 obtain ⟨q, rfl⟩ : ∃ q, wv = ofQ q := ⟨qOf wv, okF_eq hv⟩
 simp only at hr
 refine CallA.cl ⟨_, _, Tryz.func148, rfl, by kernel_rfl⟩ fun hcl => ?_
 have hres := Tryz.results148
 refine inA Tryz.func148 rfl Tryz.ntmps148 ?_
 have lt : ∀ id, inD I d.m id → id < nx := fun id hi => h.lt hcl hi
 have lp : I.p < nx := lt _ (.inl rfl)
 have n1 : I.p ≠ nx := by omega
 refine aGoM (cj4 hres ty_dp h.hp n1) ?_
 repeat with_reducible intro K hK
 refine callU_eff (zeros_e d.n _ _ (by omega) ((upd_ne _ _ (by omega)).trans (hcl.none (by omega)))) ?_
 have n2 : I.p ≠ nx + 1 := by omega
 refine aGoS (cj4 hres ty_dp h.hp (cj2 n1 n2)) ?_
 repeat with_reducible intro K hK
 have n3 : I.p ≠ nx + 2 := by omega
 with_reducible apply useE
 with_reducible assumption
 exact race_list [I.p, nx, nx + 1, nx + 2] (by simp [n1, n2, n3]) [([], []), ([1], []), ([], []), ([], []), ([], []), ([0], []), ([2], [2]), ([], []), ([3, 3], [3]), ([3, 3], [3])] rfl rfl (by kernel_rfl)
 exact intsOk_no rfl
 have lw : (wt.length : Int) ≤ 4096 := sw.1.1
 have n0 : nx ≠ nx + 1 := by omega
 have n4 : nx ≠ nx + 2 := by omega
 have n5 : nx + 1 ≠ nx + 2 := by omega
 refine aGoM (cj4 hres ty_dp h.hp (cj4 n1 n2 n0 n4)) ?_
 repeat with_reducible intro K hK
 have q0 : ratL d.n (coefT (wt.take 0)) = ratL d.n (fun _ => 0) := rat_congr fun u _ => by simp only [List.take_zero, coefT, dotS]
 refine aLoopM (fun (i : Nat) => [(0, .lp I.p 0 0 0), (1, dI row), (3, dB turned), (6, .lp nx 0 0 0), (8, .lp (nx + 2) 0 0 0), (22, encTs wt), (23, dI wt.length), (24, dI i)]) nx
  (fun i m1 nx1 => i ≤ wt.length ∧ nx + 2 < nx1 ∧ m1 nx = some ⟨61, 0, 6, [cW ⟨wt, wk, ofQ q⟩], 0, false⟩ ∧ m1 (nx + 1) = some (fB d.n (coefT (wt.take i))) ∧ m1 (nx + 2) = some ⟨156, 0, 5, [[dI (ofQ q).p.s, encInts (ofQ q).p.d, dI (ofQ q).q.s, encInts (ofQ q).q.d, .ls (nx + 1) 1]], 0, false⟩ ∧ ∀ id, id < nx → m1 id = m id) (fun i => wt.length - i) 0 ?_ ?_ ?_ ?_
 · refine ⟨Nat.zero_le _, Nat.lt_succ_self _, ?_, ?_, ?_, fun id h1 => ?_⟩
   · simp [upd_get]
   · simp only [upd_get]; simp; exact q0.symm
   · simp [upd_get]
   · simp only [upd_get]; rw [if_neg (by omega), if_neg (by omega), if_neg (by omega), if_neg (by omega)]
 · rfl
 · simp [go_sem]
 · rintro i m1 nx1 ⟨hi, hnx, eW, eA, eL, hfr⟩
   obtain ⟨hw, i0⟩ := wrap2 i
   by_cases h1 : (i : Int) < wt.length
   · obtain ⟨t, ht⟩ := getE (l := wt) (k := i) (by omega)
     obtain ⟨t0, t1, t2, t3⟩ := rightT_mem hr (mem_at ht)
     have es := coef_set (n := d.n) hr ht t0 t2
     have le := rat_len d.n (coefT (wt.take i))
     have x1 : nx ≠ nx1 := by omega
     have x2 : nx + 1 ≠ nx1 := by omega
     have x3 : nx + 2 ≠ nx1 := by omega
     have gi := rat_get (n := d.n) (k := t.v.toNat) (coefT (wt.take i)) (by omega)
     refine aGoM (cj4 hres eW eA (cj4 eL h1 hw (cj4 i0 ht t0 (cj4 t1 es le (cj4 x1 x2 x3 (cj3 Nat.zero_le n5 gi)))))) ?_
     repeat with_reducible intro K hK
     refine loop_endM (i + 1) ?_ (by omega) rfl (by simp [go_sem])
     refine ⟨by omega, Nat.lt_of_lt_of_le hnx (Nat.le_succ _), ?_, ?_, ?_, fun id h => ?_⟩
     · exact (upd_ne _ _ (by omega)).trans ((upd_ne _ _ (by omega)).trans ((upd_ne _ _ (by omega)).trans eW))
     · exact upd_same _ _ _
     · exact (upd_ne _ _ (by omega)).trans ((upd_ne _ _ (by omega)).trans ((upd_ne _ _ (by omega)).trans eL))
     · exact (upd_ne _ _ (by omega)).trans ((upd_ne _ _ (by omega)).trans ((upd_ne _ _ (by omega)).trans (hfr id h)))
   · obtain rfl : i = wt.length := by omega
     rw [List.take_length] at eA
     have hD0 : True := trivial
     have hD : DicFr fr m1 I d src := h.keep fun id hi => hfr id (lt id hi)
     cases turned with
     | false =>
       have y1 : I.O ≠ nx1 := by have := lt _ (.inr (.inr (.inr (.inl rfl)))); omega
       have y2 : I.p ≠ nx1 := by omega
       have y9 : I.R ≠ nx1 := by have := lt _ (.inr (.inl rfl)); omega
       have y10 : I.F ≠ nx1 := by have := lt _ (.inr (.inr (.inr (.inr (.inr (.inl rfl)))))); omega
       have y11 : I.F ≠ nx1 + 1 := by have := lt _ (.inr (.inr (.inr (.inr (.inr (.inl rfl)))))); omega
       have y12 : I.F ≠ nx1 + 2 := by have := lt _ (.inr (.inr (.inr (.inr (.inr (.inl rfl)))))); omega
       have y13 : I.R ≠ nx1 + 1 := by have := lt _ (.inr (.inl rfl)); omega
       have y14 : I.R ≠ nx1 + 2 := by have := lt _ (.inr (.inl rfl)); omega
       have y15 : I.p ≠ nx1 + 1 := by omega
       have y16 : I.p ≠ nx1 + 2 := by omega
       have y17 : nx + 2 ≠ I.p := by omega
       have y18 : nx + 2 ≠ I.O := by have := lt _ (.inr (.inr (.inr (.inl rfl)))); omega
       have y19 : nx + 2 ≠ nx1 := by omega
       have y20 : I.R ≠ I.p := ap.pR.symm
       have y21 : I.R ≠ I.O := ap.RO
       have y22 : I.F ≠ I.p := ap.pF.symm
       have y23 : I.F ≠ I.O := ap.OF.symm
       have y24 : I.F ≠ I.R := ap.RF.symm
       have y25 := ap.pR
       have y26 := ap.pF
       have y3 := ap.pO
       have y27 := ap.RF
       have y4 : IntKind.i64.wrap ((d.n : Int) + d.m) = ((d.n + d.m : Nat) : Int) := (wrap_in (by omega) (by omega)).trans (by omega)
       have y5 := rows_len I d.m d.v
       have y6 := tab_len d.m fun k => [dI (d.own k)]
       have y60 := tab_len d.m fun k => [dI (src k).1, dB (src k).2]
       have y7 : ((d.m + 1 : Nat) : Int) * 8 ≤ 140737488355328 := by omega
       have y8 : ((d.m + 1 : Nat) : Int) ≤ 9007199254740992 := by omega
       have y70 : ((d.m + 1 : Nat) : Int) * 72 ≤ 140737488355328 := by omega
       have y80 : ((d.m + 1 : Nat) : Int) * 16 ≤ 140737488355328 := by omega
       refine aGoS (cj4 hres eL h1 (cj4 hD.hp hD.hO hD.hR (cj4 hD.hF y1 y2 (cj4 y3 y4 y5 (cj4 y6 y7 y8 (cj3 eA trivial Nat.zero_le)))))) ?_
       repeat with_reducible intro K hK
       refine ⟨by have := lt _ (.inr (.inr (.inr (.inl rfl)))); omega, by omega, ?_⟩
       with_reducible apply useE
       with_reducible assumption
       exact race_list [I.p, I.O, nx1, I.R] (by simp [y1, y2, y3, y25, y21, y9, y9.symm, y21.symm, y1.symm, y2.symm]) [([], []), ([], []), ([], []), ([], []), ([0], []), ([], []), ([], []), ([], []), ([0], []), ([], []), ([], []), ([], []), ([0], []), ([3], []), ([], []), ([2, 2], [2]), ([1, 2, 1], [1]), ([], []), ([], []), ([0, 0], [0])] rfl rfl (by kernel_rfl)
       exact intsOk_no rfl
       refine aGoS (cj4 hres eL h1 (cj4 hD.hR hD.hF y2 (cj4 y9 y10 y11 (cj4 y12 y13 y14 (cj4 y15 y16 y17 (cj4 y18 y19 y20 (cj4 y21 y22 y23 (cj4 y24 y25 y26 (cj4 y5 y60 y70 (cj4 y80 y8 Nat.zero_le y27)))))))))) ?_
       repeat with_reducible intro K hK
       refine ⟨by have := lt _ (.inr (.inl rfl)); omega, by omega, by have := lt _ (.inr (.inr (.inr (.inr (.inr (.inl rfl)))))); omega, by omega, by omega, ?_⟩
       with_reducible apply useE
       with_reducible assumption
       exact race_list [I.p, nx + 2, nx1 + 1, I.R, nx1 + 2, I.F] (by have lF := lt _ (.inr (.inr (.inr (.inr (.inr (.inl rfl)))))); have lR := lt _ (.inr (.inl rfl)); simp only [List.nodup_cons, List.mem_cons, List.not_mem_nil, not_or, or_false, List.nodup_nil, not_false_eq_true, and_true]; omega) [([], []), ([], []), ([], []), ([], []), ([], []), ([0], []), ([1], []), ([2, 2], [2]), ([3, 2, 3], [3]), ([], []), ([], []), ([], []), ([0], []), ([], []), ([], []), ([], []), ([4, 4], [4]), ([5, 4, 5], [5]), ([], []), ([], []), ([0, 0], [0]), ([], []), ([], []), ([0, 0], [0])] rfl rfl (by kernel_rfl)
       exact intsOk_no rfl
       have lO := lt _ (.inr (.inr (.inr (.inl rfl))))
       have lF := lt _ (.inr (.inr (.inr (.inr (.inr (.inl rfl))))))
       have lR := lt _ (.inr (.inl rfl))
       refine aGoM (cj4 hres y1 y2 (cj4 y9 y10 y11 (cj4 y12 y13 y14 (cj4 y15 y16 y20 (cj4 y21 y22 y23 (cj4 y24 y25 y26 (cj2 y3 y27))))))) ?_
       refine ⟨h.add ap lt ⟨wt, wk, ofQ q⟩ row false (c := coefT wt) (Q := (q)) ?_ ?_ ?_ ?_ ?_ (fun j _ => ?_) ?_ (fun id g1 g2 g3 g4 g5 => ?_), fun id g1 g2 => ?_⟩
       · simp only [upd_get]; repeat (first | rfl | rw [if_pos True.intro] | rw [if_neg (by omega)])
       · simp only [upd_get]; repeat (first | rfl | rw [if_pos True.intro] | rw [if_neg (by omega)])
       · simp only [upd_get]; repeat (first | rfl | rw [if_pos True.intro] | rw [if_neg (by omega)])
       · simp only [upd_get]; repeat (first | rfl | rw [if_pos True.intro] | rw [if_neg (by omega)])
       · simp only [upd_get]; repeat (rw [if_neg (by omega)])
         exact eA
       · rfl
       · exact (qOf_ofQ q).symm
       · simp only [upd_get]; repeat (rw [if_neg (by omega)])
         exact hfr id g1
       · have u1 : id ≠ I.p := fun e => g2 (.inl e)
         have u2 : id ≠ I.R := fun e => g2 (.inr (.inl e))
         have u3 : id ≠ I.O := fun e => g2 (.inr (.inr (.inr (.inl e))))
         have u4 : id ≠ I.F := fun e => g2 (.inr (.inr (.inr (.inr (.inr (.inl e))))))
         try simp only [upd_get]
         repeat (rw [if_neg (by omega)])
         exact hfr id g1
     | true =>
       have zq : (szQ q : Int) ≤ 4194304 := by have h2 : (szF (ofQ q) : Int) ≤ 4194304 := sw.2; rw [← szF_ok hv, qOf_ofQ] at h2; exact h2
       have k1 := nneg_c q (by omega)
       refine aGoM (cj4 hres eW eA (cj4 eL h1 n5 (cj4 k1 n4 n0 Nat.zero_le))) ?_
       repeat with_reducible intro K hK
       have q1 : ratL d.n (turnK wt 0) = ratL d.n (coefT wt) := rat_congr fun u _ => by rw [turnK_zero]
       refine aLoopM (fun (i : Nat) => [(0, .lp I.p 0 0 0), (1, dI row), (3, dB true), (6, .lp nx 0 0 0), (8, .lp (nx + 2) 0 0 0), (42, encTs wt), (43, dI wt.length), (44, dI i)]) nx
        (fun i m1 nx1 => i ≤ wt.length ∧ nx + 2 < nx1 ∧ m1 nx = some ⟨61, 0, 6, [cW ⟨wt, wk, ofQ q⟩], 0, false⟩ ∧ m1 (nx + 1) = some (fB d.n (turnK wt i)) ∧ m1 (nx + 2) = some ⟨156, 0, 5, [[dI (ofQ (-q)).p.s, encInts (ofQ (-q)).p.d, dI (ofQ (-q)).q.s, encInts (ofQ (-q)).q.d, .ls (nx + 1) 1]], 0, false⟩ ∧ ∀ id, id < nx → m1 id = m id) (fun i => wt.length - i) 0 ?_ ?_ ?_ ?_
       · refine ⟨Nat.zero_le _, hnx, ?_, ?_, ?_, fun id h1 => ?_⟩
         · exact (upd_ne _ _ n4).trans eW
         · exact (upd_ne _ _ n5).trans (by unfold fB; rw [q1]; exact eA)
         · exact upd_same _ _ _
         · exact (upd_ne _ _ (by omega)).trans (hfr id h1)
       · rfl
       · simp [go_sem]
       · rintro i m2 nx2 ⟨hi2, hnx2, eW2, eA2, eL2, hfr2⟩
         obtain ⟨hw, i0⟩ := wrap2 i
         by_cases h2 : (i : Int) < wt.length
         · obtain ⟨⟨tv, tf⟩, ht⟩ : ∃ e, wt[i]? = some e := ⟨_, List.getElem?_eq_getElem (by omega)⟩
           obtain ⟨t0, t1, t2, t3⟩ := rightT_mem hr (mem_at ht)
           obtain ⟨r, rfl⟩ : ∃ r, tf = ofQ r := ⟨qOf tf, okF_eq t2⟩
           have zr : (szF (ofQ r) : Int) ≤ 4194304 := sw.1.2 _ (mem_at ht)
           rw [← szF_ok t2, qOf_ofQ] at zr
           have k2 := nneg_c r (by omega)
           have es := turn_set (n := d.n) hr ht t0
           simp only [qOf_ofQ] at es
           simp only at t0 t1
           have le := rat_len d.n (turnK wt i)
           have x1 : nx ≠ nx2 := by omega
           have x2 : nx + 1 ≠ nx2 := by omega
           have x3 : nx + 2 ≠ nx2 := by omega
           have gi := rat_get (n := d.n) (k := tv.toNat) (turnK wt i) (by omega)
           refine aGoM (cj4 hres eW2 eA2 (cj4 eL2 h2 hw (cj4 i0 ht t0 (cj4 t1 es le (cj4 x1 x2 x3 (cj4 Nat.zero_le n5 gi k2)))))) ?_
           repeat with_reducible intro K hK
           refine loop_endM (i + 1) ?_ (by omega) rfl (by simp [go_sem])
           refine ⟨by omega, Nat.lt_of_lt_of_le hnx2 (Nat.le_succ _), ?_, ?_, ?_, fun id h => ?_⟩
           · exact (upd_ne _ _ (by omega)).trans ((upd_ne _ _ (by omega)).trans ((upd_ne _ _ (by omega)).trans eW2))
           · exact upd_same _ _ _
           · exact (upd_ne _ _ (by omega)).trans ((upd_ne _ _ (by omega)).trans ((upd_ne _ _ (by omega)).trans eL2))
           · exact (upd_ne _ _ (by omega)).trans ((upd_ne _ _ (by omega)).trans ((upd_ne _ _ (by omega)).trans (hfr2 id h)))
         · obtain rfl : i = wt.length := by omega
           rw [turnK_all] at eA2
           have hD : DicFr fr m2 I d src := h.keep fun id hi => hfr2 id (lt id hi)
           clear hfr hD0 eW eA eL
           have y1 : I.O ≠ nx2 := by have := lt _ (.inr (.inr (.inr (.inl rfl)))); omega
           have y2 : I.p ≠ nx2 := by omega
           have y9 : I.R ≠ nx2 := by have := lt _ (.inr (.inl rfl)); omega
           have y10 : I.F ≠ nx2 := by have := lt _ (.inr (.inr (.inr (.inr (.inr (.inl rfl)))))); omega
           have y11 : I.F ≠ nx2 + 1 := by have := lt _ (.inr (.inr (.inr (.inr (.inr (.inl rfl)))))); omega
           have y12 : I.F ≠ nx2 + 2 := by have := lt _ (.inr (.inr (.inr (.inr (.inr (.inl rfl)))))); omega
           have y13 : I.R ≠ nx2 + 1 := by have := lt _ (.inr (.inl rfl)); omega
           have y14 : I.R ≠ nx2 + 2 := by have := lt _ (.inr (.inl rfl)); omega
           have y15 : I.p ≠ nx2 + 1 := by omega
           have y16 : I.p ≠ nx2 + 2 := by omega
           have y17 : nx + 2 ≠ I.p := by omega
           have y18 : nx + 2 ≠ I.O := by have := lt _ (.inr (.inr (.inr (.inl rfl)))); omega
           have y19 : nx + 2 ≠ nx2 := by omega
           have y20 : I.R ≠ I.p := ap.pR.symm
           have y21 : I.R ≠ I.O := ap.RO
           have y22 : I.F ≠ I.p := ap.pF.symm
           have y23 : I.F ≠ I.O := ap.OF.symm
           have y24 : I.F ≠ I.R := ap.RF.symm
           have y25 := ap.pR
           have y26 := ap.pF
           have y3 := ap.pO
           have y27 := ap.RF
           have y4 : IntKind.i64.wrap ((d.n : Int) + d.m) = ((d.n + d.m : Nat) : Int) := (wrap_in (by omega) (by omega)).trans (by omega)
           have y5 := rows_len I d.m d.v
           have y6 := tab_len d.m fun k => [dI (d.own k)]
           have y60 := tab_len d.m fun k => [dI (src k).1, dB (src k).2]
           have y7 : ((d.m + 1 : Nat) : Int) * 8 ≤ 140737488355328 := by omega
           have y8 : ((d.m + 1 : Nat) : Int) ≤ 9007199254740992 := by omega
           have y70 : ((d.m + 1 : Nat) : Int) * 72 ≤ 140737488355328 := by omega
           have y80 : ((d.m + 1 : Nat) : Int) * 16 ≤ 140737488355328 := by omega
           refine aGoS (cj4 hres eL2 h2 (cj4 hD.hp hD.hO hD.hR (cj4 hD.hF y1 y2 (cj4 y3 y4 y5 (cj4 y6 y7 y8 (cj3 eA2 trivial Nat.zero_le)))))) ?_
           repeat with_reducible intro K hK
           refine ⟨by have := lt _ (.inr (.inr (.inr (.inl rfl)))); omega, by omega, ?_⟩
           with_reducible apply useE
           with_reducible assumption
           exact race_list [I.p, I.O, nx2, I.R] (by simp [y1, y2, y3, y25, y21, y9, y9.symm, y21.symm, y1.symm, y2.symm]) [([], []), ([], []), ([], []), ([], []), ([0], []), ([], []), ([], []), ([], []), ([0], []), ([], []), ([], []), ([], []), ([0], []), ([3], []), ([], []), ([2, 2], [2]), ([1, 2, 1], [1]), ([], []), ([], []), ([0, 0], [0])] rfl rfl (by kernel_rfl)
           exact intsOk_no rfl
           refine aGoS (cj4 hres eL2 h2 (cj4 hD.hR hD.hF y2 (cj4 y9 y10 y11 (cj4 y12 y13 y14 (cj4 y15 y16 y17 (cj4 y18 y19 y20 (cj4 y21 y22 y23 (cj4 y24 y25 y26 (cj4 y5 y60 y70 (cj4 y80 y8 Nat.zero_le y27)))))))))) ?_
           repeat with_reducible intro K hK
           refine ⟨by have := lt _ (.inr (.inl rfl)); omega, by omega, by have := lt _ (.inr (.inr (.inr (.inr (.inr (.inl rfl)))))); omega, by omega, by omega, ?_⟩
           with_reducible apply useE
           with_reducible assumption
           exact race_list [I.p, nx + 2, nx2 + 1, I.R, nx2 + 2, I.F] (by have lF := lt _ (.inr (.inr (.inr (.inr (.inr (.inl rfl)))))); have lR := lt _ (.inr (.inl rfl)); simp only [List.nodup_cons, List.mem_cons, List.not_mem_nil, not_or, or_false, List.nodup_nil, not_false_eq_true, and_true]; omega) [([], []), ([], []), ([], []), ([], []), ([], []), ([0], []), ([1], []), ([2, 2], [2]), ([3, 2, 3], [3]), ([], []), ([], []), ([], []), ([0], []), ([], []), ([], []), ([], []), ([4, 4], [4]), ([5, 4, 5], [5]), ([], []), ([], []), ([0, 0], [0]), ([], []), ([], []), ([0, 0], [0])] rfl rfl (by kernel_rfl)
           exact intsOk_no rfl
           have lO := lt _ (.inr (.inr (.inr (.inl rfl))))
           have lF := lt _ (.inr (.inr (.inr (.inr (.inr (.inl rfl))))))
           have lR := lt _ (.inr (.inl rfl))
           refine aGoM (cj4 hres y1 y2 (cj4 y9 y10 y11 (cj4 y12 y13 y14 (cj4 y15 y16 y20 (cj4 y21 y22 y23 (cj4 y24 y25 y26 (cj2 y3 y27))))))) ?_
           refine ⟨h.add ap lt ⟨wt, wk, ofQ q⟩ row true (c := fun u => -coefT wt u) (Q := (-q)) ?_ ?_ ?_ ?_ ?_ (fun j _ => ?_) ?_ (fun id g1 g2 g3 g4 g5 => ?_), fun id g1 g2 => ?_⟩
           · simp only [upd_get]; repeat (first | rfl | rw [if_pos True.intro] | rw [if_neg (by omega)])
           · simp only [upd_get]; repeat (first | rfl | rw [if_pos True.intro] | rw [if_neg (by omega)])
           · simp only [upd_get]; repeat (first | rfl | rw [if_pos True.intro] | rw [if_neg (by omega)])
           · simp only [upd_get]; repeat (first | rfl | rw [if_pos True.intro] | rw [if_neg (by omega)])
           · simp only [upd_get]; repeat (rw [if_neg (by omega)])
             exact eA2
           · rfl
           · show -q = -(qOf (ofQ q)); rw [qOf_ofQ]
           · simp only [upd_get]; repeat (rw [if_neg (by omega)])
             exact hfr2 id g1
           · have u1 : id ≠ I.p := fun e => g2 (.inl e)
             have u2 : id ≠ I.R := fun e => g2 (.inr (.inl e))
             have u3 : id ≠ I.O := fun e => g2 (.inr (.inr (.inr (.inl e))))
             have u4 : id ≠ I.F := fun e => g2 (.inr (.inr (.inr (.inr (.inr (.inl e))))))
             try simp only [upd_get]
             repeat (rw [if_neg (by omega)])
             exact hfr2 id g1
def dicZ (n : Nat) (g : Nat → Rat) : Dic := { m := 0, n := n, own := fun _ => 0, free := fun j => j, v := fun _ => 0, a := fun _ _ => 0, g := g, z := 0 }
def addP (w : RowD) (row : Nat) (turned : Bool) (x : Dic × (Nat → Nat × Bool)) : Dic × (Nat → Nat × Bool) := (addRow x.1 w turned, fun k => if k = x.1.m then (row, turned) else x.2 k)
def putP (x : Dic × (Nat → Nat × Bool)) (row : Nat) (w : RowD) : Dic × (Nat → Nat × Bool) :=
 let y := if w.k = 0 then x else addP w row false x
 if w.k = 1 then y else addP w row true y
def openK (g : Nat → Rat) (s : SysD) : Nat → Dic × (Nat → Nat × Bool)
 | 0 => (dicZ s.n.toNat g, fun _ => (0, false))
 | k + 1 => match s.r[k]? with
   | some w => putP (openK g s k) k w
   | none => openK g s k
theorem add_m (d : Dic) (w : RowD) (b : Bool) : (addRow d w b).m = d.m + 1 := rfl
theorem putP_n (x : Dic × (Nat → Nat × Bool)) (row : Nat) (w : RowD) : (putP x row w).1.n = x.1.n := by
 unfold putP addP
 simp only
 split <;> split <;> rfl
theorem putP_m (x : Dic × (Nat → Nat × Bool)) (row : Nat) (w : RowD) : (putP x row w).1.m ≤ x.1.m + 2 := by
 unfold putP addP
 simp only
 split <;> split <;> simp [add_m]
theorem openK_n (g : Nat → Rat) (s : SysD) : ∀ k, (openK g s k).1.n = s.n.toNat
 | 0 => rfl
 | k + 1 => by
   simp only [openK]
   split
   · rw [putP_n, openK_n]
   · exact openK_n g s k
theorem openK_m (g : Nat → Rat) (s : SysD) : ∀ k, (openK g s k).1.m ≤ 2 * k
 | 0 => Nat.le_refl _
 | k + 1 => by
   have := openK_m g s k
   simp only [openK]
   split
   · rename_i w _; have := putP_m (openK g s k) k w; omega
   · omega
def openD (s : SysD) (goal : List TermD) : Dic × (Nat → Nat × Bool) := openK (fun j => -coefT goal j) s s.r.length
def goalK (l : List TermD) (i : Nat) (u : Nat) : Rat := -coefT (l.take i) u
theorem goal_set {l : List TermD} {n : Nat} {N : Int} (h : rightT l N = true) {i : Nat} {t : TermD} (ht : l[i]? = some t) (h0 : 0 ≤ t.v) :
    (ratL n (goalK l i)).set t.v.toNat (cF (ofQ (-qOf t.f))) = ratL n (goalK l (i + 1)) := by
 rw [rat_set]
 refine rat_congr fun u _ => ?_
 unfold goalK
 rw [coef_succ ht h0]
 by_cases e : u = t.v.toNat
 · subst e; rw [if_pos rfl, if_pos rfl, coef_before h ht h0]; grind
 · rw [if_neg e, if_neg e]; grind
theorem Apart.add {I : Ids} {m x : Nat} (ap : Apart I m) (hp : x ≠ I.p) (hR : x ≠ I.R) (hG : x ≠ I.G) (hO : x ≠ I.O) (hFr : x ≠ I.Fr) (hF : x ≠ I.F) (hA : ∀ k, k < m → x ≠ I.A k) : Apart (addIds I m x) (m + 1) := by
 have key : ∀ (y : Nat), x ≠ y → (∀ k, k < m → I.A k ≠ y) → ∀ k, k < m + 1 → (addIds I m x).A k ≠ y := by
  intro y h1 h2 k hk
  simp only [addIds]
  by_cases e : k = m
  · rw [if_pos e]; exact h1
  · rw [if_neg e]; exact h2 k (by omega)
 refine ⟨ap.pR, ap.pG, ap.pO, ap.pFr, ap.pF, ap.RG, ap.RO, ap.RFr, ap.RF, ap.GO, ap.GFr, ap.GF, ap.OFr, ap.OF, ap.FrF, key _ hp ap.Ap, key _ hR ap.AR, key _ hG ap.AG, key _ hO ap.AO, key _ hFr ap.AFr, key _ hF ap.AF, ?_⟩
 intro k l hk hl hkl
 simp only [addIds]
 by_cases e : k = m
 · rw [if_pos e, if_neg (by omega)]; exact hA l (by omega)
 · rw [if_neg e]
   by_cases e2 : l = m
   · rw [if_pos e2]; exact (hA k (by omega)).symm
   · rw [if_neg e2]; exact ap.AA k l (by omega) (by omega) hkl
abbrev opI (nx : Nat) (A : Nat → Nat) (vR vO vFr vF : Nat) : Ids := ⟨nx + 2, nx + 3, nx + 1, nx + 4, nx + 5, nx + 6, A, vR, vO, vFr, vF⟩
def OpenAt (nx v : Nat) (fr : List (List D)) (b : Nat) (m : Mem) (x : Dic × (Nat → Nat × Bool)) : Prop :=
 ∃ A vR vO vF, DicFr fr m (opI nx A vR vO v vF) x.1 x.2 ∧ Apart (opI nx A vR vO v vF) x.1.m ∧ nx + 6 < b ∧ ∀ k, k < x.1.m → nx + 6 < A k ∧ A k < b
theorem opI_in {nx : Nat} {A : Nat → Nat} {vR vO vFr vF b M : Nat} (hb : nx + 6 < b) (h : ∀ k, k < M → nx + 6 < A k ∧ A k < b) {id : Nat} (hi : inD (opI nx A vR vO vFr vF) M id) : nx < id ∧ id < b := by
 rcases hi with rfl | rfl | rfl | rfl | rfl | rfl | ⟨k, hk, rfl⟩
 · exact ⟨by show nx < nx + 2; omega, by show nx + 2 < b; omega⟩
 · exact ⟨by show nx < nx + 3; omega, by show nx + 3 < b; omega⟩
 · exact ⟨by show nx < nx + 1; omega, by show nx + 1 < b; omega⟩
 · exact ⟨by show nx < nx + 4; omega, by show nx + 4 < b; omega⟩
 · exact ⟨by show nx < nx + 5; omega, by show nx + 5 < b; omega⟩
 · exact ⟨by show nx < nx + 6; omega, by show nx + 6 < b; omega⟩
 · have := h k hk; exact ⟨by show nx < A k; omega, by show A k < b; omega⟩
theorem put_o [Ifl] {nx v : Nat} {fr : List (List D)} {b : Nat} {m : Mem} {x : Dic × (Nat → Nat × Bool)} (h : OpenAt nx v fr b m x) {nc : Nat} (hb : b ≤ nc) (row : Nat) (w : RowD) (turned : Bool) (hm : (x.1.m : Int) ≤ 4000) (hn : (x.1.n : Int) ≤ 4000) (hrow : (row : Int) ≤ 4096)
    (hr : rightT w.t x.1.n = true) (hv : okF w.v = true) (sw : smW w) :
    CallA Tryz.prog 148 [.lp (nx + 2) 0 0 0, dI row, encW w, dB turned] m nc fun d' m' nx' => d' = oneD [] ∧ nc ≤ nx' ∧ OpenAt nx v fr nx' m' (addP w row turned x) ∧ ∀ id, id < nc → (id ≤ nx ∨ b ≤ id) → m' id = m id := by
 obtain ⟨A, vR, vO, vF, h1, h2, h3, h4⟩ := h
 refine (put_a (nx := nc) h1 h2 row w turned hm hn hrow hr hv sw).mono ?_
 rintro d' m' nx' ⟨rfl, g1, g2, g3⟩
 refine ⟨rfl, by omega, ⟨_, _, _, _, g2, ?_, by omega, fun k hk => ?_⟩, fun id i1 i2 => g3 id i1 fun hi => ?_⟩
 · refine h2.add ?_ ?_ ?_ ?_ ?_ ?_ fun k hk => ?_
   · show nc + 1 ≠ nx + 2; omega
   · show nc + 1 ≠ nx + 3; omega
   · show nc + 1 ≠ nx + 1; omega
   · show nc + 1 ≠ nx + 4; omega
   · show nc + 1 ≠ nx + 5; omega
   · show nc + 1 ≠ nx + 6; omega
   · have := h4 k hk; show nc + 1 ≠ A k; omega
 · show nx + 6 < (if k = x.1.m then nc + 1 else A k) ∧ (if k = x.1.m then nc + 1 else A k) < nx'
   by_cases e : k = x.1.m
   · rw [if_pos e]; omega
   · rw [if_neg e]
     have hk2 : k < x.1.m + 1 := hk
     have := h4 k (by omega)
     omega
 · have := opI_in h3 h4 hi
   omega
theorem OpenAt.keep {nx v : Nat} {fr : List (List D)} {b b' : Nat} {m m' : Mem} {x : Dic × (Nat → Nat × Bool)} (h : OpenAt nx v fr b m x) (hb : b ≤ b') (hk : ∀ id, nx < id → id < b → m' id = m id) : OpenAt nx v fr b' m' x := by
 obtain ⟨A, vR, vO, vF, h1, h2, h3, h4⟩ := h
 exact ⟨A, vR, vO, vF, h1.keep fun id hi => by have := opI_in h3 h4 hi; exact hk id this.1 this.2, h2, by omega, fun k hk => by have := h4 k hk; omega⟩
def setG (x : Dic × (Nat → Nat × Bool)) (g : Nat → Rat) : Dic × (Nat → Nat × Bool) := ({ x.1 with g := g }, x.2)
theorem OpenAt.g {nx v : Nat} {fr : List (List D)} {b : Nat} {m : Mem} {x : Dic × (Nat → Nat × Bool)} (h : OpenAt nx v fr b m x) {g : Nat → Rat} (hg : ∀ j, j < x.1.n → g j = x.1.g j) : OpenAt nx v fr b m (setG x g) := by
 obtain ⟨A, vR, vO, vF, h1, h2, h3, h4⟩ := h
 refine ⟨A, vR, vO, vF, ⟨h1.hp, h1.hR, ?_, h1.hO, h1.hFr, h1.hF, h1.hA⟩, h2, h3, h4⟩
 have := h1.hG
 unfold fB at this ⊢
 show _ = some (Blk.mk _ _ _ (ratL x.1.n g) _ _)
 rw [rat_congr hg]; exact this
theorem DicFr.upto {fr fr' : List (List D)} {m m' : Mem} {nx : Nat} {A : Nat → Nat} {vR vO v v' vF b : Nat} {d : Dic} {src : Nat → Nat × Bool} (h : DicFr fr m (opI nx A vR vO v vF) d src) {g : Nat → Rat}
    (hp : m' (nx + 2) = some (pB (opI nx A vR vO v' vF) d.n)) (hG : m' (nx + 1) = some (fB d.n g)) (hFr : m' (nx + 5) = some ⟨3, v', 1, fr', 0, false⟩) (hk : ∀ id, id < b → id ≠ nx + 2 → id ≠ nx + 1 → id ≠ nx + 5 → m' id = m id)
    (hb : nx + 6 < b) (hA : ∀ k, k < d.m → nx + 6 < A k ∧ A k < b) : DicFr fr' m' (opI nx A vR vO v' vF) { d with g := g } src :=
 ⟨hp, (hk (nx + 3) (by omega) (by omega) (by omega) (by omega)).trans h.hR, hG, (hk (nx + 4) (by omega) (by omega) (by omega) (by omega)).trans h.hO, hFr, (hk (nx + 6) (by omega) (by omega) (by omega) (by omega)).trans h.hF,
   fun k hk' => (hk (A k) (hA k hk').2 (by have := hA k hk'; omega) (by have := hA k hk'; omega) (by have := hA k hk'; omega)).trans (h.hA k hk')⟩
theorem free_snoc (j : Nat) : (tabL j fun i => [dI (i : Int)]) ++ [[dI (j : Int)]] = tabL (j + 1) fun i => [dI (i : Int)] := (tab_succ j _).symm
theorem openK_g (g g' : Nat → Rat) (s : SysD) : ∀ k, openK g s k = setG (openK g' s k) g
 | 0 => rfl
 | k + 1 => by
   simp only [openK]
   split
   · rename_i w _
     rw [openK_g g g' s k]
     unfold putP
     simp only
     split <;> split <;> rfl
   · exact openK_g g g' s k
theorem openK_free (g : Nat → Rat) (s : SysD) : ∀ k, (openK g s k).1.free = fun j => j
 | 0 => rfl
 | k + 1 => by
   simp only [openK]
   split
   · rename_i w _
     have := openK_free g s k
     unfold putP
     simp only
     split <;> split <;> exact this
   · exact openK_free g s k
theorem openK_gg (g : Nat → Rat) (s : SysD) : ∀ k, (openK g s k).1.g = g
 | 0 => rfl
 | k + 1 => by
   simp only [openK]
   split
   · rename_i w _
     have := openK_gg g s k
     unfold putP
     simp only
     split <;> split <;> exact this
   · exact openK_gg g s k
theorem openD_eq (s : SysD) (goal : List TermD) : openD s goal = setG (openK (fun _ => 0) s s.r.length) (goalK goal goal.length) := by
 have e : goalK goal goal.length = fun j => -coefT goal j := by funext u; unfold goalK; rw [List.take_length]
 rw [e]
 exact openK_g _ _ _ _
theorem open_a [Ifl] (s : SysD) (goal : List TermD) (m : Mem) (nx : Nat) (hr : rightS s = true) (hg : rightT goal s.n = true) (hs : smS s) (hgs : smT goal) (hl : (s.r.length : Int) ≤ 1900) :
    CallA Tryz.prog 62 [encS s, encTs goal] m nx fun d' m' nx' => ∃ I : Ids, d' = .lp I.p 0 0 0 ∧ nx ≤ nx' ∧ DicAt m' I (openD s goal).1 (openD s goal).2 ∧ Apart I (openD s goal).1.m ∧ (∀ id, inD I (openD s goal).1.m id → nx ≤ id) ∧ ∀ id, id < nx → m' id = m id := by
 obtain ⟨sn, sr⟩ := s
 obtain ⟨n, rfl⟩ : ∃ n : Nat, sn = n := ⟨sn.toNat, by simp only [rightS, Bool.and_eq_true, decide_eq_true_eq] at hr; have := hr.1.1.1; omega⟩
 have hl' : (sr.length : Int) ≤ 1900 := hl
 have hn : (n : Int) ≤ 1500 := by simp only [rightS, Bool.and_eq_true, decide_eq_true_eq] at hr; exact hr.1.1.2
 refine CallA.cl ⟨_, _, Tryz.func62, rfl, by kernel_rfl⟩ fun hcl => ?_
 have hres := Tryz.results62
 refine inA Tryz.func62 rfl Tryz.ntmps62 ?_
 refine aGoM (cj2 hres ty_dp) ?_
 repeat (first | (guard_target =~ ∀ _ : St → Prop, _; intro KJ hJ) | (guard_target =~ ∀ _ : List Ev → St → Prop, _; intro K hK))
 refine callU_eff (zeros_e n _ _ (by omega) ((upd_ne _ _ (by omega)).trans (hcl.none (by omega)))) ?_
 refine aGoS (cj2 hres ty_dp) ?_
 repeat (first | (guard_target =~ ∀ _ : St → Prop, _; intro KJ hJ) | (guard_target =~ ∀ _ : List Ev → St → Prop, _; intro K hK))
 have n0 : nx ≠ nx + 1 := by omega
 have n4 : nx ≠ nx + 2 := by omega
 have n5 : nx + 1 ≠ nx + 2 := by omega
 with_reducible apply useE
 with_reducible assumption
 exact race_list [nx, nx + 1, nx + 2] (by simp) [([], []), ([0], []), ([], []), ([0], []), ([1], [1]), ([], []), ([2, 2], [2]), ([], [])] rfl rfl (by kernel_rfl)
 exact intsOk_no rfl
 refine hJ _ ?_
 refine aLe (le_rowIn (nx + 2) 0 1 156 5 (upd_same _ _ _) rfl rfl) ?_
 refine aLe (le_rowIn (nx + 2) 0 3 3 1 (upd_same _ _ _) rfl rfl) ?_
 refine aLe (le_rowIn (nx + 2) 0 4 3 1 (upd_same _ _ _) rfl rfl) ?_
 refine aLe (le_rowIn (nx + 2) 0 5 185 2 (upd_same _ _ _) rfl rfl) ?_
 have n6 : nx ≠ nx + 3 := by omega
 have n7 : nx ≠ nx + 4 := by omega
 have n8 : nx ≠ nx + 5 := by omega
 have n9 : nx ≠ nx + 6 := by omega
 refine aGoM (cj4 hres ty_dp n0 (cj4 n4 n5 n6 (cj3 n7 n8 n9))) ?_
 repeat (first | (guard_target =~ ∀ _ : St → Prop, _; intro KJ hJ) | (guard_target =~ ∀ _ : List Ev → St → Prop, _; intro K hK))
 refine aLoopM (fun (i : Nat) => [(1, encTs goal), (2, .lp nx 0 0 0), (5, .lp (nx + 2) 0 0 0), (19, encWs sr), (20, dI sr.length), (21, dI i)]) nx
  (fun i m1 nx1 => i ≤ sr.length ∧ m1 nx = some ⟨24, 0, 2, [cS ⟨n, sr⟩], 0, false⟩ ∧ (∀ id, id < nx → m1 id = m id) ∧ OpenAt nx 0 [] nx1 m1 (openK (fun _ => 0) ⟨n, sr⟩ i)) (fun i => sr.length - i) 0 ?_ ?_ ?_ ?_
 · refine ⟨Nat.zero_le _, ?_, fun id h1 => ?_, ⟨fun _ => 0, 0, 0, 0, ⟨?_, ?_, ?_, ?_, ?_, ?_, fun k hk => absurd hk (Nat.not_lt_zero _)⟩, ?_, ?_, fun k hk => absurd hk (Nat.not_lt_zero _)⟩⟩
   · dsimp only
     simp only [upd_get]
     repeat (first | rw [if_pos trivial] | rw [if_neg (by omega)])
   · dsimp only
     simp only [upd_get]
     repeat (rw [if_neg (by omega)])
   · simp [upd_get, openK, dicZ]
   · simp [upd_get, openK, dicZ, rowsL, tabL]
   · simp [upd_get, openK, dicZ]
   · simp [upd_get, openK, dicZ, tabL]
   · simp [upd_get, openK, dicZ, tabL]
   · simp [upd_get, openK, dicZ, tabL]
   · constructor <;> first | (intro k hk; exact absurd hk (Nat.not_lt_zero _)) | (intro k l hk; exact absurd hk (Nat.not_lt_zero _)) | simp
   · show nx + 6 < nx + 7; omega
 · rfl
 · simp [go_sem]
 · rintro i m1 nx1 ⟨hi, eS, hfr, hO⟩
   obtain ⟨hw, i0⟩ := wrap2 i
   by_cases h1 : (i : Int) < sr.length
   · obtain ⟨w, hwi⟩ := getE (l := sr) (k := i) (by omega)
     have x1 : nx ≠ nx1 := by obtain ⟨_, _, _, _, _, _, h, _⟩ := hO; omega
     have hO1 : OpenAt nx 0 [] nx1 (upd (upd m1 nx1 (some ⟨61, 0, 6, [[.nil, dI 0, dI 0, .nil, dI 0, .nil]], 0, false⟩)) nx1 (some ⟨61, 0, 6, [cW w], 0, false⟩)) (openK (fun _ => 0) ⟨n, sr⟩ i) :=
      hO.keep (Nat.le_refl _) fun id g1 g2 => (upd_ne _ _ (by omega)).trans (upd_ne _ _ (by omega))
     have hK1 : openK (fun _ => 0) ⟨n, sr⟩ (i + 1) = putP (openK (fun _ => 0) ⟨n, sr⟩ i) i w := by simp only [openK, hwi]
     have hx1 := openK_n (fun _ => 0) ⟨n, sr⟩ i
     have hx2 := openK_m (fun _ => 0) ⟨n, sr⟩ i
     simp only [Int.toNat_natCast] at hx1
     have hrw := rightS_row hr (mem_at hwi)
     simp only [Int.toNat_natCast] at hrw
     have sw := hs.2 w (mem_at hwi)
     have hrt : rightT w.t ((openK (fun _ => 0) ⟨n, sr⟩ i).1.n : Nat) = true := by rw [hx1]; exact hrw.1
     have x0 : nx < nx1 := by obtain ⟨_, _, _, _, _, _, h, _⟩ := hO; omega
     by_cases k0 : w.k = 0
     · have t1 : (w.k != 0) = false := by simp [k0]
       have t2 : (w.k != 1) = true := by simp [k0]
       refine aGoM (cj4 hres eS hwi (cj4 h1 hw i0 (cj4 t1 t2 x1 trivial))) ?_
       repeat with_reducible intro K hK
       refine callT_eff (put_o hO1 (Nat.le_succ _) i w true (by omega) (by omega) (by omega) hrt hrw.2.2.2 sw) ?_
       rintro _ m2 nx2 ⟨rfl, g1, g2, g3⟩
       refine aGoM (cj4 hres hw i0 trivial) ?_
       repeat with_reducible intro K hK
       refine loop_endM (i + 1) ⟨by omega, ?_, fun id h => ?_, ?_⟩ (by omega) rfl (by simp [go_sem])
       · exact (g3 nx (by omega) (.inl (Nat.le_refl _))).trans ((upd_ne _ _ x1).trans ((upd_ne _ _ x1).trans eS))
       · exact (g3 id (by omega) (.inl (by omega))).trans ((upd_ne _ _ (by omega)).trans ((upd_ne _ _ (by omega)).trans (hfr id h)))
       · rw [hK1]; unfold putP; simp only [k0]; exact g2
     · have t1 : (w.k != 0) = true := by simp [k0]
       by_cases k1 : w.k = 1
       · have t2 : (w.k != 1) = false := by simp [k1]
         refine aGoM (cj4 hres eS hwi (cj4 h1 hw i0 (cj4 t1 t2 x1 trivial))) ?_
         repeat with_reducible intro K hK
         refine callT_eff (put_o hO1 (Nat.le_succ _) i w false (by omega) (by omega) (by omega) hrt hrw.2.2.2 sw) ?_
         rintro _ m2 nx2 ⟨rfl, g1, g2, g3⟩
         have r1 : m2 nx1 = some ⟨61, 0, 6, [cW w], 0, false⟩ := (g3 nx1 (Nat.lt_succ_self _) (.inr (Nat.le_refl _))).trans (upd_same _ _ _)
         refine aGoM (cj4 hres hw i0 (cj3 r1 t2 trivial)) ?_
         repeat with_reducible intro K hK
         refine loop_endM (i + 1) ⟨by omega, ?_, fun id h => ?_, ?_⟩ (by omega) rfl (by simp [go_sem])
         · exact (g3 nx (by omega) (.inl (Nat.le_refl _))).trans ((upd_ne _ _ x1).trans ((upd_ne _ _ x1).trans eS))
         · exact (g3 id (by omega) (.inl (by omega))).trans ((upd_ne _ _ (by omega)).trans ((upd_ne _ _ (by omega)).trans (hfr id h)))
         · rw [hK1]; unfold putP; simp only [k1]; rw [if_pos trivial, if_neg (by decide)]; exact g2
       · have t2 : (w.k != 1) = true := by simp [k1]
         refine aGoM (cj4 hres eS hwi (cj4 h1 hw i0 (cj4 t1 t2 x1 trivial))) ?_
         repeat with_reducible intro K hK
         refine callT_eff (put_o hO1 (Nat.le_succ _) i w false (by omega) (by omega) (by omega) hrt hrw.2.2.2 sw) ?_
         rintro _ m2 nx2 ⟨rfl, g1, g2, g3⟩
         have r1 : m2 nx1 = some ⟨61, 0, 6, [cW w], 0, false⟩ := (g3 nx1 (Nat.lt_succ_self _) (.inr (Nat.le_refl _))).trans (upd_same _ _ _)
         refine aGoM (cj4 hres hw i0 (cj3 r1 t2 trivial)) ?_
         repeat with_reducible intro K hK
         refine callT_eff (put_o g2 (Nat.le_refl _) i w true (by show (((openK (fun _ => 0) ⟨n, sr⟩ i).1.m + 1 : Nat) : Int) ≤ 4000; omega) (by show (((openK (fun _ => 0) ⟨n, sr⟩ i).1.n : Nat) : Int) ≤ 4000; omega) (by omega) hrt hrw.2.2.2 sw) ?_
         rintro _ m3 nx3 ⟨rfl, f1, f2, f3⟩
         refine aGoM (cj4 hres hw i0 trivial) ?_
         repeat with_reducible intro K hK
         refine loop_endM (i + 1) ⟨by omega, ?_, fun id h => ?_, ?_⟩ (by omega) rfl (by simp [go_sem])
         · exact (f3 nx (by omega) (.inl (Nat.le_refl _))).trans ((g3 nx (by omega) (.inl (Nat.le_refl _))).trans ((upd_ne _ _ x1).trans ((upd_ne _ _ x1).trans eS)))
         · exact (f3 id (by omega) (.inl (by omega))).trans ((g3 id (by omega) (.inl (by omega))).trans ((upd_ne _ _ (by omega)).trans ((upd_ne _ _ (by omega)).trans (hfr id h))))
         · rw [hK1]; unfold putP; simp only [if_neg k0, if_neg k1]; exact f2
   · obtain rfl : i = sr.length := by omega
     have hx1 := openK_n (fun _ => 0) ⟨n, sr⟩ sr.length
     have hx2 := openK_m (fun _ => 0) ⟨n, sr⟩ sr.length
     simp only [Int.toNat_natCast] at hx1
     have hfree := openK_free (fun _ => 0) ⟨n, sr⟩ sr.length
     have hgg := openK_gg (fun _ => 0) ⟨n, sr⟩ sr.length
     have hoD := openD_eq ⟨n, sr⟩ goal
     simp only at hoD
     generalize hD0 : openK (fun _ => 0) ⟨n, sr⟩ sr.length = D0 at hO hx1 hx2 hfree hgg hoD
     have hg0 : ∀ j, j < D0.1.n → goalK goal 0 j = D0.1.g j := fun j _ => by rw [hgg]; unfold goalK; simp only [List.take_zero, coefT, dotS]; grind
     have lg : (goal.length : Int) ≤ 4096 := hgs.1
     refine aGoM (cj4 hres hfr h1 trivial) ?_
     repeat with_reducible intro K hK
     refine aLoopM (fun (i : Nat) => [(2, .lp nx 0 0 0), (5, .lp (nx + 2) 0 0 0), (41, encTs goal), (42, dI goal.length), (43, dI i)]) nx
      (fun i m1 nx1 => i ≤ goal.length ∧ m1 nx = some ⟨24, 0, 2, [cS ⟨n, sr⟩], 0, false⟩ ∧ (∀ id, id < nx → m1 id = m id) ∧ OpenAt nx 0 [] nx1 m1 (setG D0 (goalK goal i))) (fun i => goal.length - i) 0 ?_ ?_ ?_ ?_
     · exact ⟨Nat.zero_le _, eS, hfr, hO.g hg0⟩
     · rfl
     · simp [go_sem]
     · clear hO eS hfr hJ hi hw i0 h1
       rintro i m2 nx2 ⟨hi, eS, hfr, A, vR, vO, vF, h1, h2, h3, h4⟩
       obtain ⟨hw, i0⟩ := wrap2 i
       have hp := h1.hp
       have hG := h1.hG
       have hF := h1.hFr
       simp only [setG, hx1] at hp hG hF
       by_cases g1 : (i : Int) < goal.length
       · obtain ⟨⟨tv, tf⟩, ht⟩ : ∃ e, goal[i]? = some e := ⟨_, List.getElem?_eq_getElem (by omega)⟩
         obtain ⟨t0, t1, t2, t3⟩ := rightT_mem hg (mem_at ht)
         obtain ⟨r, rfl⟩ : ∃ r, tf = ofQ r := ⟨qOf tf, okF_eq t2⟩
         have zr : (szF (ofQ r) : Int) ≤ 4194304 := hgs.2 _ (mem_at ht)
         rw [← szF_ok t2, qOf_ofQ] at zr
         have k2 := nneg_c r (by omega)
         have es := goal_set (n := n) hg ht t0
         simp only [qOf_ofQ] at es
         simp only at t0 t1
         have le := rat_len n (goalK goal i)
         have x1 : nx ≠ nx2 := by omega
         have x2 : nx + 1 ≠ nx2 := by omega
         have x3 : nx + 2 ≠ nx2 := by omega
         have gi := rat_get (n := n) (k := tv.toNat) (goalK goal i) (by omega)
         refine aGoM (cj4 hres hp hG (cj4 ht g1 hw (cj4 i0 t0 t1 (cj4 es le gi (cj4 x1 x2 x3 (cj4 k2 ty_dp n5 Nat.zero_le)))))) ?_
         repeat with_reducible intro K hK
         refine loop_endM (i + 1) ⟨by omega, ?_, fun id h => ?_, ?_⟩ (by omega) rfl (by simp [go_sem])
         · exact (upd_ne _ _ (by omega)).trans ((upd_ne _ _ x1).trans ((upd_ne _ _ x1).trans eS))
         · exact (upd_ne _ _ (by omega)).trans ((upd_ne _ _ (by omega)).trans ((upd_ne _ _ (by omega)).trans (hfr id h)))
         · refine ⟨A, vR, vO, vF, h1.upto (b := nx2) (g := goalK goal (i + 1)) ?_ ?_ ?_ (fun id q1 q2 q3 q4 => ?_) h3 h4, h2, Nat.lt_succ_of_lt h3, fun k hk => ⟨(h4 k hk).1, Nat.lt_succ_of_lt (h4 k hk).2⟩⟩
           · exact (upd_ne _ _ (by omega)).trans ((upd_ne _ _ x3).trans ((upd_ne _ _ x3).trans h1.hp))
           · refine (upd_same _ _ _).trans ?_
             simp only [setG, hx1]
           · exact (upd_ne _ _ (by omega)).trans ((upd_ne _ _ (by omega)).trans ((upd_ne _ _ (by omega)).trans h1.hFr))
           · exact (upd_ne _ _ q3).trans ((upd_ne _ _ (by omega)).trans (upd_ne _ _ (by omega)))
       · obtain rfl : i = goal.length := by omega
         refine aGoM (cj4 hres eS g1 trivial) ?_
         repeat with_reducible intro K hK
         refine aLoopM (fun (i : Nat) => [(5, .lp (nx + 2) 0 0 0), (59, dI n), (60, dI i)]) nx
          (fun i m1 nx1 => i ≤ n ∧ (∀ id, id < nx → m1 id = m id) ∧ OpenAt nx i (tabL i fun j => [dI j]) nx1 m1 (setG D0 (goalK goal goal.length))) (fun i => n - i) 0 ?_ ?_ ?_ ?_
         · exact ⟨Nat.zero_le _, hfr, A, vR, vO, vF, h1, h2, h3, h4⟩
         · rfl
         · simp [go_sem]
         · clear hfr h1 h2 h3 h4 hp hG hF eS hw i0 g1
           rintro i m3 nx3 ⟨hi3, hfr, A, vR, vO, vF, h1, h2, h3, h4⟩
           obtain ⟨hw, i0⟩ := wrap2 i
           have hp := h1.hp
           have hG := h1.hG
           have hF := h1.hFr
           simp only [setG, hx1] at hp hG hF
           by_cases g1 : (i : Int) < n
           · have fs := free_snoc i
             have x1 : nx + 5 ≠ nx3 := by omega
             have x2 : nx + 2 ≠ nx3 := by omega
             have x3 : nx + 2 ≠ nx + 5 := by omega
             have lf := tab_len i fun j => [dI (j : Int)]
             have y7 : ((i + 1 : Nat) : Int) * 8 ≤ 140737488355328 := by omega
             have y8 : ((i + 1 : Nat) : Int) ≤ 9007199254740992 := by omega
             refine aGoM (cj4 hres hp hF (cj4 g1 hw i0 (cj4 fs lf x1 (cj4 x2 x3 y7 (cj3 y8 ty_dp Nat.zero_le))))) ?_
             repeat with_reducible intro K hK
             refine loop_endM (i + 1) ⟨by omega, fun id h => ?_, A, vR, vO, vF, h1.upto (b := nx3) (g := goalK goal goal.length) ?_ ?_ ?_ (fun id q1 q2 q3 q4 => ?_) h3 h4, (by cases h2; constructor <;> assumption), Nat.lt_succ_of_lt h3, fun k hk => ⟨(h4 k hk).1, Nat.lt_succ_of_lt (h4 k hk).2⟩⟩ (by omega) rfl (by simp [go_sem])
             · dsimp only
               simp only [upd_get]
               repeat (rw [if_neg (by omega)])
               exact hfr id h
             · refine (upd_same _ _ _).trans ?_
               simp only [setG, hx1]
             · refine Eq.trans ?_ h1.hG
               dsimp only
               simp only [upd_get]
               repeat (rw [if_neg (by omega)])
             · exact (upd_ne _ _ (by omega)).trans (upd_same _ _ _)
             · exact (upd_ne _ _ q2).trans ((upd_ne _ _ q4).trans (upd_ne _ _ (by omega)))
           · obtain rfl : i = n := by omega
             refine aGoM (cj4 hres hp hF (cj2 g1 ty_dp)) ?_
             repeat with_reducible intro K hK
             rw [hoD]
             refine ⟨opI nx A vR vO i vF, rfl, by omega, DicFr.at ?_, h2, fun id hi => Nat.le_of_lt (opI_in h3 h4 hi).1, hfr⟩
             have e : (tabL (setG D0 (goalK goal goal.length)).1.n fun j => [dI ((setG D0 (goalK goal goal.length)).1.free j : Int)]) = tabL i fun j => [dI (j : Int)] := by
              show (tabL D0.1.n fun j => [dI (D0.1.free j : Int)]) = _
              rw [hx1, hfree]
             rw [e]; exact h1
end Go.Proofs.YtpkdhmnlpnijhaaGreat
