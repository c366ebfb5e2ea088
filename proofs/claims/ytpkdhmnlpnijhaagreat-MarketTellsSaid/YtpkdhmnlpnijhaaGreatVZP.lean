/-
  The walk over data: the reference's put.
-/
import Derived.Test.YtpkdhmnlpnijhaaGreatVZS
import Derived.Test.YtpkdhmnlpnijhaaGreatVSimC
namespace Go.Proofs.YtpkdhmnlpnijhaaGreat
set_option linter.unusedVariables false
set_option linter.unusedSimpArgs false
set_option linter.unusedSectionVars false
open Go Go.RowKit
set_option maxRecDepth 100000
set_option maxHeartbeats 16000000
def addI (I : ZI) (m x : Nat) : ZI := { I with R := fun k => if k = m then x else I.R k, vV := I.vV + 1, vA := I.vA + 1, vO := I.vO + 1, vF := I.vF + 1, vS := I.vS + 1, vSc := I.vSc + 1 }
def addK (K : ZK) (m row : Nat) (b : Bool) (sc : Nat) : ZK := { K with frm := fun k => if k = m then row else K.frm k, neg := fun k => if k = m then b else K.neg k, scl := fun k => if k = m then sc else K.scl k }
theorem scT_succ {l : List TermD} {n i : Nat} {t : TermD} (ht : l[i]? = some t) : scT n (l.take (i + 1)) = lcQ (scT n (l.take i)) (qOf t.f) := by
 unfold scT
 rw [List.take_add_one, ht]
 simp [List.foldl_append]
def zsg (b : Bool) (z : Int) : Int := if b then -z else z
theorem zsg_sign (b : Bool) (z : Int) : IntKind.i64.wrap (z.sign * sgI b) = (zsg b z).sign := by
 have := sign_bounds z
 cases b with
 | false => show IntKind.i64.wrap (z.sign * 1) = z.sign; rw [Int.mul_one]; exact wrap_in (by omega) (by omega)
 | true => show IntKind.i64.wrap (z.sign * -1) = (-z).sign; rw [Int.sign_neg, show z.sign * -1 = -z.sign by omega]; exact wrap_in (by omega) (by omega)
theorem zsg_abs (b : Bool) (z : Int) : (zsg b z).natAbs = z.natAbs := by
 cases b with
 | false => rfl
 | true => exact Int.natAbs_neg z
theorem sgQ_num (b : Bool) (z : Int) : (sgQ' b (z : Rat)).num = zsg b z := by
 cases b with
 | false => exact Rat.num_intCast z
 | true => show (-(z : Rat)).num = -z; rw [← Rat.intCast_neg]; exact Rat.num_intCast _
def zcT (b : Bool) (l : List TermD) (u : Nat) : Int := (sgQ' b (coefT l u)).num
theorem zcT_zero (b : Bool) (l : List TermD) : zcT b (l.take 0) = fun _ => 0 := by
 funext u
 unfold zcT
 simp only [List.take_zero, coefT, dotS]
 cases b <;> decide +kernel
theorem zcoef_set {l : List TermD} {n : Nat} {N : Int} {b : Bool} (h : rightT l N = true) {i : Nat} {t : TermD} (ht : l[i]? = some t) (h0 : 0 ≤ t.v) {z : Int} (hz : qOf t.f = z) :
    (zL n (fun u => if u = t.v.toNat then z else zcT b (l.take i) u)).set t.v.toNat [dI (zsg b z).sign, encInts (digs z.natAbs)] = zL n (zcT b (l.take (i + 1))) := by
 rw [← zsg_abs b z]
 refine zl_set' _ _ fun u _ => ?_
 unfold zcT
 rw [coef_succ ht h0]
 by_cases e : u = t.v.toNat
 · subst e
   rw [if_pos rfl, if_pos rfl, coef_before h ht h0, hz, show (0 : Rat) + (z : Rat) = z by grind, sgQ_num]
 · rw [if_neg e, if_neg e, if_neg e]
   congr 2; grind
theorem ZAp.add {I : ZI} {m x : Nat} (ap : ZAp I m) (hx : x ∉ nineZ I) (hR : ∀ k, k < m → x ≠ I.R k) : ZAp (addI I m x) (m + 1) := by
 refine ⟨ap.nd, fun k hk => ?_, fun k l hk hl hkl => ?_⟩
 · show (if k = m then x else I.R k) ∉ nineZ I
   by_cases e : k = m
   · rw [if_pos e]; exact hx
   · rw [if_neg e]; exact ap.rx k (by omega)
 · show (if k = m then x else I.R k) ≠ (if l = m then x else I.R l)
   by_cases e : k = m
   · rw [if_pos e, if_neg (by omega)]; exact hR l (by omega)
   · rw [if_neg e]
     by_cases e2 : l = m
     · rw [if_pos e2]; exact (hR k (by omega)).symm
     · rw [if_neg e2]; exact ap.rr k l (by omega) (by omega) hkl
theorem tab_snoc {m : Nat} {c d : Nat → List D} {x : List D} (h : ∀ k, k < m → d k = c k) (hx : d m = x) : tabL m c ++ [x] = tabL (m + 1) d := by
 rw [tab_succ, ← hx]
 exact congrArg (· ++ [d m]) (tab_congr fun k hk => (h k hk).symm)
theorem ZFr.add {fr : List (List D)} {m m' : Mem} {I : ZI} {K : ZK} {d : Dic} {nx x : Nat} (h : ZFr fr m I K (zfirst d)) (ap : ZAp I d.m) (lt : ∀ id, inZ I d.m id → id < nx) (w : RowD) (row : Nat) (turned : Bool) {c : Nat → Int} {z : Int}
    (h1 : m' I.p = some ⟨164, 0, 12, [[.ls I.V (I.vV + 1), .ls I.A (I.vA + 1), .ls I.C 1, dI (1 : Int).sign, encInts (digs (1 : Int).natAbs), .ls I.O (I.vO + 1), .ls I.Fr I.vFr, .ls I.F (I.vF + 1), .ls I.S (I.vS + 1), .ls I.Sc (I.vSc + 1), dI (nsg K.gol), encInts (digs K.gol)]], 0, false⟩)
    (h2 : m' I.V = some ⟨30, I.vV + 1, 2, zL d.m (fun i => (d.v i).num) ++ [[dI (zsg turned z).sign, encInts (digs z.natAbs)]], 0, false⟩)
    (h3 : m' I.A = some ⟨161, I.vA + 1, 1, (tabL d.m fun k => [.ls (I.R k) 1]) ++ [[.ls x 1]], 0, false⟩)
    (h4 : m' I.O = some ⟨3, I.vO + 1, 1, (tabL d.m fun i => [dI (d.own i)]) ++ [[dI ((d.n + d.m : Nat) : Int)]], 0, false⟩)
    (h5 : m' I.F = some ⟨3, I.vF + 1, 1, (tabL d.m fun i => [dI (K.frm i)]) ++ [[dI (row : Int)]], 0, false⟩)
    (h6 : m' I.S = some ⟨3, I.vS + 1, 1, (tabL d.m fun i => [dI (sgI (K.neg i))]) ++ [[dI (sgI turned)]], 0, false⟩)
    (h7 : m' I.Sc = some ⟨30, I.vSc + 1, 2, zL d.m (fun i => (K.scl i : Int)) ++ [[dI (nsg (scW w)), encInts (digs (scW w))]], 0, false⟩)
    (h8 : m' x = some (bB 1 d.n c)) (hc : ∀ j, j < d.n → c j = zcT turned (mulW w).t j) (hz : qOf (mulW w).v = z) (hf : ∀ id, id < nx → id ≠ I.p → id ≠ I.V → id ≠ I.A → id ≠ I.O → id ≠ I.F → id ≠ I.S → id ≠ I.Sc → m' id = m id) :
    ZFr fr m' (addI I d.m x) (addK K d.m row turned (scW w)) (zfirst (addRow d (mulW w) turned)) := by
 have ne := ap.ne
 refine ⟨h1, h2.trans ?_, h3.trans ?_, ?_, h4.trans ?_, ?_, h5.trans ?_, h6.trans ?_, h7.trans ?_, fun k hk => ?_⟩
 · refine congrArg (fun l => some (Blk.mk _ _ _ l 0 false)) (tab_snoc (fun k hk => ?_) ?_)
   · show cZ ((if k = d.m then sgQ' turned (qOf (mulW w).v) else d.v k).num) = _
     rw [if_neg (by omega)]
   · show cZ ((if d.m = d.m then sgQ' turned (qOf (mulW w).v) else d.v d.m).num) = _
     rw [if_pos rfl, hz, sgQ_num, ← zsg_abs turned z]
 · refine congrArg (fun l => some (Blk.mk _ _ _ l 0 false)) (tab_snoc (fun k hk => ?_) ?_)
   · show [D.ls (if k = d.m then x else I.R k) 1] = _
     rw [if_neg (by omega)]
   · show [D.ls (if d.m = d.m then x else I.R d.m) 1] = _
     rw [if_pos rfl]
 · exact (hf _ (lt _ inZ_C) ne.pC.symm ne.VC.symm ne.AC.symm ne.CO ne.CF ne.CS ne.CSc).trans h.hC
 · refine congrArg (fun l => some (Blk.mk _ _ _ l 0 false)) (tab_snoc (fun k hk => ?_) ?_)
   · show [dI ((if k = d.m then d.n + d.m else d.own k : Nat) : Int)] = _
     rw [if_neg (by omega)]
   · show [dI ((if d.m = d.m then d.n + d.m else d.own d.m : Nat) : Int)] = _
     rw [if_pos rfl]
 · exact (hf _ (lt _ inZ_Fr) ne.pFr.symm ne.VFr.symm ne.AFr.symm ne.OFr.symm ne.FrF ne.FrS ne.FrSc).trans h.hFr
 · refine congrArg (fun l => some (Blk.mk _ _ _ l 0 false)) (tab_snoc (fun k hk => ?_) ?_)
   · show [dI ((if k = d.m then row else K.frm k : Nat) : Int)] = _
     rw [if_neg (by omega)]
   · show [dI ((if d.m = d.m then row else K.frm d.m : Nat) : Int)] = _
     rw [if_pos rfl]
 · refine congrArg (fun l => some (Blk.mk _ _ _ l 0 false)) (tab_snoc (fun k hk => ?_) ?_)
   · show [dI (sgI (if k = d.m then turned else K.neg k))] = _
     rw [if_neg (by omega)]
   · show [dI (sgI (if d.m = d.m then turned else K.neg d.m))] = _
     rw [if_pos rfl]
 · refine congrArg (fun l => some (Blk.mk _ _ _ l 0 false)) (tab_snoc (fun k hk => ?_) ?_)
   · show cZ ((if k = d.m then scW w else K.scl k : Nat) : Int) = _
     rw [if_neg (by omega)]
   · show cZ ((if d.m = d.m then scW w else K.scl d.m : Nat) : Int) = _
     rw [if_pos rfl]; rfl
 · by_cases e : k = d.m
   · subst e
     show m' (if d.m = d.m then x else I.R d.m) = some (bB 1 d.n fun j => ((if d.m = d.m then (fun j => sgQ' turned (coefT (mulW w).t j)) else d.a d.m) j).num)
     rw [if_pos rfl, if_pos rfl, h8]
     unfold bB
     rw [zl_congr hc]; rfl
   · have hk2 : k < d.m := by have : k < d.m + 1 := hk; omega
     have rn := ap.rne hk2
     show m' (if k = d.m then x else I.R k) = some (bB 1 d.n fun j => ((if k = d.m then (fun j => sgQ' turned (coefT (mulW w).t j)) else d.a k) j).num)
     rw [if_neg e, if_neg e]
     exact (hf _ (lt _ (inZR hk2)) rn.p rn.V rn.A rn.O rn.F rn.S rn.Sc).trans (h.hR k hk2)
set_option maxHeartbeats 32000000
theorem le_cellsZ [Ifl] {s : St} (id : Nat) {b : Blk} {es' : List (List D)} (hb : s.m id = some b) (he : b.es.map (List.map (fzT false s.m 8)) = es') : StLe s { s with m := upd s.m id (some { b with es := es' }) } := by
 subst he; exact le_cells id 8 hb
theorem zero_cells (m : Mem) (k n : Nat) : (List.replicate n [dI 0, D.nil]).map (List.map (fzT false m (k + 1))) = zL n fun _ => 0 := by
 rw [List.map_replicate]
 unfold zL tabL
 apply List.ext_getElem
 · simp
 · intro i h1 h2
   simp only [List.getElem_replicate, List.getElem_map]
   show [dI 0, D.sl []] = [dI 0, encInts (digs 0)]
   rw [digs_zero]; rfl
theorem szT_len {l : List TermD} {n : Nat} {a : Nat} (hn : (n : Int) < bp a) (hl : l.length ≤ 16) (hz : ∀ t ∈ l, szQ (qOf t.f) ≤ 16) : (digs (scT n l)).length ≤ a + 256 := by
 have h1 := scT_bp (B := 16) l hn hz
 have h2 := length_digs_le h1
 have h3 : l.length * 16 ≤ 16 * 16 := Nat.mul_le_mul_right _ hl
 omega
theorem forgetM {K : St → Prop} {s : St} (F : Mem → Prop) (h : F s.m) (k : ∀ m, F m → K ⟨s.t, m, s.nx, s.lo⟩) : K s := k s.m h
structure ZRw (m : Mem) (I : ZI) (g : Nat) (q : Int) (V A O F S Sc : List (List D)) : Prop where
 hp : m I.p = some (zpB I g q)
 hV : m I.V = some ⟨30, I.vV, 2, V, 0, false⟩
 hA : m I.A = some ⟨161, I.vA, 1, A, 0, false⟩
 hO : m I.O = some ⟨3, I.vO, 1, O, 0, false⟩
 hF : m I.F = some ⟨3, I.vF, 1, F, 0, false⟩
 hS : m I.S = some ⟨3, I.vS, 1, S, 0, false⟩
 hSc : m I.Sc = some ⟨30, I.vSc, 2, Sc, 0, false⟩
section
variable {m : Mem} {I : ZI} {g : Nat} {q : Int} {V A O F S Sc : List (List D)} (h : ZRw m I g q V A O F S Sc) (ne : ZNe I) {x : Nat} {b : Option Blk}
 (hx : x ≠ I.p ∧ x ≠ I.V ∧ x ≠ I.A ∧ x ≠ I.O ∧ x ≠ I.F ∧ x ≠ I.S ∧ x ≠ I.Sc)
include h ne hx
theorem ZRw.appV {L : List (List D)} : ZRw (upd (upd (upd m x b) I.V (some ⟨30, I.vV + 1, 2, L, 0, false⟩)) I.p (some (zpB { I with vV := I.vV + 1 } g q))) { I with vV := I.vV + 1 } g q L A O F S Sc := by
 obtain ⟨x1, x2, x3, x4, x5, x6, x7⟩ := hx
 refine ⟨upd_same _ _ _, (upd_ne _ _ ne.pV.symm).trans (upd_same _ _ _), (upd_ne _ _ ne.pA.symm).trans ((upd_ne _ _ ne.VA.symm).trans ((upd_ne _ _ (Ne.symm x3)).trans h.hA)), (upd_ne _ _ ne.pO.symm).trans ((upd_ne _ _ ne.VO.symm).trans ((upd_ne _ _ (Ne.symm x4)).trans h.hO)), (upd_ne _ _ ne.pF.symm).trans ((upd_ne _ _ ne.VF.symm).trans ((upd_ne _ _ (Ne.symm x5)).trans h.hF)), (upd_ne _ _ ne.pS.symm).trans ((upd_ne _ _ ne.VS.symm).trans ((upd_ne _ _ (Ne.symm x6)).trans h.hS)), (upd_ne _ _ ne.pSc.symm).trans ((upd_ne _ _ ne.VSc.symm).trans ((upd_ne _ _ (Ne.symm x7)).trans h.hSc))⟩
theorem ZRw.appA {L : List (List D)} : ZRw (upd (upd (upd m x b) I.A (some ⟨161, I.vA + 1, 1, L, 0, false⟩)) I.p (some (zpB { I with vA := I.vA + 1 } g q))) { I with vA := I.vA + 1 } g q V L O F S Sc := by
 obtain ⟨x1, x2, x3, x4, x5, x6, x7⟩ := hx
 refine ⟨upd_same _ _ _, (upd_ne _ _ ne.pV.symm).trans ((upd_ne _ _ ne.VA).trans ((upd_ne _ _ (Ne.symm x2)).trans h.hV)), (upd_ne _ _ ne.pA.symm).trans (upd_same _ _ _), (upd_ne _ _ ne.pO.symm).trans ((upd_ne _ _ ne.AO.symm).trans ((upd_ne _ _ (Ne.symm x4)).trans h.hO)), (upd_ne _ _ ne.pF.symm).trans ((upd_ne _ _ ne.AF.symm).trans ((upd_ne _ _ (Ne.symm x5)).trans h.hF)), (upd_ne _ _ ne.pS.symm).trans ((upd_ne _ _ ne.AS.symm).trans ((upd_ne _ _ (Ne.symm x6)).trans h.hS)), (upd_ne _ _ ne.pSc.symm).trans ((upd_ne _ _ ne.ASc.symm).trans ((upd_ne _ _ (Ne.symm x7)).trans h.hSc))⟩
theorem ZRw.appO {L : List (List D)} : ZRw (upd (upd (upd m x b) I.O (some ⟨3, I.vO + 1, 1, L, 0, false⟩)) I.p (some (zpB { I with vO := I.vO + 1 } g q))) { I with vO := I.vO + 1 } g q V A L F S Sc := by
 obtain ⟨x1, x2, x3, x4, x5, x6, x7⟩ := hx
 refine ⟨upd_same _ _ _, (upd_ne _ _ ne.pV.symm).trans ((upd_ne _ _ ne.VO).trans ((upd_ne _ _ (Ne.symm x2)).trans h.hV)), (upd_ne _ _ ne.pA.symm).trans ((upd_ne _ _ ne.AO).trans ((upd_ne _ _ (Ne.symm x3)).trans h.hA)), (upd_ne _ _ ne.pO.symm).trans (upd_same _ _ _), (upd_ne _ _ ne.pF.symm).trans ((upd_ne _ _ ne.OF.symm).trans ((upd_ne _ _ (Ne.symm x5)).trans h.hF)), (upd_ne _ _ ne.pS.symm).trans ((upd_ne _ _ ne.OS.symm).trans ((upd_ne _ _ (Ne.symm x6)).trans h.hS)), (upd_ne _ _ ne.pSc.symm).trans ((upd_ne _ _ ne.OSc.symm).trans ((upd_ne _ _ (Ne.symm x7)).trans h.hSc))⟩
theorem ZRw.appF {L : List (List D)} : ZRw (upd (upd (upd m x b) I.F (some ⟨3, I.vF + 1, 1, L, 0, false⟩)) I.p (some (zpB { I with vF := I.vF + 1 } g q))) { I with vF := I.vF + 1 } g q V A O L S Sc := by
 obtain ⟨x1, x2, x3, x4, x5, x6, x7⟩ := hx
 refine ⟨upd_same _ _ _, (upd_ne _ _ ne.pV.symm).trans ((upd_ne _ _ ne.VF).trans ((upd_ne _ _ (Ne.symm x2)).trans h.hV)), (upd_ne _ _ ne.pA.symm).trans ((upd_ne _ _ ne.AF).trans ((upd_ne _ _ (Ne.symm x3)).trans h.hA)), (upd_ne _ _ ne.pO.symm).trans ((upd_ne _ _ ne.OF).trans ((upd_ne _ _ (Ne.symm x4)).trans h.hO)), (upd_ne _ _ ne.pF.symm).trans (upd_same _ _ _), (upd_ne _ _ ne.pS.symm).trans ((upd_ne _ _ ne.Fs.symm).trans ((upd_ne _ _ (Ne.symm x6)).trans h.hS)), (upd_ne _ _ ne.pSc.symm).trans ((upd_ne _ _ ne.FSc.symm).trans ((upd_ne _ _ (Ne.symm x7)).trans h.hSc))⟩
theorem ZRw.appS {L : List (List D)} : ZRw (upd (upd (upd m x b) I.S (some ⟨3, I.vS + 1, 1, L, 0, false⟩)) I.p (some (zpB { I with vS := I.vS + 1 } g q))) { I with vS := I.vS + 1 } g q V A O F L Sc := by
 obtain ⟨x1, x2, x3, x4, x5, x6, x7⟩ := hx
 refine ⟨upd_same _ _ _, (upd_ne _ _ ne.pV.symm).trans ((upd_ne _ _ ne.VS).trans ((upd_ne _ _ (Ne.symm x2)).trans h.hV)), (upd_ne _ _ ne.pA.symm).trans ((upd_ne _ _ ne.AS).trans ((upd_ne _ _ (Ne.symm x3)).trans h.hA)), (upd_ne _ _ ne.pO.symm).trans ((upd_ne _ _ ne.OS).trans ((upd_ne _ _ (Ne.symm x4)).trans h.hO)), (upd_ne _ _ ne.pF.symm).trans ((upd_ne _ _ ne.Fs).trans ((upd_ne _ _ (Ne.symm x5)).trans h.hF)), (upd_ne _ _ ne.pS.symm).trans (upd_same _ _ _), (upd_ne _ _ ne.pSc.symm).trans ((upd_ne _ _ ne.SSc.symm).trans ((upd_ne _ _ (Ne.symm x7)).trans h.hSc))⟩
theorem ZRw.appSc {L : List (List D)} : ZRw (upd (upd (upd m x b) I.Sc (some ⟨30, I.vSc + 1, 2, L, 0, false⟩)) I.p (some (zpB { I with vSc := I.vSc + 1 } g q))) { I with vSc := I.vSc + 1 } g q V A O F S L := by
 obtain ⟨x1, x2, x3, x4, x5, x6, x7⟩ := hx
 refine ⟨upd_same _ _ _, (upd_ne _ _ ne.pV.symm).trans ((upd_ne _ _ ne.VSc).trans ((upd_ne _ _ (Ne.symm x2)).trans h.hV)), (upd_ne _ _ ne.pA.symm).trans ((upd_ne _ _ ne.ASc).trans ((upd_ne _ _ (Ne.symm x3)).trans h.hA)), (upd_ne _ _ ne.pO.symm).trans ((upd_ne _ _ ne.OSc).trans ((upd_ne _ _ (Ne.symm x4)).trans h.hO)), (upd_ne _ _ ne.pF.symm).trans ((upd_ne _ _ ne.FSc).trans ((upd_ne _ _ (Ne.symm x5)).trans h.hF)), (upd_ne _ _ ne.pS.symm).trans ((upd_ne _ _ ne.SSc).trans ((upd_ne _ _ (Ne.symm x6)).trans h.hS)), (upd_ne _ _ ne.pSc.symm).trans (upd_same _ _ _)⟩
end
theorem zput_a [Ifl] {I : ZI} {K : ZK} {d : Dic} {m : Mem} {nx : Nat} (h : ZFr [] m I K (zfirst d)) (ap : ZAp I d.m) (row : Nat) (w : RowD) (turned : Bool) (hm : (d.m : Int) ≤ 4000) (hn : (d.n : Int) ≤ 4000) (hrow : (row : Int) ≤ 4096)
    (hr : rightT w.t d.n = true) (hv : okF w.v = true) (hl : w.t.length ≤ 16) (szt : ∀ t ∈ w.t, szF t.f ≤ 16) (szv : szF w.v ≤ 16) :
    CallA Tryz.prog 159 [.lp I.p 0 0 0, dI d.n, dI row, encW w, dI (sgI turned)] m nx fun d' m' nx' => d' = oneD [] ∧ nx + 2 < nx' ∧ ZFr [] m' (addI I d.m (nx + 2)) (addK K d.m row turned (scW w)) (zfirst (addRow d (mulW w) turned)) ∧ ∀ id, id < nx → ¬ inZ I d.m id → m' id = m id := by
 obtain ⟨wt, wk, wv⟩ := w
 obtain ⟨q, rfl⟩ : ∃ q, wv = ofQ q := ⟨qOf wv, okF_eq hv⟩
 simp only at hr hl szt szv
 have zq : szQ q ≤ 16 := szv
 have ztt : ∀ t ∈ wt, szQ (qOf t.f) ≤ 16 := fun t ht => by
  have := (rightT_mem hr ht).2.2.1
  rw [szF_ok this]; exact szt t ht
 refine CallA.cl ⟨_, _, Tryz.func159, rfl, by kernel_rfl⟩ fun hcl => ?_
 have hres := Tryz.results159
 refine inA Tryz.func159 rfl Tryz.ntmps159 ?_
 have lt : ∀ id, inZ I d.m id → id < nx := h.lt hcl
 have o1 : nx ≠ nx + 1 := by omega
 have o2 : nx ≠ nx + 2 := by omega
 have o3 : nx ≠ nx + 3 := by omega
 have e1 : ((1 : Nat) : Int) < bp 1 := by decide +kernel
 have l1 : (digs 1).length ≤ 1 := length_digs_le e1
 have b0 := lcQ_bp e1 zq
 have k1 : ContractN Tryz.prog 158 [dI 1] (eN 1) := pOf_c 1 (by decide) (by decide)
 have k2 := common_c 1 q (by decide) (by omega) (by omega)
 refine aGoS (cj4 hres ty_zp o1 (cj3 o2 o3 Nat.zero_le)) ?_
 repeat with_reducible intro K' hK
 with_reducible apply useE
 with_reducible assumption
 exact race_list [nx, nx + 1] (by simp) [([], []), ([], []), ([0], []), ([], []), ([1, 1], [1]), ([1, 1], [1])] rfl rfl (by kernel_rfl)
 exact intsOk_no rfl
 refine aGoM (cj4 hres ty_zp o1 (cj3 o2 o3 Nat.zero_le)) ?_
 repeat with_reducible intro K' hK
 refine aLoopM (fun (i : Nat) => [(0, .lp I.p 0 0 0), (1, dI d.n), (2, dI row), (4, dI (sgI turned)), (8, .lp nx 0 0 0), (10, .lp (nx + 1) 0 0 0), (11, dI i)]) nx
  (fun i m1 nx1 => i ≤ wt.length ∧ nx1 = nx + 2 ∧ m1 nx = some ⟨61, 0, 6, [cW ⟨wt, wk, ofQ q⟩], 0, false⟩ ∧ m1 (nx + 1) = some ⟨30, 0, 2, [cN (scT (lcQ 1 q) (wt.take i))], 0, false⟩ ∧ ∀ id, id < nx → m1 id = m id) (fun i => wt.length - i) 0 ?_ ?_ ?_ ?_
 · refine ⟨Nat.zero_le _, rfl, ?_, upd_same _ _ _, fun id g1 => ?_⟩
   · exact (upd_ne _ _ o1).trans ((upd_ne _ _ o1).trans (upd_same _ _ _))
   · exact (upd_ne _ _ (by omega)).trans ((upd_ne _ _ (by omega)).trans (upd_ne _ _ (by omega)))
 · rfl
 · simp [go_sem]
 · rintro i m1 nx1 ⟨hi, rfl, eW, eS, hfr⟩
   obtain ⟨hw, i0⟩ := wrap2 i
   by_cases h1 : (i : Int) < wt.length
   · obtain ⟨⟨tv, tf⟩, ht⟩ : ∃ e, wt[i]? = some e := ⟨_, List.getElem?_eq_getElem (by omega)⟩
     obtain ⟨t0, t1, t2, t3⟩ := rightT_mem hr (mem_at ht)
     obtain ⟨r, rfl⟩ : ∃ r, tf = ofQ r := ⟨qOf tf, okF_eq t2⟩
     have zr : szQ r ≤ 16 := by have := ztt _ (mem_at ht); rwa [qOf_ofQ] at this
     have hs : scT (lcQ 1 q) (wt.take (i + 1)) = lcQ (scT (lcQ 1 q) (wt.take i)) r := by rw [scT_succ ht, qOf_ofQ]
     have hsl := szT_len (l := wt.take i) b0 (by simp; omega) (fun t ht => ztt t (List.mem_of_mem_take ht))
     have k3 := common_c (scT (lcQ 1 q) (wt.take i)) r (scT_pos _ (lcQ_pos (by decide) _)) (by omega) (by omega)
     rw [← hs] at k3
     refine aGoM (cj4 hres eW eS (cj4 h1 hw i0 (cj3 ht o1 Nat.zero_le))) ?_
     repeat with_reducible intro K' hK
     exact loop_endM (i + 1) ⟨by omega, rfl, (upd_ne _ _ o1).trans eW, upd_same _ _ _, fun id g1 => (upd_ne _ _ (by omega)).trans (hfr id g1)⟩ (by omega) rfl (by simp [go_sem])
   · obtain rfl : i = wt.length := by omega
     rw [List.take_length] at eS
     have eSW : scT (lcQ 1 q) wt = scW ⟨wt, wk, ofQ q⟩ := by unfold scW; rw [qOf_ofQ]
     rw [eSW] at eS
     generalize hsc : scW ⟨wt, wk, ofQ q⟩ = sc at *
     have n1 : 48 * (d.n : Int) ≤ 140737488355328 := by omega
     refine aGoM (cj4 hres eW eS (cj2 h1 trivial)) ?_
     repeat with_reducible intro K' hK
     refine aLe (le_cellsZ (nx + 2) (upd_same _ _ _) (zero_cells _ _ _)) ?_
     refine aLoopM (fun (i : Nat) => [(0, .lp I.p 0 0 0), (1, dI d.n), (2, dI row), (4, dI (sgI turned)), (8, .lp nx 0 0 0), (10, .lp (nx + 1) 0 0 0), (12, .ls (nx + 2) 1), (13, dI i)]) nx
      (fun i m2 nx2 => i ≤ wt.length ∧ nx2 = nx + 3 ∧ m2 nx = some ⟨61, 0, 6, [cW ⟨wt, wk, ofQ q⟩], 0, false⟩ ∧ m2 (nx + 1) = some ⟨30, 0, 2, [cN sc], 0, false⟩ ∧ m2 (nx + 2) = some (bB 1 d.n (zcT turned ((mulTs sc wt).take i))) ∧ ∀ id, id < nx → m2 id = m id) (fun i => wt.length - i) 0 ?_ ?_ ?_ ?_
     · rw [zcT_zero]
       refine ⟨Nat.zero_le _, rfl, ?_, ?_, upd_same _ _ _, fun id g1 => ?_⟩
       · exact (upd_ne _ _ (by omega)).trans ((upd_ne _ _ (by omega)).trans eW)
       · exact (upd_ne _ _ (by omega)).trans ((upd_ne _ _ (by omega)).trans eS)
       · exact (upd_ne _ _ (by omega)).trans ((upd_ne _ _ (by omega)).trans (hfr id g1))
     · rfl
     · simp [go_sem]
     · rintro i m2 nx2 ⟨hi2, rfl, eW2, eS2, eR2, hfr2⟩
       obtain ⟨hw2, i1⟩ := wrap2 i
       by_cases h2 : (i : Int) < wt.length
       · obtain ⟨⟨tv, tf⟩, ht⟩ : ∃ e, wt[i]? = some e := ⟨_, List.getElem?_eq_getElem (by omega)⟩
         obtain ⟨t0, t1, t2, t3⟩ := rightT_mem hr (mem_at ht)
         obtain ⟨r, rfl⟩ : ∃ r, tf = ofQ r := ⟨qOf tf, okF_eq t2⟩
         simp only at t0 t1
         have zr : szQ r ≤ 16 := by have := ztt _ (mem_at ht); rwa [qOf_ofQ] at this
         have hdv : r.den ∣ sc := by have := scT_den wt (lcQ 1 q) _ (mem_at ht); rw [qOf_ofQ] at this; rw [← eSW]; exact this
         have hscl : (digs sc).length ≤ 273 := by rw [← eSW]; have := szT_len (l := wt) b0 hl ztt; omega
         have k4 := times_c sc r hdv (by omega) (by omega)
         have htm : (mulTs sc wt)[i]? = some ⟨tv, ofQ ((sc : Rat) * r)⟩ := by
          unfold mulTs; rw [List.getElem?_map, ht]; show some (TermD.mk tv (ofQ ((sc : Rat) * qOf (ofQ r)))) = _; rw [qOf_ofQ]
         have hrm : rightT (mulTs sc wt) d.n = true := mulTs_right (by rw [← hsc]; exact scW_pos _) hr
         have hzq : qOf (ofQ ((sc : Rat) * r)) = (zmul sc r : Int) := by rw [qOf_ofQ]; exact zmul_eq hdv
         have es1 := zl_set (n := d.n) (k := tv.toNat) (zcT turned ((mulTs sc wt).take i)) (zmul sc r)
         have es2 := zcoef_set (n := d.n) (b := turned) hrm htm t0 hzq
         have lz1 := zl_len d.n (zcT turned ((mulTs sc wt).take i))
         have lz2 := zl_len d.n (fun u => if u = tv.toNat then zmul sc r else zcT turned ((mulTs sc wt).take i) u)
         have g1 := zl_get (n := d.n) (k := tv.toNat) (zcT turned ((mulTs sc wt).take i)) (by omega)
         have g2 := zl_get (n := d.n) (k := tv.toNat) (fun u => if u = tv.toNat then zmul sc r else zcT turned ((mulTs sc wt).take i) u) (by omega)
         simp only [if_pos] at g2
         have wz := zsg_sign turned (zmul sc r)
         simp only at es2
         generalize hL1 : zL d.n (fun u => if u = tv.toNat then zmul sc r else zcT turned ((mulTs sc wt).take i) u) = L1 at *
         refine aGoM (cj4 hres eW2 eS2 (cj4 eR2 h2 hw2 (cj4 i1 ht t0 (cj4 t1 es1 es2 (cj4 lz1 lz2 g1 (cj4 g2 wz o1 (cj3 o2 o3 Nat.zero_le))))))) ?_
         repeat with_reducible intro K' hK
         refine loop_endM (i + 1) ⟨by omega, rfl, ?_, ?_, upd_same _ _ _, fun id g1 => ?_⟩ (by omega) rfl (by simp [go_sem])
         · exact (upd_ne _ _ (by omega)).trans ((upd_ne _ _ (by omega)).trans eW2)
         · exact (upd_ne _ _ (by omega)).trans ((upd_ne _ _ (by omega)).trans eS2)
         · exact (upd_ne _ _ (by omega)).trans ((upd_ne _ _ (by omega)).trans (hfr2 id g1))
       · obtain rfl : i = wt.length := by omega
         have hscl : (digs sc).length ≤ 273 := by rw [← eSW]; have := szT_len (l := wt) b0 hl ztt; omega
         have hdq : q.den ∣ sc := by rw [← eSW]; exact Nat.dvd_trans (lcQ_den 1 q) (scT_num _ _)
         have k5 := times_c sc q hdq (by omega) (by omega)
         have wz := zsg_sign turned (zmul sc q)
         rw [show (mulTs sc wt).take wt.length = mulTs sc wt from List.take_of_length_le (by simp [mulTs])] at eR2
         have hK0 : ZFr [] m2 I K (zfirst d) := h.keep fun id hi => hfr2 id (lt id hi)
         obtain ⟨LV, hLV⟩ : ∃ L, L = zL d.m fun i => (d.v i).num := ⟨_, rfl⟩
         obtain ⟨LA, hLA⟩ : ∃ L, L = tabL d.m fun k => [D.ls (I.R k) 1] := ⟨_, rfl⟩
         obtain ⟨LO, hLO⟩ : ∃ L, L = tabL d.m fun i => [dI (d.own i)] := ⟨_, rfl⟩
         obtain ⟨LF, hLF⟩ : ∃ L, L = tabL d.m fun i => [dI (K.frm i)] := ⟨_, rfl⟩
         obtain ⟨LS, hLS⟩ : ∃ L, L = tabL d.m fun i => [dI (sgI (K.neg i))] := ⟨_, rfl⟩
         obtain ⟨LSc, hLSc⟩ : ∃ L, L = zL d.m fun i => (K.scl i : Int) := ⟨_, rfl⟩
         have hR0 : ZRw m2 I K.gol 1 LV LA LO LF LS LSc := by
          subst hLV hLA hLO hLF hLS hLSc
          exact ⟨hK0.hp, hK0.hV, hK0.hA, hK0.hO, hK0.hF, hK0.hS, hK0.hSc⟩
         have yV : LV.length = d.m := by rw [hLV]; exact zl_len _ _
         have yA : LA.length = d.m := by rw [hLA]; exact tab_len _ _
         have yO : LO.length = d.m := by rw [hLO]; exact tab_len _ _
         have yF : LF.length = d.m := by rw [hLF]; exact tab_len _ _
         have yS : LS.length = d.m := by rw [hLS]; exact tab_len _ _
         have ySc : LSc.length = d.m := by rw [hLSc]; exact zl_len _ _
         have ne := ap.ne
         have lp := lt _ inZ_p
         have lV := lt _ inZ_V
         have lA := lt _ inZ_A
         have lO := lt _ inZ_O
         have lF := lt _ inZ_F
         have lS := lt _ inZ_S
         have lSc := lt _ inZ_Sc
         have y4 : IntKind.i64.wrap ((d.n : Int) + d.m) = ((d.n + d.m : Nat) : Int) := (wrap_in (by omega) (by omega)).trans (by omega)
         have xx : ∀ k, nx + k ≠ I.p ∧ nx + k ≠ I.V ∧ nx + k ≠ I.A ∧ nx + k ≠ I.O ∧ nx + k ≠ I.F ∧ nx + k ≠ I.S ∧ nx + k ≠ I.Sc := fun k => ⟨by omega, by omega, by omega, by omega, by omega, by omega, by omega⟩
         -- O
         have a1 : I.p ≠ nx + 4 := by omega
         have a2 : I.O ≠ nx + 4 := by omega
         have a3 := ne.pO
         have a4 : I.p ≠ nx + 3 := by omega
         have a5 : I.O ≠ nx + 3 := by omega
         refine aGoS (cj4 hres ty_zp eW2 (cj4 eS2 h2 wz (cj4 o1 o2 o3 (cj4 hR0.hp hR0.hO a1 (cj4 a2 a3 a4 (cj4 a5 yO y4 Nat.zero_le)))))) ?_
         repeat with_reducible intro K' hK
         with_reducible apply useE
         with_reducible assumption
         exact race_list [I.p, I.O, nx + 4] (by simp only [List.nodup_cons, List.mem_cons, List.not_mem_nil, not_or, or_false, List.nodup_nil, not_false_eq_true, and_true]; omega) [([], []), ([], []), ([], []), ([], []), ([0], []), ([], []), ([], []), ([], []), ([], []), ([0], []), ([1], []), ([], []), ([2, 2], [2]), ([1, 2, 1], [1]), ([], []), ([], []), ([0, 0], [0])] rfl rfl (by kernel_rfl)
         exact intsOk_no rfl
         refine forgetM (fun M => ZRw M { I with vO := I.vO + 1 } K.gol 1 LV LA (LO ++ [[dI ((d.n + d.m : Nat) : Int)]]) LF LS LSc ∧ M (nx + 1) = some ⟨30, 0, 2, [cN sc], 0, false⟩ ∧ M (nx + 2) = some (bB 1 d.n (zcT turned (mulTs sc wt))) ∧ M (nx + 3) = some ⟨30, 0, 2, [[dI (zsg turned (zmul sc q)).sign, encInts (digs (zmul sc q).natAbs)]], 0, false⟩ ∧ ∀ id, id < nx → id ≠ I.p → id ≠ I.V → id ≠ I.A → id ≠ I.O → id ≠ I.F → id ≠ I.S → id ≠ I.Sc → M id = m id) ?_ ?_
         · have hR0' : ZRw (upd (upd (upd m2 (nx + 3) (some ⟨30, 0, 2, [[dI 0, .nil]], 0, false⟩)) (nx + 3) (some ⟨30, 0, 2, [cZ (zmul sc q)], 0, false⟩)) (nx + 3) (some ⟨30, 0, 2, [[dI (zsg turned (zmul sc q)).sign, encInts (digs (zmul sc q).natAbs)]], 0, false⟩)) I K.gol 1 LV LA LO LF LS LSc := by
             obtain ⟨q1, q2, q3, q4, q5, q6, q7⟩ := xx 3
             constructor <;> (refine (upd_ne _ _ (by omega)).trans ((upd_ne _ _ (by omega)).trans ((upd_ne _ _ (by omega)).trans ?_))) <;> first | exact hR0.hp | exact hR0.hV | exact hR0.hA | exact hR0.hO | exact hR0.hF | exact hR0.hS | exact hR0.hSc
           refine ⟨hR0'.appO ne (xx 4), ?_, ?_, ?_, fun id g1 g2 g3 g4 g5 g6 g7 g8 => ?_⟩
           · exact (upd_ne _ _ (by omega)).trans ((upd_ne _ _ (by omega)).trans ((upd_ne _ _ (by omega)).trans ((upd_ne _ _ (by omega)).trans ((upd_ne _ _ (by omega)).trans ((upd_ne _ _ (by omega)).trans eS2)))))
           · exact (upd_ne _ _ (by omega)).trans ((upd_ne _ _ (by omega)).trans ((upd_ne _ _ (by omega)).trans ((upd_ne _ _ (by omega)).trans ((upd_ne _ _ (by omega)).trans ((upd_ne _ _ (by omega)).trans eR2)))))
           · exact (upd_ne _ _ (by omega)).trans ((upd_ne _ _ (by omega)).trans ((upd_ne _ _ (by omega)).trans (upd_same _ _ _)))
           · exact (upd_ne _ _ g2).trans ((upd_ne _ _ g5).trans ((upd_ne _ _ (by omega)).trans ((upd_ne _ _ (by omega)).trans ((upd_ne _ _ (by omega)).trans ((upd_ne _ _ (by omega)).trans (hfr2 id g1))))))
         clear a1 a2 a3 a4 a5
         rintro M1 ⟨hR1, eS1, eR1, eV1, hf1⟩
         dsimp only
         -- V
         have a1 : I.p ≠ nx + 5 := by omega
         have a2 : I.V ≠ nx + 5 := by omega
         have a3 := ne.pV
         have a4 : I.p ≠ nx + 3 := by omega
         have a5 : I.V ≠ nx + 3 := by omega
         have a6 : nx + 3 ≠ nx + 5 := by omega
         refine aGoS (cj4 hres ty_zp hR1.hp (cj4 hR1.hV eV1 a1 (cj4 a2 a3 yV (cj2 a6 Nat.zero_le)))) ?_
         repeat with_reducible intro K' hK
         with_reducible apply useE
         with_reducible assumption
         exact race_list [I.p, I.V, nx + 5, nx + 3] (by simp only [List.nodup_cons, List.mem_cons, List.not_mem_nil, not_or, or_false, List.nodup_nil, not_false_eq_true, and_true]; omega) [([], []), ([], []), ([], []), ([], []), ([0], []), ([3], []), ([2, 2], [2]), ([1, 2, 1], [1]), ([], []), ([], []), ([0, 0], [0])] rfl rfl (by kernel_rfl)
         exact intsOk_no rfl
         refine forgetM (fun M => ZRw M { I with vV := I.vV + 1, vO := I.vO + 1 } K.gol 1 (LV ++ [[dI (zsg turned (zmul sc q)).sign, encInts (digs (zmul sc q).natAbs)]]) LA (LO ++ [[dI ((d.n + d.m : Nat) : Int)]]) LF LS LSc ∧ M (nx + 1) = some ⟨30, 0, 2, [cN sc], 0, false⟩ ∧ M (nx + 2) = some (bB 1 d.n (zcT turned (mulTs sc wt))) ∧ M (nx + 3) = some ⟨30, 0, 2, [[dI (zsg turned (zmul sc q)).sign, encInts (digs (zmul sc q).natAbs)]], 0, false⟩ ∧ ∀ id, id < nx → id ≠ I.p → id ≠ I.V → id ≠ I.A → id ≠ I.O → id ≠ I.F → id ≠ I.S → id ≠ I.Sc → M id = m id) ?_ ?_
         · refine ⟨hR1.appV { ne with } (xx 5), ?_, ?_, ?_, fun id g1 g2 g3 g4 g5 g6 g7 g8 => ?_⟩
           · exact (upd_ne _ _ (by omega)).trans ((upd_ne _ _ (by omega)).trans ((upd_ne _ _ (by omega)).trans eS1))
           · exact (upd_ne _ _ (by omega)).trans ((upd_ne _ _ (by omega)).trans ((upd_ne _ _ (by omega)).trans eR1))
           · exact (upd_ne _ _ (by omega)).trans ((upd_ne _ _ (by omega)).trans ((upd_ne _ _ (by omega)).trans eV1))
           · exact (upd_ne _ _ g2).trans ((upd_ne _ _ g3).trans ((upd_ne _ _ (by omega)).trans (hf1 id g1 g2 g3 g4 g5 g6 g7 g8)))
         clear a1 a2 a3 a4 a5
         rintro M2 ⟨hR2, eS2, eR2, eV2, hf2⟩
         dsimp only
         have c1 : nx ≠ nx + 5 := by omega
         have c2 : nx ≠ nx + 6 := by omega
         have c3 : nx ≠ nx + 7 := by omega
         have c4 : nx ≠ nx + 8 := by omega
         have c5 := ne.pA
         have c6 := ne.pF
         have c7 := ne.pS
         have c8 := ne.pSc
         have c9 : I.p ≠ nx + 6 := by omega
         have c10 : I.p ≠ nx + 7 := by omega
         have c11 : I.p ≠ nx + 8 := by omega
         have c12 : I.p ≠ nx + 9 := by omega
         have c13 : nx + 1 ≠ I.p := by omega
         have c14 := ne.pA.symm
         have c15 := ne.AF
         have c16 := ne.AS
         have c17 := ne.ASc
         have c18 : I.A ≠ nx + 6 := by omega
         have c19 : I.A ≠ nx + 7 := by omega
         have c20 : I.A ≠ nx + 8 := by omega
         have c21 : I.A ≠ nx + 9 := by omega
         have c22 : nx + 1 ≠ I.A := by omega
         have c23 := ne.pF.symm
         have c24 := ne.AF.symm
         have c25 := ne.Fs
         have c26 := ne.FSc
         have c27 : I.F ≠ nx + 6 := by omega
         have c28 : I.F ≠ nx + 7 := by omega
         have c29 : I.F ≠ nx + 8 := by omega
         have c30 : I.F ≠ nx + 9 := by omega
         have c31 : nx + 1 ≠ I.F := by omega
         have c32 := ne.pS.symm
         have c33 := ne.AS.symm
         have c34 := ne.Fs.symm
         have c35 := ne.SSc
         have c36 : I.S ≠ nx + 6 := by omega
         have c37 : I.S ≠ nx + 7 := by omega
         have c38 : I.S ≠ nx + 8 := by omega
         have c39 : I.S ≠ nx + 9 := by omega
         have c40 : nx + 1 ≠ I.S := by omega
         have c41 := ne.pSc.symm
         have c42 := ne.ASc.symm
         have c43 := ne.FSc.symm
         have c44 := ne.SSc.symm
         have c45 : I.Sc ≠ nx + 6 := by omega
         have c46 : I.Sc ≠ nx + 7 := by omega
         have c47 : I.Sc ≠ nx + 8 := by omega
         have c48 : I.Sc ≠ nx + 9 := by omega
         have c49 : nx + 1 ≠ I.Sc := by omega
         refine aGoS (cj4 hres ty_zp hR2.hp (cj4 hR2.hA hR2.hF hR2.hS (cj4 hR2.hSc eS2 yA (cj4 yF yS ySc (cj4 Nat.zero_le c1 c2 (cj4 c3 c4 c5 (cj4 c6 c7 c8 (cj4 c9 c10 c11 (cj4 c12 c13 c14 (cj4 c15 c16 c17 (cj4 c18 c19 c20 (cj4 c21 c22 c23 (cj4 c24 c25 c26 (cj4 c27 c28 c29 (cj4 c30 c31 c32 (cj4 c33 c34 c35 (cj4 c36 c37 c38 (cj4 c39 c40 c41 (cj4 c42 c43 c44 (cj4 c45 c46 c47 (cj2 c48 c49))))))))))))))))))))) ?_
         repeat with_reducible intro K' hK
         with_reducible apply useE
         with_reducible assumption
         exact race_list [I.p, I.Sc, nx + 9, nx + 1] (by simp only [List.nodup_cons, List.mem_cons, List.not_mem_nil, not_or, or_false, List.nodup_nil, not_false_eq_true, and_true]; omega) [([], []), ([], []), ([], []), ([], []), ([0], []), ([3], []), ([2, 2], [2]), ([1, 2, 1], [1]), ([], []), ([], []), ([0, 0], [0])] rfl rfl (by kernel_rfl)
         exact intsOk_no rfl
         refine aGoM (cj2 hres ty_zp) ?_
         have hR6 := (((hR2.appA (L := LA ++ [[D.ls (nx + 2) 1]]) { ne with } (xx 6) (b := some ⟨161, 0, 1, [[D.ls (nx + 2) 1]], 0, false⟩)).appF (L := LF ++ [[dI (row : Int)]]) { ne with } (xx 7) (b := some ⟨3, 0, 1, [[dI (row : Int)]], 0, false⟩)).appS (L := LS ++ [[dI (sgI turned)]]) { ne with } (xx 8) (b := some ⟨3, 0, 1, [[dI (sgI turned)]], 0, false⟩)).appSc (L := LSc ++ [[dI (nsg sc), encInts (digs sc)]]) { ne with } (xx 9) (b := some ⟨30, 0, 2, [[dI (nsg sc), encInts (digs sc)]], 0, false⟩)
         subst hLV hLA hLO hLF hLS hLSc
         subst hsc
         refine ⟨ZFr.add (c := zcT turned (mulTs (scW ⟨wt, wk, ofQ q⟩) wt)) (z := zmul (scW ⟨wt, wk, ofQ q⟩) q) h ap lt ⟨wt, wk, ofQ q⟩ row turned hR6.hp hR6.hV hR6.hA hR6.hO hR6.hF hR6.hS hR6.hSc ?_ (fun j _ => rfl) ?_ (fun id g1 g2 g3 g4 g5 g6 g7 g8 => ?_), fun id g1 g2 => ?_⟩
         · simp only [upd_get]
           repeat (rw [if_neg (by omega)])
           exact eR2
         · show qOf (ofQ ((scW ⟨wt, wk, ofQ q⟩ : Rat) * qOf (ofQ q))) = _
           rw [qOf_ofQ, qOf_ofQ]; exact zmul_eq hdq
         · simp only [upd_get]
           repeat (rw [if_neg (by omega)])
           exact hf2 id g1 g2 g3 g4 g5 g6 g7 g8
         · have u1 : id ≠ I.p := fun e => g2 (by rw [e]; exact inZ_p)
           have u2 : id ≠ I.V := fun e => g2 (by rw [e]; exact inZ_V)
           have u3 : id ≠ I.A := fun e => g2 (by rw [e]; exact inZ_A)
           have u4 : id ≠ I.O := fun e => g2 (by rw [e]; exact inZ_O)
           have u5 : id ≠ I.F := fun e => g2 (by rw [e]; exact inZ_F)
           have u6 : id ≠ I.S := fun e => g2 (by rw [e]; exact inZ_S)
           have u7 : id ≠ I.Sc := fun e => g2 (by rw [e]; exact inZ_Sc)
           repeat (rw [if_neg (by omega)])
           exact hf2 id g1 u1 u2 u3 u4 u5 u6 u7
end Go.Proofs.YtpkdhmnlpnijhaaGreat
