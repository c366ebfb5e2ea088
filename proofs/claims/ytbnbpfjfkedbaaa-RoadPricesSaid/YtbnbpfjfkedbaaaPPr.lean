/-
  RoadPrices, plain: the linear system of a network's nodes; its greatest value is the time of the shortest way.
-/
import Derived.Test.YtbnbpfjfkedbaaaPRnC
import Derived.Test.YtbnbpfjfkedbaaaPSd
import Derived.Test.YtbnbpfjfkedbaaaPSimI
import Derived.Test.YtbnbpfjfkedbaaaPSimD
import Derived.Test.YtbnbpfjfkedbaaaPRnE
import Derived.Test.YtbnbpfjfkedbaaaPConv
import Derived.Test.YtbnbpfjfkedbaaaPLinB
import Derived.Test.YtbnbpfjfkedbaaaPShapeL
namespace Go.Proofs.Ytbnbpfjfkedbaaa
set_option linter.unusedVariables false
set_option linter.unusedSimpArgs false
set_option linter.unusedSectionVars false
open Go Go.RowKit
set_option maxRecDepth 100000
def qP1 : Rat := ((1 : Int) : Rat)
def qM1 : Rat := ((-1 : Int) : Rat)
theorem qP1_eq : qP1 = 1 := by decide +kernel
theorem qM1_eq : qM1 = -1 := by decide +kernel
def firstW (a : Nat) : RowD := ⟨[⟨(a : Int), ofQ qP1⟩], 2, ofQ ((0 : Int) : Rat)⟩
def roadW (r : Rn.Rd) : RowD := ⟨plusD [⟨r.to, ofQ qP1⟩] [⟨r.fr, ofQ qM1⟩], 1, ofQ (r.mi : Rat)⟩
def roadsP (l : List Rn.Rd) (ki : Int) : List Rn.Rd := l.filter fun r => Rn.carB r.li ki
def rowsP (a : Nat) (l : List Rn.Rd) (ki : Int) : List RowD := firstW a :: (roadsP l ki).map roadW
def sysP (n a : Nat) (l : List Rn.Rd) (ki : Int) : SysD := ⟨n, rowsP a l ki⟩
def goalP (b : Nat) : List TermD := [⟨(b : Int), ofQ qM1⟩]
structure NetP (n : Nat) (l : List Rn.Rd) : Prop where
 hn : n ≤ 7
 hl : l.length ≤ 16
 hr : ∀ r ∈ l, 0 ≤ r.fr ∧ r.fr < n ∧ 0 ≤ r.to ∧ r.to < n ∧ r.fr ≠ r.to ∧ 1 ≤ r.mi ∧ r.mi ≤ 1000000
theorem netP_of {n : Nat} {l : List Rn.Rd} (h : Rn.chkNet n l = 0) (h1 : n ≤ 7) (h2 : l.length ≤ 16) : NetP n l := by
 obtain ⟨_, _, _, h3⟩ := Rn.chkNet_zero h
 exact ⟨h1, h2, fun r hr => by have := Rn.chkRoad_zero (h3 r hr); omega⟩
theorem rightP1 {i : Int} {q : Rat} {n : Int} (h0 : 0 ≤ i) (h1 : i < n) (hq : q ≠ 0) : rightT [⟨i, ofQ q⟩] n = true := by
 simp only [rightT, Bool.and_eq_true, decide_eq_true_eq]
 exact ⟨by omega, goR_cons.2 ⟨by show (-1 : Int) < i; omega, h1, sgnD_ofQ_ne hq, rfl⟩⟩
theorem rightP2 {i j : Int} {q p : Rat} {n : Int} (h0 : 0 ≤ i) (hij : i < j) (h1 : j < n) (hq : q ≠ 0) (hp : p ≠ 0) : rightT [⟨i, ofQ q⟩, ⟨j, ofQ p⟩] n = true := by
 simp only [rightT, Bool.and_eq_true, decide_eq_true_eq]
 exact ⟨by omega, goR_cons.2 ⟨by show (-1 : Int) < i; omega, by show i < n; omega, sgnD_ofQ_ne hq, goR_cons.2 ⟨hij, h1, sgnD_ofQ_ne hp, rfl⟩⟩⟩
theorem qP1_ne : qP1 ≠ 0 := by decide +kernel
theorem qM1_ne : qM1 ≠ 0 := by decide +kernel
theorem coef1 (i : Int) (q : Rat) (v : Nat) : coefT [⟨i, ofQ q⟩] v = if (v : Int) = i then q else 0 := by
 simp only [coefT, dotS, indI, qOf_ofQ]
 by_cases h : (v : Int) = i
 · subst h; rw [if_pos rfl, if_pos rfl]; grind
 · rw [if_neg (fun e => h (by omega)), if_neg h]; grind
section
variable {n : Nat} {l : List Rn.Rd} (h : NetP n l)
include h
theorem NetP.two {r : Rn.Rd} (hr : r ∈ l) : rightT [⟨r.to, ofQ qP1⟩] 1500 = true ∧ rightT [⟨r.fr, ofQ qM1⟩] 1500 = true := by
 have := h.hr r hr
 have := h.hn
 exact ⟨rightP1 (by omega) (by omega) qP1_ne, rightP1 (by omega) (by omega) qM1_ne⟩
theorem NetP.terms {r : Rn.Rd} (hr : r ∈ l) : (roadW r).t = if r.to < r.fr then [⟨r.to, ofQ qP1⟩, ⟨r.fr, ofQ qM1⟩] else [⟨r.fr, ofQ qM1⟩, ⟨r.to, ofQ qP1⟩] := by
 have := h.hr r hr
 obtain ⟨a, b⟩ := h.two hr
 show plusD _ _ = _
 rw [plusD_yes a b]
 by_cases c : r.to < r.fr
 · rw [if_pos c, sumT_lt _ _ c, sumT_right, sumT_nil]
 · rw [if_neg c, sumT_gt _ _ (show r.fr < r.to by omega), sumT_left, sumT_nil]
theorem NetP.right {r : Rn.Rd} (hr : r ∈ l) : rightW n (roadW r) = true := by
 have := h.hr r hr
 simp only [rightW, Bool.and_eq_true, decide_eq_true_eq]
 refine ⟨⟨⟨?_, show (0 : Int) ≤ 1 by decide⟩, show (1 : Int) < 3 by decide⟩, okF_ofQ _⟩
 rw [h.terms hr]
 split
 · exact rightP2 (by omega) (by omega) (by omega) qP1_ne qM1_ne
 · exact rightP2 (by omega) (by omega) (by omega) qM1_ne qP1_ne
theorem NetP.sys {a : Nat} (ha : a < n) (ki : Int) : rightS (sysP n a l ki) = true := by
 have h7 := h.hn
 have h16 := h.hl
 simp only [rightS, Bool.and_eq_true, decide_eq_true_eq]
 have hl : (roadsP l ki).length ≤ l.length := List.length_filter_le _ _
 refine ⟨⟨⟨by simp only [sysP]; omega, by simp only [sysP]; omega⟩, by simp only [sysP, rowsP, List.length_cons, List.length_map]; omega⟩, List.all_eq_true.2 fun w hw => ?_⟩
 rcases List.mem_cons.1 hw with rfl | hw
 · simp only [rightW, Bool.and_eq_true, decide_eq_true_eq]
   exact ⟨⟨⟨rightP1 (by omega) (by simp only [sysP]; omega) qP1_ne, show (0 : Int) ≤ 2 by decide⟩, show (2 : Int) < 3 by decide⟩, okF_ofQ _⟩
 · obtain ⟨r, hr, rfl⟩ := List.mem_map.1 hw
   exact h.right (List.mem_filter.1 hr).1
theorem NetP.coef {r : Rn.Rd} (hr : r ∈ l) (v : Nat) : coefT (roadW r).t v = (if (v : Int) = r.to then 1 else 0) - (if (v : Int) = r.fr then 1 else 0) := by
 obtain ⟨a, b⟩ := h.two hr
 show dotS (indI v) (plusD _ _) = _
 rw [plusD_dot a b]
 have e1 := coef1 r.to qP1 v
 have e2 := coef1 r.fr qM1 v
 rw [qP1_eq] at e1
 rw [qM1_eq] at e2
 unfold coefT at e1 e2
 rw [qP1_eq, qM1_eq, e1, e2]
 split <;> split <;> grind
omit h in
theorem sum_at {i : Int} (h0 : 0 ≤ i) (h1 : i < n) (X : Nat → Rat) : sumN n (fun v => (if ((v : Nat) : Int) = i then (1 : Rat) else 0) * X v) = X i.toNat := by
 rw [show (fun v : Nat => (if ((v : Nat) : Int) = i then (1 : Rat) else 0) * X v) = fun v : Nat => if v = i.toNat then X i.toNat else 0 from funext fun v => by
  by_cases e : v = i.toNat
  · rw [if_pos (by omega), if_pos e, e]; grind
  · rw [if_neg (by omega), if_neg e]; grind, sumN_one, if_pos (by omega)]
theorem NetP.hold {a : Nat} (ha : a < n) (ki : Int) {X : Nat → Rat} (h0 : ∀ v, v < n → 0 ≤ X v) : holdsS (sysP n a l ki) (fracsOf n X) = true ↔ X a = 0 ∧ ∀ r ∈ l, Rn.carB r.li ki = true → X r.to.toNat - X r.fr.toNat ≤ (r.mi : Rat) := by
 have hs := h.sys ha ki
 have hi := hold_iff (s := sysP n a l ki) hs (X := X) (by simpa [sysP] using h0)
 have en : (sysP n a l ki).n.toNat = n := by simp [sysP]
 rw [en] at hi
 rw [hi]
 have eF : sumN n (fun v : Nat => coefT (firstW a).t v * X v) = X a := by
  rw [show (fun v : Nat => coefT (firstW a).t v * X v) = fun v : Nat => (if ((v : Nat) : Int) = (a : Int) then (1 : Rat) else 0) * X v from funext fun v => by
   show coefT [⟨(a : Int), ofQ qP1⟩] v * X v = _; rw [coef1, qP1_eq], sum_at (by omega) (by omega)]
  simp
 have eR : ∀ r ∈ l, sumN n (fun v : Nat => coefT (roadW r).t v * X v) = X r.to.toNat - X r.fr.toNat := fun r hr => by
  have hb := h.hr r hr
  rw [show (fun v : Nat => coefT (roadW r).t v * X v) = fun v : Nat => (if ((v : Nat) : Int) = r.to then (1 : Rat) else 0) * X v + (-1) * ((if (v : Int) = r.fr then (1 : Rat) else 0) * X v) from funext fun v => by
   rw [h.coef hr]; grind, sumN_add, sumN_mul, sum_at (by omega) (by omega), sum_at (by omega) (by omega)]
  grind
 have z0 : ((0 : Int) : Rat) = 0 := by decide +kernel
 constructor
 · intro hh
   refine ⟨?_, fun r hr hc => ?_⟩
   · have := hh 0 (firstW a) rfl
     rw [eF] at this
     simp only [firstW, qOf_ofQ] at this
     rw [fitsK_iff (show (0 : Int) ≤ 2 by decide) (show (2 : Int) < 3 by decide)] at this
     have := this.2.2 rfl; grind
   · obtain ⟨j, hj⟩ := List.getElem?_of_mem (List.mem_map_of_mem (f := roadW) (show r ∈ roadsP l ki from List.mem_filter.2 ⟨hr, hc⟩))
     have := hh (j + 1) (roadW r) (by simpa [sysP, rowsP, roadsP] using hj)
     rw [eR r hr] at this
     simp only [roadW, qOf_ofQ] at this
     rw [fitsK_iff (show (0 : Int) ≤ 1 by decide) (show (1 : Int) < 3 by decide)] at this
     have := this.2.1 rfl; grind
 · rintro ⟨h1, h2⟩ j w hw
   have hm : w ∈ rowsP a l ki := List.mem_of_getElem? hw
   rcases List.mem_cons.1 hm with rfl | hm
   · rw [eF]
     simp only [firstW, qOf_ofQ]
     rw [fitsK_iff (show (0 : Int) ≤ 2 by decide) (show (2 : Int) < 3 by decide)]
     exact ⟨fun e => absurd e (by decide), fun e => absurd e (by decide), fun _ => by grind⟩
   · obtain ⟨r, hr, rfl⟩ := List.mem_map.1 hm
     obtain ⟨hr, hc⟩ := List.mem_filter.1 hr
     rw [eR r hr]
     simp only [roadW, qOf_ofQ]
     rw [fitsK_iff (show (0 : Int) ≤ 1 by decide) (show (1 : Int) < 3 by decide)]
     exact ⟨fun e => absurd e (by decide), fun _ => by have := h2 r hr hc; grind, fun e => absurd e (by decide)⟩
omit h in
theorem goalP_dot {b : Nat} (hb : b < n) (X : Nat → Rat) : dotD (goalP b) (fracsOf n X) = -(X b) := by
 rw [dot_fracs (l := goalP b) (rightP1 (by omega) (by omega) qM1_ne) X]
 unfold goalP
 rw [show (fun v : Nat => coefT [⟨(b : Int), ofQ qM1⟩] v * X v) = fun v : Nat => (-1) * ((if (v : Int) = (b : Int) then (1 : Rat) else 0) * X v) from funext fun v => by
  rw [coef1, qM1_eq]; split <;> grind, sumN_mul, sum_at (by omega) (by omega)]
 simp
 grind
end
noncomputable def potP (E : List Rn.Ed) (a : Nat) (M : Rat) (v : Nat) : Rat := match Rn.dst E a v with
 | some d => (d : Rat)
 | none => M
theorem ray_low2 {s : SysD} {goal : List TermD} {x d : List FracD} (hx : holdsS s x = true) (hd : rayD s goal d = true) (q : Rat) : ∃ z, holdsS s z = true ∧ dotD goal z ≤ q := by
 have hneg := (rayD_iff.1 hd).2.2.2.2.2.2
 rw [sgQ_lt] at hneg
 by_cases hq : dotD goal x ≤ q
 · exact ⟨x, hx, hq⟩
 · obtain ⟨_, ln, _, _, _⟩ := holdsS_iff.1 hx
   obtain ⟨_, _, ld, _⟩ := rayD_iff.1 hd
   have hp : 0 < -dotD goal d := by grind
   have hk : 0 ≤ (dotD goal x - q) / (-dotD goal d) := by
    rw [Rat.div_def]
    exact Rat.mul_nonneg (by grind) (Rat.le_of_lt (Rat.inv_pos.2 hp))
   refine ⟨_, holds_on hx hd hk, ?_⟩
   rw [dot_on (by omega)]
   have h2 : (dotD goal x - q) / (-dotD goal d) * dotD goal d = -(dotD goal x - q) := by
    rw [Rat.div_def]
    have : (-dotD goal d) * (-dotD goal d)⁻¹ = 1 := Rat.mul_inv_cancel _ (by grind)
    grind
   rw [h2]
   grind
theorem least_says2 {s : SysD} {goal : List TermD} {A : OptD} (h : checkD s goal A = true) :
    (A.k = 0 ∧ ∃ q x, A.v = ofQ q ∧ holdsS s x = true ∧ dotD goal x = q ∧ ∀ z, holdsS s z = true → q ≤ dotD goal z) ∨ (A.k = 1 ∧ ∀ x, holdsS s x = false) ∨ (A.k = 2 ∧ ∀ q : Rat, ∃ x, holdsS s x = true ∧ dotD goal x ≤ q) := by
 rcases check_cases h with ⟨a0, a1, a2, a3, a4, _⟩ | ⟨a0, a1, _⟩ | ⟨a0, a1, a2, _⟩
 · exact .inl ⟨a0, _, _, a3, a2, rfl, fun z hz => by have := bounds a1 hz; grind⟩
 · exact .inr (.inl ⟨a0, fun x => refutes_no a1⟩)
 · exact .inr (.inr ⟨a0, fun q => ray_low2 a1 a2 q⟩)
theorem goalP_right {n b : Nat} (hb : b < n) : rightT (goalP b) n = true := rightP1 (by omega) (by omega) qM1_ne
theorem nat_le {d e : Nat} (h : d ≤ e) : (d : Rat) ≤ (e : Rat) := Rat.natCast_le_natCast.2 h
section
variable {n : Nat} {l : List Rn.Rd} (h : NetP n l)
include h
theorem NetP.good : Rn.Good n l := ⟨by have := h.hn; omega, by have := h.hl; omega, fun r hr => by have := h.hr r hr; omega⟩
theorem NetP.edge {ki : Int} {r : Rn.Rd} (hr : r ∈ l) (hc : Rn.carB r.li ki = true) : (⟨r.fr.toNat, r.to.toNat, r.mi.toNat⟩ : Rn.Ed) ∈ Rn.edges ki false l := by
 unfold Rn.edges
 refine List.mem_flatMap.2 ⟨r, hr, ?_⟩
 unfold Rn.edgeOf
 rw [hc]; simp
theorem NetP.pot {a : Nat} (ha : a < n) (ki : Int) {M : Rat} (hM : (100000000 : Rat) ≤ M) : holdsS (sysP n a l ki) (fracsOf n (potP (Rn.edges ki false l) a M)) = true := by
 have hG := h.good
 have hb : ∀ v d, Rn.dst (Rn.edges ki false l) a v = some d → (d : Rat) ≤ 100000000 := fun v d hd => by
  have h1 := Rn.dst_bound (hG.posi ki false) (hG.inn ki false) (hG.most ki false) hd
  have h2 := h.hn
  have : d ≤ 100000000 := by omega
  exact nat_le this
 have h0 : ∀ v, v < n → 0 ≤ potP (Rn.edges ki false l) a M v := fun v _ => by
  unfold potP
  split
  · rename_i d _; exact Rat.natCast_nonneg
  · grind
 refine (h.hold ha ki h0).2 ⟨?_, fun r hr hc => ?_⟩
 · unfold potP; rw [Rn.dst_self]; rfl
 · have he := h.edge hr hc
   have hbr := h.hr r hr
   have em : (r.mi : Rat) = ((r.mi.toNat : Nat) : Rat) := by rw [← Rat.intCast_natCast, Int.toNat_of_nonneg (by omega)]
   rw [em]
   unfold potP
   cases h1 : Rn.dst (Rn.edges ki false l) a r.fr.toNat with
   | some d =>
     obtain ⟨t, h2, h3⟩ := Rn.dst_of_way ((Rn.dst_way h1).snoc ⟨r.fr.toNat, r.to.toNat, r.mi.toNat⟩ he)
     rw [h2]
     simp only
     have := nat_le h3
     rw [Rat.natCast_add] at this
     simp only at this
     grind
   | none =>
     simp only
     have : (0 : Rat) ≤ ((r.mi.toNat : Nat) : Rat) := Rat.natCast_nonneg
     cases h2 : Rn.dst (Rn.edges ki false l) a r.to.toNat with
     | some t => simp only; have := hb _ _ h2; grind
     | none => simp only; grind
theorem NetP.under {a : Nat} (ha : a < n) (ki : Int) {x : List FracD} (hx : holdsS (sysP n a l ki) x = true) : x = fracsOf n (fun u => atP x u) ∧ ∀ v t, Rn.Way (Rn.edges ki false l) a v t → atP x v ≤ (t : Rat) := by
 obtain ⟨_, hl, ho, hn, _⟩ := holdsS_iff.1 hx
 have lx : x.length = n := by simp only [sysP] at hl; omega
 have ex := list_fracs ho
 rw [lx] at ex
 refine ⟨ex, ?_⟩
 have h0 : ∀ v, v < n → 0 ≤ (fun u : Nat => atP x u) v := fun v hv => nonneg_of (by rw [← ex]; exact hn) hv
 obtain ⟨h1, h2⟩ := (h.hold ha ki h0).1 (by rw [← ex]; exact hx)
 intro v t hw
 induction hw with
 | nil => rw [h1]; exact Rat.le_refl
 | snoc e he _ ih =>
   obtain ⟨r, hr, hc, rfl⟩ := Rn.mem_edges he
   have := h2 r hr hc
   have hbr := h.hr r hr
   have em : (r.mi : Rat) = ((r.mi.toNat : Nat) : Rat) := by rw [← Rat.intCast_natCast, Int.toNat_of_nonneg (by omega)]
   rw [em] at this
   rw [Rat.natCast_add]
   simp only [Bool.false_eq_true, ↓reduceIte] at ih ⊢
   grind
theorem NetP.price {a b : Nat} (ha : a < n) (hb : b < n) (ki : Int) : (∀ d, Rn.dst (Rn.edges ki false l) a b = some d → (leastE (sysP n a l ki) (goalP b)).k = 0 ∧ (leastE (sysP n a l ki) (goalP b)).v = ofQ ((-(d : Int) : Int) : Rat))
    ∧ (Rn.dst (Rn.edges ki false l) a b = none → (leastE (sysP n a l ki) (goalP b)).k = 2) := by
 have hc := least_says2 (least_check (s := sysP n a l ki) (h.sys ha ki) (goalP_right hb))
 have hp : ∀ M : Rat, 100000000 ≤ M → dotD (goalP b) (fracsOf n (potP (Rn.edges ki false l) a M)) = -(potP (Rn.edges ki false l) a M b) := fun M _ => goalP_dot hb _
 have p8 := h.pot ha ki (M := 100000000) Rat.le_refl
 have hdot : ∀ {x : List FracD}, holdsS (sysP n a l ki) x = true → dotD (goalP b) x = -(atP x b) := fun {x} hx => by
  have e := (h.under ha ki hx).1
  have g := goalP_dot hb fun u => atP x u
  rw [← e] at g
  exact g
 constructor
 · intro d hd
   have hw := Rn.dst_way hd
   have e8 : potP (Rn.edges ki false l) a 100000000 b = (d : Rat) := by unfold potP; rw [hd]
   rcases hc with ⟨k0, q, x, hv, hx, hq, hm⟩ | ⟨_, hno⟩ | ⟨_, hlow⟩
   · refine ⟨k0, ?_⟩
     rw [hv]
     congr 1
     have h1 := hm _ p8
     rw [hp _ Rat.le_refl, e8] at h1
     have h2 := (h.under ha ki hx).2 b d hw
     rw [hdot hx] at hq
     rw [Rat.intCast_neg, Rat.intCast_natCast]
     grind
   · rw [hno] at p8; cases p8
   · obtain ⟨x, hx, hq⟩ := hlow (-(d : Rat) - 1)
     have h2 := (h.under ha ki hx).2 b d hw
     rw [hdot hx] at hq
     grind
 · intro hd
   rcases hc with ⟨k0, q, x, hv, hx, hq, hm⟩ | ⟨_, hno⟩ | ⟨k2, _⟩
   · exfalso
     have hM : (100000000 : Rat) ≤ 100000000 + (if q ≤ 0 then -q + 1 else 0) := by split <;> grind
     have h1 := hm _ (h.pot ha ki hM)
     rw [hp _ hM] at h1
     have e8 : potP (Rn.edges ki false l) a (100000000 + (if q ≤ 0 then -q + 1 else 0)) b = 100000000 + (if q ≤ 0 then -q + 1 else 0) := by unfold potP; rw [hd]
     rw [e8] at h1
     split at h1 <;> grind
   · rw [hno] at p8; cases p8
   · exact k2
theorem szQ_two {z : Int} (h1 : -1000000 ≤ z) (h2 : z ≤ 1000000) : szQ (z : Rat) ≤ 2 := by
 rw [szQ_eq]
 have e1 : szZ (z : Rat).num ≤ 2 := szZ_le (by simp only [Rat.num_intCast, bp]; omega)
 have e2 : szZ (((z : Rat).den : Nat) : Int) ≤ 2 := szZ_le (by simp only [Rat.den_intCast, bp]; decide)
 omega
theorem NetP.fit {a : Nat} (b : Nat) (ki : Int) : Fit (sysP n a l ki) (goalP b) 2 7 := by
 have h7 := h.hn
 have h16 := h.hl
 have hl : (roadsP l ki).length ≤ l.length := List.length_filter_le _ _
 have z1 : szF (ofQ qP1) ≤ 2 := by decide +kernel
 have z2 : szF (ofQ qM1) ≤ 2 := by decide +kernel
 have z0 : szF (ofQ ((0 : Int) : Rat)) ≤ 2 := by decide +kernel
 refine ⟨by simp only [sysP, rowsP, List.length_cons, List.length_map]; omega, fun _ => by simp only [sysP]; omega, fun _ => .inl (by simp only [sysP]; omega), fun w hw => ?_, ⟨by simp [goalP], fun t ht => ?_⟩, by decide, by decide⟩
 · rcases List.mem_cons.1 hw with rfl | hw
   · exact ⟨by simp [firstW], z0, fun t ht => by simp only [firstW, List.mem_singleton] at ht; subst ht; exact z1⟩
   · obtain ⟨r, hr, rfl⟩ := List.mem_map.1 hw
     have hr := (List.mem_filter.1 hr).1
     have hb := h.hr r hr
     refine ⟨?_, szQ_two h (by omega) (by omega), fun t ht => ?_⟩
     · rw [h.terms hr]; split <;> simp
     · rw [h.terms hr] at ht
       split at ht
       · simp only [List.mem_cons, List.not_mem_nil, or_false] at ht
         rcases ht with rfl | rfl
         · exact z1
         · exact z2
       · simp only [List.mem_cons, List.not_mem_nil, or_false] at ht
         rcases ht with rfl | rfl
         · exact z2
         · exact z1
 · simp only [goalP, List.mem_singleton] at ht; subst ht; exact z2
end
abbrev cRd (r : Rn.Rd) : List D := [dI r.fr, dI r.to, dI r.mi, dI r.li]
abbrev encRds (l : List Rn.Rd) : D := .sl (l.map cRd)
abbrev encN (n : Int) (l : List Rn.Rd) : D := .agg [dI n, encRds l]
section
variable {S : Nat → Nat → Prop} {w : World} {v : Value} {l : List Rn.Rd}
theorem roads_of_rep (h : Rep noB noM S w v (encRds l)) : Rn.RoadsAt w v l := by
 obtain ⟨a, cap, rfl, h1, h2, h3⟩ := h.inv_sl
 rw [List.length_map] at h2 ⊢
 refine ⟨a, cap, rfl, h2, h1, ?_⟩
 rcases h3 with h3 | ⟨b, off, k, rfl, h4, h5⟩
 · exact .inl (by simpa using congrArg List.length h3)
 · by_cases h0 : l.length = 0
   · exact .inl h0
   · refine .inr ⟨b, off, rfl, ?_, fun i x hi => ?_⟩
     · obtain ⟨x, hx⟩ : ∃ x, l[0]? = some x := ⟨_, List.getElem?_eq_getElem (by omega)⟩
       obtain ⟨u, _, hc, _⟩ := h5 0 0 (dI x.fr) (cellAt_some.2 ⟨cRd x, by simp [hx], rfl⟩)
       exact lt_cell hc
     · have hk : k = 4 := by rw [← h4 i (cRd x) (by simp [hi])]; rfl
       subst hk
       refine ⟨[I x.fr, I x.to, I x.mi, I x.li], rfl, rfl, fun j u hu => ?_⟩
       have key : ∀ (j : Nat) (n : Int), (cRd x)[j]? = some (dI n) → w.cell? ⟨b, off + i * 4 + j, none⟩ = some (I n) := fun j n hj => by
        obtain ⟨u, _, hc, hr⟩ := h5 i j (dI n) (cellAt_some.2 ⟨cRd x, by simp [hi], hj⟩)
        rw [hc, hr.inv_v]
       match j, hu with
       | 0, hu => cases hu; exact key 0 _ rfl
       | 1, hu => cases hu; exact key 1 _ rfl
       | 2, hu => cases hu; exact key 2 _ rfl
       | 3, hu => cases hu; exact key 3 _ rfl
       | j + 4, hu => cases hu
end
theorem small27_c : ContractN Try.prog 21 [] (dB true) := by
 refine ⟨⟨_, _, Try.func21, rfl, by kernel_rfl⟩, fun S w vs hf hvs => ?_⟩
 obtain rfl : vs = [] := List.eq_nil_of_length_eq_zero hvs.1
 refine (Rn.small_any w).mono ?_
 rintro e w' ⟨rfl, h2⟩
 exact ⟨_, rfl, h2, .v _⟩
theorem check27_c (n : Int) (l : List Rn.Rd) : ContractN Try.prog 22 [encN n l] (dI (Rn.chkNet n l)) := by
 refine ⟨⟨_, _, Try.func22, rfl, by kernel_rfl⟩, fun S w vs hf hvs => ?_⟩
 obtain ⟨v, rfl, h1⟩ := reps1 hvs
 obtain ⟨us, rfl, h2, h3⟩ := h1.inv_agg
 obtain ⟨a, d, rfl, h4, h5⟩ := reps2 ⟨h2, h3⟩
 rw [h4.inv_v]
 refine (Rn.check_any n d l w (roads_of_rep h5)).mono ?_
 rintro e w' ⟨rfl, h2⟩
 exact ⟨_, rfl, h2, .v _⟩
theorem times27_c (n s ki : Int) (l : List Rn.Rd) : ContractN Try.prog 24 [encN n l, dI s, dI ki] (encInts (Rn.timesL n l s ki)) := by
 refine ⟨⟨_, _, Try.func24, rfl, by kernel_rfl⟩, fun S w vs hf hvs => ?_⟩
 match vs, hvs with
 | [x, y, z], hvs =>
   obtain ⟨us, rfl, h2, h3⟩ := (hvs.2 0 x _ rfl rfl).inv_agg
   obtain ⟨a, d, rfl, h4, h5⟩ := reps2 ⟨h2, h3⟩
   rw [h4.inv_v, (hvs.2 1 y _ rfl rfl).inv_v, (hvs.2 2 z _ rfl rfl).inv_v]
   refine (Rn.times_new n s ki d l w (roads_of_rep h5)).mono ?_
   rintro e w' ⟨u, rfl, hi, hb, hn⟩
   exact ⟨u, rfl, hb, rep_of_ints hi fun b o hb => hf b o (hn b hb)⟩
 | [], hvs => exact absurd hvs.1 (by simp)
 | [_], hvs => exact absurd hvs.1 (by simp)
 | [_, _], hvs => exact absurd hvs.1 (by simp)
 | _ :: _ :: _ :: _ :: _, hvs => exact absurd hvs.1 (by simp)
attribute [local go_sem] opsL_nil opsL_go opsL_guard gSel_tt gSel_ff gSel_tf gSel_ft stepR_some stepR_none callS_some callE_some runL_nil runL_go runL_guard gSelE_tt gSelE_ff gSelE_tf gSelE_ft stepE_some stepE_none opF callD rd constD putT upd_get guardL gOf_bool gOf_undef fieldAddrF fieldF loadF storeF indexAddrF indexF sliceF strSliceF bound buildF fillF buildSliceF elemsF allocF makeSliceF lenF elemsOf appendF minmaxF convertF boxF ldE blkAt spliceE D.cells? D.isCell Res.pure ov TyI.agg binD unD boolD initT thenA inBlockA argD argDs refsD refsL killW datJ datJs endA_ret endA_normal endR_some oneD_one oneD_two oneD_three oneD_four resDs resD fzT Value.oneCell' strip tabT tabM
attribute [local go_sem] List.map Nat.reduceEqDiff Nat.reduceBEq List.getElem?_cons_zero List.getElem?_cons_succ List.getElem?_nil Option.getD_some Option.getD_none true_and and_true true_or or_true false_or or_false and_self Nat.add_zero Nat.zero_add List.length_nil List.length_cons forall_const ite_true ite_false Bool.or_self Bool.false_eq_true Option.map_some Option.map_none beq_self_eq_true Nat.reduceAdd Nat.reduceSub Nat.reduceMul reduceCtorEq List.getElem?_toArray Bool.not_true Bool.not_false decide_eq_true_eq decide_true decide_false Nat.reduceLeDiff Nat.reduceLT Bool.or_false Bool.or_true Bool.and_true Bool.and_false Bool.false_and Bool.true_and Bool.true_beq Bool.false_beq beq_true beq_false Bool.not_eq_true List.drop_succ_cons List.take_succ_cons List.drop_zero List.take_zero List.length_map List.getElem?_map List.length_append List.all_cons List.all_nil List.append_nil List.nil_append List.cons_append List.set_cons_zero List.set_cons_succ Int.toNat_natCast Int.toNat_zero Option.isSome_some Option.isSome_none Array.size_empty ByteArray.size_empty Int.reduceToNat Int.reduceAdd Int.reduceSub Int.reduceLT Int.reduceLE Int.reduceEq Int.reduceNe Int.reduceBEq Int.reduceNeg List.forall_mem_cons List.not_mem_nil false_implies List.forall_mem_map implies_true Nat.reduceBNe Int.cast_ofNat_Int Int.reduceMul Int.reduceGE Int.reduceGT wrap_in ty_2 ty_3 ty_4 ty_5 ty_6 ty_7 ty_8 ty_9 ty_10 ty_11 ty_12 ty_13 ty_14 ty_18 ty_19 ty_21 ty_22 ty_23 ty_24 ty_25 ty_26 ty_27 ty_28 ty_29 ty_30 ty_34 ty_37 ty_41 ty_42 ty_49 ty_51 ty_53 ty_54 ty_55 ty_57 ty_58 ty_59 ty_60 ty_61 ty_62 ty_63 ty_64 ty_65 ty_66 ty_69 ty_70 ty_118 ty_119 ty_129 ty_130 ty_131 ty_132 ty_134 ty_139 ty_140 ty_141 ty_142 ty_145 ty_146 ty_162 ty_163 ty_173 ty_174 ty_175 ty_176 ty_177 ty_178 ty_179 ty_180 ty_183 ty_184 ty_185 ty_186
set_option maxHeartbeats 16000000
theorem le_cellsP [Ifl] {s : St} (id n : Nat) {b : Blk} {es' : List (List D)} (hb : s.m id = some b) (he : b.es.map (List.map (fzT false s.m n)) = es') : StLe s { s with m := upd s.m id (some { b with es := es' }) } := by
 subst he; exact le_cells id n hb
theorem roadsP_snoc (l : List Rn.Rd) (ki : Int) (k : Nat) {r : Rn.Rd} (hr : l[k]? = some r) : roadsP (l.take (k + 1)) ki = roadsP (l.take k) ki ++ if Rn.carB r.li ki then [r] else [] := by
 unfold roadsP
 rw [List.take_add_one, hr, List.filter_append]
 simp only [Option.toList_some, List.filter_cons, List.filter_nil]
theorem roadPrices_c (n : Int) (l : List Rn.Rd) (a b ki : Int) : Contract Try.prog 6 [encN n l, dI a, dI b, dI ki] (dB true) := by
 have hres := Try.results6
 have k0 := small27_c
 have kc := check27_c n l
 refine Contract.ofA (CallA.inline Try.func6 rfl (by kernel_rfl) (by kernel_rfl) (by kernel_rfl) ?_)
 rw [Try.ntmps6]
 by_cases h1 : 7 < n
 · exact aGo (cj2 hres h1) trivial
 by_cases h2 : 16 < (l.length : Int)
 · exact aGo (cj3 hres h1 h2) trivial
 cases h3 : (Rn.chkNet n l != 0)
 rotate_left
 · exact aGo (cj4 hres h1 h2 h3) trivial
 by_cases h4 : a < 0
 · exact aGo (cj4 hres h1 h2 (cj2 h3 h4)) trivial
 by_cases h5 : b < 0
 · exact aGo (cj4 hres h1 h2 (cj3 h3 h4 h5)) trivial
 by_cases h6 : n ≤ a
 · exact aGo (cj4 hres h1 h2 (cj4 h3 h4 h5 h6)) trivial
 by_cases h7 : n ≤ b
 · exact aGo (cj4 hres h1 h2 (cj4 h3 h4 h5 (cj2 h6 h7))) trivial
 have e0 : Rn.chkNet n l = 0 := by simpa using h3
 obtain ⟨N, rfl⟩ : ∃ N : Nat, n = (N : Int) := ⟨n.toNat, by omega⟩
 obtain ⟨A, rfl⟩ : ∃ N : Nat, a = (N : Int) := ⟨a.toNat, by omega⟩
 obtain ⟨B, rfl⟩ : ∃ N : Nat, b = (N : Int) := ⟨b.toNat, by omega⟩
 have h := netP_of e0 (by omega) (by omega)
 have hA : A < N := by omega
 have hB : B < N := by omega
 have i1 : Contract Try.prog 13 [dI 1] (encF (ofQ qP1)) := fint_c 1 (by decide) (by decide)
 have im : Contract Try.prog 13 [dI (-1)] (encF (ofQ qM1)) := fint_c (-1) (by decide) (by decide)
 have i0 := fint_c 0 (by decide) (by decide)
 have zM : szF (ofQ qM1) ≤ 1 := by decide +kernel
 have zP : szF (ofQ qP1) ≤ 1 := by decide +kernel
 refine aGo (cj4 hres h1 h2 (cj4 h3 h4 h5 (cj2 h6 h7))) ?_
 repeat (guard_target =~ ∀ _ : St → Prop, _; intro K hK)
 refine aLe (le_kill 1 rfl) (aLe (le_cellsP 3 4 (es' := (rowsP A (l.take 0) ki).map cW) rfl ?_) ?_)
 · simp only [go_sem, fzT, List.map]
   rfl
 have e00 : (roadsP [] ki).length = 0 := rfl
 refine aLoopT (fun (k : Nat) => [(1, dI A), (2, dI B), (3, dI ki), (4, .lp 0 0 0 0), (9, dB true), (11, .lp 4 0 0 0), (12, dI k)])
  (fun k => [(0, ⟨55, 0, 2, [[dI N, encRds l]], 0, false⟩), (3, ⟨61, (roadsP (l.take k) ki).length, 6, (rowsP A (l.take k) ki).map cW, 0, false⟩), (4, ⟨64, 0, 2, [[dI N, .ls 3 (roadsP (l.take k) ki).length]], 0, false⟩)]) 5 0 (fun k => k ≤ l.length) (fun k => l.length - k) 0 (by omega) ?_ ?_
 · exact leGo e00
 rintro k hk
 have hw : IntKind.i64.wrap ((k : Int) + 1) = (k : Int) + 1 := wrap_in (by omega) (by omega)
 have kz : (0 : Int) ≤ k := by omega
 have hlp : (rowsP A (l.take k) ki).length = (roadsP (l.take k) ki).length + 1 := by simp [rowsP]
 have hl1 : (roadsP (l.take k) ki).length ≤ 16 := by have h1 : (roadsP (l.take k) ki).length ≤ (l.take k).length := List.length_filter_le _ _; rw [List.length_take] at h1; have := h.hl; omega
 by_cases c : (k : Int) < l.length
 · obtain ⟨r, hr⟩ : ∃ e, l[k]? = some e := ⟨_, List.getElem?_eq_getElem (by omega)⟩
   have hm := List.mem_of_getElem? hr
   have hb := h.hr r hm
   have es := roadsP_snoc l ki k hr
   have kp := lplus_c [⟨r.to, ofQ qP1⟩] [⟨r.fr, ofQ qM1⟩] ⟨by simp, fun t ht => by rw [List.mem_singleton.1 ht]; show (szF (ofQ qP1) : Int) ≤ _; omega⟩ ⟨by simp, fun t ht => by rw [List.mem_singleton.1 ht]; show (szF (ofQ qM1) : Int) ≤ _; omega⟩
   have kmi := fint_c r.mi (by omega) (by omega)
   cases c1 : (r.li != -1)
   · rw [show Rn.carB r.li ki = true by simp only [Rn.carB]; simp at c1; simp [c1], if_pos rfl] at es
     have er : rowsP A (l.take (k + 1)) ki = rowsP A (l.take k) ki ++ [⟨plusD [⟨r.to, ofQ qP1⟩] [⟨r.fr, ofQ qM1⟩], 1, ofQ (r.mi : Rat)⟩] := by unfold rowsP; rw [es, List.map_append]; rfl
     have el : (roadsP (l.take (k + 1)) ki).length = (roadsP (l.take k) ki).length + 1 := by rw [es, List.length_append]; rfl
     refine aGo (cj4 hres c c1 (cj4 hr hw kz hlp)) ?_
     repeat (guard_target =~ ∀ _ : St → Prop, _; intro K hK)
     exact loop_end (k + 1) (by omega) (by omega) (by exact leGo (cj2 er el))
   · by_cases c2 : r.li < ki
     · rw [if_neg (by simp only [Rn.carB]; simp at c1; simp [c1]; omega), List.append_nil] at es
       have er : rowsP A (l.take (k + 1)) ki = rowsP A (l.take k) ki := by unfold rowsP; rw [es]
       refine aGo (cj4 hres c c1 (cj4 c2 hr hw kz)) ?_
       repeat (guard_target =~ ∀ _ : St → Prop, _; intro K hK)
       exact loop_end (k + 1) (by omega) (by omega) (by exact leGo (cj2 er es))
     · rw [if_pos (by simp only [Rn.carB]; simp at c1; simp [c1]; omega)] at es
       have er : rowsP A (l.take (k + 1)) ki = rowsP A (l.take k) ki ++ [⟨plusD [⟨r.to, ofQ qP1⟩] [⟨r.fr, ofQ qM1⟩], 1, ofQ (r.mi : Rat)⟩] := by unfold rowsP; rw [es, List.map_append]; rfl
       have el : (roadsP (l.take (k + 1)) ki).length = (roadsP (l.take k) ki).length + 1 := by rw [es, List.length_append]; rfl
       refine aGo (cj4 hres c c1 (cj4 c2 hr hw (cj2 kz hlp))) ?_
       repeat (guard_target =~ ∀ _ : St → Prop, _; intro K hK)
       exact loop_end (k + 1) (by omega) (by omega) (by exact leGo (cj2 er el))
 · obtain rfl : k = l.length := by omega
   have hs := h.sys hA ki
   have hp := h.price hA hB ki
   have kl := least_c (sysP N A l ki) (goalP B) (h.fit B ki)
   rw [show leastD (sysP N A l ki) (goalP B) = (leastE (sysP N A l ki) (goalP B), 0) by unfold leastD; rw [hs, show rightT (goalP B) (sysP N A l ki).n = true from goalP_right hB]; rfl] at kl
   have lT := Rn.dlist_length (Rn.edges ki false l) N A
   have gT := Rn.dlist_get (Rn.edges ki false l) (s := A) hB
   have kt := times27_c N A ki l
   rw [Rn.timesL_good e0 hA] at kt
   repeat ((fail_if_success (with_reducible refine at_region 15 ?_)); first
    | (refine hK _ ?_; clear hK; clear K)
    | (refine aSeq fun K hK => ?_)
    | (refine aBlock ?_)
    | (refine aSkip ?_)
    | (refine aExit ?_)
    | (refine aRet ?_)
    | (refine aOps _ rfl (by kernel_rfl) ?_)
    | (refine aRunK _ rfl mixed (by kernel_rfl) (by kernel_rfl) fun KE hE => ?_)
    | (refine hE _ _ (by kernel_rfl) (intsOk_no rfl) ?_; clear hE; clear KE)
    | (refine hE _ _ (by kernel_rfl) (intsOk_yes ?hi ?hj) ?_; (case hi => (repeat (refine intsDead_updB rfl ?_)); exact intsDead_nil); (case hj => simp); clear hE; clear KE)
    | (refine aCondT rfl ?hc ?_; case hc => simp only [go_sem, ↓reduceIte, hres, c])
    | (refine aCondF rfl ?hc ?_; case hc => simp only [go_sem, ↓reduceIte, hres, c])
    | (refine callT_of (kt) ?_ ?_; rotate_left; (repeat (refine intsDead_updB rfl ?_)); exact intsDead_nil)
    | (refine callT_ofN (kt) ?_)
    | (refine callU_of (kt) rfl ?_)
    | (refine callU_ofN (kt) rfl ?_)
    | (simp only [go_sem, ↓reduceIte, hres, c])
    | (refine And.intro ?ho ?_; (case ho => omega))
    | (clear hK; clear K))
   refine aLe (le_kill 3 rfl) (aLe (le_cellsP 4 4 (es' := [cS (sysP N A l ki)]) rfl ?_) ?_)
   · simp only [go_sem, fzT, List.map]
     rw [map_map_id (fun _ => rfl), List.take_length]
     rfl
   generalize leastE (sysP N A l ki) (goalP B) = o at *
   generalize Rn.dlist (Rn.edges ki false l) N A = T at *
   have lTi : ((T.length : Int) != N) = false := by rw [lT]; simp
   have b0 : (0 : Int) ≤ B := by omega
   have bT : (B : Int) < T.length := by omega
   cases hd : Rn.dst (Rn.edges ki false l) A B with
   | none =>
     have ok := hp.2 hd
     rw [hd] at gT
     simp only [Rn.encT] at gT
     exact aGo (cj4 hres lT lTi (cj4 b0 bT gT ok)) trivial
   | some d =>
     obtain ⟨ok, ov⟩ := hp.1 d hd
     rw [hd] at gT
     simp only [Rn.encT] at gT
     have hd8 : d ≤ 100000000 := by
      have hG := h.good
      have := Rn.dst_bound (hG.posi ki false) (hG.inn ki false) (hG.most ki false) hd
      have := h.hn
      omega
     have hn : IntKind.i64.wrap (0 - (d : Int)) = -(d : Int) := by rw [Int.zero_sub]; exact wrap_in (by omega) (by omega)
     have kd := fint_c (-(d : Int)) (by omega) (by omega)
     have ks := fsame_c o.v (ofQ ((-(d : Int) : Int) : Rat))
     rw [ov, sameF_self] at ks
     have dn : ¬ (d : Int) < 0 := by omega
     exact aGo (cj4 hres lT lTi (cj4 b0 bT gT (cj4 ok ov hn dn))) trivial
set_option linter.constructorNameAsVariable false
structure NetD where
 n : Int
 l : List Rn.Rd
abbrev cNet (d : NetD) : List D := [dI d.n, encRds d.l]
section
variable {n : Nat} {x : List D}
theorem road_of (h : Shown Try.prog (n + 3) 66 x) : ∃ r, x = cRd r := by
 unfold Shown at h
 simp only [Try.underlying66, List.foldr] at h
 obtain ⟨_, _, rfl, h1, _, _, rfl, h2, _, _, rfl, h3, _, _, rfl, h4, rfl⟩ := h
 obtain ⟨a, rfl⟩ := int_of h1
 obtain ⟨b, rfl⟩ := int_of h2
 obtain ⟨c, rfl⟩ := int_of h3
 obtain ⟨d, rfl⟩ := int_of h4
 exact ⟨⟨a, b, c, d⟩, rfl⟩
theorem roads_of (h : Shown Try.prog (n + 4) 53 x) : ∃ l, x = [encRds l] := by
 unfold Shown at h
 simp only [Try.underlying53] at h
 obtain ⟨es, rfl, _, h⟩ := h
 obtain ⟨l, rfl⟩ := map_of_all (f := cRd) (fun x hx => road_of (h x hx))
 exact ⟨l, rfl⟩
theorem net_of (h : Shown Try.prog (n + 5) 55 x) : ∃ d, x = cNet d := by
 unfold Shown at h
 simp only [Try.underlying55, List.foldr] at h
 obtain ⟨_, _, rfl, h1, _, _, rfl, h2, rfl⟩ := h
 obtain ⟨a, rfl⟩ := int_of h1
 obtain ⟨b, rfl⟩ := roads_of h2
 exact ⟨⟨a, b⟩, rfl⟩
end
theorem roadPricesD_c (d : NetD) (a b ki : Int) : Contract Try.prog 6 [.agg (cNet d), dI a, dI b, dI ki] (dB true) := roadPrices_c d.n d.l a b ki
end Go.Proofs.Ytbnbpfjfkedbaaa
