/-
  Layer 11: span's functions on data: the range of a goal, its bounds.
-/
import Derived.Test.YtpkdhmnlpnijhaaGreatUSimI
import Derived.Test.YtpkdhmnlpnijhaaGreatUDualP
import Derived.Test.YtpkdhmnlpnijhaaGreatULinB
namespace Go.Proofs.YtpkdhmnlpnijhaaGreat
set_option linter.unusedVariables false
set_option linter.unusedSimpArgs false
set_option linter.unusedSectionVars false
open Go Go.RowKit
set_option maxRecDepth 100000
set_option maxHeartbeats 8000000
abbrev zO : OptD := ⟨0, zF, [], [], []⟩
abbrev encR (a b : OptD) : D := .agg (cO a ++ cO b)
def oppT (goal : List TermD) : List TermD := timesD goal (ofQ ((-1 : Int) : Rat))
noncomputable def rangeD (s : SysD) (goal : List TermD) : (OptD × OptD) × Int :=
 if rightS s && rightT goal s.n then (if (leastE s goal).k = 1 then ((zO, zO), 15) else ((leastE s goal, leastE s (oppT goal)), 0)) else ((zO, zO), 1)
structure BdD where
 l : FracD
 h : FracD
 lo : Bool
 hi : Bool
abbrev cBd (b : BdD) : List D := [dI b.l.p.s, encInts b.l.p.d, dI b.l.q.s, encInts b.l.q.d, dI b.h.p.s, encInts b.h.p.d, dI b.h.q.s, encInts b.h.q.d, dB b.lo, dB b.hi]
abbrev encBd (b : BdD) : D := .agg (cBd b)
def boundsD (a b : OptD) : BdD := ⟨if a.k = 0 then a.v else zF, if b.k = 0 then negD b.v else zF, decide (a.k = 0), decide (b.k = 0)⟩
theorem one_neg : szF (ofQ ((-1 : Int) : Rat)) ≤ 1 ∧ okF (ofQ ((-1 : Int) : Rat)) = true ∧ (sgnD (ofQ ((-1 : Int) : Rat)) != 0) = true ∧ qOf (ofQ ((-1 : Int) : Rat)) = -1 :=
 ⟨by decide +kernel, by decide +kernel, by decide +kernel, by rw [qOf_ofQ]; rfl⟩
theorem opp_right {goal : List TermD} {n : Int} (h : rightT goal n = true) : rightT (oppT goal) n = true := rightT_times h
theorem opp_dot {goal : List TermD} {n : Int} (h : rightT goal n = true) (hn : n ≤ 1500) (g : Int → Rat) : dotS g (oppT goal) = -(dotS g goal) := by
 unfold oppT
 rw [timesD_dot (rightT_high (n' := 1500) hn h) one_neg.2.1, one_neg.2.2.2]; grind
theorem opp_sz (goal : List TermD) {B : Nat} (hz : ∀ t ∈ goal, szF t.f ≤ B) : (oppT goal).length ≤ goal.length ∧ ∀ t ∈ oppT goal, szF t.f ≤ B := by
 unfold oppT timesD
 split
 · rename_i h
   simp only [Bool.and_eq_true] at h
   refine ⟨by simp, fun t ht => ?_⟩
   obtain ⟨u, hu, rfl⟩ := List.mem_map.1 ht
   show szF (ofQ _) ≤ _
   rw [one_neg.2.2.2, show qOf u.f * -1 = -(qOf u.f) by grind, szQ_ofQ, szQ_neg, szF_ok (rightT_mem h.1 hu).2.2.1]
   exact hz u hu
 · exact ⟨by simp, fun t ht => by simp at ht⟩
theorem Fit.opp {s : SysD} {goal : List TermD} {B T : Nat} (h : Fit s goal B T) : Fit s (oppT goal) B T := by
 obtain ⟨z1, z2⟩ := opp_sz goal h.g.2
 exact ⟨h.l, h.n, h.t, h.w, ⟨by have := h.g.1; omega, z2⟩, h.b, h.gl⟩
theorem opp_c (goal : List TermD) (hs : smT goal) : Contract Tryz.prog 137 [encTs goal] (encTs (oppT goal)) := by
 have hres := Tryz.results137
 have k1 := fint_c (-1) (by decide) (by decide)
 have k2 := ltimes_c goal (ofQ ((-1 : Int) : Rat)) hs (by have := one_neg.1; unfold smF; omega)
 refine inC Tryz.func137 rfl Tryz.ntmps137 ?_
 refine aGo hres ?_
 repeat with_reducible intro K hK
 rfl
theorem of11_c (s : SysD) (goal : List TermD) {B T : Nat} (h : Fit s goal B T) : Contract Tryz.prog 41 [encS s, encTs goal] (.tup [encR (rangeD s goal).1.1 (rangeD s goal).1.2, dI (rangeD s goal).2]) := by
 have hres := Tryz.results41
 have kl := least_c s goal h
 have km := least_c s _ h.opp
 have ko := opp_c goal h.gt.sm
 have b10 : ((1 : Int) != 0) = true := rfl
 have b00 : ((0 : Int) != 0) = false := rfl
 cases hr : (rightS s && rightT goal s.n)
 · have e1 : rangeD s goal = ((zO, zO), 1) := by unfold rangeD; rw [hr]; rfl
   rw [show leastD s goal = (⟨0, zF, [], [], []⟩, 1) by unfold leastD; rw [hr]; rfl] at kl
   rw [e1]
   refine inC Tryz.func41 rfl Tryz.ntmps41 ?_
   refine aGo (cj3 hres b10 b00) ?_
   repeat with_reducible intro K hK
   rfl
 simp only [Bool.and_eq_true] at hr
 rw [show leastD s goal = (leastE s goal, 0) by unfold leastD; rw [hr.1, hr.2]; rfl] at kl
 rw [show leastD s (oppT goal) = (leastE s (oppT goal), 0) by unfold leastD; rw [hr.1, opp_right hr.2]; rfl] at km
 by_cases hk : (leastE s goal).k = 1
 · have e1 : rangeD s goal = ((zO, zO), 15) := by unfold rangeD; rw [hr.1, hr.2, if_pos (by rfl), if_pos hk]
   rw [e1]
   generalize leastE s goal = L at *
   obtain ⟨lk, lv, lx, ly, ld⟩ := L
   simp only at hk
   subst hk
   refine inC Tryz.func41 rfl Tryz.ntmps41 ?_
   refine aGo (cj3 hres b10 b00) ?_
   repeat with_reducible intro K hK
   rfl
 · have e1 : rangeD s goal = ((leastE s goal, leastE s (oppT goal)), 0) := by unfold rangeD; rw [hr.1, hr.2, if_pos (by rfl), if_neg hk]
   rw [e1]
   generalize leastE s goal = L at *
   generalize leastE s (oppT goal) = M at *
   generalize oppT goal = O at *
   obtain ⟨lk, lv, lx, ly, ld⟩ := L
   have e2 : (lk == 1) = false := by simpa using hk
   refine inC Tryz.func41 rfl Tryz.ntmps41 ?_
   refine aGo (cj3 hres e2 b00) ?_
   repeat with_reducible intro K hK
   rfl
theorem fresh11_c (f : FracD) (hz : (szF f : Int) ≤ 549755813888) : Contract Tryz.prog 142 [encF f] (encF f) := by
 have hres := Tryz.results142
 have hp : (f.p.d.length : Int) ≤ 549755813888 := by have : f.p.d.length ≤ szF f := Nat.le_max_left _ _; omega
 have hq : (f.q.d.length : Int) ≤ 549755813888 := by have : f.q.d.length ≤ szF f := Nat.le_max_right _ _; omega
 have y1 : (f.p.d.length : Int) * 8 ≤ 140737488355328 := by omega
 have y2 : (f.q.d.length : Int) * 8 ≤ 140737488355328 := by omega
 have y3 : (f.p.d.length : Int) ≤ 9007199254740992 := by omega
 have y4 : (f.q.d.length : Int) ≤ 9007199254740992 := by omega
 refine inC Tryz.func142 rfl Tryz.ntmps142 ?_
 refine aGo (cj4 hres y1 y2 (cj2 y3 y4)) ?_
 repeat with_reducible intro K hK
 rw [map_map_id (fun _ => rfl), map_map_id (fun _ => rfl)]
theorem bounds11_c (a b : OptD) (za : (szF a.v : Int) ≤ 549755813888) (zb : (szF b.v : Int) ≤ 549755813888) : Contract Tryz.prog 50 [encR a b] (encBd (boundsD a b)) := by
 have hres := Tryz.results50
 obtain ⟨ak, av, ax, ay, ad⟩ := a
 obtain ⟨bk, bv, bx, by', bd⟩ := b
 have k1 := fresh11_c av za
 have k2 := fneg_c bv zb
 by_cases h1 : ak = 0
 · have g1 : (ak == 0) = true := by simpa using h1
   by_cases h2 : bk = 0
   · have g2 : (bk == 0) = true := by simpa using h2
     simp only [boundsD, if_pos h1, if_pos h2, decide_eq_true h1, decide_eq_true h2]
     refine inC Tryz.func50 rfl Tryz.ntmps50 ?_
     exact aGo (cj3 hres g1 g2) trivial
   · have g2 : (bk == 0) = false := by simpa using h2
     simp only [boundsD, if_pos h1, if_neg h2, decide_eq_true h1, decide_eq_false h2]
     refine inC Tryz.func50 rfl Tryz.ntmps50 ?_
     refine aGo (cj3 hres g1 g2) ?_
     repeat with_reducible intro K hK
     rfl
 · have g1 : (ak == 0) = false := by simpa using h1
   by_cases h2 : bk = 0
   · have g2 : (bk == 0) = true := by simpa using h2
     simp only [boundsD, if_neg h1, if_pos h2, decide_eq_false h1, decide_eq_true h2]
     refine inC Tryz.func50 rfl Tryz.ntmps50 ?_
     refine aGo (cj3 hres g1 g2) ?_
     repeat with_reducible intro K hK
     rfl
   · have g2 : (bk == 0) = false := by simpa using h2
     simp only [boundsD, if_neg h1, if_neg h2, decide_eq_false h1, decide_eq_false h2]
     refine inC Tryz.func50 rfl Tryz.ntmps50 ?_
     refine aGo (cj3 hres g1 g2) ?_
     repeat with_reducible intro K hK
     rfl
noncomputable def bdsD (s : SysD) (goal : List TermD) : BdD × Bool := (boundsD (rangeD s goal).1.1 (rangeD s goal).1.2, (rangeD s goal).2 == 0)
noncomputable def impB (s : SysD) (w : RowD) : Bool :=
 if (bdsD s w.t).2 then (decide (w.k = 1) || ((bdsD s w.t).1.lo && decide (0 ≤ cmpD (bdsD s w.t).1.l w.v))) && (decide (w.k = 0) || ((bdsD s w.t).1.hi && decide (cmpD (bdsD s w.t).1.h w.v ≤ 0))) else true
noncomputable def certD (s : SysD) (goal : List TermD) : FracD × Bool :=
 if (bdsD s goal).2 && (bdsD s goal).1.lo && (bdsD s goal).1.hi && cmpD (bdsD s goal).1.l (bdsD s goal).1.h == 0 then ((bdsD s goal).1.l, true) else (zF, false)
theorem szF_neg (f : FracD) : szF (negD f) ≤ szF f := by
 unfold negD
 split
 · rename_i h
   show szF (ofQ _) ≤ _
   rw [szQ_ofQ, szQ_neg, szF_ok h]; exact Nat.le_refl _
 · exact Nat.zero_le _
theorem range_sz {s : SysD} {goal : List TermD} {B T : Nat} (h : Fit s goal B T) : (szF (rangeD s goal).1.1.v : Int) ≤ 4456448 ∧ (szF (rangeD s goal).1.2.v : Int) ≤ 4456448 := by
 have z : (szF zF : Int) ≤ 4456448 := by decide
 unfold rangeD
 split
 · rename_i hr
   simp only [Bool.and_eq_true] at hr
   split
   · exact ⟨z, z⟩
   · exact ⟨least_v h hr.1 hr.2, least_v h.opp hr.1 (opp_right hr.2)⟩
 · exact ⟨z, z⟩
theorem bds_sz {s : SysD} {goal : List TermD} {B T : Nat} (h : Fit s goal B T) : (szF (bdsD s goal).1.l : Int) ≤ 4456448 ∧ (szF (bdsD s goal).1.h : Int) ≤ 4456448 := by
 obtain ⟨h1, h2⟩ := range_sz h
 have z : (szF zF : Int) ≤ 4456448 := by decide
 have := szF_neg (rangeD s goal).1.2.v
 unfold bdsD boundsD
 refine ⟨?_, ?_⟩
 · dsimp only; split
   · exact h1
   · exact z
 · dsimp only; split
   · omega
   · exact z
theorem bds11_c (s : SysD) (goal : List TermD) {B T : Nat} (h : Fit s goal B T) : Contract Tryz.prog 135 [encS s, encTs goal] (.tup [encBd (bdsD s goal).1, dB (bdsD s goal).2]) := by
 have hres := Tryz.results135
 have ko := of11_c s goal h
 obtain ⟨z1, z2⟩ := range_sz h
 have kb := bounds11_c (rangeD s goal).1.1 (rangeD s goal).1.2 (by omega) (by omega)
 unfold bdsD
 generalize rangeD s goal = R at *
 obtain ⟨⟨a, b⟩, e⟩ := R
 generalize boundsD a b = G at *
 refine inC Tryz.func135 rfl Tryz.ntmps135 ?_
 exact aGo hres trivial
theorem cert11_c (s : SysD) (goal : List TermD) {B T : Nat} (h : Fit s goal B T) : Contract Tryz.prog 47 [encS s, encTs goal] (.tup [encF (certD s goal).1, dB (certD s goal).2]) := by
 have hres := Tryz.results47
 have ko := of11_c s goal h
 obtain ⟨z1, z2⟩ := range_sz h
 obtain ⟨y1, y2⟩ := bds_sz h
 have kb := bounds11_c (rangeD s goal).1.1 (rangeD s goal).1.2 (by omega) (by omega)
 unfold certD
 unfold bdsD at *
 generalize rangeD s goal = R at *
 obtain ⟨⟨a, b⟩, e⟩ := R
 simp only at kb ko y1 y2 ⊢
 generalize boundsD a b = G at *
 obtain ⟨l, hh, lo, hi⟩ := G
 simp only at y1 y2 ⊢
 have kc := fcompare_c l hh (by omega) (by omega)
 by_cases he : e = 0
 · subst he
   have b00 : ((0 : Int) != 0) = false := rfl
   cases lo
   · refine inC Tryz.func47 rfl Tryz.ntmps47 ?_
     refine aGo (cj2 hres b00) ?_
     repeat with_reducible intro K hK
     rfl
   cases hi
   · refine inC Tryz.func47 rfl Tryz.ntmps47 ?_
     refine aGo (cj2 hres b00) ?_
     repeat with_reducible intro K hK
     rfl
   by_cases hc : cmpD l hh = 0
   · rw [hc] at kc ⊢
     refine inC Tryz.func47 rfl Tryz.ntmps47 ?_
     exact aGo (cj2 hres b00) trivial
   · have b1 : (cmpD l hh != 0) = true := by simpa using hc
     have b2 : (cmpD l hh == 0) = false := by simpa using hc
     rw [b2]
     refine inC Tryz.func47 rfl Tryz.ntmps47 ?_
     refine aGo (cj3 hres b00 b1) ?_
     repeat with_reducible intro K hK
     rfl
 · have b1 : (e != 0) = true := by simpa using he
   have b2 : (e == 0) = false := by simpa using he
   rw [b2]
   refine inC Tryz.func47 rfl Tryz.ntmps47 ?_
   refine aGo (cj2 hres b1) ?_
   repeat with_reducible intro K hK
   rfl
theorem impl11_c (s : SysD) (w : RowD) {B T : Nat} (h : Fit s w.t B T) (hw1 : szF w.v ≤ 262144) (hs : rightS s = true) (hw : rightW s.n w = true) : Contract Tryz.prog 45 [encS s, encW w] (.tup [dB (impB s w), dI 0]) := by
 have hres := Tryz.results45
 have k1 := lrightS_c s h.tn.sm
 rw [hs] at k1
 have hn := rightS_n hs
 have r1 : rightS ⟨s.n, [w]⟩ = true := by
  simp only [rightS, Bool.and_eq_true, decide_eq_true_eq, List.all_cons, List.all_nil, Bool.and_true]
  exact ⟨⟨⟨hn.1, hn.2⟩, by simp⟩, hw⟩
 have sw : smS ⟨s.n, [w]⟩ := ⟨by simp, fun u hu => by rw [List.mem_singleton.1 hu]; exact ⟨h.gt.sm, by unfold smF; omega⟩⟩
 have k2 := lrightS_c ⟨s.n, [w]⟩ sw
 rw [r1] at k2
 have ko := of11_c s w.t h
 obtain ⟨z1, z2⟩ := range_sz h
 obtain ⟨y1, y2⟩ := bds_sz h
 have kb := bounds11_c (rangeD s w.t).1.1 (rangeD s w.t).1.2 (by omega) (by omega)
 have hk : w.k = 0 ∨ w.k = 1 ∨ w.k = 2 := by
  simp only [rightW, Bool.and_eq_true, decide_eq_true_eq] at hw; omega
 have he0 : (rangeD s w.t).2 = 0 ∨ (rangeD s w.t).2 = 15 := by
  have hr : rightT w.t s.n = true := by simp only [rightW, Bool.and_eq_true] at hw; exact hw.1.1.1
  unfold rangeD
  rw [hs, hr, if_pos (by rfl)]
  split
  · exact .inr rfl
  · exact .inl rfl
 unfold impB
 unfold bdsD at *
 generalize rangeD s w.t = R at *
 obtain ⟨⟨a, b⟩, e⟩ := R
 simp only at kb ko y1 y2 he0 ⊢
 generalize boundsD a b = G at *
 obtain ⟨l, hh, lo, hi⟩ := G
 simp only at y1 y2 ⊢
 obtain ⟨wt, wk, wv⟩ := w
 simp only at *
 have c1 := fcompare_c l wv (by omega) (by omega)
 have c2 := fcompare_c hh wv (by omega) (by omega)
 have b00 : ((0 : Int) != 0) = false := rfl
 have b01 : ((0 : Int) != 1) = true := rfl
 have b10 : ((1 : Int) != 0) = true := rfl
 have b11 : ((1 : Int) != 1) = false := rfl
 have b20 : ((2 : Int) != 0) = true := rfl
 have b21 : ((2 : Int) != 1) = true := rfl
 have bF0 : ((15 : Int) != 0) = true := rfl
 have bFF : ((15 : Int) == 15) = true := rfl
 rcases he0 with he | he
 · subst he
   have low : ∀ {k : Int}, k ≠ 1 → lo = true → ¬ cmpD l wv < 0 → (decide (k = 1) || (lo && decide (0 ≤ cmpD l wv))) = true := fun hk hl hc => by rw [hl]; simp; omega
   rcases hk with hk | hk | hk
   · subst hk
     cases lo
     · refine inC Tryz.func45 rfl Tryz.ntmps45 ?_
       exact aGo (cj3 hres b00 b01) trivial
     by_cases h1 : cmpD l wv < 0
     · have h1' : decide (0 ≤ cmpD l wv) = false := decide_eq_false (by omega)
       rw [h1']
       refine inC Tryz.func45 rfl Tryz.ntmps45 ?_
       exact aGo (cj4 hres b00 b01 h1) trivial
     · have h1' : decide (0 ≤ cmpD l wv) = true := decide_eq_true (by omega)
       rw [h1']
       refine inC Tryz.func45 rfl Tryz.ntmps45 ?_
       refine aGo (cj4 hres b00 b01 h1) ?_
       repeat with_reducible intro K hK
       rfl
   · subst hk
     cases hi
     · refine inC Tryz.func45 rfl Tryz.ntmps45 ?_
       exact aGo (cj4 hres b00 b11 b10) trivial
     by_cases h1 : cmpD hh wv > 0
     · have h1' : decide (cmpD hh wv ≤ 0) = false := decide_eq_false (by omega)
       rw [h1']
       refine inC Tryz.func45 rfl Tryz.ntmps45 ?_
       exact aGo (cj4 hres b00 b11 (cj2 b10 h1)) trivial
     · have h1' : decide (cmpD hh wv ≤ 0) = true := decide_eq_true (by omega)
       rw [h1']
       refine inC Tryz.func45 rfl Tryz.ntmps45 ?_
       refine aGo (cj4 hres b00 b11 (cj2 b10 h1)) ?_
       repeat with_reducible intro K hK
       rfl
   · subst hk
     cases lo
     · refine inC Tryz.func45 rfl Tryz.ntmps45 ?_
       exact aGo (cj3 hres b00 b21) trivial
     by_cases h1 : cmpD l wv < 0
     · have h1' : decide (0 ≤ cmpD l wv) = false := decide_eq_false (by omega)
       rw [h1']
       refine inC Tryz.func45 rfl Tryz.ntmps45 ?_
       exact aGo (cj4 hres b00 b21 h1) trivial
     have h1' : decide (0 ≤ cmpD l wv) = true := decide_eq_true (by omega)
     rw [h1']
     cases hi
     · refine inC Tryz.func45 rfl Tryz.ntmps45 ?_
       exact aGo (cj4 hres b00 b21 (cj2 b20 h1)) trivial
     by_cases h2 : cmpD hh wv > 0
     · have h2' : decide (cmpD hh wv ≤ 0) = false := decide_eq_false (by omega)
       rw [h2']
       refine inC Tryz.func45 rfl Tryz.ntmps45 ?_
       exact aGo (cj4 hres b00 b21 (cj3 b20 h1 h2)) trivial
     · have h2' : decide (cmpD hh wv ≤ 0) = true := decide_eq_true (by omega)
       rw [h2']
       refine inC Tryz.func45 rfl Tryz.ntmps45 ?_
       exact aGo (cj4 hres b00 b21 (cj3 b20 h1 h2)) trivial
 · subst he
   refine inC Tryz.func45 rfl Tryz.ntmps45 ?_
   exact aGo (cj3 hres bF0 bFF) trivial
structure BdOk (s : SysD) (goal : List TermD) (b : BdD) : Prop where
 lo : b.lo = true → ∃ q x, b.l = ofQ q ∧ holdsS s x = true ∧ dotD goal x = q ∧ ∀ z, holdsS s z = true → q ≤ dotD goal z
 nl : b.lo = false → b.l = zF ∧ ∀ q : Rat, ∃ x, holdsS s x = true ∧ dotD goal x ≤ q
 hi : b.hi = true → ∃ q x, b.h = ofQ q ∧ holdsS s x = true ∧ dotD goal x = q ∧ ∀ z, holdsS s z = true → dotD goal z ≤ q
 nh : b.hi = false → b.h = zF ∧ ∀ q : Rat, ∃ x, holdsS s x = true ∧ q ≤ dotD goal x
theorem ray_low {s : SysD} {goal : List TermD} {x d : List FracD} (hx : holdsS s x = true) (hd : rayD s goal d = true) (q : Rat) : ∃ z, holdsS s z = true ∧ dotD goal z ≤ q := by
 have hneg := (rayD_iff.1 hd).2.2.2.2.2.2
 rw [sgQ_lt] at hneg
 by_cases hq : dotD goal x ≤ q
 · exact ⟨x, hx, hq⟩
 · obtain ⟨_, ln, _, _, _⟩ := holdsS_iff.1 hx
   obtain ⟨_, _, ld, _⟩ := rayD_iff.1 hd
   have hp : 0 < -dotD goal d := by grind
   have hk : 0 ≤ (dotD goal x - q) / (-dotD goal d) := by
    rw [Rat.div_def]
    exact Rat.mul_nonneg (by grind) (Rat.le_of_lt (Rat.inv_pos.2 hp))
   refine ⟨_, holds_on hx hd hk, ?_⟩
   rw [dot_on (by omega)]
   have h2 : (dotD goal x - q) / (-dotD goal d) * dotD goal d = -(dotD goal x - q) := by
    rw [Rat.div_def]
    have : (-dotD goal d) * (-dotD goal d)⁻¹ = 1 := Rat.mul_inv_cancel _ (by grind)
    grind
   rw [h2]
   grind
theorem least_says {s : SysD} {goal : List TermD} {A : OptD} (h : checkD s goal A = true) :
    (A.k = 0 ∧ ∃ q x, A.v = ofQ q ∧ holdsS s x = true ∧ dotD goal x = q ∧ ∀ z, holdsS s z = true → q ≤ dotD goal z) ∨ (A.k = 1 ∧ ∀ x, holdsS s x = false) ∨ (A.k = 2 ∧ ∀ q : Rat, ∃ x, holdsS s x = true ∧ dotD goal x ≤ q) := by
 rcases check_cases h with ⟨a0, a1, a2, a3, a4, _⟩ | ⟨a0, a1, _⟩ | ⟨a0, a1, a2, _⟩
 · exact .inl ⟨a0, _, _, a3, a2, rfl, fun z hz => by have := bounds a1 hz; grind⟩
 · exact .inr (.inl ⟨a0, fun x => refutes_no a1⟩)
 · exact .inr (.inr ⟨a0, fun q => ray_low a1 a2 q⟩)
theorem opp_dotD {s : SysD} {goal : List TermD} (hs : rightS s = true) (hg : rightT goal s.n = true) (x : List FracD) : dotD (oppT goal) x = -(dotD goal x) := by
 rw [dotD_eq, dotD_eq, opp_dot hg (rightS_n hs).2]
section
variable {s : SysD} {goal : List TermD} (hs : rightS s = true) (hg : rightT goal s.n = true)
include hs hg
theorem bds_ok : ((bdsD s goal).2 = false ∧ ∀ x, holdsS s x = false) ∨ ((bdsD s goal).2 = true ∧ (∃ x, holdsS s x = true) ∧ BdOk s goal (bdsD s goal).1) := by
 have hA := least_says (least_check hs hg)
 have hB := least_says (least_check hs (opp_right hg))
 have er : rangeD s goal = if (leastE s goal).k = 1 then ((zO, zO), 15) else ((leastE s goal, leastE s (oppT goal)), 0) := by unfold rangeD; rw [hs, hg]; rfl
 by_cases hk : (leastE s goal).k = 1
 · left
   rw [if_pos hk] at er
   unfold bdsD
   rw [er]
   rcases hA with ⟨h, _⟩ | ⟨_, h⟩ | ⟨h, _⟩
   · omega
   · exact ⟨rfl, h⟩
   · omega
 right
 rw [if_neg hk] at er
 have hex : ∃ x, holdsS s x = true := by
  rcases hA with ⟨_, q, x, _, h, _⟩ | ⟨h, _⟩ | ⟨_, h⟩
  · exact ⟨x, h⟩
  · omega
  · obtain ⟨x, h, _⟩ := h 0; exact ⟨x, h⟩
 have hk2 : (leastE s (oppT goal)).k ≠ 1 := by
  rcases hB with ⟨h, _⟩ | ⟨_, h⟩ | ⟨h, _⟩
  · omega
  · obtain ⟨x, hx⟩ := hex; rw [h x] at hx; cases hx
  · omega
 unfold bdsD
 rw [er]
 refine ⟨rfl, hex, ?_⟩
 simp only
 generalize leastE s goal = A at *
 generalize leastE s (oppT goal) = B at *
 refine ⟨fun h => ?_, fun h => ?_, fun h => ?_, fun h => ?_⟩
 · have h0 : A.k = 0 := of_decide_eq_true h
   rcases hA with ⟨_, h⟩ | ⟨h, _⟩ | ⟨h, _⟩
   · obtain ⟨q, x, h1, h2⟩ := h
     exact ⟨q, x, by simp only [boundsD, if_pos h0]; exact h1, h2⟩
   · omega
   · omega
 · have h0 : ¬ A.k = 0 := of_decide_eq_false h
   rcases hA with ⟨h, _⟩ | ⟨h, _⟩ | ⟨_, h⟩
   · omega
   · omega
   · exact ⟨by simp only [boundsD, if_neg h0], h⟩
 · have h0 : B.k = 0 := of_decide_eq_true h
   rcases hB with ⟨_, h⟩ | ⟨h, _⟩ | ⟨h, _⟩
   · obtain ⟨q, x, h1, h2, h3, h4⟩ := h
     rw [opp_dotD hs hg] at h3
     refine ⟨-q, x, by simp only [boundsD, if_pos h0]; rw [h1]; simp [negD, okF_ofQ, qOf_ofQ], h2, by grind, fun z hz => ?_⟩
     have := h4 z hz
     rw [opp_dotD hs hg] at this
     grind
   · omega
   · omega
 · have h0 : ¬ B.k = 0 := of_decide_eq_false h
   rcases hB with ⟨h, _⟩ | ⟨h, _⟩ | ⟨_, h⟩
   · omega
   · omega
   · refine ⟨by simp only [boundsD, if_neg h0], fun q => ?_⟩
     obtain ⟨x, h1, h2⟩ := h (-q)
     rw [opp_dotD hs hg] at h2
     exact ⟨x, h1, by grind⟩
end
theorem bd_same {s t : SysD} {g k : List TermD} {b c : BdD} (hb : BdOk s g b) (hc : BdOk t k c) (h1 : ∀ x, holdsS s x = true → ∃ z, holdsS t z = true ∧ dotD k z = dotD g x) (h2 : ∀ x, holdsS t x = true → ∃ z, holdsS s z = true ∧ dotD g z = dotD k x) : b = c := by
 obtain ⟨bl, bh, blo, bhi⟩ := b
 obtain ⟨cl, ch, clo, chi⟩ := c
 have lo : blo = clo ∧ bl = cl := by
  cases blo <;> cases clo
  · exact ⟨rfl, (hb.nl rfl).1.trans (hc.nl rfl).1.symm⟩
  · obtain ⟨q, x, _, _, _, h⟩ := hc.lo rfl
    obtain ⟨y, y1, y2⟩ := (hb.nl rfl).2 (q - 1)
    obtain ⟨z, z1, z2⟩ := h1 y y1
    have := h z z1
    grind
  · obtain ⟨q, x, _, _, _, h⟩ := hb.lo rfl
    obtain ⟨y, y1, y2⟩ := (hc.nl rfl).2 (q - 1)
    obtain ⟨z, z1, z2⟩ := h2 y y1
    have := h z z1
    grind
  · obtain ⟨q, x, e1, x1, x2, h⟩ := hb.lo rfl
    obtain ⟨r, y, e2, y1, y2, h'⟩ := hc.lo rfl
    obtain ⟨z, z1, z2⟩ := h1 x x1
    obtain ⟨u, u1, u2⟩ := h2 y y1
    have a := h' z z1
    have b := h u u1
    have : q = r := by grind
    exact ⟨rfl, by simp only at e1 e2; rw [e1, e2, this]⟩
 have hi : bhi = chi ∧ bh = ch := by
  cases bhi <;> cases chi
  · exact ⟨rfl, (hb.nh rfl).1.trans (hc.nh rfl).1.symm⟩
  · obtain ⟨q, x, _, _, _, h⟩ := hc.hi rfl
    obtain ⟨y, y1, y2⟩ := (hb.nh rfl).2 (q + 1)
    obtain ⟨z, z1, z2⟩ := h1 y y1
    have := h z z1
    grind
  · obtain ⟨q, x, _, _, _, h⟩ := hb.hi rfl
    obtain ⟨y, y1, y2⟩ := (hc.nh rfl).2 (q + 1)
    obtain ⟨z, z1, z2⟩ := h2 y y1
    have := h z z1
    grind
  · obtain ⟨q, x, e1, x1, x2, h⟩ := hb.hi rfl
    obtain ⟨r, y, e2, y1, y2, h'⟩ := hc.hi rfl
    obtain ⟨z, z1, z2⟩ := h1 x x1
    obtain ⟨u, u1, u2⟩ := h2 y y1
    have a := h' z z1
    have b := h u u1
    have : q = r := by grind
    exact ⟨rfl, by simp only at e1 e2; rw [e1, e2, this]⟩
 rw [lo.1, lo.2, hi.1, hi.2]
theorem cmpD_le (a b : Rat) : 0 ≤ cmpD (ofQ a) (ofQ b) ↔ b ≤ a := by
 rw [cmpD_ofQ]
 rcases sgQ_cases (a - b) with ⟨h, e⟩ | ⟨h, e⟩ | ⟨h, e⟩ <;> rw [e] <;> constructor <;> intro h1 <;> grind
theorem cmpD_ge (a b : Rat) : cmpD (ofQ a) (ofQ b) ≤ 0 ↔ a ≤ b := by
 rw [cmpD_ofQ]
 rcases sgQ_cases (a - b) with ⟨h, e⟩ | ⟨h, e⟩ | ⟨h, e⟩ <;> rw [e] <;> constructor <;> intro h1 <;> grind
theorem cmpD_eq (a b : Rat) : cmpD (ofQ a) (ofQ b) = 0 ↔ a = b := by
 rw [cmpD_ofQ, sgQ_zero]
 constructor <;> intro h <;> grind
theorem holdsW_iff {s : SysD} {w : RowD} (hw : rightW s.n w = true) (x : List FracD) : holdsW w x = true ↔ (w.k ≠ 1 → qOf w.v ≤ dotD w.t x) ∧ (w.k ≠ 0 → dotD w.t x ≤ qOf w.v) := by
 simp only [rightW, Bool.and_eq_true, decide_eq_true_eq] at hw
 unfold holdsW
 rw [fitsK_iff hw.1.1.2 hw.1.2]
 have hk : w.k = 0 ∨ w.k = 1 ∨ w.k = 2 := by omega
 rcases hk with e | e | e
 · constructor
   · intro h; refine ⟨fun _ => ?_, fun h2 => absurd e h2⟩; have := h.1 e; grind
   · intro h; refine ⟨fun _ => ?_, fun _ => by omega, fun _ => by omega⟩; have := h.1 (by omega); grind
 · constructor
   · intro h; refine ⟨fun h2 => absurd e h2, fun _ => ?_⟩; have := h.2.1 e; grind
   · intro h; refine ⟨fun _ => by omega, fun _ => ?_, fun _ => by omega⟩; have := h.2 (by omega); grind
 · constructor
   · intro h; have := h.2.2 e; exact ⟨fun _ => by grind, fun _ => by grind⟩
   · intro h; refine ⟨fun _ => by omega, fun _ => by omega, fun _ => ?_⟩; have := h.1 (by omega); have := h.2 (by omega); grind
theorem imp_iff {s : SysD} {w : RowD} (hs : rightS s = true) (hw : rightW s.n w = true) : impB s w = true ↔ ∀ x, holdsS s x = true → holdsW w x = true := by
 have hw' := hw
 simp only [rightW, Bool.and_eq_true, decide_eq_true_eq] at hw'
 obtain ⟨⟨⟨ht, hk0⟩, hk3⟩, hv⟩ := hw'
 have hb := bds_ok hs ht
 unfold impB
 rcases hb with ⟨h1, h2⟩ | ⟨h1, ⟨x0, hx0⟩, hb⟩
 · rw [h1, if_neg (by simp)]
   exact ⟨fun _ x hx => absurd hx (by rw [h2 x]; decide), fun _ => rfl⟩
 · rw [h1, if_pos rfl]
   generalize (bdsD s w.t).1 = b at *
   obtain ⟨v, hv2⟩ : ∃ v, w.v = ofQ v := ⟨qOf w.v, okF_eq hv⟩
   simp only [Bool.and_eq_true, Bool.or_eq_true, decide_eq_true_eq, holdsW_iff hw, hv2, qOf_ofQ]
   constructor
   · rintro ⟨ha, hc⟩ x hx
     refine ⟨fun hk => ?_, fun hk => ?_⟩
     · rcases ha with ha | ⟨ha, hd⟩
       · exact absurd ha hk
       · obtain ⟨q, _, e, _, _, h⟩ := hb.lo ha
         rw [e, cmpD_le] at hd
         have := h x hx; grind
     · rcases hc with hc | ⟨hc, hd⟩
       · exact absurd hc hk
       · obtain ⟨q, _, e, _, _, h⟩ := hb.hi hc
         rw [e, cmpD_ge] at hd
         have := h x hx; grind
   · intro h
     refine ⟨?_, ?_⟩
     · by_cases hk : w.k = 1
       · exact .inl hk
       · right
         cases hlo : b.lo
         · obtain ⟨x, x1, x2⟩ := (hb.nl hlo).2 (v - 1)
           have := (h x x1).1 hk; grind
         · obtain ⟨q, x, e, x1, x2, _⟩ := hb.lo hlo
           refine ⟨rfl, ?_⟩
           rw [e, cmpD_le]
           have := (h x x1).1 hk; grind
     · by_cases hk : w.k = 0
       · exact .inl hk
       · right
         cases hhi : b.hi
         · obtain ⟨x, x1, x2⟩ := (hb.nh hhi).2 (v + 1)
           have := (h x x1).2 hk; grind
         · obtain ⟨q, x, e, x1, x2, _⟩ := hb.hi hhi
           refine ⟨rfl, ?_⟩
           rw [e, cmpD_ge]
           have := (h x x1).2 hk; grind
abbrev tJ (k : Nat) (n : Int) : TermD := ⟨k, ofQ (n : Rat)⟩
theorem term11_c (v n : Int) (h1 : -9223372036854775808 ≤ n) (h2 : n ≤ 9223372036854775807) : Contract Tryz.prog 134 [dI v, dI n] (.agg (cT ⟨v, ofQ (n : Rat)⟩)) := by
 have hres := Tryz.results134
 have k1 := fint_c n h1 h2
 refine inC Tryz.func134 rfl Tryz.ntmps134 ?_
 exact aGo hres trivial
theorem between11_c (b : BdD) (l h : Int) (hl : -1000 ≤ l ∧ l ≤ 1000) (hh : -1000 ≤ h ∧ h ≤ 1000) (e : b = ⟨ofQ (l : Rat), ofQ (h : Rat), true, true⟩) : Contract Tryz.prog 136 [encBd b, dI l, dI h] (dB true) := by
 subst e
 have hres := Tryz.results136
 have k1 := fint_c l (by omega) (by omega)
 have k2 := fint_c h (by omega) (by omega)
 have s1 := fsame_c (ofQ (l : Rat)) (ofQ (l : Rat))
 have s2 := fsame_c (ofQ (h : Rat)) (ofQ (h : Rat))
 rw [sameF_self] at s1 s2
 refine inC Tryz.func136 rfl Tryz.ntmps136 ?_
 exact aGo hres trivial
abbrev rowP : RowD := ⟨[tJ 0 1, tJ 1 1], 1, ofQ ((4 : Int) : Rat)⟩
abbrev rowQ : RowD := ⟨[tJ 0 1], 0, ofQ ((1 : Int) : Rat)⟩
def sys3 : SysD := ⟨3, [rowP, rowQ]⟩
def sysM : SysD := ⟨3, [rowP, rowQ, ⟨[tJ 0 1], 2, ofQ ((2 : Int) : Rat)⟩]⟩
def sysN : SysD := ⟨3, [rowP, rowQ, ⟨[tJ 0 1], 0, ofQ ((5 : Int) : Rat)⟩]⟩
theorem rightJ {k : Nat} {n : Int} (hn : (n : Rat) ≠ 0) (hk : k < 3) : rightT [tJ k n] 3 = true := by
 simp only [rightT, Bool.and_eq_true, decide_eq_true_eq]
 exact ⟨by decide, goR_cons.2 ⟨by show (-1 : Int) < k; omega, by show (k : Int) < 3; omega, sgnD_ofQ_ne hn, rfl⟩⟩
theorem rightJ2 {n m : Int} (hn : (n : Rat) ≠ 0) (hm : (m : Rat) ≠ 0) : rightT [tJ 0 n, tJ 1 m] 3 = true := by
 simp only [rightT, Bool.and_eq_true, decide_eq_true_eq]
 exact ⟨by decide, goR_cons.2 ⟨by show (-1 : Int) < (0 : Nat); omega, by show ((0 : Nat) : Int) < 3; omega, sgnD_ofQ_ne hn, goR_cons.2 ⟨by show ((0 : Nat) : Int) < (1 : Nat); omega, by show ((1 : Nat) : Int) < 3; omega, sgnD_ofQ_ne hm, rfl⟩⟩⟩
theorem right_3 : rightS sys3 = true := by
 simp only [rightS, rightW, sys3, List.all_cons, List.all_nil, rightJ2 (n := 1) (m := 1) (by decide +kernel) (by decide +kernel), rightJ (k := 0) (n := 1) (by decide +kernel) (by decide), okF_ofQ]
 decide
theorem rightM : rightS sysM = true := by
 simp only [rightS, rightW, sysM, List.all_cons, List.all_nil, rightJ2 (n := 1) (m := 1) (by decide +kernel) (by decide +kernel), rightJ (k := 0) (n := 1) (by decide +kernel) (by decide), okF_ofQ]
 decide
theorem rightN : rightS sysN = true := by
 simp only [rightS, rightW, sysN, List.all_cons, List.all_nil, rightJ2 (n := 1) (m := 1) (by decide +kernel) (by decide +kernel), rightJ (k := 0) (n := 1) (by decide +kernel) (by decide), okF_ofQ]
 decide
theorem fit3 (g : List TermD) (hg : g.length ≤ 16 ∧ ∀ t ∈ g, szF t.f ≤ 2) : Fit sys3 g := by
 refine Fit.mk5 (by decide) (fun _ => by decide) (fun _ => .inl (by decide)) (fun w hw => ?_) hg
 simp only [sys3, List.mem_cons, List.not_mem_nil, or_false] at hw
 rcases hw with rfl | rfl
 · exact ⟨by decide, by decide +kernel, by decide +kernel⟩
 · exact ⟨by decide, by decide +kernel, by decide +kernel⟩
theorem fitM (g : List TermD) (hg : g.length ≤ 16 ∧ ∀ t ∈ g, szF t.f ≤ 2) : Fit sysM g := by
 refine Fit.mk5 (by decide) (fun _ => by decide) (fun _ => .inl (by decide)) (fun w hw => ?_) hg
 simp only [sysM, List.mem_cons, List.not_mem_nil, or_false] at hw
 rcases hw with rfl | rfl | rfl
 · exact ⟨by decide, by decide +kernel, by decide +kernel⟩
 · exact ⟨by decide, by decide +kernel, by decide +kernel⟩
 · exact ⟨by decide, by decide +kernel, by decide +kernel⟩
theorem fitN (g : List TermD) (hg : g.length ≤ 16 ∧ ∀ t ∈ g, szF t.f ≤ 2) : Fit sysN g := by
 refine Fit.mk5 (by decide) (fun _ => by decide) (fun _ => .inl (by decide)) (fun w hw => ?_) hg
 simp only [sysN, List.mem_cons, List.not_mem_nil, or_false] at hw
 rcases hw with rfl | rfl | rfl
 · exact ⟨by decide, by decide +kernel, by decide +kernel⟩
 · exact ⟨by decide, by decide +kernel, by decide +kernel⟩
 · exact ⟨by decide, by decide +kernel, by decide +kernel⟩
theorem cI1 : ((1 : Int) : Rat) = 1 := rfl
theorem cI4 : ((4 : Int) : Rat) = 4 := rfl
theorem dotJ (k : Nat) (n : Int) (x : List FracD) : dotD [tJ k n] x = n * atP x k := by simp [dotD, qOf_ofQ]; grind
theorem dotJ2 (k j : Nat) (n m : Int) (x : List FracD) : dotD [tJ k n, tJ j m] x = n * atP x k + m * atP x j := by simp [dotD, qOf_ofQ]; grind
theorem sol_nonneg {s : SysD} {x : List FracD} (h : holdsS s x = true) (v : Int) : 0 ≤ atP x v := by
 obtain ⟨_, _, h1, h2, _⟩ := holdsS_iff.1 h
 exact at_nonneg h1 h2 v
theorem sol3 {x : List FracD} (h : holdsS sys3 x = true) : 1 ≤ atP x (0 : Nat) ∧ atP x (0 : Nat) + atP x (1 : Nat) ≤ 4 := by
 obtain ⟨_, _, _, _, h5⟩ := holdsS_iff.1 h
 have a := (holdsW_iff (rightS_mem right_3 (w := rowP) (by simp [sys3])) x).1 (List.all_eq_true.1 h5 rowP (by simp [sys3]))
 have b := (holdsW_iff (rightS_mem right_3 (w := rowQ) (by simp [sys3])) x).1 (List.all_eq_true.1 h5 rowQ (by simp [sys3]))
 have a2 := a.2 (by decide)
 have b1 := b.1 (by decide)
 rw [dotJ2, qOf_ofQ] at a2
 rw [dotJ, qOf_ofQ] at b1
 rw [cI1, cI4] at a2
 rw [cI1] at b1
 refine ⟨by grind, by grind⟩
def pt (a b c : Rat) : List FracD := [ofQ a, ofQ b, ofQ c]
theorem at_pt (a b c : Rat) : atP (pt a b c) (0 : Nat) = a ∧ atP (pt a b c) (1 : Nat) = b ∧ atP (pt a b c) (2 : Nat) = c := ⟨by simp [atP, pt, qOf_ofQ], by simp [atP, pt, qOf_ofQ], by simp [atP, pt, qOf_ofQ]⟩
theorem pt3 {a b c : Rat} (ha : 1 ≤ a) (hb : 0 ≤ b) (hc : 0 ≤ c) (h : a + b ≤ 4) : holdsS sys3 (pt a b c) = true := by
 obtain ⟨e0, e1, e2⟩ := at_pt a b c
 refine holdsS_iff.2 ⟨right_3, rfl, by simp [okP, pt, okF_ofQ], ?_, List.all_eq_true.2 fun w hw => ?_⟩
 · simp only [nonneg, pt, List.all_cons, List.all_nil, Bool.and_true, Bool.and_eq_true, decide_eq_true_eq]
   exact ⟨sgq_nonneg (by grind), sgq_nonneg hb, sgq_nonneg hc⟩
 · refine (holdsW_iff (rightS_mem right_3 hw) _).2 ?_
   simp only [sys3, List.mem_cons, List.not_mem_nil, or_false] at hw
   rcases hw with rfl | rfl
   · refine ⟨fun h => absurd rfl h, fun _ => ?_⟩
     rw [dotJ2, qOf_ofQ, e0, e1, cI1, cI4]
     grind
   · refine ⟨fun _ => ?_, fun h => absurd rfl h⟩
     rw [dotJ, qOf_ofQ, e0, cI1]
     grind
theorem bds_eq {s : SysD} {g : List TermD} (hs : rightS s = true) (hg : rightT g s.n = true) {c : BdD} {x : List FracD} (hx : holdsS s x = true) (hc : BdOk s g c) : bdsD s g = (c, true) := by
 rcases bds_ok hs hg with ⟨_, h⟩ | ⟨h1, _, h2⟩
 · rw [h x] at hx; cases hx
 · have := bd_same h2 hc (fun x hx => ⟨x, hx, rfl⟩) (fun x hx => ⟨x, hx, rfl⟩)
   rw [← this, ← h1]
theorem bd_mk {s : SysD} {g : List TermD} {l h : Rat} {x y : List FracD} (hx : holdsS s x = true) (hy : holdsS s y = true) (ex : dotD g x = l) (ey : dotD g y = h) (hz : ∀ z, holdsS s z = true → l ≤ dotD g z ∧ dotD g z ≤ h) : BdOk s g ⟨ofQ l, ofQ h, true, true⟩ :=
 ⟨fun _ => ⟨l, x, rfl, hx, ex, fun z h => (hz z h).1⟩, fun e => (by cases e), fun _ => ⟨h, y, rfl, hy, ey, fun z h => (hz z h).2⟩, fun e => by cases e⟩
theorem cIm1 : ((-1 : Int) : Rat) = -1 := rfl
theorem cI0 : ((0 : Int) : Rat) = 0 := rfl
theorem cI2 : ((2 : Int) : Rat) = 2 := rfl
theorem cI3 : ((3 : Int) : Rat) = 3 := rfl
theorem cI5 : ((5 : Int) : Rat) = 5 := rfl
theorem cI6 : ((6 : Int) : Rat) = 6 := rfl
theorem cIm2 : ((-2 : Int) : Rat) = -2 := rfl
theorem p100 : holdsS sys3 (pt 1 0 0) = true := pt3 (by decide +kernel) (by decide +kernel) (by decide +kernel) (by decide +kernel)
theorem p130 : holdsS sys3 (pt 1 3 0) = true := pt3 (by decide +kernel) (by decide +kernel) (by decide +kernel) (by decide +kernel)
theorem p400 : holdsS sys3 (pt 4 0 0) = true := pt3 (by decide +kernel) (by decide +kernel) (by decide +kernel) (by decide +kernel)
theorem ex1 : bdsD sys3 [tJ 1 1] = (⟨ofQ ((0 : Int) : Rat), ofQ ((3 : Int) : Rat), true, true⟩, true) := by
 refine bds_eq right_3 (rightJ (by decide +kernel) (by decide)) p100 (bd_mk p100 p130 ?_ ?_ fun z hz => ?_)
 · rw [dotJ, (at_pt _ _ _).2.1, cI1, cI0]; grind
 · rw [dotJ, (at_pt _ _ _).2.1, cI1, cI3]; grind
 · have := sol3 hz
   have := sol_nonneg hz (1 : Nat)
   rw [dotJ, cI1, cI0, cI3]
   constructor <;> grind
theorem ex2 : bdsD sys3 [tJ 0 1, tJ 1 (-1)] = (⟨ofQ ((-2 : Int) : Rat), ofQ ((4 : Int) : Rat), true, true⟩, true) := by
 refine bds_eq right_3 (rightJ2 (by decide +kernel) (by decide +kernel)) p100 (bd_mk p130 p400 ?_ ?_ fun z hz => ?_)
 · rw [dotJ2, (at_pt _ _ _).1, (at_pt _ _ _).2.1, cI1, cIm1, cIm2]; grind
 · rw [dotJ2, (at_pt _ _ _).1, (at_pt _ _ _).2.1, cI1, cIm1, cI4]; grind
 · have := sol3 hz
   have := sol_nonneg hz (1 : Nat)
   rw [dotJ2, cI1, cIm1, cIm2, cI4]
   constructor <;> grind
theorem ex3 : bdsD sys3 [tJ 2 1] = (⟨ofQ ((0 : Int) : Rat), zF, true, false⟩, true) := by
 refine bds_eq right_3 (rightJ (by decide +kernel) (by decide)) p100 ⟨fun _ => ⟨_, _, rfl, p100, ?_, fun z hz => ?_⟩, fun e => (by cases e), fun e => (by cases e), fun _ => ⟨rfl, fun q => ?_⟩⟩
 · rw [dotJ, (at_pt _ _ _).2.2, cI1, cI0]; grind
 · have := sol_nonneg hz (2 : Nat)
   rw [dotJ, cI1, cI0]; grind
 · by_cases hq : 0 ≤ q
   · refine ⟨pt 1 0 q, pt3 (by decide +kernel) (by decide +kernel) hq (by decide +kernel), ?_⟩
     rw [dotJ, (at_pt _ _ _).2.2, cI1]; grind
   · refine ⟨pt 1 0 0, p100, ?_⟩
     rw [dotJ, (at_pt _ _ _).2.2, cI1]; grind
theorem ex4 : bdsD sys3 [tJ 0 1] = (⟨ofQ ((1 : Int) : Rat), ofQ ((4 : Int) : Rat), true, true⟩, true) := by
 refine bds_eq right_3 (rightJ (by decide +kernel) (by decide)) p100 (bd_mk p100 p400 ?_ ?_ fun z hz => ?_)
 · rw [dotJ, (at_pt _ _ _).1, cI1]; grind
 · rw [dotJ, (at_pt _ _ _).1, cI1, cI4]; grind
 · have := sol3 hz
   have := sol_nonneg hz (1 : Nat)
   rw [dotJ, cI1, cI4]
   constructor <;> grind
theorem cert4 : certD sys3 [tJ 0 1] = (zF, false) := by
 unfold certD
 rw [ex4]
 have : (cmpD (ofQ ((1 : Int) : Rat)) (ofQ ((4 : Int) : Rat)) == 0) = false := by
  have := mt (cmpD_eq ((1 : Int) : Rat) ((4 : Int) : Rat)).1 (by decide +kernel)
  simpa using this
 simp only [this]
 rfl
theorem imp3 : impB sys3 ⟨[tJ 1 1], 1, ofQ ((3 : Int) : Rat)⟩ = true := by
 have hw : rightW sys3.n ⟨[tJ 1 1], 1, ofQ ((3 : Int) : Rat)⟩ = true := by
  simp only [rightW, Bool.and_eq_true, decide_eq_true_eq]
  exact ⟨⟨⟨rightJ (by decide +kernel) (by decide), by decide⟩, by decide⟩, okF_ofQ _⟩
 refine (imp_iff right_3 hw).2 fun x hx => (holdsW_iff hw x).2 ⟨fun h => absurd rfl h, fun _ => ?_⟩
 have := sol3 hx
 rw [dotJ, qOf_ofQ, cI1, cI3]; grind
theorem imp2 : impB sys3 ⟨[tJ 1 1], 1, ofQ ((2 : Int) : Rat)⟩ = false := by
 have hw : rightW sys3.n ⟨[tJ 1 1], 1, ofQ ((2 : Int) : Rat)⟩ = true := by
  simp only [rightW, Bool.and_eq_true, decide_eq_true_eq]
  exact ⟨⟨⟨rightJ (by decide +kernel) (by decide), by decide⟩, by decide⟩, okF_ofQ _⟩
 cases h : impB sys3 ⟨[tJ 1 1], 1, ofQ ((2 : Int) : Rat)⟩
 · rfl
 · have := ((holdsW_iff hw _).1 ((imp_iff right_3 hw).1 h _ p130)).2 (by decide)
   rw [dotJ, qOf_ofQ, (at_pt _ _ _).2.1, cI1, cI2] at this
   exact absurd this (by decide +kernel)
theorem solN (x : List FracD) : holdsS sysN x = false := by
 cases h : holdsS sysN x
 · rfl
 · obtain ⟨_, _, _, _, h5⟩ := holdsS_iff.1 h
   have a := ((holdsW_iff (rightS_mem rightN (w := rowP) (by simp [sysN])) x).1 (List.all_eq_true.1 h5 rowP (by simp [sysN]))).2 (by decide)
   have b := ((holdsW_iff (rightS_mem rightN (w := ⟨[tJ 0 1], 0, ofQ ((5 : Int) : Rat)⟩) (by simp [sysN])) x).1 (List.all_eq_true.1 h5 ⟨[tJ 0 1], 0, ofQ ((5 : Int) : Rat)⟩ (by simp [sysN]))).1 (by decide)
   have c := sol_nonneg h (1 : Nat)
   rw [dotJ2, qOf_ofQ, cI1, cI4] at a
   rw [dotJ, qOf_ofQ, cI1, cI5] at b
   grind
theorem exN : rangeD sysN [tJ 1 1] = ((zO, zO), 15) := by
 have hg : rightT [tJ 1 1] sysN.n = true := rightJ (by decide +kernel) (by decide)
 have hk : (leastE sysN [tJ 1 1]).k = 1 := by
  rcases least_says (least_check rightN hg) with ⟨_, q, x, _, h, _⟩ | ⟨h, _⟩ | ⟨_, h⟩
  · rw [solN x] at h; cases h
  · exact h
  · obtain ⟨x, h, _⟩ := h 0; rw [solN x] at h; cases h
 unfold rangeD
 rw [rightN, hg, if_pos (by rfl), if_pos hk]
theorem pM : holdsS sysM (pt 2 0 0) = true := by
 obtain ⟨e0, e1, e2⟩ := at_pt 2 0 0
 refine holdsS_iff.2 ⟨rightM, rfl, by simp [okP, pt, okF_ofQ], by simp only [nonneg, pt, List.all_cons, List.all_nil, sgnD_ofQ]; decide +kernel, List.all_eq_true.2 fun w hw => ?_⟩
 refine (holdsW_iff (rightS_mem rightM hw) _).2 ?_
 simp only [sysM, List.mem_cons, List.not_mem_nil, or_false] at hw
 rcases hw with rfl | rfl | rfl
 · refine ⟨fun h => absurd rfl h, fun _ => ?_⟩
   rw [dotJ2, qOf_ofQ, e0, e1]; decide +kernel
 · refine ⟨fun _ => ?_, fun h => absurd rfl h⟩
   rw [dotJ, qOf_ofQ, e0]; decide +kernel
 · refine ⟨fun _ => ?_, fun _ => ?_⟩
   · rw [dotJ, qOf_ofQ, e0]; decide +kernel
   · rw [dotJ, qOf_ofQ, e0]; decide +kernel
theorem certM : certD sysM [tJ 0 3] = (ofQ ((6 : Int) : Rat), true) := by
 have e : bdsD sysM [tJ 0 3] = (⟨ofQ ((6 : Int) : Rat), ofQ ((6 : Int) : Rat), true, true⟩, true) := by
  refine bds_eq rightM (rightJ (by decide +kernel) (by decide)) pM (bd_mk pM pM ?_ ?_ fun z hz => ?_)
  · rw [dotJ, (at_pt _ _ _).1]; decide +kernel
  · rw [dotJ, (at_pt _ _ _).1]; decide +kernel
  · obtain ⟨_, _, _, _, h5⟩ := holdsS_iff.1 hz
    have b := (holdsW_iff (rightS_mem rightM (w := ⟨[tJ 0 1], 2, ofQ ((2 : Int) : Rat)⟩) (by simp [sysM])) z).1 (List.all_eq_true.1 h5 ⟨[tJ 0 1], 2, ofQ ((2 : Int) : Rat)⟩ (by simp [sysM]))
    have b1 := b.1 (by decide)
    have b2 := b.2 (by decide)
    rw [dotJ, qOf_ofQ, cI1, cI2] at b1 b2
    rw [dotJ, cI3, cI6]
    constructor <;> grind
 unfold certD
 rw [e]
 have : (cmpD (ofQ ((6 : Int) : Rat)) (ofQ ((6 : Int) : Rat)) == 0) = true := by simpa using (cmpD_eq ((6 : Int) : Rat) ((6 : Int) : Rat)).2 rfl
 simp only [this]
 rfl
set_option maxHeartbeats 16000000
theorem small11_c : Contract Tryz.prog 36 [] (dB true) := by
 have hres := Tryz.results36
 have t1 := term11_c 1 1 (by decide) (by decide)
 have t2 := term11_c 0 1 (by decide) (by decide)
 have t3 := term11_c 1 (-1) (by decide) (by decide)
 have t4 := term11_c 2 1 (by decide) (by decide)
 have t5 := term11_c 0 3 (by decide) (by decide)
 have i0 := fint_c 0 (by decide) (by decide)
 have i1 := fint_c 1 (by decide) (by decide)
 have i2 := fint_c 2 (by decide) (by decide)
 have i3 := fint_c 3 (by decide) (by decide)
 have i4 := fint_c 4 (by decide) (by decide)
 have i5 := fint_c 5 (by decide) (by decide)
 have i6 := fint_c 6 (by decide) (by decide)
 have b1 := bds11_c sys3 [tJ 1 1] (fit3 _ ⟨by decide, by decide +kernel⟩)
 rw [ex1] at b1
 have b2 := bds11_c sys3 [tJ 0 1, tJ 1 (-1)] (fit3 _ ⟨by decide, by decide +kernel⟩)
 rw [ex2] at b2
 have b3 := bds11_c sys3 [tJ 2 1] (fit3 _ ⟨by decide, by decide +kernel⟩)
 rw [ex3] at b3
 have o1 := of11_c sysN [tJ 1 1] (fitN _ ⟨by decide, by decide +kernel⟩)
 rw [exN] at o1
 have wJ : ∀ n : Int, rightW sys3.n ⟨[tJ 1 1], 1, ofQ (n : Rat)⟩ = true := fun n => by
  simp only [rightW, Bool.and_eq_true, decide_eq_true_eq]
  exact ⟨⟨⟨rightJ (by decide +kernel) (by decide), by decide⟩, by decide⟩, okF_ofQ _⟩
 have m1 := impl11_c sys3 ⟨[tJ 1 1], 1, ofQ ((3 : Int) : Rat)⟩ (fit3 _ ⟨by decide, by decide +kernel⟩) (by decide +kernel) right_3 (wJ 3)
 rw [imp3] at m1
 have m2 := impl11_c sys3 ⟨[tJ 1 1], 1, ofQ ((2 : Int) : Rat)⟩ (fit3 _ ⟨by decide, by decide +kernel⟩) (by decide +kernel) right_3 (wJ 2)
 rw [imp2] at m2
 have c1 := cert11_c sys3 [tJ 0 1] (fit3 _ ⟨by decide, by decide +kernel⟩)
 rw [cert4] at c1
 have c2 := cert11_c sysM [tJ 0 3] (fitM _ ⟨by decide, by decide +kernel⟩)
 rw [certM] at c2
 have n1 := between11_c ⟨ofQ ((0 : Int) : Rat), ofQ ((3 : Int) : Rat), true, true⟩ 0 3 (by decide) (by decide) rfl
 have n2 := between11_c ⟨ofQ ((-2 : Int) : Rat), ofQ ((4 : Int) : Rat), true, true⟩ (-2) 4 (by decide) (by decide) rfl
 have s1 := fsame_c (ofQ ((0 : Int) : Rat)) (ofQ ((0 : Int) : Rat))
 have s2 := fsame_c (ofQ ((6 : Int) : Rat)) (ofQ ((6 : Int) : Rat))
 rw [sameF_self] at s1 s2
 have b00 : ((0 : Int) != 0) = false := rfl
 have b15 : ((15 : Int) != 15) = false := rfl
 refine inC Tryz.func36 rfl Tryz.ntmps36 ?_
 repeat ((fail_if_success (with_reducible refine at_region 3 ?_)); first
     | (refine hK _ ?_; clear hK; clear K)
     | (refine aSeq fun K hK => ?_)
     | (refine aBlock ?_)
     | (refine aSkip ?_)
     | (refine aExit ?_)
     | (refine aRet ?_)
     | (refine aOps _ rfl (by kernel_rfl) ?_)
     | (refine aRunK _ rfl mixed (by kernel_rfl) (by kernel_rfl) fun KE hE => ?_)
     | (refine hE _ _ (by kernel_rfl) (intsOk_no rfl) ?_; clear hE; clear KE)
     | (refine hE _ _ (by kernel_rfl) (intsOk_yes ?hi ?hj) ?_; (case hi => (repeat (refine intsDead_updB rfl ?_)); exact intsDead_nil); (case hj => simp); clear hE; clear KE)
     | (refine aCondT rfl ?hc ?_; case hc => simp only [go_sem, ↓reduceIte, hres])
     | (refine aCondF rfl ?hc ?_; case hc => simp only [go_sem, ↓reduceIte, hres])
     | (refine callT_of (t1) ?_ ?_; rotate_left; (repeat (refine intsDead_updB rfl ?_)); exact intsDead_nil)
     | (refine callT_ofN (t1) ?_)
     | (refine callU_of (t1) rfl ?_)
     | (refine callU_ofN (t1) rfl ?_)
     | (refine callT_of (t2) ?_ ?_; rotate_left; (repeat (refine intsDead_updB rfl ?_)); exact intsDead_nil)
     | (refine callT_ofN (t2) ?_)
     | (refine callU_of (t2) rfl ?_)
     | (refine callU_ofN (t2) rfl ?_)
     | (refine callT_of (i1) ?_ ?_; rotate_left; (repeat (refine intsDead_updB rfl ?_)); exact intsDead_nil)
     | (refine callT_ofN (i1) ?_)
     | (refine callU_of (i1) rfl ?_)
     | (refine callU_ofN (i1) rfl ?_)
     | (refine callT_of (i4) ?_ ?_; rotate_left; (repeat (refine intsDead_updB rfl ?_)); exact intsDead_nil)
     | (refine callT_ofN (i4) ?_)
     | (refine callU_of (i4) rfl ?_)
     | (refine callU_ofN (i4) rfl ?_)
     | (simp only [go_sem, ↓reduceIte, hres])
     | (refine And.intro ?ho ?_; (case ho => omega))
     | (clear hK; clear K))
 refine aLe (le_kill 1 rfl) (aLe (le_kill 2 rfl) (aLe (le_cells 3 4 rfl) ?_))
 simp only [go_sem, fzT]
 repeat ((fail_if_success (with_reducible refine at_region 5 ?_)); first
     | (refine hK _ ?_; clear hK; clear K)
     | (refine aSeq fun K hK => ?_)
     | (refine aBlock ?_)
     | (refine aSkip ?_)
     | (refine aExit ?_)
     | (refine aRet ?_)
     | (refine aOps _ rfl (by kernel_rfl) ?_)
     | (refine aRunK _ rfl mixed (by kernel_rfl) (by kernel_rfl) fun KE hE => ?_)
     | (refine hE _ _ (by kernel_rfl) (intsOk_no rfl) ?_; clear hE; clear KE)
     | (refine hE _ _ (by kernel_rfl) (intsOk_yes ?hi ?hj) ?_; (case hi => (repeat (refine intsDead_updB rfl ?_)); exact intsDead_nil); (case hj => simp); clear hE; clear KE)
     | (refine aCondT rfl ?hc ?_; case hc => simp only [go_sem, ↓reduceIte, hres])
     | (refine aCondF rfl ?hc ?_; case hc => simp only [go_sem, ↓reduceIte, hres])
     | (refine callT_of (t1) ?_ ?_; rotate_left; (repeat (refine intsDead_updB rfl ?_)); exact intsDead_nil)
     | (refine callT_ofN (t1) ?_)
     | (refine callU_of (t1) rfl ?_)
     | (refine callU_ofN (t1) rfl ?_)
     | (refine callT_of (t2) ?_ ?_; rotate_left; (repeat (refine intsDead_updB rfl ?_)); exact intsDead_nil)
     | (refine callT_ofN (t2) ?_)
     | (refine callU_of (t2) rfl ?_)
     | (refine callU_ofN (t2) rfl ?_)
     | (refine callT_of (i1) ?_ ?_; rotate_left; (repeat (refine intsDead_updB rfl ?_)); exact intsDead_nil)
     | (refine callT_ofN (i1) ?_)
     | (refine callU_of (i1) rfl ?_)
     | (refine callU_ofN (i1) rfl ?_)
     | (refine callT_of (i2) ?_ ?_; rotate_left; (repeat (refine intsDead_updB rfl ?_)); exact intsDead_nil)
     | (refine callT_ofN (i2) ?_)
     | (refine callU_of (i2) rfl ?_)
     | (refine callU_ofN (i2) rfl ?_)
     | (refine callT_of (i4) ?_ ?_; rotate_left; (repeat (refine intsDead_updB rfl ?_)); exact intsDead_nil)
     | (refine callT_ofN (i4) ?_)
     | (refine callU_of (i4) rfl ?_)
     | (refine callU_ofN (i4) rfl ?_)
     | (simp only [go_sem, ↓reduceIte, hres])
     | (refine And.intro ?ho ?_; (case ho => omega))
     | (clear hK; clear K))
 refine aLe (le_kill 5 rfl) (aLe (le_cells 6 4 rfl) ?_)
 simp only [go_sem, fzT]
 repeat ((fail_if_success (with_reducible refine at_region 6 ?_)); first
     | (refine hK _ ?_; clear hK; clear K)
     | (refine aSeq fun K hK => ?_)
     | (refine aBlock ?_)
     | (refine aSkip ?_)
     | (refine aExit ?_)
     | (refine aRet ?_)
     | (refine aOps _ rfl (by kernel_rfl) ?_)
     | (refine aRunK _ rfl mixed (by kernel_rfl) (by kernel_rfl) fun KE hE => ?_)
     | (refine hE _ _ (by kernel_rfl) (intsOk_no rfl) ?_; clear hE; clear KE)
     | (refine hE _ _ (by kernel_rfl) (intsOk_yes ?hi ?hj) ?_; (case hi => (repeat (refine intsDead_updB rfl ?_)); exact intsDead_nil); (case hj => simp); clear hE; clear KE)
     | (refine aCondT rfl ?hc ?_; case hc => simp only [go_sem, ↓reduceIte, hres])
     | (refine aCondF rfl ?hc ?_; case hc => simp only [go_sem, ↓reduceIte, hres])
     | (refine callT_of (t1) ?_ ?_; rotate_left; (repeat (refine intsDead_updB rfl ?_)); exact intsDead_nil)
     | (refine callT_ofN (t1) ?_)
     | (refine callU_of (t1) rfl ?_)
     | (refine callU_ofN (t1) rfl ?_)
     | (refine callT_of (t2) ?_ ?_; rotate_left; (repeat (refine intsDead_updB rfl ?_)); exact intsDead_nil)
     | (refine callT_ofN (t2) ?_)
     | (refine callU_of (t2) rfl ?_)
     | (refine callU_ofN (t2) rfl ?_)
     | (refine callT_of (i1) ?_ ?_; rotate_left; (repeat (refine intsDead_updB rfl ?_)); exact intsDead_nil)
     | (refine callT_ofN (i1) ?_)
     | (refine callU_of (i1) rfl ?_)
     | (refine callU_ofN (i1) rfl ?_)
     | (refine callT_of (i5) ?_ ?_; rotate_left; (repeat (refine intsDead_updB rfl ?_)); exact intsDead_nil)
     | (refine callT_ofN (i5) ?_)
     | (refine callU_of (i5) rfl ?_)
     | (refine callU_ofN (i5) rfl ?_)
     | (simp only [go_sem, ↓reduceIte, hres])
     | (refine And.intro ?ho ?_; (case ho => omega))
     | (clear hK; clear K))
 refine aLe (le_kill 8 rfl) (aLe (le_cells 9 4 rfl) ?_)
 simp only [go_sem, fzT]
 exact aGo (cj3 hres b00 b15) trivial
def few11 (s : SysD) (goal : List TermD) : Bool := fewS s 6 6 2 && fewT goal 6 2
theorem few11_c (s : SysD) (goal : List TermD) : ContractN Tryz.prog 37 [encS s, encTs goal] (dB (few11 s goal)) := by
 refine Contract.toN ?_ rfl
 have hres := Tryz.results37
 have k1 := fewS_c s 6 6 2 (by decide) (by decide)
 have k2 := fewT_c goal 6 2 (by decide)
 unfold few11
 cases h1 : fewS s 6 6 2
 · rw [h1] at k1
   refine inC Tryz.func37 rfl Tryz.ntmps37 ?_
   exact aGo hres trivial
 · rw [h1] at k1
   rw [Bool.true_and]
   refine inC Tryz.func37 rfl Tryz.ntmps37 ?_
   exact aGo hres trivial
theorem few_rows {s : SysD} (h : fewS s 6 6 2 = true) : s.n ≤ 6 ∧ s.r.length ≤ 6 ∧ ∀ w ∈ s.r, w.t.length ≤ 6 ∧ szF w.v ≤ 2 ∧ ∀ t ∈ w.t, szF t.f ≤ 2 := by
 simp only [fewS, Bool.and_eq_true, decide_eq_true_eq, List.all_eq_true] at h
 obtain ⟨⟨h1, h2⟩, h3⟩ := h
 refine ⟨h1, by omega, fun w hw => ?_⟩
 obtain ⟨a, b⟩ := h3 w hw
 have := fewT_sz a
 have := fewF_sz b
 exact ⟨by omega, by omega, fewT_nat 2 (by decide) a⟩
theorem fit11 {s : SysD} {goal : List TermD} (h : fewS s 6 6 2 = true) (hg : goal.length ≤ 16 ∧ ∀ t ∈ goal, szF t.f ≤ 2) : Fit s goal := by
 obtain ⟨h1, h2, h3⟩ := few_rows h
 exact Fit.mk5 (by omega) (fun _ => by omega) (fun _ => .inl (by omega)) (fun w hw => ⟨by have := (h3 w hw).1; omega, (h3 w hw).2⟩) hg
theorem fit11_of {s : SysD} {goal : List TermD} (h : fewS s 6 6 2 = true) (hg : fewT goal 6 2 = true) : Fit s goal := by
 have := fewT_sz hg
 exact fit11 h ⟨by omega, fewT_nat 2 (by decide) hg⟩
end Go.Proofs.YtpkdhmnlpnijhaaGreat
