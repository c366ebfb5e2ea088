/-
  The law's helpers: terms, row, ends.
-/
import Derived.Test.YtpkdhmnlpnijhaaGreatPSzA
namespace Go.Proofs.YtpkdhmnlpnijhaaGreat
set_option linter.unusedVariables false
set_option linter.unusedSimpArgs false
set_option linter.unusedSectionVars false
open Go Go.RowKit
set_option maxRecDepth 100000
set_option maxHeartbeats 8000000
abbrev tI (k : Nat) (n : Int) : TermD := ⟨k, ofQ (Rat.divInt n 1)⟩
def termsJ : Nat → List Int → List TermD
 | _, [] => []
 | k, n :: l => if n = 0 then termsJ (k + 1) l else tI k n :: termsJ (k + 1) l
theorem termsJ_append : ∀ (l m : List Int) (k : Nat), termsJ k (l ++ m) = termsJ k l ++ termsJ (k + l.length) m
 | [], m, k => by simp [termsJ]
 | n :: l, m, k => by
   simp only [List.cons_append, termsJ, List.length_cons, termsJ_append l m (k + 1)]
   rw [show k + 1 + l.length = k + (l.length + 1) by omega]
   split <;> rfl
theorem termsJ_succ {l : List Int} {i : Nat} {n : Int} (h : l[i]? = some n) : termsJ 0 (l.take (i + 1)) = termsJ 0 (l.take i) ++ (if n = 0 then [] else [tI i n]) := by
 have hi := (List.getElem?_eq_some_iff.1 h).1
 rw [List.take_add_one, h, Option.toList_some, termsJ_append, List.length_take, Nat.min_eq_left (by omega), Nat.zero_add]
 simp only [termsJ]
theorem termsJ_len : ∀ (l : List Int) (k : Nat), (termsJ k l).length ≤ l.length
 | [], _ => Nat.le_refl _
 | n :: l, k => by
   have := termsJ_len l (k + 1)
   simp only [termsJ]
   split <;> simp only [List.length_cons] <;> omega
theorem terms10_c (l : List Int) (hl : l.length ≤ 16) (hb : ∀ n ∈ l, -1000 ≤ n ∧ n ≤ 1000) : Contract Tryz.prog 55 [encInts l] (encTs (termsJ 0 l)) := by
 have hres := Tryz.results55
 refine inC Tryz.func55 rfl Tryz.ntmps55 ?_
 have e0 : termsJ 0 ([] : List Int) = [] := rfl
 have e01 : l.take 0 = [] := rfl
 refine aGo hres ?_
 repeat with_reducible intro K hK
 refine aLoopT (fun (u : Nat) => [(0, encInts l), (3, .ls 0 (termsJ 0 (l.take u)).length), (4, dI u)]) (fun u => [(0, ⟨107, (termsJ 0 (l.take u)).length, 5, (termsJ 0 (l.take u)).map cT, 0, false⟩)]) 1 0 (fun u => u ≤ l.length) (fun u => l.length - u) 0 (by omega) ?_ ?_
 · exact leGo (cj2 e0 e01)
 · rintro u hu
   have hwu := wrap1 u
   have u0 : (0 : Int) ≤ u := by omega
   have hlen := termsJ_len (l.take u) 0
   rw [List.length_take] at hlen
   by_cases h1 : (u : Int) < l.length
   · obtain ⟨n, hn⟩ := getE (l := l) (k := u) (by omega)
     have hgn : (l.map fun x => [dI x])[u]? = some [dI n] := by rw [List.getElem?_map, hn]; rfl
     have hbn := hb n (mem_at hn)
     have es := termsJ_succ hn
     by_cases h2 : n = 0
     · have h3 : (n != 0) = false := by simp [h2]
       rw [if_pos h2, List.append_nil] at es
       refine aGo (cj4 hres u0 h1 (cj4 hn hgn hwu h3)) ?_
       repeat with_reducible intro K hK
       exact loop_end (u + 1) (by omega) (by omega) (by exact leGo es)
     · have h3 : (n != 0) = true := by simp [h2]
       rw [if_neg h2] at es
       have ka := num10_c n 1 (by decide) (by omega) (by omega) (by decide) (by decide)
       refine aGo (cj4 hres u0 h1 (cj4 hn hgn hwu h3)) ?_
       repeat with_reducible intro K hK
       exact loop_end (u + 1) (by omega) (by omega) (by exact leGo es)
   · obtain rfl : u = l.length := by omega
     refine aGo (cj2 hres h1) ?_
     repeat with_reducible intro K hK
     rw [map_map_id (fun _ => rfl), List.take_length]
theorem row10_c (l : List Int) (k v : Int) (hl : l.length ≤ 16) (hb : ∀ n ∈ l, -1000 ≤ n ∧ n ≤ 1000) (hv : -1000 ≤ v ∧ v ≤ 1000) : Contract Tryz.prog 53 [encInts l, dI k, dI v] (encW ⟨termsJ 0 l, k, ofQ (Rat.divInt v 1)⟩) := by
 have hres := Tryz.results53
 have k1 := terms10_c l hl hb
 have k2 := num10_c v 1 (by decide) (by omega) (by omega) (by decide) (by decide)
 refine inC Tryz.func53 rfl Tryz.ntmps53 ?_
 exact aGo hres trivial
theorem ends10_c (s : SysD) (goal : List TermD) (o : OptD) (h : Fit s goal) (hc : checkD s goal o = true) (zo : (szF o.v : Int) ≤ 262144) : Contract Tryz.prog 54 [encS s, encTs goal, dI o.k, encF o.v] (dB true) := by
 have hres := Tryz.results54
 obtain ⟨hr, hg⟩ := right_check hc
 have kl := least_c s goal h
 rw [show leastD s goal = (leastE s goal, 0) by unfold leastD; rw [hr, hg]; rfl] at kl
 have hl := least_check hr hg
 obtain ⟨a1, a2⟩ := agrees hl hc
 have ho := least_tn h hr hg
 have kc := refcheck9_c s goal _ h.tn h.gt ho
 rw [hl] at kc
 have ks := (rsameF_c (leastE s goal).v o.v (by rw [a2]; omega)).toN rfl
 rw [show sameF (leastE s goal).v o.v = true by rw [a2, sameF_self]] at ks
 have e1 : ((leastE s goal).k == o.k) = true := by rw [a1]; simp
 refine inC Tryz.func54 rfl Tryz.ntmps54 ?_
 generalize leastE s goal = L at *
 obtain ⟨ok, ov, ox, oy, od⟩ := o
 obtain ⟨lk, lv, lx, ly, ld⟩ := L
 simp only at a1 a2 e1 ks
 subst a1 a2
 exact aGo (cj2 hres e1) trivial
theorem rightT_one {k n : Nat} {a : Int} (ha : Rat.divInt a 1 ≠ 0) (hk : k < n) : rightT [tI k a] n = true := by
 simp only [rightT, Bool.and_eq_true, decide_eq_true_eq]
 refine ⟨by omega, goR_cons.2 ⟨by show (-1 : Int) < k; omega, by show (k : Int) < n; omega, ?_, rfl⟩⟩
 exact sgnD_ofQ_ne ha
def lowB (s : SysD) (goal : List TermD) (y : List FracD) : Bool :=
 (s.r.zip y).all (fun p => signOk p.1 p.2) && (List.range s.n.toNat).all fun v => decide (mixG (indI v) s.r y ≤ coefT goal v)
theorem lower_of {s : SysD} {goal : List TermD} {y : List FracD} (hr : rightS s = true) (hg : rightT goal s.n = true) (hl : y.length = s.r.length) (ho : okP y = true) (h : lowB s goal y = true) : (lowerD s goal y).2 = true := by
 simp only [lowB, Bool.and_eq_true, List.all_eq_true, List.mem_range, decide_eq_true_eq] at h
 refine lowerD_iff.2 ⟨?_, hg, ?_⟩
 · simp only [signedD, Bool.and_eq_true]
   exact ⟨mulOk_iff.2 ⟨hr, hl, ho⟩, List.all_eq_true.2 fun p hp => h.1 p hp⟩
 · unfold belowN
   refine List.all_eq_true.2 fun v hv => decide_eq_true ?_
   have hv := List.mem_range.1 hv
   unfold mixT
   rw [termsOf_coef, if_pos hv]
   exact h.2 v hv
def sysA : SysD := ⟨2, [⟨[tI 0 1, tI 1 2], 0, ofQ (Rat.divInt 4 1)⟩, ⟨[tI 0 3, tI 1 1], 0, ofQ (Rat.divInt 6 1)⟩]⟩
def gA : List TermD := [tI 0 1, tI 1 1]
def oA : OptD := ⟨0, ofQ (Rat.divInt 14 5), [ofQ (Rat.divInt 8 5), ofQ (Rat.divInt 6 5)], [ofQ (Rat.divInt 2 5), ofQ (Rat.divInt 1 5)], []⟩
theorem rightT_two {a b : Int} (ha : Rat.divInt a 1 ≠ 0) (hb : Rat.divInt b 1 ≠ 0) : rightT [tI 0 a, tI 1 b] 2 = true := by
 simp only [rightT, Bool.and_eq_true, decide_eq_true_eq]
 refine ⟨by decide, goR_cons.2 ⟨by show (-1 : Int) < (0 : Nat); omega, by show ((0 : Nat) : Int) < 2; omega, ?_, goR_cons.2 ⟨by show ((0 : Nat) : Int) < (1 : Nat); omega, by show ((1 : Nat) : Int) < 2; omega, ?_, rfl⟩⟩⟩
 · exact sgnD_ofQ_ne ha
 · exact sgnD_ofQ_ne hb
theorem rightA : rightS sysA = true := by
 simp only [rightS, rightW, sysA, List.all_cons, List.all_nil, rightT_two (a := 1) (b := 2) (by decide +kernel) (by decide +kernel), rightT_two (a := 3) (b := 1) (by decide +kernel) (by decide +kernel), okF_ofQ]
 decide
theorem goalA : rightT gA sysA.n = true := rightT_two (by decide +kernel) (by decide +kernel)
theorem checkA : checkD sysA gA oA = true := by
 have h1 : (lowerD sysA gA oA.y).2 = true := by
  refine lower_of rightA goalA rfl (by simp [okP, oA, okF_ofQ]) ?_
  simp only [lowB, sysA, gA, oA, List.zip_cons_cons, List.zip_nil_left, List.all_cons, List.all_nil, signOk, sgnD_ofQ, mixG, dotS, indI, qOf_ofQ, coefT]
  decide +kernel
 have h2 : holdsS sysA oA.x = true := by
  simp only [holdsS, rightA]
  simp [sysA, oA, okP, nonneg, okF_ofQ, sgnD_ofQ, holdsW, dotD, atP, qOf_ofQ]
  decide +kernel
 have h3 : valueD gA oA.x = (ofQ (Rat.divInt 14 5), true) := by
  rw [valueD_yes (by rw [show rightT gA (oA.x.length : Int) = true from goalA]; simp [okP, oA, okF_ofQ])]
  have : dotD gA oA.x = Rat.divInt 14 5 := by simp [gA, oA, dotD, atP, qOf_ofQ]; decide +kernel
  rw [this]
 have h4 : mixV sysA.r oA.y = Rat.divInt 14 5 := by simp only [sysA, oA, mixV, qOf_ofQ]; decide +kernel
 unfold checkD
 rw [rightA, goalA, h1, h2, h3, lowerD_val h1, h4]
 simp only [oA, sameF_self]
 rfl
def sysE : SysD := ⟨1, [⟨[tI 0 1], 0, ofQ (Rat.divInt 3 1)⟩, ⟨[tI 0 1], 1, ofQ (Rat.divInt 2 1)⟩]⟩
def yB : List FracD := [ofQ 1, ofQ (-1)]
theorem rightB : rightS sysE = true := by
 have h1 : rightT [tI 0 1] 1 = true := rightT_one (n := 1) (by decide +kernel) (by decide)
 simp only [rightS, rightW, sysE, List.all_cons, List.all_nil, h1, okF_ofQ]
 decide
theorem goalB : rightT [tI 0 1] sysE.n = true := rightT_one (n := 1) (by decide +kernel) (by decide)
theorem refutesB : refutesD sysE yB = true := by
 have h1 : (lowerD sysE [] yB).2 = true := by
  refine lower_of rightB (right_nilT rightB) rfl (by simp [okP, yB, okF_ofQ]) ?_
  simp only [lowB, sysE, yB, List.zip_cons_cons, List.zip_nil_left, List.all_cons, List.all_nil, signOk, sgnD_ofQ, mixG, dotS, indI, qOf_ofQ, coefT]
  decide +kernel
 have h4 : mixV sysE.r yB = 1 := by simp only [sysE, yB, mixV, qOf_ofQ]; decide +kernel
 unfold refutesD
 rw [h1, lowerD_val h1, h4, sgnD_ofQ]
 decide +kernel
theorem checkB : checkD sysE [tI 0 1] ⟨1, zF, [], yB, []⟩ = true := by
 unfold checkD
 rw [rightB, goalB, refutesB]
 rfl
def sysF : SysD := ⟨2, [⟨[tI 0 1, tI 1 (-1)], 1, ofQ (Rat.divInt 1 1)⟩]⟩
theorem rightC : rightS sysF = true := by
 simp only [rightS, rightW, sysF, List.all_cons, List.all_nil, rightT_two (a := 1) (b := -1) (by decide +kernel) (by decide +kernel), okF_ofQ]
 decide
theorem goalC : rightT [tI 0 (-1)] sysF.n = true := rightT_one (n := 2) (by decide +kernel) (by decide)
theorem checkC : checkD sysF [tI 0 (-1)] ⟨2, zF, [ofQ 0, ofQ 0], [], [ofQ 1, ofQ 1]⟩ = true := by
 have h2 : holdsS sysF [ofQ 0, ofQ 0] = true := by
  simp only [holdsS, rightC]
  simp [sysF, okP, nonneg, okF_ofQ, sgnD_ofQ, holdsW, dotD, atP, qOf_ofQ]
  decide +kernel
 have h3 : rayD sysF [tI 0 (-1)] [ofQ 1, ofQ 1] = true := by
  simp only [rayD, rightC, goalC]
  simp [sysF, okP, nonneg, okF_ofQ, sgnD_ofQ, dotD, atP, qOf_ofQ]
  decide +kernel
 unfold checkD
 rw [rightC, goalC, h2, h3]
 rfl
def sysZ : SysD := ⟨0, []⟩
theorem rightZ : rightS sysZ = true := rfl
theorem checkZ : checkD sysZ [] ⟨0, ofQ (Rat.divInt 0 1), [], [], []⟩ = true := by
 have h1 : (lowerD sysZ [] []).2 = true := rfl
 have h2 : holdsS sysZ [] = true := rfl
 have h3 : valueD [] [] = (ofQ (Rat.divInt 0 1), true) := by rw [valueD_yes rfl]; congr 1
 have h4 : mixV sysZ.r [] = Rat.divInt 0 1 := by decide +kernel
 unfold checkD
 simp only [rightZ, right_nilT rightZ, h1, h2, h3, lowerD_val h1, h4, sameF_self]
 rfl
set_option maxHeartbeats 16000000
theorem fitA (g : List TermD) (hg : g.length ≤ 16 ∧ ∀ t ∈ g, szF t.f ≤ 2) : Fit sysA g := by
 refine Fit.mk5 (by decide) (fun _ => by decide) (fun _ => .inl (by decide)) (fun w hw => ?_) hg
 simp only [sysA, List.mem_cons, List.not_mem_nil, or_false] at hw
 rcases hw with rfl | rfl
 · exact ⟨by decide, by decide +kernel, by decide +kernel⟩
 · exact ⟨by decide, by decide +kernel, by decide +kernel⟩
theorem fitE (g : List TermD) (hg : g.length ≤ 16 ∧ ∀ t ∈ g, szF t.f ≤ 2) : Fit sysE g := by
 refine Fit.mk5 (by decide) (fun _ => by decide) (fun _ => .inl (by decide)) (fun w hw => ?_) hg
 simp only [sysE, List.mem_cons, List.not_mem_nil, or_false] at hw
 rcases hw with rfl | rfl
 · exact ⟨by decide, by decide +kernel, by decide +kernel⟩
 · exact ⟨by decide, by decide +kernel, by decide +kernel⟩
theorem fitF (g : List TermD) (hg : g.length ≤ 16 ∧ ∀ t ∈ g, szF t.f ≤ 2) : Fit sysF g := by
 refine Fit.mk5 (by decide) (fun _ => by decide) (fun _ => .inl (by decide)) (fun w hw => ?_) hg
 simp only [sysF, List.mem_cons, List.not_mem_nil, or_false] at hw
 rcases hw with rfl
 exact ⟨by decide, by decide +kernel, by decide +kernel⟩
theorem fitZ (n : Int) (hn : n ≤ 6) (g : List TermD) (hg : g.length ≤ 16 ∧ ∀ t ∈ g, szF t.f ≤ 2) : Fit ⟨n, []⟩ g :=
 Fit.mk5 (Nat.zero_le _) (fun _ => by show n ≤ 16; omega) (fun _ => .inl hn) (fun w hw => (by cases hw)) hg
theorem solA : solD sysA = ((leastE sysA []).x, [], true) ∧ holdsS sysA (leastE sysA []).x = true := by
 have hc := least_check rightA (right_nilT rightA)
 have hx : holdsS sysA oA.x = true := by
  rcases check_cases checkA with ⟨_, _, h, _⟩ | ⟨h, _⟩ | ⟨h, _⟩
  · exact h
  · cases h
  · cases h
 rcases check_cases hc with ⟨a0, a1, a2, a3⟩ | ⟨a0, a1, _⟩ | ⟨a0, a1, a2, _⟩
 · refine ⟨?_, a2⟩
   unfold solD; rw [rightA, if_pos rfl, if_neg (by rw [a0]; decide)]
 · have := refutes_no (x := oA.x) a1; rw [hx] at this; cases this
 · refine ⟨?_, a1⟩
   unfold solD; rw [rightA, if_pos rfl, if_neg (by rw [a0]; decide)]
theorem solE : solD sysE = ([], (leastE sysE []).y, false) ∧ refutesD sysE (leastE sysE []).y = true := by
 have hc := least_check rightB (right_nilT rightB)
 rcases check_cases hc with ⟨a0, a1, a2, a3⟩ | ⟨a0, a1, _⟩ | ⟨a0, a1, a2, _⟩
 · have := refutes_no (x := (leastE sysE []).x) refutesB; rw [a2] at this; cases this
 · refine ⟨?_, a1⟩
   unfold solD; rw [rightB, if_pos rfl, if_pos a0]
 · have := refutes_no (x := (leastE sysE []).x) refutesB; rw [a1] at this; cases this
theorem sane10_c : Contract Tryz.prog 7 [] (dB true) := by
 have hres := Tryz.results7
 have nilg : ([] : List TermD).length ≤ 16 ∧ ∀ t ∈ ([] : List TermD), szF t.f ≤ 2 := ⟨by decide, fun t ht => by cases ht⟩
 have r1 := row10_c [1, 2] 0 4 (by decide) (by decide) (by decide)
 rw [show termsJ 0 [1, 2] = [tI 0 1, tI 1 2] from rfl] at r1
 have r2 := row10_c [3, 1] 0 6 (by decide) (by decide) (by decide)
 rw [show termsJ 0 [3, 1] = [tI 0 3, tI 1 1] from rfl] at r2
 have r3 := row10_c [1] 0 3 (by decide) (by decide) (by decide)
 have r4 := row10_c [1] 1 2 (by decide) (by decide) (by decide)
 rw [show termsJ 0 [1] = [tI 0 1] from rfl] at r3 r4
 have r5 := row10_c [1, -1] 1 1 (by decide) (by decide) (by decide)
 rw [show termsJ 0 [1, -1] = [tI 0 1, tI 1 (-1)] from rfl] at r5
 have t1 := terms10_c [1, 1] (by decide) (by decide)
 rw [show termsJ 0 [1, 1] = gA from rfl] at t1
 have t2 := terms10_c [1] (by decide) (by decide)
 rw [show termsJ 0 [1] = [tI 0 1] from rfl] at t2
 have t3 := terms10_c [-1] (by decide) (by decide)
 rw [show termsJ 0 [-1] = [tI 0 (-1)] from rfl] at t3
 have t4 := terms10_c [0, 1] (by decide) (by decide)
 rw [show termsJ 0 [0, 1] = [tI 1 1] from rfl] at t4
 have n1 := num10_c 14 5 (by decide) (by decide) (by decide) (by decide) (by decide)
 have n2 := num10_c 0 1 (by decide) (by decide) (by decide) (by decide) (by decide)
 have e1 := ends10_c sysA gA oA (fitA gA ⟨by decide, by decide +kernel⟩) checkA (by decide +kernel)
 have e2 := ends10_c sysE [tI 0 1] _ (fitE _ ⟨by decide, by decide +kernel⟩) checkB (by decide +kernel)
 have e3 := ends10_c sysF [tI 0 (-1)] _ (fitF _ ⟨by decide, by decide +kernel⟩) checkC (by decide +kernel)
 have e4 := ends10_c sysZ [] _ (fitZ 0 (by decide) _ nilg) checkZ (by decide +kernel)
 have l1 := least_c ⟨1, []⟩ [tI 1 1] (fitZ 1 (by decide) _ ⟨by decide, by decide +kernel⟩)
 rw [show leastD ⟨1, []⟩ [tI 1 1] = (⟨0, zF, [], [], []⟩, 1) by
  unfold leastD
  rw [show rightT [tI 1 1] 1 = false from rfl, Bool.and_false]; rfl] at l1
 have s1 := solution_c sysA (fitA [] nilg)
 rw [solA.1] at s1
 have s2 := solution_c sysE (fitE [] nilg)
 rw [solE.1] at s2
 have oxA := least_tn (fitA [] nilg) rightA (right_nilT rightA)
 have oyE := least_tn (fitE [] nilg) rightB (right_nilT rightB)
 have h1 := rholds_c sysA (leastE sysA []).x (fitA [] nilg).tn.sm oxA.2.1.sm
 rw [solA.2] at h1
 have h2 := refutes9_c sysE (leastE sysE []).y (fitE [] nilg).tn oyE.2.2.1
 rw [solE.2] at h2
 clear oxA oyE
 generalize (leastE sysA []).x = X at *
 generalize (leastE sysE []).y = Y at *
 refine inC Tryz.func7 rfl Tryz.ntmps7 ?_
 have b1 : ((1 : Int) == 1) = true := rfl
 exact aGo (cj2 hres b1) trivial
end Go.Proofs.YtpkdhmnlpnijhaaGreat
