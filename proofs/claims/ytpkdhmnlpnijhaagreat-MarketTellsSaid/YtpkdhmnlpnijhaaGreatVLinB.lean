/-
  What is small; the examples' helpers: of, term, holds, mixed.
-/
import Derived.Test.YtpkdhmnlpnijhaaGreatVLinA
import Derived.Test.YtpkdhmnlpnijhaaGreatVConv
namespace Go.Proofs.YtpkdhmnlpnijhaaGreat
set_option linter.unusedVariables false
set_option linter.unusedSimpArgs false
set_option linter.unusedSectionVars false
open Go Go.RowKit
set_option maxRecDepth 100000
set_option maxHeartbeats 2000000
def fewF (n : Int) (f : FracD) : Bool := decide ((f.p.d.length : Int) ≤ n) && decide ((f.q.d.length : Int) ≤ n)
def fewP (x : List FracD) (most n : Int) : Bool := decide ((x.length : Int) ≤ most) && x.all (fewF n)
theorem fewF_sz {n : Int} {f : FracD} (h : fewF n f = true) : (szF f : Int) ≤ n := by
 simp only [fewF, Bool.and_eq_true, decide_eq_true_eq] at h
 unfold szF; omega
theorem fewP_sz {x : List FracD} {most n : Int} (h : fewP x most n = true) : (x.length : Int) ≤ most ∧ ∀ f ∈ x, (szF f : Int) ≤ n := by
 simp only [fewP, Bool.and_eq_true, decide_eq_true_eq] at h
 exact ⟨h.1, fun t ht => fewF_sz (List.all_eq_true.1 h.2 t ht)⟩
theorem fewP_c (x : List FracD) (most n : Int) (hm : 0 ≤ most ∧ most ≤ 4096) : ContractN Tryz.prog 83 [encFs x, dI most, dI n] (dB (fewP x most n)) := by
 refine Contract.toN ?_ rfl
 refine inC Tryz.func83 rfl Tryz.ntmps83 ?_
 have hres := Tryz.results83
 refine aGo hres ?_
 repeat with_reducible intro K hK
 refine aLoopT (fun (k : Nat) => [(0, encFs x), (1, dI most), (2, dI n), (7, dI k)]) (fun _ => []) 0 0 (fun k => k ≤ x.length ∧ (k : Int) ≤ most + 1 ∧ (x.take k).all (fewF n) = true) (fun k => x.length - k) 0 ⟨by omega, by omega, rfl⟩ ?_ ?_
 · exact leGo trivial
 · rintro k ⟨hk, hk2, hg⟩
   obtain ⟨hw, h0⟩ := wrap2 k
   by_cases h1 : (k : Int) < x.length
   · by_cases h2 : (k : Int) ≤ most
     · obtain ⟨f, hx⟩ := getE (l := x) (k := k) (by omega)
       have hc := (rfew_c f n).toN rfl
       have hd : (decide ((f.p.d.length : Int) ≤ n) && decide ((f.q.d.length : Int) ≤ n)) = fewF n f := rfl
       rw [hd] at hc
       cases h3 : fewF n f
       · rw [h3] at hc
         refine aGo (cj4 hres h0 h1 (cj3 h2 hx hw)) ?_
         repeat with_reducible intro K hK
         exact bool_eq (by simp only [fewP, all_not hx h3, Bool.and_false])
       · rw [h3] at hc
         refine aGo (cj4 hres h0 h1 (cj3 h2 hx hw)) ?_
         repeat with_reducible intro K hK
         exact loop_end (k + 1) ⟨by omega, by omega, all_take_succ hx hg h3⟩ (by omega) (by exact leGo trivial)
     · have h3 : ¬ (x.length : Int) ≤ most := by omega
       refine aGo (cj4 hres h1 h2 h3) ?_
       repeat with_reducible intro K hK
       exact bool_eq (by simp [fewP, h3])
   · rw [List.take_of_length_le (by omega)] at hg
     refine aGo (cj2 hres h1) ?_
     repeat with_reducible intro K hK
     exact bool_eq (by simp only [fewP, hg, Bool.and_true])
abbrev q1 (n : Int) : Rat := Rat.divInt n 1
set_option maxHeartbeats 4000000
abbrev fq (n : Int) : FracD := ofQ (q1 n)
set_option maxHeartbeats 8000000
theorem fewP_nat {l : List FracD} {most n : Int} (N : Nat) (hN : n ≤ N) (h : fewP l most n = true) : ∀ t ∈ l, szF t ≤ N := fun t ht => by have := (fewP_sz h).2 t ht; omega
theorem fewF_nat {f : FracD} {n : Int} (N : Nat) (hN : n ≤ N) (h : fewF n f = true) : szF f ≤ N := by have := fewF_sz h; omega
theorem sameF_self (f : FracD) : sameF f f = true := by cases f; simp [sameF, sameB_iff]
theorem sameF_iff {f g : FracD} : sameF f g = true ↔ f = g := by
 cases f; cases g
 simp [sameF, sameB_iff]
def dotS (g : Int → Rat) : List TermD → Rat
 | [] => 0
 | t :: l => qOf t.f * g t.v + dotS g l
theorem dotS_append (g : Int → Rat) : ∀ l m : List TermD, dotS g (l ++ m) = dotS g l + dotS g m
 | [], m => by simp [dotS]; grind
 | t :: l, m => by simp only [List.cons_append, dotS, dotS_append g l m]; grind
theorem foldl_dot (g : Int → Rat) : ∀ (l : List TermD) (z : Rat), l.foldl (fun a t => a + qOf t.f * g t.v) z = z + dotS g l
 | [], z => by simp only [List.foldl_nil, dotS]; grind
 | t :: l, z => by simp only [List.foldl_cons, dotS]; rw [foldl_dot g l]; grind
theorem dotD_eq (l : List TermD) (x : List FracD) : dotD l x = dotS (atP x) l := by
 unfold dotD; rw [foldl_dot]; grind
theorem goR_cons {n last : Int} {t : TermD} {l : List TermD} : goR n last (t :: l) = true ↔ last < t.v ∧ t.v < n ∧ sgnD t.f ≠ 0 ∧ goR n t.v l = true := by
 simp [goR, and_assoc]
theorem sgnD_ne {f : FracD} (h : sgnD f ≠ 0) : okF f = true ∧ qOf f ≠ 0 := by
 cases ho : okF f
 · exact absurd (sgnD_no ho) h
 · refine ⟨rfl, fun h0 => h ?_⟩
   simp [sgnD, ho, h0, sgQ]
theorem sgnD_ofQ_ne {q : Rat} (h : q ≠ 0) : sgnD (ofQ q) ≠ 0 := by rw [sgnD_ofQ]; exact fun h0 => h (sgQ_zero.1 h0)
def indI (v u : Int) : Rat := if u = v then 1 else 0
theorem dot_above {n : Int} {v : Int} : ∀ (l : List TermD) (last : Int), v ≤ last → goR n last l = true → dotS (indI v) l = 0
 | [], _, _, _ => rfl
 | t :: l, last, h, k => by
   have k' := goR_cons.1 k
   have ih := dot_above (n := n) (v := v) l t.v (by omega) k'.2.2.2
   simp only [dotS, ih]
   rw [show indI v t.v = 0 from if_neg (by omega)]; grind
theorem dot_head {n : Int} {last : Int} {t : TermD} {l : List TermD} (k : goR n last (t :: l) = true) : dotS (indI t.v) (t :: l) = qOf t.f := by
 have k' := goR_cons.1 k
 simp only [dotS, dot_above l t.v (Int.le_refl _) k'.2.2.2, indI, if_true]; grind
theorem goR_ext {n m : Int} : ∀ (a b : List TermD) (la lb : Int), goR n la a = true → goR m lb b = true → (∀ g, dotS g a = dotS g b) → a = b
 | [], [], _, _, _, _, _ => rfl
 | [], y :: b, _, lb, _, hb, h => by
   have := h (indI y.v)
   rw [dot_head hb] at this
   exact absurd this.symm (sgnD_ne (goR_cons.1 hb).2.2.1).2
 | x :: a, [], la, _, ha, _, h => by
   have := h (indI x.v)
   rw [dot_head ha] at this
   exact absurd this (sgnD_ne (goR_cons.1 ha).2.2.1).2
 | x :: a, y :: b, la, lb, ha, hb, h => by
   have ha' := goR_cons.1 ha
   have hb' := goR_cons.1 hb
   have fx := sgnD_ne ha'.2.2.1
   have fy := sgnD_ne hb'.2.2.1
   rcases Int.lt_trichotomy x.v y.v with hv | hv | hv
   · have := h (indI x.v)
     rw [dot_head ha, dot_above (n := m) (y :: b) x.v (Int.le_refl _) (goR_cons.2 ⟨hv, hb'.2⟩)] at this
     exact absurd this fx.2
   · have hq := h (indI x.v)
     rw [dot_head ha, hv, dot_head hb] at hq
     have he : x = y := by
      cases x with | mk u f => cases y with | mk w g =>
      dsimp only at hv hq fx fy
      rw [okF_eq fx.1, okF_eq fy.1, hq, hv]
     subst he
     congr 1
     refine goR_ext a b x.v x.v ha'.2.2.2 hb'.2.2.2 fun g => ?_
     have := h g
     simp only [dotS] at this
     grind
   · have := h (indI y.v)
     rw [dot_head hb, dot_above (n := n) (x :: a) y.v (Int.le_refl _) (goR_cons.2 ⟨hv, ha'.2⟩)] at this
     exact absurd this.symm fy.2
theorem rightT_ext {n m : Int} {a b : List TermD} (ha : rightT a n = true) (hb : rightT b m = true) (h : ∀ g, dotS g a = dotS g b) : a = b := by
 simp only [rightT, Bool.and_eq_true] at ha hb
 exact goR_ext a b _ _ ha.2 hb.2 h
theorem valueD_yes {l : List TermD} {x : List FracD} (h : (rightT l x.length && okP x) = true) : valueD l x = (ofQ (dotD l x), true) := by unfold valueD; rw [h]; rfl
set_option maxHeartbeats 16000000
theorem dotS_lin (p q : Rat) (g h : Int → Rat) : ∀ l : List TermD, dotS (fun v => p * g v + q * h v) l = p * dotS g l + q * dotS h l
 | [] => by simp only [dotS]; grind
 | t :: l => by simp only [dotS, dotS_lin p q g h l]; grind
theorem fitsK_iff {k : Int} {d : Rat} (h0 : 0 ≤ k) (h3 : k < 3) : fitsK k (sgQ d) = true ↔ (k = 0 → 0 ≤ d) ∧ (k = 1 → d ≤ 0) ∧ (k = 2 → d = 0) := by
 have hk : k = 0 ∨ k = 1 ∨ k = 2 := by omega
 rcases sgQ_cases d with ⟨h, e⟩ | ⟨h, e⟩ | ⟨h, e⟩ <;> rw [e] <;> rcases hk with rfl | rfl | rfl <;> simp [fitsK] <;> grind
theorem sgnD_nonneg {f : FracD} (h : okF f = true) : 0 ≤ sgnD f ↔ 0 ≤ qOf f := by
 have e : sgnD f = sgQ (qOf f) := by simp [sgnD, h]
 rw [e]
 rcases sgQ_cases (qOf f) with ⟨h, g⟩ | ⟨h, g⟩ | ⟨h, g⟩ <;> rw [g] <;> constructor <;> intro h1 <;> grind
end Go.Proofs.YtpkdhmnlpnijhaaGreat
