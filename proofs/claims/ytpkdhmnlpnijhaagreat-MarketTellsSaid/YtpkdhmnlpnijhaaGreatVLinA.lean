/-
  Terms, rows, systems and points, as data; RightTerms of linear and of the reference.
-/
import Derived.Test.YtpkdhmnlpnijhaaGreatVRefB
import Derived.Test.YtpkdhmnlpnijhaaGreatVNf
namespace Go.Proofs.YtpkdhmnlpnijhaaGreat
set_option linter.unusedVariables false
set_option linter.unusedSimpArgs false
set_option linter.unusedSectionVars false
open Go Go.RowKit
set_option maxRecDepth 100000
set_option maxHeartbeats 2000000
theorem at_region {P : Program} {n : Nat} {Q : Exit → St → Prop} {s : St} {l : Array Oper} {b : Bool} (id : Nat) (h : AWP P n (.region id l b) Q s) : AWP P n (.region id l b) Q s := h
structure TermD where
 v : Int
 f : FracD
structure RowD where
 t : List TermD
 k : Int
 v : FracD
structure SysD where
 n : Int
 r : List RowD
abbrev cT (t : TermD) : List D := [dI t.v, dI t.f.p.s, encInts t.f.p.d, dI t.f.q.s, encInts t.f.q.d]
abbrev encTs (l : List TermD) : D := .sl (l.map cT)
abbrev encFs (l : List FracD) : D := .sl (l.map cF)
abbrev cW (w : RowD) : List D := [encTs w.t, dI w.k, dI w.v.p.s, encInts w.v.p.d, dI w.v.q.s, encInts w.v.q.d]
abbrev encW (w : RowD) : D := .agg (cW w)
abbrev encWs (l : List RowD) : D := .sl (l.map cW)
abbrev cS (s : SysD) : List D := [dI s.n, encWs s.r]
abbrev encS (s : SysD) : D := .agg (cS s)
def smF (f : FracD) : Prop := (szF f : Int) ≤ 4194304
def smT (l : List TermD) : Prop := (l.length : Int) ≤ 4096 ∧ ∀ t ∈ l, smF t.f
def smFs (l : List FracD) : Prop := (l.length : Int) ≤ 4096 ∧ ∀ f ∈ l, smF f
def smW (w : RowD) : Prop := smT w.t ∧ smF w.v
def smS (s : SysD) : Prop := (s.r.length : Int) ≤ 4096 ∧ ∀ w ∈ s.r, smW w
theorem smT_len {l : List TermD} (h : smT l) : (l.length : Int) ≤ 4096 := h.1
theorem smFs_len {l : List FracD} (h : smFs l) : (l.length : Int) ≤ 4096 := h.1
theorem smS_len {s : SysD} (h : smS s) : (s.r.length : Int) ≤ 4096 := h.1
def goR (n : Int) : Int → List TermD → Bool
 | _, [] => true
 | last, t :: l => decide (last < t.v) && decide (t.v < n) && (sgnD t.f != 0) && goR n t.v l
def rightT (l : List TermD) (n : Int) : Bool := decide (0 ≤ n) && goR n (-1) l
def lastV (l : List TermD) (k : Nat) : Int := match k with
 | 0 => -1
 | k + 1 => match l[k]? with
   | some t => t.v
   | none => -1
theorem lastV_succ {l : List TermD} {k : Nat} {t : TermD} (h : l[k]? = some t) : lastV l (k + 1) = t.v := by simp [lastV, h]
theorem goR_split {n : Int} : ∀ (l m : List TermD) (last : Int), goR n last (l ++ m) = (goR n last l && goR n ((l.getLast?.map (·.v)).getD last) m)
 | [], m, last => by simp [goR]
 | t :: l, m, last => by
   rw [List.cons_append, goR, goR, goR_split l m t.v]
   have : ((t :: l).getLast?.map (·.v)).getD last = (l.getLast?.map (·.v)).getD t.v := by
    cases l with
    | nil => rfl
    | cons u l => rw [List.getLast?_cons_cons]; rw [List.getLast?_eq_some_getLast (by simp : (u :: l) ≠ [])]; rfl
   rw [this]
   simp only [Bool.and_assoc]
theorem lastV_take {l : List TermD} {k : Nat} (hk : k ≤ l.length) : ((l.take k).getLast?.map (·.v)).getD (-1) = lastV l k := by
 cases k with
 | zero => rfl
 | succ k =>
   obtain ⟨t, hx⟩ := getE (l := l) (k := k) (by omega)
   rw [lastV_succ hx, List.take_add_one, hx]
   simp
theorem goR_step {n : Int} {l : List TermD} {k : Nat} {t : TermD} (hx : l[k]? = some t) : goR n (-1) (l.take (k + 1)) = (goR n (-1) (l.take k) && (decide (lastV l k < t.v) && decide (t.v < n) && (sgnD t.f != 0))) := by
 have hk : k < l.length := (List.getElem?_eq_some_iff.1 hx).1
 rw [List.take_add_one, hx, Option.toList_some, goR_split, lastV_take (Nat.le_of_lt hk)]
 simp [goR]
theorem goR_stop {n : Int} {l : List TermD} {k : Nat} (h : goR n (-1) (l.take k) = false) : goR n (-1) l = false := by
 have := goR_split (n := n) (l.take k) (l.drop k) (-1)
 rw [List.take_append_drop, h] at this
 simpa using this
theorem mem_at {α : Type} {l : List α} {k : Nat} {x : α} (h : l[k]? = some x) : x ∈ l := List.mem_of_getElem? h
theorem smF_i {f : FracD} (h : smF f) : (szF f : Int) ≤ 549755813888 := by unfold smF at h; omega
theorem smF_j {f : FracD} (h : smF f) : (szF f : Int) ≤ 68719476736 := by unfold smF at h; omega
theorem lright_c (l : List TermD) (n : Int) (hs : smT l) : ContractN Tryz.prog 61 [encTs l, dI n] (dB (rightT l n)) := by
 refine Contract.toN ?_ rfl
 refine inC Tryz.func61 rfl Tryz.ntmps61 ?_
 have hres := Tryz.results61
 have hl := smT_len hs
 by_cases hn : n < 0
 · refine aGo (cj2 hres hn) ?_
   repeat with_reducible intro K hK
   exact bool_eq (by simp [rightT]; omega)
 refine aGo (cj2 hres hn) ?_
 repeat with_reducible intro K hK
 refine aLoopT (fun (k : Nat) => [(0, encTs l), (1, dI n), (5, dI (lastV l k)), (10, encTs l), (11, dI l.length), (12, dI k)]) (fun _ => []) 0 0 (fun k => k ≤ l.length ∧ goR n (-1) (l.take k) = true) (fun k => l.length - k) 0 ⟨by omega, rfl⟩ ?_ ?_
 · refine le_head _ _ _ ?_ ?_ ?_ ?_ ?_ (.inl rfl) <;> simp [go_sem, okD, okDs, okBlk, lastV] <;> (first | (intros; subst_vars; simp [okD, okDs]; done) | (intro _ h; rcases h with ⟨_, _, rfl⟩ | rfl <;> simp [okD, okDs]; done) | (intros; rename_i h; rcases h with ⟨_, _, rfl⟩ | rfl <;> simp [okD, okDs]))
 · rintro k ⟨hk, hg⟩
   obtain ⟨hw, h0⟩ := wrap2 k
   by_cases h1 : (k : Int) < l.length
   · obtain ⟨t, hx⟩ := getE (l := l) (k := k) (by omega)
     have hc := fsign_c t.f (smF_i (hs.2 t (mem_at hx)))
     have hstep := goR_step (n := n) hx
     rw [hg, Bool.true_and] at hstep
     have hla := lastV_succ hx
     by_cases h2 : t.v ≤ lastV l k
     · refine aGo (cj4 hres h0 h1 (cj2 hx h2)) ?_
       repeat with_reducible intro K hK
       refine bool_eq (Eq.symm ?_)
       have : goR n (-1) (l.take (k + 1)) = false := by rw [hstep]; simp; omega
       simp [rightT, goR_stop this]
     by_cases h3 : t.v ≥ n
     · refine aGo (cj4 hres h0 h1 (cj3 hx h2 h3)) ?_
       repeat with_reducible intro K hK
       refine bool_eq (Eq.symm ?_)
       have : goR n (-1) (l.take (k + 1)) = false := by rw [hstep]; simp; omega
       simp [rightT, goR_stop this]
     cases h4 : sgnD t.f == 0
     · refine aGo (cj4 hres h0 h1 (cj4 hx h2 h3 (cj2 h4 hw))) ?_
       repeat with_reducible intro K hK
       refine loop_end (k + 1) ⟨by omega, ?_⟩ (by omega) (by exact leGo hla)
       rw [hstep]
       simp at h4
       simp [h4]; omega
     · refine aGo (cj4 hres h0 h1 (cj4 hx h2 h3 (cj2 h4 hw))) ?_
       repeat with_reducible intro K hK
       refine bool_eq (Eq.symm ?_)
       have : goR n (-1) (l.take (k + 1)) = false := by rw [hstep]; simp at h4; simp [h4]
       simp [rightT, goR_stop this]
   · refine aGo (cj2 hres h1) ?_
     repeat with_reducible intro K hK
     rw [List.take_of_length_le (by omega)] at hg
     exact bool_eq (by simp [rightT, hg]; omega)
theorem sgnD_ps {f : FracD} (h : okF f = true) : sgnD f = f.p.s := by
 obtain ⟨r, rfl⟩ := okF_iff.1 h
 rw [sgnD_ofQ]; rfl
theorem sgnD_no {f : FracD} (h : okF f = false) : sgnD f = 0 := by simp [sgnD, h]
theorem goR_ge {n : Int} {l : List TermD} : ∀ k, k ≤ l.length → goR n (-1) (l.take k) = true → -1 ≤ lastV l k := by
 intro k
 induction k with
 | zero => intro _ _; exact Int.le_refl _
 | succ k ih =>
   intro hk h
   obtain ⟨t, hx⟩ := getE (l := l) (k := k) (by omega)
   rw [goR_step hx] at h
   simp only [Bool.and_eq_true, decide_eq_true_eq] at h
   have := ih (by omega) h.1
   rw [lastV_succ hx]
   omega
theorem rrightT_c (l : List TermD) (n : Int) (hs : smT l) : ContractN Tryz.prog 70 [encTs l, dI n] (dB (rightT l n)) := by
 refine Contract.toN ?_ rfl
 refine inC Tryz.func70 rfl Tryz.ntmps70 ?_
 have hres := Tryz.results70
 have hl := smT_len hs
 by_cases hn : n < 0
 · refine aGo (cj2 hres hn) ?_
   repeat with_reducible intro K hK
   exact bool_eq (by simp [rightT]; omega)
 refine aGo (cj2 hres hn) ?_
 repeat with_reducible intro K hK
 refine aLoopT (fun (k : Nat) => [(0, encTs l), (1, dI n), (5, dI k)]) (fun _ => []) 0 0 (fun k => k ≤ l.length ∧ goR n (-1) (l.take k) = true) (fun k => l.length - k) 0 ⟨by omega, rfl⟩ ?_ ?_
 · exact leGo trivial
 · rintro k ⟨hk, hg⟩
   obtain ⟨hw, h0⟩ := wrap2 k
   by_cases h1 : (k : Int) < l.length
   · obtain ⟨t, hx⟩ := getE (l := l) (k := k) (by omega)
     have hc := (rrightF_c t.f (smF_i (hs.2 t (mem_at hx)))).toN rfl
     have hstep := goR_step (n := n) hx
     rw [hg, Bool.true_and] at hstep
     have hge := goR_ge k hk hg
     by_cases h2 : t.v < 0
     · refine aGo (cj4 hres h0 h1 (cj2 hx h2)) ?_
       repeat with_reducible intro K hK
       refine bool_eq (Eq.symm ?_)
       have : goR n (-1) (l.take (k + 1)) = false := by rw [hstep]; simp; omega
       simp [rightT, goR_stop this]
     by_cases h3 : t.v ≥ n
     · refine aGo (cj4 hres h0 h1 (cj3 hx h2 h3)) ?_
       repeat with_reducible intro K hK
       refine bool_eq (Eq.symm ?_)
       have : goR n (-1) (l.take (k + 1)) = false := by rw [hstep]; simp; omega
       simp [rightT, goR_stop this]
     cases h4 : okF t.f
     · rw [h4] at hc
       refine aGo (cj4 hres h0 h1 (cj3 hx h2 h3)) ?_
       repeat with_reducible intro K hK
       refine bool_eq (Eq.symm ?_)
       have : goR n (-1) (l.take (k + 1)) = false := by rw [hstep]; simp [sgnD_no h4]
       simp [rightT, goR_stop this]
     rw [h4] at hc
     have hps := sgnD_ps h4
     cases h5 : t.f.p.s == 0
     rotate_left
     · refine aGo (cj4 hres h0 h1 (cj4 hx h2 h3 h5)) ?_
       repeat with_reducible intro K hK
       refine bool_eq (Eq.symm ?_)
       have : goR n (-1) (l.take (k + 1)) = false := by rw [hstep, hps]; simp at h5; simp [h5]
       simp [rightT, goR_stop this]
     have h5' : (sgnD t.f != 0) = true := by rw [hps]; simp at h5; simp [h5]
     by_cases h6 : (k : Int) > 0
     · obtain ⟨j, rfl⟩ : ∃ j, k = j + 1 := ⟨k - 1, by omega⟩
       obtain ⟨u, hy⟩ := getE (l := l) (k := j) (by omega)
       have hj : IntKind.i64.wrap (((j + 1 : Nat) : Int) - 1) = (j : Int) := by rw [wrap_in (by omega) (by omega)]; omega
       have hj0 : (0 : Int) ≤ j := by omega
       have hj1 : ¬ (0 : Int) > j := by omega
       have hj2 : (j : Int) < l.length := by omega
       rw [lastV_succ hy] at hstep
       by_cases h7 : t.v ≤ u.v
       · refine aGo (cj4 hres h0 h1 (cj4 hx hy h2 (cj4 h3 h5 h6 (cj4 h7 hj hj0 (cj2 hj1 hj2))))) ?_
         repeat with_reducible intro K hK
         refine bool_eq (Eq.symm ?_)
         have : goR n (-1) (l.take (j + 1 + 1)) = false := by rw [hstep]; simp; omega
         simp [rightT, goR_stop this]
       · refine aGo (cj4 hres h0 h1 (cj4 hx hy h2 (cj4 h3 h5 h6 (cj4 h7 hj hj0 (cj3 hj1 hj2 hw))))) ?_
         repeat with_reducible intro K hK
         refine loop_end (j + 1 + 1) ⟨by omega, ?_⟩ (by omega) (by exact leGo trivial)
         rw [hstep, h5']
         simp; omega
     · have hk0 : k = 0 := by omega
       refine aGo (cj4 hres h0 h1 (cj4 hx h2 h3 (cj3 h5 h6 hw))) ?_
       repeat with_reducible intro K hK
       refine loop_end (k + 1) ⟨by omega, ?_⟩ (by omega) (by exact leGo trivial)
       rw [hstep, h5', show lastV l k = -1 by rw [hk0]; rfl]
       simp; omega
   · refine aGo (cj2 hres h1) ?_
     repeat with_reducible intro K hK
     rw [List.take_of_length_le (by omega)] at hg
     exact bool_eq (by simp [rightT, hg]; omega)
def rightW (n : Int) (w : RowD) : Bool := rightT w.t n && decide (0 ≤ w.k) && decide (w.k < 3) && okF w.v
def rightS (s : SysD) : Bool := decide (0 ≤ s.n) && decide (s.n ≤ 1500) && decide ((s.r.length : Int) ≤ 6000) && s.r.all (rightW s.n)
theorem all_take_succ {α : Type} {p : α → Bool} {l : List α} {k : Nat} {x : α} (hx : l[k]? = some x) (h : (l.take k).all p = true) (hp : p x = true) : (l.take (k + 1)).all p = true := by
 rw [List.take_add_one, hx]; simp [List.all_append, h, hp]
theorem all_not {α : Type} {p : α → Bool} {l : List α} {k : Nat} {x : α} (hx : l[k]? = some x) (hp : p x = false) : l.all p = false := by
 rw [List.all_eq_false]
 exact ⟨x, List.mem_of_getElem? hx, by simp [hp]⟩
theorem rrightW_c (w : RowD) (n : Int) (hs : smW w) : ContractN Tryz.prog 140 [encW w, dI n] (dB (rightW n w)) := by
 refine Contract.toN ?_ rfl
 have hres := Tryz.results140
 have k1 := rrightT_c w.t n hs.1
 have k2 := (rrightF_c w.v (smF_i hs.2)).toN rfl
 refine inC Tryz.func140 rfl Tryz.ntmps140 ?_
 cases h1 : rightT w.t n
 · rw [h1] at k1
   refine aGo hres ?_
   repeat with_reducible intro K hK
   exact bool_eq (by simp [rightW, h1])
 rw [h1] at k1
 by_cases h2 : w.k ≥ 0
 rotate_left
 · refine aGo (cj2 hres h2) ?_
   repeat with_reducible intro K hK
   exact bool_eq (by simp [rightW, h2])
 by_cases h3 : w.k < 3
 rotate_left
 · refine aGo (cj3 hres h2 h3) ?_
   repeat with_reducible intro K hK
   exact bool_eq (by simp [rightW, h3])
 refine aGo (cj3 hres h2 h3) ?_
 repeat with_reducible intro K hK
 exact bool_eq (by simp [rightW, h1, h3]; omega)
theorem rrightS_c (s : SysD) (hs : smS s) : ContractN Tryz.prog 69 [encS s] (dB (rightS s)) := by
 refine Contract.toN ?_ rfl
 have hres := Tryz.results69
 have hl := smS_len hs
 refine inC Tryz.func69 rfl Tryz.ntmps69 ?_
 by_cases h1 : s.n < 0
 · refine aGo (cj2 hres h1) ?_
   repeat with_reducible intro K hK
   exact bool_eq (by simp [rightS]; omega)
 by_cases h2 : s.n > 1500
 · refine aGo (cj3 hres h1 h2) ?_
   repeat with_reducible intro K hK
   exact bool_eq (by simp [rightS]; omega)
 by_cases h3 : (s.r.length : Int) > 6000
 · refine aGo (cj4 hres h1 h2 h3) ?_
   repeat with_reducible intro K hK
   exact bool_eq (by simp [rightS]; omega)
 refine aGo (cj4 hres h1 h2 h3) ?_
 repeat with_reducible intro K hK
 refine aLoopT (fun (k : Nat) => [(1, .lp 0 0 0 0), (3, dI k)]) (fun _ => [(0, ⟨24, 0, 2, [cS s], 0, false⟩)]) 1 0 (fun k => k ≤ s.r.length ∧ (s.r.take k).all (rightW s.n) = true) (fun k => s.r.length - k) 0 ⟨by omega, rfl⟩ ?_ ?_
 · exact leGo trivial
 · rintro k ⟨hk, hg⟩
   obtain ⟨hw, h0⟩ := wrap2 k
   by_cases h4 : (k : Int) < s.r.length
   · obtain ⟨w, hx⟩ := getE (l := s.r) (k := k) (by omega)
     have hc := rrightW_c w s.n (hs.2 w (mem_at hx))
     cases h5 : rightW s.n w
     · rw [h5] at hc
       refine aGo (cj4 hres h0 h4 (cj2 hx hw)) ?_
       repeat with_reducible intro K hK
       exact bool_eq (by simp [rightS, all_not hx h5])
     · rw [h5] at hc
       refine aGo (cj4 hres h0 h4 (cj2 hx hw)) ?_
       repeat with_reducible intro K hK
       exact loop_end (k + 1) ⟨by omega, all_take_succ hx hg h5⟩ (by omega) (by exact leGo trivial)
   · refine aGo (cj2 hres h4) ?_
     repeat with_reducible intro K hK
     rw [List.take_of_length_le (by omega)] at hg
     exact bool_eq (by simp [rightS, hg]; omega)
theorem lrightS_c (s : SysD) (hs : smS s) : ContractN Tryz.prog 60 [encS s] (dB (rightS s)) := by
 refine Contract.toN ?_ rfl
 have hres := Tryz.results60
 have hl := smS_len hs
 refine inC Tryz.func60 rfl Tryz.ntmps60 ?_
 by_cases h1 : s.n < 0
 · refine aGo (cj2 hres h1) ?_
   repeat with_reducible intro K hK
   exact bool_eq (by simp [rightS]; omega)
 by_cases h2 : s.n > 1500
 · refine aGo (cj3 hres h1 h2) ?_
   repeat with_reducible intro K hK
   exact bool_eq (by simp [rightS]; omega)
 by_cases h3 : (s.r.length : Int) > 6000
 · refine aGo (cj4 hres h1 h2 h3) ?_
   repeat with_reducible intro K hK
   exact bool_eq (by simp [rightS]; omega)
 refine aGo (cj4 hres h1 h2 h3) ?_
 repeat with_reducible intro K hK
 refine aLoopT (fun (k : Nat) => [(1, .lp 0 0 0 0), (20, encWs s.r), (21, dI s.r.length), (22, dI k)]) (fun _ => [(0, ⟨24, 0, 2, [cS s], 0, false⟩)]) 1 0 (fun k => k ≤ s.r.length ∧ (s.r.take k).all (rightW s.n) = true) (fun k => s.r.length - k) 0 ⟨by omega, rfl⟩ ?_ ?_
 · exact leGo trivial
 · rintro k ⟨hk, hg⟩
   obtain ⟨hw, h0⟩ := wrap2 k
   by_cases h4 : (k : Int) < s.r.length
   · obtain ⟨w, hx⟩ := getE (l := s.r) (k := k) (by omega)
     have sm := hs.2 w (mem_at hx)
     have k1 := lright_c w.t s.n sm.1
     have k2 := fright_c w.v (smF_i sm.2)
     have bad : rightW s.n w = false → D.v (.bool false) = dB (rightS s) := fun h => bool_eq (by simp [rightS, all_not hx h])
     cases h5 : rightT w.t s.n
     · rw [h5] at k1
       refine aGo (cj4 hres h0 h4 (cj2 hx hw)) ?_
       repeat with_reducible intro K hK
       exact bad (by simp [rightW, h5])
     rw [h5] at k1
     by_cases h6 : w.k < 0
     · refine aGo (cj4 hres h0 h4 (cj3 hx hw h6)) ?_
       repeat with_reducible intro K hK
       exact bad (by simp [rightW]; omega)
     by_cases h7 : w.k ≥ 3
     · refine aGo (cj4 hres h0 h4 (cj4 hx hw h6 h7)) ?_
       repeat with_reducible intro K hK
       exact bad (by simp [rightW]; omega)
     cases h8 : okF w.v
     · rw [h8] at k2
       refine aGo (cj4 hres h0 h4 (cj4 hx hw h6 h7)) ?_
       repeat with_reducible intro K hK
       exact bad (by simp [rightW, h8])
     rw [h8] at k2
     refine aGo (cj4 hres h0 h4 (cj4 hx hw h6 h7)) ?_
     repeat with_reducible intro K hK
     exact loop_end (k + 1) ⟨by omega, all_take_succ hx hg (by simp [rightW, h5, h8]; omega)⟩ (by omega) (by exact leGo trivial)
   · refine aGo (cj2 hres h4) ?_
     repeat with_reducible intro K hK
     rw [List.take_of_length_le (by omega)] at hg
     exact bool_eq (by simp [rightS, hg]; omega)
def okP (x : List FracD) : Bool := x.all okF
theorem rpoint_c (x : List FracD) (hs : smFs x) : ContractN Tryz.prog 113 [encFs x] (dB (okP x)) := by
 refine Contract.toN ?_ rfl
 have hres := Tryz.results113
 have hl := smFs_len hs
 refine inC Tryz.func113 rfl Tryz.ntmps113 ?_
 refine aGo hres ?_
 repeat with_reducible intro K hK
 refine aLoopT (fun (k : Nat) => [(0, encFs x), (3, dI k)]) (fun _ => []) 0 0 (fun k => k ≤ x.length ∧ (x.take k).all okF = true) (fun k => x.length - k) 0 ⟨by omega, rfl⟩ ?_ ?_
 · exact leGo trivial
 · rintro k ⟨hk, hg⟩
   obtain ⟨hw, h0⟩ := wrap2 k
   by_cases h4 : (k : Int) < x.length
   · obtain ⟨f, hx⟩ := getE (l := x) (k := k) (by omega)
     have hc := (rrightF_c f (smF_i (hs.2 f (mem_at hx)))).toN rfl
     cases h5 : okF f
     · rw [h5] at hc
       refine aGo (cj4 hres h0 h4 (cj2 hx hw)) ?_
       repeat with_reducible intro K hK
       exact bool_eq (by simp only [okP, all_not hx h5])
     · rw [h5] at hc
       refine aGo (cj4 hres h0 h4 (cj2 hx hw)) ?_
       repeat with_reducible intro K hK
       exact loop_end (k + 1) ⟨by omega, all_take_succ hx hg h5⟩ (by omega) (by exact leGo trivial)
   · refine aGo (cj2 hres h4) ?_
     repeat with_reducible intro K hK
     rw [List.take_of_length_le (by omega)] at hg
     exact bool_eq (by simp only [okP, hg])
theorem any_take_no {α : Type} {p : α → Bool} {l : List α} {k : Nat} {x : α} (hx : l[k]? = some x) (h : (l.take k).all p = true) (hp : p x = false) : l.findIdx (fun y => !p y) = k := by
 obtain ⟨hk, rfl⟩ := List.getElem?_eq_some_iff.1 hx
 refine (List.findIdx_eq hk).2 ⟨by simp [hp], fun j hj => ?_⟩
 rw [List.all_eq_true] at h
 simp [h l[j] (List.mem_take_iff_getElem.2 ⟨j, by omega, rfl⟩)]
def wrongI (x : List FracD) : Int := if okP x then -1 else x.findIdx (fun y => !okF y)
theorem wrongI_ge (x : List FracD) : decide (wrongI x ≥ 0) = !okP x := by
 unfold wrongI
 cases okP x
 · simp only [Bool.false_eq_true, if_false, Bool.not_false]; exact decide_eq_true (by omega)
 · rfl
theorem wrongF_c (f : FracD) (hs : smF f) : ContractN Tryz.prog 214 [encF f] (dB (!okF f)) := by
 refine Contract.toN ?_ rfl
 have hc := fright_c f (smF_i hs)
 refine inC Tryz.func214 rfl Tryz.ntmps214 ?_
 have hres := Tryz.results214
 exact aGo hres trivial
theorem indexF_c (x : List FracD) (hs : smFs x) : ContractN Tryz.prog 193 [encFs x, .clo 214 []] (dI (wrongI x)) := by
 refine Contract.toN ?_ rfl
 have hl := smFs_len hs
 refine inC Tryz.func193 rfl Tryz.ntmps193 ?_
 have hres := Tryz.results193
 refine aGo hres ?_
 repeat with_reducible intro K hK
 refine aLoopT (fun (k : Nat) => [(0, encFs x), (1, .clo 214 []), (7, dI x.length), (8, dI k)]) (fun _ => []) 0 0 (fun k => k ≤ x.length ∧ (x.take k).all okF = true) (fun k => x.length - k) 0 ⟨by omega, rfl⟩ ?_ ?_
 · exact leGo trivial
 · rintro k ⟨hk, hn⟩
   obtain ⟨hw, h0⟩ := wrap2 k
   by_cases h1 : (k : Int) < x.length
   · obtain ⟨f, hx⟩ := getE (l := x) (k := k) (by omega)
     have hc := wrongF_c f (hs.2 f (mem_at hx))
     cases h2 : okF f
     · rw [h2] at hc
       refine aGo (cj4 hres h0 h1 (cj2 hx hw)) ?_
       repeat with_reducible intro K hK
       have : wrongI x = k := by
        have h3 : okP x = false := all_not hx h2
        simp only [wrongI, h3, any_take_no hx hn h2]; rfl
       rw [this]
     · rw [h2] at hc
       refine aGo (cj4 hres h0 h1 (cj2 hx hw)) ?_
       repeat with_reducible intro K hK
       exact loop_end (k + 1) ⟨by omega, all_take_succ hx hn h2⟩ (by omega) (by exact leGo trivial)
   · refine aGo (cj2 hres h1) ?_
     repeat with_reducible intro K hK
     rw [List.take_of_length_le (by omega)] at hn
     have : wrongI x = -1 := by have h3 : okP x = true := hn; simp only [wrongI, h3]; rfl
     rw [this]
theorem containsF_c (x : List FracD) (hs : smFs x) : ContractN Tryz.prog 111 [encFs x, .clo 214 []] (dB (!okP x)) := by
 refine Contract.toN ?_ rfl
 refine inC Tryz.func111 rfl Tryz.ntmps111 ?_
 have hres := Tryz.results111
 have hc := indexF_c x hs
 refine aGo hres ?_
 repeat with_reducible intro K hK
 exact bool_eq (wrongI_ge _)
theorem lpoint_c (x : List FracD) (hs : smFs x) : ContractN Tryz.prog 156 [encFs x] (dB (okP x)) := by
 refine Contract.toN ?_ rfl
 refine inC Tryz.func156 rfl Tryz.ntmps156 ?_
 have hres := Tryz.results156
 have hc := containsF_c x hs
 refine aGo hres ?_
 repeat with_reducible intro K hK
 exact bool_eq (by simp)
def atP (x : List FracD) (v : Int) : Rat := qOf ((x[v.toNat]?).getD zF)
def dotD (l : List TermD) (x : List FracD) : Rat := l.foldl (fun a t => a + qOf t.f * atP x t.v) 0
def valueD (l : List TermD) (x : List FracD) : FracD × Bool := if rightT l x.length && okP x then (ofQ (dotD l x), true) else (zF, false)
theorem goR_mem {n : Int} : ∀ (l : List TermD) (last : Int), -1 ≤ last → goR n last l = true → ∀ t ∈ l, 0 ≤ t.v ∧ t.v < n ∧ sgnD t.f ≠ 0
 | [], _, _, _, t, ht => by cases ht
 | u :: l, last, h0, h, t, ht => by
   simp only [goR, Bool.and_eq_true, decide_eq_true_eq, bne_iff_ne] at h
   rcases List.mem_cons.1 ht with rfl | ht
   · exact ⟨by omega, h.1.1.2, h.1.2⟩
   · exact goR_mem l u.v (by omega) h.2 t ht
theorem rightT_mem {l : List TermD} {n : Int} (h : rightT l n = true) {t : TermD} (ht : t ∈ l) : 0 ≤ t.v ∧ t.v < n ∧ okF t.f = true ∧ qOf t.f ≠ 0 := by
 simp only [rightT, Bool.and_eq_true] at h
 obtain ⟨h1, h2, h3⟩ := goR_mem l (-1) (Int.le_refl _) h.2 t ht
 cases ho : okF t.f
 · exact absurd (sgnD_no ho) h3
 · refine ⟨h1, h2, rfl, fun h0 => h3 ?_⟩
   simp [sgnD, ho, h0, sgQ]
theorem szF_at {x : List FracD} {A : Int} (h0 : 0 ≤ A) (hx : ∀ f ∈ x, (szF f : Int) ≤ A) (ho : okP x = true) {v : Int} (h1 : 0 ≤ v) (h2 : v < x.length) : ∃ f, x[v.toNat]? = some f ∧ okF f = true ∧ (szF f : Int) ≤ A ∧ atP x v = qOf f := by
 obtain ⟨f, hf⟩ := getE (l := x) (k := v.toNat) (by omega)
 have hm := List.mem_of_getElem? hf
 exact ⟨f, hf, (List.all_eq_true.1 ho) f hm, hx f hm, by simp [atP, hf]⟩
theorem dotD_succ {l : List TermD} {x : List FracD} {k : Nat} {t : TermD} (hx : l[k]? = some t) : dotD (l.take (k + 1)) x = dotD (l.take k) x + qOf t.f * atP x t.v := by
 unfold dotD
 rw [List.take_add_one, hx]
 simp
theorem szQ_dot {l : List TermD} {x : List FracD} {A B : Nat} (hl : ∀ t ∈ l, szF t.f ≤ A) (hx : ∀ f ∈ x, szF f ≤ B) (hr : rightT l x.length = true) (ho : okP x = true) : ∀ k, k ≤ l.length → szQ (dotD (l.take k) x) ≤ 4 + k * (A + B + 1) := by
 intro k
 induction k with
 | zero => intro _; rw [Nat.zero_mul]; exact Nat.le_trans (szQ_int 0 (by decide) (by decide)) (by omega)
 | succ k ih =>
   intro hk
   obtain ⟨t, ht⟩ := getE (l := l) (k := k) (by omega)
   rw [dotD_succ ht]
   have hm := List.mem_of_getElem? ht
   obtain ⟨h1, h2, h3, _⟩ := rightT_mem hr hm
   obtain ⟨f, hf⟩ := getE (l := x) (k := t.v.toNat) (by omega)
   have hmf := List.mem_of_getElem? hf
   have hof := (List.all_eq_true.1 ho) f hmf
   have e : atP x t.v = qOf f := by simp [atP, hf]
   rw [e]
   have i1 := ih (by omega)
   have i2 := szQ_add (dotD (l.take k) x) (qOf t.f * qOf f)
   have i3 := szQ_mul (qOf t.f) (qOf f)
   rw [szF_ok h3, szF_ok hof] at i3
   have i4 := hl t hm
   have i5 := hx f hmf
   rw [Nat.add_mul, Nat.one_mul]
   omega
theorem smF_n {f : FracD} (h : smF f) : szF f ≤ 2048 * 2048 := by unfold smF at h; omega
theorem szQ_dot' {l : List TermD} {x : List FracD} (hl : smT l) (hx : smFs x) (hr : rightT l x.length = true) (ho : okP x = true) {k : Nat} (hk : k ≤ l.length) : (szQ (dotD (l.take k) x) : Int) ≤ 34359750000 := by
 have h := szQ_dot (A := 2048 * 2048) (B := 2048 * 2048) (fun t ht => smF_n (hl.2 t ht)) (fun f hf => smF_n (hx.2 f hf)) hr ho k hk
 have hk2 : (k : Int) ≤ 4096 := by have := hl.1; omega
 have h2 : (szQ (dotD (l.take k) x) : Int) ≤ 4 + (k : Int) * 8388609 := by
  have := Int.ofNat_le.2 h
  simp only [Int.natCast_add, Int.natCast_mul] at this
  omega
 omega
theorem lvalue_c (l : List TermD) (x : List FracD) (hs : smT l) (hxs : smFs x) (hr : rightT l x.length = true) (ho : okP x = true) : Contract Tryz.prog 157 [encTs l, encFs x] (encF (ofQ (dotD l x))) := by
 have hl := smT_len hs
 have hlx := smFs_len hxs
 have hz := nZ_c
 refine inC Tryz.func157 rfl Tryz.ntmps157 ?_
 have hres := Tryz.results157
 refine aGo hres ?_
 repeat with_reducible intro K hK
 refine aLoopT (fun (k : Nat) => [(0, encTs l), (1, encFs x), (4, .lp 0 0 0 0), (5, .lp 1 0 0 0), (11, encTs l), (12, dI l.length), (13, dI k)]) (fun k => [(0, ⟨32, 0, 4, [[dI 0, .nil, dI 0, .nil]], 0, false⟩), (1, ⟨32, 0, 4, [cF (ofQ (dotD (l.take k) x))], 0, false⟩)]) 2 0 (fun k => k ≤ l.length) (fun k => l.length - k) 0 (by omega) ?_ ?_
 · refine le_head _ _ _ ?_ ?_ ?_ ?_ ?_ (.inl rfl) <;> simp [go_sem, okD, okDs, okBlk, dotD] <;> (first | (intros; subst_vars; simp [okD, okDs]; done) | (intro _ h; rcases h with ⟨_, _, rfl⟩ | rfl <;> simp [okD, okDs]; done) | (intros; rename_i h; rcases h with ⟨_, _, rfl⟩ | rfl <;> simp [okD, okDs]))
 · rintro k hk
   obtain ⟨hw, h0⟩ := wrap2 k
   by_cases h1 : (k : Int) < l.length
   · obtain ⟨t, ht⟩ := getE (l := l) (k := k) (by omega)
     obtain ⟨h2, h3, h4, _⟩ := rightT_mem hr (mem_at ht)
     obtain ⟨f, h5, h6, h7, h8⟩ := szF_at (A := 4194304) (by decide) hxs.2 ho h2 h3
     have hd := dotD_succ (x := x) ht
     rw [h8] at hd
     have k1 := fmul_c t.f f (smF_i (hs.2 t (mem_at ht))) (by omega)
     rw [show mulD t.f f = (ofQ (qOf t.f * qOf f), 0) by simp [mulD, h4, h6]] at k1
     have z1 := szQ_dot' hs hxs hr ho hk
     have z2 := szQ_mul (qOf t.f) (qOf f)
     rw [szF_ok h4, szF_ok h6] at z2
     have z3 : (szF t.f : Int) ≤ 4194304 := hs.2 t (mem_at ht)
     have k2 := fadd_c (ofQ (dotD (l.take k) x)) (ofQ (qOf t.f * qOf f)) (by rw [szQ_ofQ]; omega) (by rw [szQ_ofQ]; omega)
     rw [addD_ofQ] at k2
     refine aGo (cj4 hres h0 h1 (cj4 ht h2 h3 (cj2 h5 hw))) ?_
     repeat with_reducible intro K hK
     exact loop_end (k + 1) (by omega) (by omega) (by exact leGo hd)
   · refine aGo (cj2 hres h1) ?_
     repeat with_reducible intro K hK
     rw [List.take_of_length_le (by omega)]
theorem tupV_no {l : List TermD} {x : List FracD} (h : (rightT l x.length && okP x) = false) : D.tup [encF zF, dB false] = D.tup [encF (valueD l x).1, dB (valueD l x).2] := by
 unfold valueD; rw [h]; rfl
theorem tupV_yes {l : List TermD} {x : List FracD} (h1 : rightT l x.length = true) (h2 : okP x = true) : D.tup [encF (ofQ (dotD l x)), dB true] = D.tup [encF (valueD l x).1, dB (valueD l x).2] := by
 unfold valueD; rw [h1, h2]; rfl
theorem lValue_c (l : List TermD) (x : List FracD) (hs : smT l) (hxs : smFs x) : Contract Tryz.prog 67 [encTs l, encFs x] (.tup [encF (valueD l x).1, dB (valueD l x).2]) := by
 have hres := Tryz.results67
 have k1 := lright_c l x.length hs
 have k2 := lpoint_c x hxs
 cases h1 : rightT l x.length
 · rw [h1] at k1
   refine inC Tryz.func67 rfl Tryz.ntmps67 ?_
   refine aGo hres ?_
   repeat with_reducible intro K hK
   exact tupV_no (by rw [h1]; rfl)
 rw [h1] at k1
 cases h2 : okP x
 · rw [h2] at k2
   refine inC Tryz.func67 rfl Tryz.ntmps67 ?_
   refine aGo hres ?_
   repeat with_reducible intro K hK
   exact tupV_no (by rw [h2, Bool.and_false])
 rw [h2] at k2
 have k3 := lvalue_c l x hs hxs h1 h2
 refine inC Tryz.func67 rfl Tryz.ntmps67 ?_
 refine aGo hres ?_
 repeat with_reducible intro K hK
 exact tupV_yes h1 h2
theorem rValue_c (l : List TermD) (x : List FracD) (hs : smT l) (hxs : smFs x) : Contract Tryz.prog 75 [encTs l, encFs x] (.tup [encF (valueD l x).1, dB (valueD l x).2]) := by
 have hres := Tryz.results75
 have k1 := rrightT_c l x.length hs
 have k2 := rpoint_c x hxs
 cases h1 : rightT l x.length
 · rw [h1] at k1
   refine inC Tryz.func75 rfl Tryz.ntmps75 ?_
   refine aGo hres ?_
   repeat with_reducible intro K hK
   exact tupV_no (by rw [h1]; rfl)
 rw [h1] at k1
 cases h2 : okP x
 · rw [h2] at k2
   refine inC Tryz.func75 rfl Tryz.ntmps75 ?_
   refine aGo hres ?_
   repeat with_reducible intro K hK
   exact tupV_no (by rw [h2, Bool.and_false])
 rw [h2] at k2
 have hl := smT_len hs
 have hlx := smFs_len hxs
 have hz := rint_c 0 (by decide) (by decide)
 refine inC Tryz.func75 rfl Tryz.ntmps75 ?_
 refine aGo hres ?_
 repeat with_reducible intro K hK
 refine aLoopT (fun (k : Nat) => [(0, encTs l), (1, encFs x), (4, .lp 0 0 0 0), (5, dB false), (6, .lp 1 0 0 0), (7, dI k)]) (fun k => [(0, ⟨32, 0, 4, [[dI 0, .nil, dI 0, .nil]], 0, false⟩), (1, ⟨32, 0, 4, [cF (ofQ (dotD (l.take k) x))], 0, false⟩)]) 2 0 (fun k => k ≤ l.length) (fun k => l.length - k) 0 (by omega) ?_ ?_
 · refine le_head _ _ _ ?_ ?_ ?_ ?_ ?_ (.inl rfl) <;> simp [go_sem, okD, okDs, okBlk, dotD] <;> (first | (intros; subst_vars; simp [okD, okDs]; done) | (intro _ h; rcases h with ⟨_, _, rfl⟩ | rfl <;> simp [okD, okDs]; done) | (intros; rename_i h; rcases h with ⟨_, _, rfl⟩ | rfl <;> simp [okD, okDs]))
 · rintro k hk
   obtain ⟨hw, h0⟩ := wrap2 k
   by_cases h4 : (k : Int) < l.length
   · obtain ⟨t, ht⟩ := getE (l := l) (k := k) (by omega)
     obtain ⟨h5, h6, h7, _⟩ := rightT_mem h1 (mem_at ht)
     obtain ⟨f, g5, g6, g7, g8⟩ := szF_at (A := 4194304) (by decide) hxs.2 h2 h5 h6
     have hd := dotD_succ (x := x) ht
     rw [g8] at hd
     have k3 := rmulF_c t.f f (smF_j (hs.2 t (mem_at ht))) (by omega)
     rw [show mulD t.f f = (ofQ (qOf t.f * qOf f), 0) by simp [mulD, h7, g6]] at k3
     have z1 := szQ_dot' hs hxs h1 h2 hk
     have z2 := szQ_mul (qOf t.f) (qOf f)
     rw [szF_ok h7, szF_ok g6] at z2
     have z3 : (szF t.f : Int) ≤ 4194304 := hs.2 t (mem_at ht)
     have k4 := raddF_c (ofQ (dotD (l.take k) x)) (ofQ (qOf t.f * qOf f)) (by rw [szQ_ofQ]; omega) (by rw [szQ_ofQ]; omega)
     rw [addD_ofQ] at k4
     refine aGo (cj4 hres h0 h4 (cj4 ht h5 h6 (cj2 g5 hw))) ?_
     repeat with_reducible intro K hK
     exact loop_end (k + 1) (by omega) (by omega) (by exact leGo hd)
   · refine aGo (cj2 hres h4) ?_
     repeat with_reducible intro K hK
     rw [List.take_of_length_le (by omega)]
     exact tupV_yes h1 h2
def fitsK (k c : Int) : Bool := c == 0 || (decide (c > 0) && k == 0) || (decide (c < 0) && k == 1)
def holdsW (w : RowD) (x : List FracD) : Bool := fitsK w.k (sgQ (dotD w.t x - qOf w.v))
def nonneg (x : List FracD) : Bool := x.all fun f => decide (0 ≤ sgnD f)
def holdsS (s : SysD) (x : List FracD) : Bool := rightS s && decide ((x.length : Int) = s.n) && okP x && nonneg x && s.r.all (fun w => holdsW w x)
theorem rightS_mem {s : SysD} (h : rightS s = true) {w : RowD} (hw : w ∈ s.r) : rightW s.n w = true := by
 simp only [rightS, Bool.and_eq_true] at h
 exact List.all_eq_true.1 h.2 w hw
def mulT (f : FracD) (t : TermD) : TermD := ⟨t.v, ofQ (qOf t.f * qOf f)⟩
def timesD (l : List TermD) (f : FracD) : List TermD := if rightT l 1500 && sgnD f != 0 then l.map (mulT f) else []
theorem timesD_no {l : List TermD} {f : FracD} (h : (rightT l 1500 && sgnD f != 0) = false) : D.sl [] = encTs (timesD l f) := by unfold timesD; rw [h]; rfl
theorem timesD_yes {l : List TermD} {f : FracD} (h1 : rightT l 1500 = true) (h2 : (sgnD f != 0) = true) : timesD l f = l.map (mulT f) := by unfold timesD; rw [h1, h2]; rfl
theorem map_take_succ {α β : Type} (g : α → β) {l : List α} {k : Nat} {x : α} (hx : l[k]? = some x) : (l.take (k + 1)).map g = (l.take k).map g ++ [g x] := by
 rw [List.take_add_one, hx]; simp
def outT (l : List TermD) (f : FracD) (k : Nat) : List TermD := (l.take k).map (mulT f)
theorem outT_succ {l : List TermD} (f : FracD) {k : Nat} {t : TermD} (ht : l[k]? = some t) : outT l f (k + 1) = outT l f k ++ [⟨t.v, ofQ (qOf t.f * qOf f)⟩] := map_take_succ _ ht
theorem outT_len (l : List TermD) (f : FracD) (k : Nat) : (outT l f k).length ≤ l.length := by
 unfold outT; rw [List.length_map]; exact List.length_take_le' k l
theorem outT_zero (l : List TermD) (f : FracD) : outT l f 0 = [] := rfl
theorem outT_all {l : List TermD} {f : FracD} (h1 : rightT l 1500 = true) (h2 : (sgnD f != 0) = true) : outT l f l.length = timesD l f := by
 unfold outT; rw [List.take_length, timesD_yes h1 h2]
theorem map_map_id {α : Type} {f : α → List D} {g : D → D} (h : ∀ a, List.map g (f a) = f a) (l : List α) : List.map (List.map g) (List.map f l) = List.map f l := by
 rw [List.map_map]
 exact List.map_congr_left fun a _ => h a
theorem fz_terms (m : Mem) (n : Nat) (l : List TermD) : D.sl (List.map (List.map (fzT true m (n + 1))) (List.map cT l)) = encTs l := by rw [map_map_id (fun _ => rfl)]
theorem rtimesT_c (l : List TermD) (f : FracD) (hs : smT l) (hf : smF f) : Contract Tryz.prog 91 [encTs l, encF f] (encTs (timesD l f)) := by
 have hres := Tryz.results91
 have hl := smT_len hs
 have k1 := rrightT_c l 1500 hs
 have k2 := (rrightF_c f (smF_i hf)).toN rfl
 cases h1 : rightT l 1500
 · rw [h1] at k1
   refine inC Tryz.func91 rfl Tryz.ntmps91 ?_
   refine aGo hres ?_
   repeat with_reducible intro K hK
   exact timesD_no (by rw [h1]; rfl)
 rw [h1] at k1
 cases hok : okF f
 · rw [hok] at k2
   refine inC Tryz.func91 rfl Tryz.ntmps91 ?_
   refine aGo hres ?_
   repeat with_reducible intro K hK
   exact timesD_no (by simp [sgnD_no hok])
 rw [hok] at k2
 have hps := sgnD_ps hok
 cases h2 : f.p.s == 0
 rotate_left
 · refine inC Tryz.func91 rfl Tryz.ntmps91 ?_
   refine aGo (cj2 hres h2) ?_
   repeat with_reducible intro K hK
   exact timesD_no (by rw [hps]; simp at h2; simp [h2])
 have h2' : (sgnD f != 0) = true := by rw [hps]; simp at h2; simp [h2]
 refine inC Tryz.func91 rfl Tryz.ntmps91 ?_
 refine aGo (cj2 hres h2) ?_
 repeat with_reducible intro K hK
 refine aLe (le_row 5 107 5 rfl) ?_
 refine aLoopT (fun (k : Nat) => [(0, encTs l), (3, .lp 0 0 0 0), (5, .ls 1 k), (6, dI k)]) (fun k => [(0, ⟨32, 0, 4, [cF f], 0, false⟩), (1, ⟨107, k, 5, (outT l f k).map cT, 0, false⟩)]) 2 0 (fun k => k ≤ l.length) (fun k => l.length - k) 0 (by omega) ?_ ?_
 · exact leGo outT_zero
 · rintro k hk
   obtain ⟨hw, h0⟩ := wrap2 k
   by_cases h3 : (k : Int) < l.length
   · obtain ⟨t, ht⟩ := getE (l := l) (k := k) (by omega)
     obtain ⟨_, _, h4, _⟩ := rightT_mem h1 (mem_at ht)
     have k3 := rmulF_c t.f f (smF_j (hs.2 t (mem_at ht))) (smF_j hf)
     rw [show mulD t.f f = (ofQ (qOf t.f * qOf f), 0) by simp [mulD, h4, hok]] at k3
     have hn := outT_succ f ht
     have hlen : (outT l f k).length ≤ 4096 := by have := outT_len l f k; omega
     refine aGo (cj4 hres h0 h3 (cj2 ht hw)) ?_
     repeat with_reducible intro K hK
     exact loop_end (k + 1) (by omega) (by omega) (by exact leGo hn)
   · have e : k = l.length := by omega
     subst e
     rw [outT_all h1 h2']
     refine aGo (cj2 hres h3) ?_
     repeat with_reducible intro K hK
     exact fz_terms _ _ _
structure PlusX where
 a : List TermD
 b : List TermD
 o : List TermD
set_option maxHeartbeats 4000000
structure PlusI where
 i : Nat
 k : Nat
 o : List TermD
end Go.Proofs.YtpkdhmnlpnijhaaGreat
