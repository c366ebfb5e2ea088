/-
  dual.multipliers, Signed, add, below.
-/
import Derived.Test.YtpkdhmnlpnijhaaGreatUDualP
namespace Go.Proofs.YtpkdhmnlpnijhaaGreat
set_option linter.unusedVariables false
set_option linter.unusedSimpArgs false
set_option linter.unusedSectionVars false
open Go Go.RowKit
set_option maxRecDepth 100000
set_option maxHeartbeats 4000000
def tnF (f : FracD) : Prop := (szF f : Int) ≤ 262144
def tnT (l : List TermD) : Prop := (l.length : Int) ≤ 64 ∧ ∀ t ∈ l, tnF t.f
def tnFs (l : List FracD) : Prop := (l.length : Int) ≤ 64 ∧ ∀ f ∈ l, tnF f
def tnW (w : RowD) : Prop := tnT w.t ∧ tnF w.v
def tnS (s : SysD) : Prop := (s.r.length : Int) ≤ 64 ∧ ∀ w ∈ s.r, tnW w
theorem tnF.sm {f : FracD} (h : tnF f) : smF f := by unfold tnF at h; unfold smF; omega
theorem tnT.sm {l : List TermD} (h : tnT l) : smT l := ⟨by have := h.1; omega, fun t ht => (h.2 t ht).sm⟩
theorem tnFs.sm {l : List FracD} (h : tnFs l) : smFs l := ⟨by have := h.1; omega, fun t ht => (h.2 t ht).sm⟩
theorem tnW.sm {w : RowD} (h : tnW w) : smW w := ⟨h.1.sm, h.2.sm⟩
theorem tnS.sm {s : SysD} (h : tnS s) : smS s := ⟨by have := h.1; omega, fun t ht => (h.2 t ht).sm⟩
theorem mulOk_no {s : SysD} {y : List FracD} (h : mulOk s y = false) : D.v (.bool false) = dB (mulOk s y) := bool_eq h.symm
theorem dmult_c (s : SysD) (y : List FracD) (hs : smS s) (hy : smFs y) : ContractN Tryz.prog 257 [encS s, encFs y] (dB (mulOk s y)) := by
 refine Contract.toN ?_ rfl
 have hres := Tryz.results257
 have hl := smFs_len hy
 have k1 := lrightS_c s hs
 cases h1 : rightS s
 · rw [h1] at k1
   refine inC Tryz.func257 rfl Tryz.ntmps257 ?_
   refine aGo hres ?_
   repeat with_reducible intro K hK
   exact mulOk_no (by simp [mulOk, h1])
 rw [h1] at k1
 cases h2 : (y.length : Int) != s.r.length
 rotate_left
 · refine inC Tryz.func257 rfl Tryz.ntmps257 ?_
   refine aGo (cj2 hres h2) ?_
   repeat with_reducible intro K hK
   exact mulOk_no (by simp at h2; simp [mulOk]; omega)
 have hn : (y.length : Int) = s.r.length := by simpa using h2
 refine inC Tryz.func257 rfl Tryz.ntmps257 ?_
 refine aGo (cj2 hres h2) ?_
 repeat with_reducible intro K hK
 refine aLoopT (fun (k : Nat) => [(18, encFs y), (19, dI y.length), (20, dI k)]) (fun _ => []) 0 0 (fun k => k ≤ y.length ∧ (y.take k).all okF = true) (fun k => y.length - k) 0 ⟨by omega, rfl⟩ ?_ ?_
 · exact leGo trivial
 · rintro k ⟨hk, hg⟩
   obtain ⟨hw, h0⟩ := wrap2 k
   by_cases h4 : (k : Int) < y.length
   · obtain ⟨f, hx⟩ := getE (l := y) (k := k) (by omega)
     have k2 := fright_c f (smF_i (hy.2 f (mem_at hx)))
     cases h5 : okF f
     · rw [h5] at k2
       refine aGo (cj4 hres h0 h4 (cj2 hx hw)) ?_
       repeat with_reducible intro K hK
       exact mulOk_no (by simp only [mulOk, okP, all_not hx h5, Bool.and_false])
     · rw [h5] at k2
       refine aGo (cj4 hres h0 h4 (cj2 hx hw)) ?_
       repeat with_reducible intro K hK
       exact loop_end (k + 1) ⟨by omega, all_take_succ hx hg h5⟩ (by omega) (by exact leGo trivial)
   · rw [List.take_of_length_le (by omega)] at hg
     refine aGo (cj2 hres h4) ?_
     repeat with_reducible intro K hK
     exact bool_eq (by simp only [mulOk, okP, hg, h1, hn, decide_true, Bool.and_self])
theorem zip_at {α β : Type} {l : List α} {m : List β} {k : Nat} {x : α} {y : β} (hx : l[k]? = some x) (hy : m[k]? = some y) : (l.zip m)[k]? = some (x, y) := by
 rw [List.getElem?_zip_eq_some]; exact ⟨hx, hy⟩
theorem dsigned_c (s : SysD) (y : List FracD) (hs : smS s) (hy : smFs y) : ContractN Tryz.prog 238 [encS s, encFs y] (dB (signedD s y)) := by
 refine Contract.toN ?_ rfl
 have hres := Tryz.results238
 have hl := smFs_len hy
 have k1 := dmult_c s y hs hy
 cases h1 : mulOk s y
 · rw [h1] at k1
   refine inC Tryz.func238 rfl Tryz.ntmps238 ?_
   refine aGo hres ?_
   repeat with_reducible intro K hK
   exact bool_eq (by simp [signedD, h1])
 rw [h1] at k1
 obtain ⟨hr, hlen, hok⟩ := mulOk_iff.1 h1
 have hzl : (s.r.zip y).length = y.length := by rw [List.length_zip]; omega
 refine inC Tryz.func238 rfl Tryz.ntmps238 ?_
 refine aGo hres ?_
 repeat with_reducible intro K hK
 refine aLoopT (fun (k : Nat) => [(2, .lp 0 0 0 0), (12, encFs y), (13, dI y.length), (14, dI k)]) (fun _ => [(0, ⟨24, 0, 2, [cS s], 0, false⟩)]) 1 0 (fun k => k ≤ y.length ∧ ((s.r.zip y).take k).all (fun p => signOk p.1 p.2) = true) (fun k => y.length - k) 0 ⟨by omega, rfl⟩ ?_ ?_
 · exact leGo trivial
 · rintro k ⟨hk, hg⟩
   obtain ⟨hw, h0⟩ := wrap2 k
   by_cases h4 : (k : Int) < y.length
   · obtain ⟨f, hx⟩ := getE (l := y) (k := k) (by omega)
     obtain ⟨w, hv⟩ := getE (l := s.r) (k := k) (by omega)
     have h4b : (k : Int) < s.r.length := by omega
     have k2 := fsign_c f (smF_i (hy.2 f (mem_at hx)))
     have hz := zip_at hv hx
     have bad : signOk w f = false → D.v (.bool false) = dB (signedD s y) := fun h => bool_eq (by unfold signedD; rw [all_not (p := fun p : RowD × FracD => signOk p.1 p.2) hz h, Bool.and_false])
     have good : signOk w f = true → ((s.r.zip y).take (k + 1)).all (fun p => signOk p.1 p.2) = true := fun h => all_take_succ (p := fun p : RowD × FracD => signOk p.1 p.2) hz hg h
     cases h5 : w.k == 0
     · cases h6 : w.k == 1
       · refine aGo (cj4 hres h0 h4 (cj4 h4b hx hv (cj3 hw h5 h6))) ?_
         repeat with_reducible intro K hK
         exact loop_end (k + 1) ⟨by omega, good (by simp [signOk, h5, h6])⟩ (by omega) (by exact leGo trivial)
       · by_cases h7 : sgnD f > 0
         · refine aGo (cj4 hres h0 h4 (cj4 h4b hx hv (cj4 hw h5 h6 h7))) ?_
           repeat with_reducible intro K hK
           exact bad (by simp [signOk, h6]; omega)
         · refine aGo (cj4 hres h0 h4 (cj4 h4b hx hv (cj4 hw h5 h6 h7))) ?_
           repeat with_reducible intro K hK
           exact loop_end (k + 1) ⟨by omega, good (by simp [signOk, h5]; omega)⟩ (by omega) (by exact leGo trivial)
     · by_cases h7 : sgnD f < 0
       · refine aGo (cj4 hres h0 h4 (cj4 h4b hx hv (cj3 hw h5 h7))) ?_
         repeat with_reducible intro K hK
         exact bad (by simp [signOk, h5]; omega)
       · have h6 : (w.k == 1) = false := by simp at h5; simp [h5]
         refine aGo (cj4 hres h0 h4 (cj4 h4b hx hv (cj3 hw h5 h7))) ?_
         repeat with_reducible intro K hK
         exact loop_end (k + 1) ⟨by omega, good (by simp [signOk, h6]; omega)⟩ (by omega) (by exact leGo trivial)
   · have hg2 : (s.r.zip y).all (fun p => signOk p.1 p.2) = true := by rw [List.take_of_length_le (by omega)] at hg; exact hg
     refine aGo (cj2 hres h4) ?_
     repeat with_reducible intro K hK
     exact bool_eq (by simp only [signedD, h1, hg2, Bool.and_self])
theorem dadd_c (a b c : Rat) (za : (szQ a : Int) ≤ 34359750000) (zb : (szQ b : Int) ≤ 4194304) (zc : (szQ c : Int) ≤ 4194304) : Contract Tryz.prog 258 [encF (ofQ a), encF (ofQ b), encF (ofQ c)] (encF (ofQ (a + b * c))) := by
 have hres := Tryz.results258
 have k1 := qmul_c b c (by omega) (by omega)
 have z := szQ_mul b c
 have k2 := qadd_c a (b * c) (by omega) (by omega)
 refine inC Tryz.func258 rfl Tryz.ntmps258 ?_
 exact aGo hres trivial
open Classical in
noncomputable def belowB (a b : List TermD) : Bool := decide (BelowT a b)
theorem belowB_iff {a b : List TermD} : belowB a b = true ↔ BelowT a b := by unfold belowB; simp only [decide_eq_true_eq]
structure BelowX where
 a : List TermD
 b : List TermD
 l : Int
def wkT (l : List TermD) : Prop := (l.length : Int) ≤ 4096 ∧ ∀ t ∈ l, (szF t.f : Int) ≤ 549755813888
theorem smT.wk {l : List TermD} (h : smT l) : wkT l := ⟨h.1, fun t ht => smF_i (h.2 t ht)⟩
theorem dbelow_c (n : Int) (a b : List TermD) (ha : rightT a n = true) (hb : rightT b n = true) (hs : wkT a) (hs2 : wkT b) : Contract Tryz.prog 240 [encTs a, encTs b] (dB (belowB a b)) := by
 have hres := Tryz.results240
 have hla := hs.1
 have hlb := hs2.1
 have kz := fint_c 0 (by decide) (by decide)
 rw [Rat.intCast_zero] at kz
 have z0 : (szF (ofQ 0) : Int) ≤ 549755813888 := by have : szQ 0 ≤ 4 := szQ_int 0 (by decide) (by decide); rw [szQ_ofQ]; omega
 simp only [rightT, Bool.and_eq_true] at ha hb
 refine inC Tryz.func240 rfl Tryz.ntmps240 ?_
 refine aGo hres ?_
 repeat with_reducible intro K hK
 refine aLoopT (fun (x : BelowX) => [(0, encTs x.a), (1, encTs x.b), (5, .lp 0 0 0 0)]) (fun x => [(0, ⟨32, 0, 4, [cF (ofQ 0)], 0, false⟩)]) 1 0 (fun x => goR n x.l x.a = true ∧ goR n x.l x.b = true ∧ (∀ t ∈ x.a, (szF t.f : Int) ≤ 549755813888) ∧ (∀ t ∈ x.b, (szF t.f : Int) ≤ 549755813888) ∧ x.a.length ≤ a.length ∧ x.b.length ≤ b.length ∧ (BelowT x.a x.b ↔ BelowT a b)) (fun x => x.a.length + x.b.length) ⟨a, b, -1⟩ ⟨ha.2, hb.2, hs.2, hs2.2, Nat.le_refl _, Nat.le_refl _, Iff.rfl⟩ ?_ ?_
 · exact leGo trivial
 · rintro ⟨a', b', l⟩ ⟨ga, gb, sa, sb, la, lb, hiff⟩
   dsimp only at ga gb sa sb la lb hiff ⊢
   match a', b', ga, gb, sa, sb, la, lb, hiff with
   | [], [], ga, gb, sa, sb, la, lb, hiff =>
     refine aGo hres ?_
     repeat with_reducible intro K hK
     exact bool_eq (belowB_iff.2 (hiff.1 below_nil)).symm
   | x :: a', [], ga, gb, sa, sb, la, lb, hiff =>
     simp only [List.length_cons, List.length_nil] at la lb
     have ga' := goR_cons.1 ga
     have p1 : ((a'.length + 1 : Nat) : Int) > 0 := by omega
     have p2 : (1 : Int) ≤ ((a'.length + 1 : Nat) : Int) := by omega
     have p3 : (((a'.length + 1 : Nat) : Int) == 0) = false := by simp; omega
     have p4 : (0 : Int) < ((a'.length + 1 : Nat) : Int) := by omega
     have ox := (sgnD_ne ga'.2.2.1).1
     have kc := fcompare_c x.f (ofQ 0) (sa x List.mem_cons_self) z0
     rw [show cmpD x.f (ofQ 0) = sgQ (qOf x.f - 0) by simp [cmpD, ox, okF_ofQ, qOf_ofQ]] at kc
     have hb1 := below_first (b := []) ga (rfl : goR n x.v [] = true)
     by_cases h5 : sgQ (qOf x.f - 0) > 0
     · refine aGo (cj4 hres p1 p2 (cj4 p3 p4 h5 take_cT)) ?_
       repeat with_reducible intro K hK
       have hn : ¬ BelowT a b := fun h => by have := (hb1.1 (hiff.2 h)).1; rw [gt_iff_lt, sgQ_gt] at h5; grind
       refine bool_eq ?_
       cases h : belowB a b
       · rfl
       · exact absurd (belowB_iff.1 h) hn
     · refine aGo (cj4 hres p1 p2 (cj4 p3 p4 h5 take_cT)) ?_
       repeat with_reducible intro K hK
       refine loop_end ⟨a', [], x.v⟩ ⟨ga'.2.2.2, rfl, fun t ht => sa t (List.mem_cons_of_mem _ ht), sb, by dsimp only; omega, by dsimp only; omega, ?_⟩ (by simp) (by exact leGo take_cT)
       rw [gt_iff_lt, sgQ_gt] at h5
       rw [← hiff, hb1]
       exact ⟨fun h => ⟨by grind, h⟩, fun h => h.2⟩
   | [], y :: b', ga, gb, sa, sb, la, lb, hiff =>
     simp only [List.length_cons, List.length_nil] at la lb
     have gb' := goR_cons.1 gb
     have p1 : ((b'.length + 1 : Nat) : Int) > 0 := by omega
     have p2 : (1 : Int) ≤ ((b'.length + 1 : Nat) : Int) := by omega
     have p3 : (((b'.length + 1 : Nat) : Int) == 0) = false := by simp; omega
     have p4 : (0 : Int) < ((b'.length + 1 : Nat) : Int) := by omega
     have oy := (sgnD_ne gb'.2.2.1).1
     have kc := fcompare_c (ofQ 0) y.f z0 (sb y List.mem_cons_self)
     rw [show cmpD (ofQ 0) y.f = sgQ (0 - qOf y.f) by simp [cmpD, oy, okF_ofQ, qOf_ofQ]] at kc
     have hb1 := below_second (a := []) (rfl : goR n y.v [] = true) gb
     by_cases h5 : sgQ (0 - qOf y.f) > 0
     · refine aGo (cj4 hres p1 p2 (cj4 p3 p4 h5 take_cT)) ?_
       repeat with_reducible intro K hK
       have hn : ¬ BelowT a b := fun h => by have := (hb1.1 (hiff.2 h)).1; rw [gt_iff_lt, sgQ_gt] at h5; grind
       refine bool_eq ?_
       cases h : belowB a b
       · rfl
       · exact absurd (belowB_iff.1 h) hn
     · refine aGo (cj4 hres p1 p2 (cj4 p3 p4 h5 take_cT)) ?_
       repeat with_reducible intro K hK
       refine loop_end ⟨[], b', y.v⟩ ⟨rfl, gb'.2.2.2, sa, fun t ht => sb t (List.mem_cons_of_mem _ ht), by dsimp only; omega, by dsimp only; omega, ?_⟩ (by simp) (by exact leGo take_cT)
       rw [gt_iff_lt, sgQ_gt] at h5
       rw [← hiff, hb1]
       exact ⟨fun h => ⟨by grind, h⟩, fun h => h.2⟩
   | x :: a', y :: b', ga, gb, sa, sb, la, lb, hiff =>
     simp only [List.length_cons] at la lb
     have ga' := goR_cons.1 ga
     have gb' := goR_cons.1 gb
     have p1 : ((a'.length + 1 : Nat) : Int) > 0 := by omega
     have p2 : (1 : Int) ≤ ((a'.length + 1 : Nat) : Int) := by omega
     have p3 : (((a'.length + 1 : Nat) : Int) == 0) = false := by simp; omega
     have p4 : (0 : Int) < ((a'.length + 1 : Nat) : Int) := by omega
     have q1 : ((b'.length + 1 : Nat) : Int) > 0 := by omega
     have q2 : (1 : Int) ≤ ((b'.length + 1 : Nat) : Int) := by omega
     have q3 : (((b'.length + 1 : Nat) : Int) == 0) = false := by simp; omega
     have q4 : (0 : Int) < ((b'.length + 1 : Nat) : Int) := by omega
     have ox := (sgnD_ne ga'.2.2.1).1
     have oy := (sgnD_ne gb'.2.2.1).1
     have bad : ¬ BelowT a b → D.v (.bool false) = dB (belowB a b) := fun hn => bool_eq (by
      cases h : belowB a b
      · rfl
      · exact absurd (belowB_iff.1 h) hn)
     by_cases h3 : x.v ≤ y.v
     · by_cases h4 : y.v ≤ x.v
       · have kc := fcompare_c x.f y.f (sa x List.mem_cons_self) (sb y List.mem_cons_self)
         rw [show cmpD x.f y.f = sgQ (qOf x.f - qOf y.f) by simp [cmpD, ox, oy]] at kc
         have hb1 := below_both ga gb (by omega)
         by_cases h5 : sgQ (qOf x.f - qOf y.f) > 0
         · refine aGo (cj4 hres p1 p2 (cj4 p3 p4 q1 (cj4 q2 q3 q4 (cj4 h3 h4 h5 take_cT)))) ?_
           repeat with_reducible intro K hK
           exact bad fun h => by have := (hb1.1 (hiff.2 h)).1; rw [gt_iff_lt, sgQ_gt] at h5; grind
         · refine aGo (cj4 hres p1 p2 (cj4 p3 p4 q1 (cj4 q2 q3 q4 (cj4 h3 h4 h5 take_cT)))) ?_
           repeat with_reducible intro K hK
           refine loop_end ⟨a', b', x.v⟩ ⟨ga'.2.2.2, goR_low (by omega) gb'.2.2.2, fun t ht => sa t (List.mem_cons_of_mem _ ht), fun t ht => sb t (List.mem_cons_of_mem _ ht), by dsimp only; omega, by dsimp only; omega, ?_⟩ (by simp; omega) (by exact leGo take_cT)
           rw [gt_iff_lt, sgQ_gt] at h5
           rw [← hiff, hb1]
           exact ⟨fun h => ⟨by grind, h⟩, fun h => h.2⟩
       · have kc := fcompare_c x.f (ofQ 0) (sa x List.mem_cons_self) z0
         rw [show cmpD x.f (ofQ 0) = sgQ (qOf x.f - 0) by simp [cmpD, ox, okF_ofQ, qOf_ofQ]] at kc
         have gb2 : goR n x.v (y :: b') = true := goR_cons.2 ⟨by omega, gb'.2⟩
         have hb1 := below_first ga gb2
         by_cases h5 : sgQ (qOf x.f - 0) > 0
         · refine aGo (cj4 hres p1 p2 (cj4 p3 p4 q1 (cj4 q2 q3 q4 (cj4 h3 h4 h5 take_cT)))) ?_
           repeat with_reducible intro K hK
           exact bad fun h => by have := (hb1.1 (hiff.2 h)).1; rw [gt_iff_lt, sgQ_gt] at h5; grind
         · refine aGo (cj4 hres p1 p2 (cj4 p3 p4 q1 (cj4 q2 q3 q4 (cj4 h3 h4 h5 take_cT)))) ?_
           repeat with_reducible intro K hK
           refine loop_end ⟨a', y :: b', x.v⟩ ⟨ga'.2.2.2, gb2, fun t ht => sa t (List.mem_cons_of_mem _ ht), sb, by dsimp only; omega, by simp only [List.length_cons]; omega, ?_⟩ (by simp) (by exact leGo take_cT)
           rw [gt_iff_lt, sgQ_gt] at h5
           rw [← hiff, hb1]
           exact ⟨fun h => ⟨by grind, h⟩, fun h => h.2⟩
     · have h4 : y.v ≤ x.v := by omega
       have kc := fcompare_c (ofQ 0) y.f z0 (sb y List.mem_cons_self)
       rw [show cmpD (ofQ 0) y.f = sgQ (0 - qOf y.f) by simp [cmpD, oy, okF_ofQ, qOf_ofQ]] at kc
       have ga2 : goR n y.v (x :: a') = true := goR_cons.2 ⟨by omega, ga'.2⟩
       have hb1 := below_second ga2 gb
       by_cases h5 : sgQ (0 - qOf y.f) > 0
       · refine aGo (cj4 hres p1 p2 (cj4 p3 p4 q1 (cj4 q2 q3 q4 (cj4 h3 h4 h5 take_cT)))) ?_
         repeat with_reducible intro K hK
         exact bad fun h => by have := (hb1.1 (hiff.2 h)).1; rw [gt_iff_lt, sgQ_gt] at h5; grind
       · refine aGo (cj4 hres p1 p2 (cj4 p3 p4 q1 (cj4 q2 q3 q4 (cj4 h3 h4 h5 take_cT)))) ?_
         repeat with_reducible intro K hK
         refine loop_end ⟨x :: a', b', y.v⟩ ⟨ga2, gb'.2.2.2, sa, fun t ht => sb t (List.mem_cons_of_mem _ ht), by simp only [List.length_cons]; omega, by dsimp only; omega, ?_⟩ (by simp) (by exact leGo take_cT)
         rw [gt_iff_lt, sgQ_gt] at h5
         rw [← hiff, hb1]
         exact ⟨fun h => ⟨by grind, h⟩, fun h => h.2⟩
set_option maxHeartbeats 8000000
def tabL (n : Nat) (c : Nat → List D) : List (List D) := (List.range n).map c
theorem tab_len (n : Nat) (c : Nat → List D) : (tabL n c).length = n := by simp [tabL]
theorem tab_get {n k : Nat} (c : Nat → List D) (h : k < n) : (tabL n c)[k]? = some (c k) := by simp [tabL, h]
theorem tab_congr {n : Nat} {c d : Nat → List D} (h : ∀ u, u < n → c u = d u) : tabL n c = tabL n d := List.map_congr_left fun u hu => h u (List.mem_range.1 hu)
theorem tab_set {n k : Nat} (c : Nat → List D) (x : List D) : (tabL n c).set k x = tabL n (fun u => if u = k then x else c u) := by
 apply List.ext_getElem
 · simp [tabL]
 · intro i h1 h2
   simp only [tabL, List.length_map, List.length_range] at h2
   rw [List.getElem_set]
   simp only [tabL, List.getElem_map, List.getElem_range]
   by_cases e : k = i
   · subst e; simp
   · rw [if_neg e, if_neg (Ne.symm e)]
theorem tab_rep (n : Nat) (z : List D) : List.replicate n z = tabL n (fun _ => z) := by
 unfold tabL; rw [List.map_const', List.length_range]
abbrev zc : List D := [dI 0, .nil, dI 0, .nil]
theorem daddF_c (a : Rat) (f g : FracD) (hf : okF f = true) (hg : okF g = true) (za : (szQ a : Int) ≤ 34359750000) (zf : smF f) (zg : smF g) : Contract Tryz.prog 258 [encF (ofQ a), encF f, encF g] (encF (ofQ (a + qOf f * qOf g))) := by
 have := dadd_c a (qOf f) (qOf g) za (by rw [szF_ok hf]; exact zf) (by rw [szF_ok hg]; exact zg)
 rwa [← okF_eq hf, ← okF_eq hg] at this
def fillL (n k : Nat) : List (List D) := tabL n (fun v => if v < k then cF (ofQ 0) else zc)
theorem fill_zero (n : Nat) : fillL n 0 = List.replicate n zc := by rw [tab_rep]; exact tab_congr fun u _ => by rw [if_neg (by omega)]
theorem fill_len (n k : Nat) : (fillL n k).length = n := tab_len _ _
theorem fill_set (n k : Nat) : (fillL n k).set k (cF (ofQ 0)) = fillL n (k + 1) := by
 unfold fillL
 rw [tab_set]
 refine tab_congr fun u _ => ?_
 by_cases h : u = k
 · rw [if_pos h, if_pos (by omega)]
 · rw [if_neg h]
   by_cases h2 : u < k
   · rw [if_pos h2, if_pos (by omega)]
   · rw [if_neg h2, if_neg (by omega)]
def ratL (n : Nat) (c : Nat → Rat) : List (List D) := tabL n (fun v => cF (ofQ (c v)))
theorem rat_len (n : Nat) (c : Nat → Rat) : (ratL n c).length = n := tab_len _ _
theorem rat_get {n k : Nat} (c : Nat → Rat) (h : k < n) : (ratL n c)[k]? = some (cF (ofQ (c k))) := tab_get _ h
theorem rat_set {n k : Nat} (c : Nat → Rat) (q : Rat) : (ratL n c).set k (cF (ofQ q)) = ratL n (fun u => if u = k then q else c u) := by
 unfold ratL
 rw [tab_set]
 refine tab_congr fun u _ => ?_
 by_cases h : u = k <;> simp [h]
theorem rat_congr {n : Nat} {c d : Nat → Rat} (h : ∀ u, u < n → c u = d u) : ratL n c = ratL n d := tab_congr fun u hu => by rw [h u hu]
theorem fill_all (n : Nat) : fillL n n = ratL n (fun _ => 0) := tab_congr fun u hu => by rw [if_pos hu]
theorem ok_rat (n : Nat) (c : Nat → Rat) (keep : Nat → Bool) : (∀ e, e ∈ ratL n c → okDs keep e = true) ↔ True := by
 simp only [iff_true]
 intro e he
 obtain ⟨v, _, rfl⟩ := List.mem_map.1 he
 rfl
theorem ok_fill (n k : Nat) (keep : Nat → Bool) : (∀ e, e ∈ fillL n k → okDs keep e = true) ↔ True := by
 simp only [iff_true]
 intro e he
 obtain ⟨v, _, rfl⟩ := List.mem_map.1 he
 split <;> rfl
def sumsQ (s : SysD) (y : List FracD) (k : Nat) (v : Nat) : Rat := mixG (indI v) (s.r.take k) (y.take k)
def sumsJ (s : SysD) (y : List FracD) (k : Nat) (f : FracD) (t : List TermD) (j : Nat) (v : Nat) : Rat := sumsQ s y k v + qOf f * dotS (indI v) (t.take j)
theorem sumsJ_zero (s : SysD) (y : List FracD) (k : Nat) (f : FracD) (t : List TermD) (n : Nat) : ratL n (sumsJ s y k f t 0) = ratL n (sumsQ s y k) := rat_congr fun u _ => by unfold sumsJ; rw [List.take_zero]; simp only [dotS]; grind
theorem dot_take_succ {g : Int → Rat} {l : List TermD} {k : Nat} {t : TermD} (hx : l[k]? = some t) : dotS g (l.take (k + 1)) = dotS g (l.take k) + qOf t.f * g t.v := by
 rw [List.take_add_one, hx, Option.toList_some, dotS_append]; simp only [dotS]; grind
theorem sumsJ_succ (s : SysD) (y : List FracD) (k : Nat) (f : FracD) {l : List TermD} {j : Nat} {t : TermD} (ht : l[j]? = some t) (h0 : 0 ≤ t.v) (n : Nat) : (ratL n (sumsJ s y k f l j)).set t.v.toNat (cF (ofQ (sumsJ s y k f l j t.v.toNat + qOf f * qOf t.f))) = ratL n (sumsJ s y k f l (j + 1)) := by
 rw [rat_set]
 refine rat_congr fun u _ => ?_
 unfold sumsJ
 rw [dot_take_succ ht]
 simp only [indI]
 by_cases h : u = t.v.toNat
 · rw [if_pos h, if_pos (by omega), h]; grind
 · rw [if_neg h, if_neg (by omega)]; grind
theorem sumsQ_succ {s : SysD} {y : List FracD} {k : Nat} {w : RowD} {f : FracD} (hw : s.r[k]? = some w) (hf : y[k]? = some f) (n : Nat) : ratL n (sumsJ s y k f w.t w.t.length) = ratL n (sumsQ s y (k + 1)) := rat_congr fun u _ => by
 unfold sumsJ sumsQ; rw [mixG_add _ _ _ _ _ _ hw hf, List.take_length]
theorem sumsQ_skip {s : SysD} {y : List FracD} {k : Nat} {w : RowD} {f : FracD} (hw : s.r[k]? = some w) (hf : y[k]? = some f) (h0 : qOf f = 0) (n : Nat) : ratL n (sumsQ s y (k + 1)) = ratL n (sumsQ s y k) := rat_congr fun u _ => by
 unfold sumsQ; rw [mixG_add _ _ _ _ _ _ hw hf, h0]; grind
theorem sumsQ_zero (s : SysD) (y : List FracD) (n : Nat) : ratL n (sumsQ s y 0) = ratL n (fun _ => 0) := rat_congr fun u _ => by unfold sumsQ; rw [List.take_zero, mixG_nil]
theorem sz_part (A : Rat) (f : Rat) (v : Int) {B : Nat} : ∀ (l : List TermD), (∀ t ∈ l, szF t.f ≤ B ∧ okF t.f = true) → ∀ j, j ≤ l.length → szQ (A + f * dotS (indI v) (l.take j)) ≤ szQ A + j * (szQ f + B + 1) := by
 intro l hl j
 induction j with
 | zero =>
   intro _
   rw [List.take_zero, show A + f * dotS (indI v) [] = A by simp only [dotS]; grind]
   omega
 | succ j ih =>
   intro hj
   obtain ⟨t, ht⟩ := getE (l := l) (k := j) (by omega)
   obtain ⟨h1, h2⟩ := hl t (mem_at ht)
   have i1 := ih (by omega)
   rw [dot_take_succ ht, Nat.add_mul, Nat.one_mul]
   by_cases hv : t.v = v
   · rw [show A + f * (dotS (indI v) (l.take j) + qOf t.f * indI v t.v) = (A + f * dotS (indI v) (l.take j)) + f * qOf t.f by simp only [indI, if_pos hv]; grind]
     have i2 := szQ_add (A + f * dotS (indI v) (l.take j)) (f * qOf t.f)
     have i3 := szQ_mul f (qOf t.f)
     rw [szF_ok h2] at i3
     omega
   · rw [show A + f * (dotS (indI v) (l.take j) + qOf t.f * indI v t.v) = A + f * dotS (indI v) (l.take j) by simp only [indI, if_neg hv]; grind]
     omega
theorem sz_part' {A : Rat} {f : FracD} {w : RowD} {n : Int} (v : Int) (hf : tnF f) (ho : okF f = true) (hw : tnT w.t) (hr : rightT w.t n = true) {j : Nat} (hj : j ≤ w.t.length) : (szQ (A + qOf f * dotS (indI v) (w.t.take j)) : Int) ≤ szQ A + (j : Int) * 524289 := by
 have h := sz_part A (qOf f) v (B := 262144) w.t (fun t ht => ⟨by have := hw.2 t ht; unfold tnF at this; omega, (rightT_mem hr ht).2.2.1⟩) j hj
 rw [szF_ok ho] at h
 have h2 : szF f ≤ 262144 := by unfold tnF at hf; omega
 have h3 : j * (szF f + 262144 + 1) ≤ j * 524289 := Nat.mul_le_mul_left _ (by omega)
 have := Int.ofNat_le.2 (Nat.le_trans h (Nat.add_le_add_left h3 _))
 simp only [Int.natCast_add, Int.natCast_mul] at this
 omega
theorem rightW_T {s : SysD} (hr : rightS s = true) {w : RowD} (hw : w ∈ s.r) : rightT w.t s.n = true := by
 have := rightS_mem hr hw
 simp only [rightW, Bool.and_eq_true] at this
 exact this.1.1.1
theorem sz_sums {s : SysD} {y : List FracD} (hs : tnS s) (hy : tnFs y) (ho : okP y = true) (hr : rightS s = true) (v : Nat) : ∀ k, k ≤ y.length → k ≤ s.r.length → (szQ (sumsQ s y k v) : Int) ≤ 4 + (k : Int) * 33554496 := by
 intro k
 induction k with
 | zero => intro _ _; unfold sumsQ; rw [List.take_zero, mixG_nil]; have : szQ 0 ≤ 4 := szQ_int 0 (by decide) (by decide); omega
 | succ k ih =>
   intro h1 h2
   obtain ⟨f, hf⟩ := getE (l := y) (k := k) (by omega)
   obtain ⟨w, hw⟩ := getE (l := s.r) (k := k) (by omega)
   have sw := hs.2 w (mem_at hw)
   have h3 := sz_part' (A := sumsQ s y k v) v (hy.2 f (mem_at hf)) (List.all_eq_true.1 ho f (mem_at hf)) sw.1 (rightW_T hr (mem_at hw)) (Nat.le_refl _)
   have h4 := ih (by omega) (by omega)
   have h5 : (w.t.length : Int) ≤ 64 := sw.1.1
   have e : sumsQ s y (k + 1) v = sumsQ s y k v + qOf f * dotS (indI v) (w.t.take w.t.length) := by unfold sumsQ; rw [mixG_add _ _ _ _ _ _ hw hf, List.take_length]
   rw [e]
   omega
theorem sz_value {s : SysD} {y : List FracD} (hs : tnS s) (hy : tnFs y) (ho : okP y = true) (hr : rightS s = true) : ∀ k, k ≤ y.length → k ≤ s.r.length → (szQ (mixV (s.r.take k) (y.take k)) : Int) ≤ 4 + (k : Int) * 524289 := by
 intro k
 induction k with
 | zero => intro _ _; rw [List.take_zero, mixV_nil]; have : szQ 0 ≤ 4 := szQ_int 0 (by decide) (by decide); omega
 | succ k ih =>
   intro h1 h2
   obtain ⟨f, hf⟩ := getE (l := y) (k := k) (by omega)
   obtain ⟨w, hw⟩ := getE (l := s.r) (k := k) (by omega)
   have h3 := ih (by omega) (by omega)
   have zf : (szF f : Int) ≤ 262144 := hy.2 f (mem_at hf)
   have zv : (szF w.v : Int) ≤ 262144 := (hs.2 w (mem_at hw)).2
   have o1 := List.all_eq_true.1 ho f (mem_at hf)
   have o2 := (rightS_row hr (mem_at hw)).2.2.2
   rw [mixV_add _ _ _ _ _ hw hf]
   have i2 := szQ_add (mixV (s.r.take k) (y.take k)) (qOf f * qOf w.v)
   have i3 := szQ_mul (qOf f) (qOf w.v)
   rw [szF_ok o1, szF_ok o2] at i3
   omega
def valQ (s : SysD) (y : List FracD) (k : Nat) : Rat := mixV (s.r.take k) (y.take k)
theorem valQ_zero (s : SysD) (y : List FracD) : valQ s y 0 = 0 := by unfold valQ; rw [List.take_zero, mixV_nil]
theorem valQ_succ {s : SysD} {y : List FracD} {k : Nat} {w : RowD} {f : FracD} (hw : s.r[k]? = some w) (hf : y[k]? = some f) : valQ s y (k + 1) = valQ s y k + qOf f * qOf w.v := mixV_add _ _ _ _ _ hw hf
theorem termsOf_yes {n : Nat} {c : Nat → Rat} (h : c n ≠ 0) : termsOf (n + 1) c = termsOf n c ++ [⟨(n : Int), ofQ (c n)⟩] := by rw [termsOf_succ, if_neg h]
theorem termsOf_skip {n : Nat} {c : Nat → Rat} (h : c n = 0) : termsOf (n + 1) c = termsOf n c := by rw [termsOf_succ, if_pos h, List.append_nil]
theorem termsOf_zero (c : Nat → Rat) : termsOf 0 c = [] := rfl
theorem dmix_c (s : SysD) (y : List FracD) (hs : tnS s) (hy : tnFs y) : Contract Tryz.prog 239 [encS s, encFs y] (.tup [encTs (mixD9 s y).1, encF (mixD9 s y).2]) := by
 have hres := Tryz.results239
 have k1 := dmult_c s y hs.sm hy.sm
 cases h1 : mulOk s y
 · rw [h1] at k1
   refine inC Tryz.func239 rfl Tryz.ntmps239 ?_
   rw [show mixD9 s y = ([], zF) by simp [mixD9, h1]]
   refine aGo hres ?_
   repeat with_reducible intro K hK
   rfl
 rw [h1] at k1
 obtain ⟨hr, hlen, hok⟩ := mulOk_iff.1 h1
 have hn := rightS_n hr
 have hly := hy.1
 have kz := fint_c 0 (by decide) (by decide)
 rw [Rat.intCast_zero] at kz
 obtain ⟨N, hN⟩ : ∃ N, s.n.toNat = N := ⟨_, rfl⟩
 have hNn : s.n = (N : Int) := by omega
 have hrep : List.replicate s.n.toNat [D.v (.int .i64 0), D.nil, D.v (.int .i64 0), D.nil] = fillL N 0 := by rw [hN]; exact (fill_zero _).symm
 have hlf := fill_len N 0
 have n0 := hn.1
 have n1 : (24 : Int) * s.n ≤ 140737488355328 := by omega
 have n2 : s.n ≤ 9007199254740992 := by omega
 have n3 : s.n ≤ s.n := Int.le_refl _
 rw [show mixD9 s y = (mixT s y, ofQ (mixV s.r y)) by simp [mixD9, h1]]
 have hmix : mixT s y = termsOf N (fun v => mixG (indI v) s.r y) := by unfold mixT; rw [hN]
 rw [hmix]
 refine inC Tryz.func239 rfl Tryz.ntmps239 ?_
 refine aGo (cj4 hres hrep hlf (cj4 n0 n1 n2 n3)) ?_
 repeat with_reducible intro K hK
 refine aLoopT (fun (k : Nat) => [(1, encFs y), (2, .lp 0 0 0 0), (5, .lp 1 0 0 0), (6, .ls 2 1), (24, .ls 2 1), (25, dI N), (26, dI k)]) (fun k => [(0, ⟨24, 0, 2, [cS s], 0, false⟩), (1, ⟨32, 0, 4, [zc], 0, false⟩), (2, ⟨32, 1, 4, fillL N k, 0, false⟩)]) 3 0 (fun k => k ≤ N) (fun k => N - k) 0 (by omega) ?_ ?_
 · exact leGo (cj2 ok_rat ok_fill)
 · rintro k hk
   obtain ⟨hw, h0⟩ := wrap2 k
   have hl := fill_len N k
   by_cases h2 : (k : Int) < N
   · have hg : (fillL N k)[k]? = some zc := by unfold fillL; rw [tab_get _ (by omega), if_neg (by omega)]
     have hset := fill_set N k
     refine aGo (cj4 hres h0 h2 (cj4 hw hl hg (cj2 hset Nat.zero_le))) ?_
     repeat with_reducible intro K hK
     exact loop_end (k + 1) (by omega) (by omega) (by exact leGo (cj2 ok_rat ok_fill))
   · obtain rfl : k = N := by omega
     have hf0 : fillL k k = ratL k (sumsQ s y 0) := (fill_all k).trans (sumsQ_zero s y k).symm
     have hv0 := valQ_zero s y
     rw [hf0]
     refine aGo (cj2 hres h2) ?_
     repeat with_reducible intro K hK
     refine aLoopT (fun (i : Nat) => [(2, .lp 0 0 0 0), (5, .lp 1 0 0 0), (6, .ls 2 1), (8, .lp 3 0 0 0), (35, encFs y), (36, dI y.length), (37, dI i)]) (fun i => [(0, ⟨24, 0, 2, [cS s], 0, false⟩), (1, ⟨32, 0, 4, [zc], 0, false⟩), (2, ⟨32, 1, 4, ratL k (sumsQ s y i), 0, false⟩), (3, ⟨32, 0, 4, [cF (ofQ (valQ s y i))], 0, false⟩)]) 4 0 (fun i => i ≤ y.length) (fun i => y.length - i) 0 (by omega) ?_ ?_
     · exact leGo (cj3 ok_rat ok_fill hv0)
     · rintro i hi
       obtain ⟨hwi, i0⟩ := wrap2 i
       have hli := rat_len k (sumsQ s y i)
       by_cases h3 : (i : Int) < y.length
       · obtain ⟨f, hf⟩ := getE (l := y) (k := i) (by omega)
         obtain ⟨w, hrw⟩ := getE (l := s.r) (k := i) (by omega)
         have h3b : (i : Int) < s.r.length := by omega
         have tf := hy.2 f (mem_at hf)
         have tw := hs.2 w (mem_at hrw)
         have of := List.all_eq_true.1 hok f (mem_at hf)
         have ow := (rightS_row hr (mem_at hrw)).2.2.2
         have rw' := rightW_T hr (mem_at hrw)
         have ks := fsign_c f (smF_i tf.sm)
         cases h4 : sgnD f == 0
         rotate_left
         · have q0 : qOf f = 0 := by
             have : sgnD f = 0 := by simpa using h4
             simp only [sgnD, of, if_true] at this
             exact sgQ_zero.1 this
           have e1 := sumsQ_skip hrw hf q0 k
           have e2 : valQ s y (i + 1) = valQ s y i := by rw [valQ_succ hrw hf, q0]; grind
           refine aGo (cj4 hres i0 h3 (cj4 h3b hf hrw (cj2 hwi h4))) ?_
           repeat with_reducible intro K hK
           exact loop_end (i + 1) (by omega) (by omega) (by exact leGo (cj4 ok_rat ok_fill e1 e2))
         · refine aGo (cj4 hres i0 h3 (cj4 h3b hf hrw (cj2 hwi h4))) ?_
           repeat with_reducible intro K hK
           have hj0 := sumsJ_zero s y i f w.t k
           have hlw := tw.1.1
           refine aLoopT (fun (j : Nat) => [(2, .lp 0 0 0 0), (5, .lp 1 0 0 0), (6, .ls 2 1), (8, .lp 3 0 0 0), (9, dI i), (10, .lp 4 0 0 0), (35, encFs y), (36, dI y.length), (37, dI i), (50, encTs w.t), (51, dI w.t.length), (52, dI j)]) (fun j => [(0, ⟨24, 0, 2, [cS s], 0, false⟩), (1, ⟨32, 0, 4, [zc], 0, false⟩), (2, ⟨32, 1, 4, ratL k (sumsJ s y i f w.t j), 0, false⟩), (3, ⟨32, 0, 4, [cF (ofQ (valQ s y i))], 0, false⟩), (4, ⟨32, 0, 4, [cF f], 0, false⟩)]) 5 0 (fun j => j ≤ w.t.length) (fun j => w.t.length - j) 0 (by omega) ?_ ?_
           · exact leGo (cj3 ok_rat ok_fill hj0)
           · rintro j hj
             obtain ⟨hwj, j0⟩ := wrap2 j
             have hlj := rat_len k (sumsJ s y i f w.t j)
             by_cases h5 : (j : Int) < w.t.length
             · obtain ⟨t, ht⟩ := getE (l := w.t) (k := j) (by omega)
               obtain ⟨t0, t1, t2, _⟩ := rightT_mem rw' (mem_at ht)
               rw [hNn] at t1
               have hg := rat_get (n := k) (sumsJ s y i f w.t j) (k := t.v.toNat) (by omega)
               have hset := sumsJ_succ s y i f ht t0 k
               have z1 := sz_sums hs hy hok hr t.v.toNat i hi (by omega)
               have z2 := sz_part' (A := sumsQ s y i t.v.toNat) (n := s.n) t.v.toNat tf of tw.1 rw' hj
               have ka := daddF_c (sumsJ s y i f w.t j t.v.toNat) f t.f of t2 (by unfold sumsJ; omega) tf.sm (tw.1.2 t (mem_at ht)).sm
               refine aGo (cj4 hres j0 h5 (cj4 ht t0 t1 (cj4 hg hset hlj (cj2 hwj Nat.zero_le)))) ?_
               repeat with_reducible intro K hK
               exact loop_end (j + 1) (by omega) (by omega) (by exact leGo (cj2 ok_rat ok_fill))
             · obtain rfl : j = w.t.length := by omega
               have e1 := sumsQ_succ hrw hf k
               have e2 := valQ_succ hrw hf
               have zv := sz_value hs hy hok hr i hi (by omega)
               have ka := daddF_c (valQ s y i) f w.v of ow (by unfold valQ; omega) tf.sm tw.2.sm
               refine aGo (cj4 hres h5 i0 (cj3 h3b hrw hwi)) ?_
               repeat with_reducible intro K hK
               exact loop_end (i + 1) (by omega) (by omega) (by exact leGo (cj4 ok_rat ok_fill e1 e2))
       · obtain rfl : i = y.length := by omega
         obtain ⟨c, hc⟩ : ∃ c : Nat → Rat, (fun v : Nat => mixG (indI v) s.r y) = c := ⟨_, rfl⟩
         have e1 : ratL k (sumsQ s y y.length) = ratL k c := rat_congr fun u _ => by
          rw [← hc]; unfold sumsQ; rw [hlen, List.take_length, ← hlen, List.take_length]
         have e2 : valQ s y y.length = mixV s.r y := by unfold valQ; rw [hlen, List.take_length, ← hlen, List.take_length]
         have zc' : ∀ u, (szQ (c u) : Int) ≤ 549755813888 := fun u => by
          have h := sz_sums hs hy hok hr u y.length (Nat.le_refl _) (by omega)
          unfold sumsQ at h
          rw [hlen, List.take_length, ← hlen, List.take_length] at h
          rw [← hc]; dsimp only; omega
         rw [e1, e2]
         have hlc := rat_len k c
         refine aGo (cj3 hres h3 hlc) ?_
         repeat with_reducible intro K hK
         refine aLe (le_row 13 107 5 rfl) ?_
         have ht0 := termsOf_zero c
         refine aLoopT (fun (u : Nat) => [(5, .lp 1 0 0 0), (8, .lp 3 0 0 0), (13, .ls 4 (termsOf u c).length), (80, .ls 2 1), (81, dI k), (82, dI u)]) (fun u => [(1, ⟨32, 0, 4, [zc], 0, false⟩), (2, ⟨32, 1, 4, ratL k c, 0, false⟩), (3, ⟨32, 0, 4, [cF (ofQ (mixV s.r y))], 0, false⟩), (4, ⟨107, (termsOf u c).length, 5, (termsOf u c).map cT, 0, false⟩)]) 5 0 (fun u => u ≤ k) (fun u => k - u) 0 (by omega) ?_ ?_
         · exact leGo (cj3 ok_rat ok_fill ht0)
         · rintro u hu
           obtain ⟨hwu, u0⟩ := wrap2 u
           have htl := termsOf_len c u
           by_cases h6 : (u : Int) < k
           · have hg := rat_get c (show u < k by omega)
             have ks := fsign_c (ofQ (c u)) (by rw [szQ_ofQ]; exact zc' u)
             rw [sgnD_ofQ] at ks
             by_cases h7 : c u = 0
             · have h8 : (sgQ (c u) != 0) = false := by simp [sgQ_zero.2 h7]
               have e3 := termsOf_skip h7
               refine aGo (cj4 hres u0 h6 (cj4 hg hlc hwu h8)) ?_
               repeat with_reducible intro K hK
               exact loop_end (u + 1) (by omega) (by omega) (by exact leGo (cj3 ok_rat ok_fill e3))
             · have h8 : (sgQ (c u) != 0) = true := by simp [sgQ_zero, h7]
               have e3 := termsOf_yes h7
               refine aGo (cj4 hres u0 h6 (cj4 hg hlc hwu h8)) ?_
               repeat with_reducible intro K hK
               exact loop_end (u + 1) (by omega) (by omega) (by exact leGo (cj3 ok_rat ok_fill e3))
           · obtain rfl : u = k := by omega
             refine aGo (cj2 hres h6) ?_
             repeat with_reducible intro K hK
             rw [map_map_id (fun _ => rfl), hc]
theorem belowB_eq {n : Nat} {a b : List TermD} (ha : rightT a n = true) (hb : rightT b n = true) : belowB a b = belowN n a b := by
 rw [Bool.eq_iff_iff, belowB_iff, belowN_iff ha hb]
theorem termsOf_mem {n : Nat} {c : Nat → Rat} {t : TermD} (h : t ∈ termsOf n c) : ∃ v, v < n ∧ t = ⟨(v : Int), ofQ (c v)⟩ := by
 unfold termsOf at h
 obtain ⟨v, hv, e⟩ := List.mem_filterMap.1 h
 split at e
 · cases e
 · cases e; exact ⟨v, List.mem_range.1 hv, rfl⟩
theorem mixT_wk {s : SysD} {y : List FracD} (hs : tnS s) (hy : tnFs y) (hm : mulOk s y = true) : wkT (mixT s y) := by
 obtain ⟨hr, hlen, hok⟩ := mulOk_iff.1 hm
 have hn := rightS_n hr
 have hly := hy.1
 refine ⟨by have := termsOf_len (fun v => mixG (indI v) s.r y) s.n.toNat; unfold mixT; omega, fun t ht => ?_⟩
 obtain ⟨v, _, rfl⟩ := termsOf_mem ht
 have h := sz_sums hs hy hok hr v y.length (Nat.le_refl _) (by omega)
 unfold sumsQ at h
 rw [hlen, List.take_length, ← hlen, List.take_length] at h
 rw [szQ_ofQ]
 omega
theorem sz_mixV {s : SysD} {y : List FracD} (hs : tnS s) (hy : tnFs y) (hm : mulOk s y = true) : (szQ (mixV s.r y) : Int) ≤ 33554500 := by
 obtain ⟨hr, hlen, hok⟩ := mulOk_iff.1 hm
 have h := sz_value hs hy hok hr y.length (Nat.le_refl _) (by omega)
 have hly := hy.1
 rw [hlen, List.take_length, ← hlen, List.take_length] at h
 omega
theorem tupL_no {s : SysD} {goal : List TermD} {y : List FracD} (h : (signedD s y && rightT goal s.n && belowN s.n.toNat (mixT s y) goal) = false) : D.tup [encF zF, dB false] = D.tup [encF (lowerD s goal y).1, dB (lowerD s goal y).2] := by
 unfold lowerD; rw [h]; rfl
theorem dlower_c (s : SysD) (goal : List TermD) (y : List FracD) (hs : tnS s) (hg : smT goal) (hy : tnFs y) : Contract Tryz.prog 200 [encS s, encTs goal, encFs y] (.tup [encF (lowerD s goal y).1, dB (lowerD s goal y).2]) := by
 have hres := Tryz.results200
 have k1 := dsigned_c s y hs.sm hy.sm
 have k2 := lright_c goal s.n hg
 cases h1 : signedD s y
 · rw [h1] at k1
   refine inC Tryz.func200 rfl Tryz.ntmps200 ?_
   refine aGo hres ?_
   repeat with_reducible intro K hK
   exact tupL_no (by rw [h1]; rfl)
 rw [h1] at k1
 cases h2 : rightT goal s.n
 · rw [h2] at k2
   refine inC Tryz.func200 rfl Tryz.ntmps200 ?_
   refine aGo hres ?_
   repeat with_reducible intro K hK
   exact tupL_no (by rw [h2]; simp)
 rw [h2] at k2
 have hm : mulOk s y = true := by simp only [signedD, Bool.and_eq_true] at h1; exact h1.1
 obtain ⟨hr, hlen, hok⟩ := mulOk_iff.1 hm
 have k3 := dmix_c s y hs hy
 rw [show mixD9 s y = (mixT s y, ofQ (mixV s.r y)) by simp [mixD9, hm]] at k3
 have k4 := dbelow_c s.n.toNat (mixT s y) goal (mixT_right hr y) (right_toNat h2) (mixT_wk hs hy hm) hg.wk
 rw [belowB_eq (mixT_right hr y) (right_toNat h2)] at k4
 cases h3 : belowN s.n.toNat (mixT s y) goal
 · rw [h3] at k4
   refine inC Tryz.func200 rfl Tryz.ntmps200 ?_
   refine aGo hres ?_
   repeat with_reducible intro K hK
   exact tupL_no (by rw [h3, Bool.and_false])
 · rw [h3] at k4
   refine inC Tryz.func200 rfl Tryz.ntmps200 ?_
   rw [show lowerD s goal y = (ofQ (mixV s.r y), true) by simp [lowerD, h1, h2, h3]]
   exact aGo hres trivial
theorem sz_lower {s : SysD} {goal : List TermD} {y : List FracD} (hs : tnS s) (hy : tnFs y) : (szF (lowerD s goal y).1 : Int) ≤ 33554500 := by
 unfold lowerD
 split
 · rename_i h
   simp only [Bool.and_eq_true, signedD] at h
   exact sz_mixV hs hy h.1.1.1
 · show (szF zF : Int) ≤ _
   decide
theorem drefutes_c (s : SysD) (y : List FracD) (hs : tnS s) (hy : tnFs y) : Contract Tryz.prog 132 [encS s, encFs y] (dB (refutesD s y)) := by
 have hres := Tryz.results132
 have k1 := dlower_c s [] y hs ⟨by decide, fun t ht => by cases ht⟩ hy
 have z := sz_lower (goal := []) hs hy
 have k2 := fsign_c (lowerD s [] y).1 (by omega)
 have e : refutesD s y = ((lowerD s [] y).2 && decide (sgnD (lowerD s [] y).1 > 0)) := rfl
 cases h : (lowerD s [] y).2
 · rw [h] at k1
   refine inC Tryz.func132 rfl Tryz.ntmps132 ?_
   refine aGo hres ?_
   repeat with_reducible intro K hK
   exact bool_eq (by rw [e, h]; rfl)
 · rw [h] at k1
   refine inC Tryz.func132 rfl Tryz.ntmps132 ?_
   refine aGo hres ?_
   repeat with_reducible intro K hK
   exact bool_eq (by rw [e, h]; rfl)
theorem ray_false {s : SysD} {goal : List TermD} {d : List FracD} (h : rayD s goal d = false) : D.v (.bool false) = dB (rayD s goal d) := bool_eq h.symm
theorem dray_c (s : SysD) (goal : List TermD) (d : List FracD) (hs : smS s) (hg : smT goal) (hd : smFs d) : Contract Tryz.prog 206 [encS s, encTs goal, encFs d] (dB (rayD s goal d)) := by
 have hres := Tryz.results206
 have hl := smS_len hs
 have hlx := smFs_len hd
 have k1 := lrightS_c s hs
 have k2 := lright_c goal s.n hg
 cases h1 : rightS s
 · rw [h1] at k1
   refine inC Tryz.func206 rfl Tryz.ntmps206 ?_
   refine aGo hres ?_
   repeat with_reducible intro K hK
   exact ray_false (by simp [rayD, h1])
 rw [h1] at k1
 cases h2 : rightT goal s.n
 · rw [h2] at k2
   refine inC Tryz.func206 rfl Tryz.ntmps206 ?_
   refine aGo hres ?_
   repeat with_reducible intro K hK
   exact ray_false (by simp [rayD, h2])
 rw [h2] at k2
 cases h3 : (d.length : Int) != s.n
 rotate_left
 · refine inC Tryz.func206 rfl Tryz.ntmps206 ?_
   refine aGo (cj2 hres h3) ?_
   repeat with_reducible intro K hK
   exact ray_false (by simp at h3; simp [rayD, h3])
 have hn : (d.length : Int) = s.n := by simpa using h3
 refine inC Tryz.func206 rfl Tryz.ntmps206 ?_
 refine aGo (cj2 hres h3) ?_
 repeat with_reducible intro K hK
 refine aLoopT (fun (k : Nat) => [(1, encTs goal), (2, encFs d), (3, .lp 0 0 0 0), (33, encFs d), (34, dI d.length), (35, dI k)]) (fun k => [(0, ⟨24, 0, 2, [cS s], 0, false⟩)]) 1 0 (fun k => k ≤ d.length ∧ (d.take k).all okF = true ∧ (d.take k).all (fun f => decide (0 ≤ sgnD f)) = true) (fun k => d.length - k) 0 ⟨by omega, rfl, rfl⟩ ?_ ?_
 · exact leGo trivial
 · rintro k ⟨hk, hg1, hg2⟩
   obtain ⟨hw, h0⟩ := wrap2 k
   by_cases h4 : (k : Int) < d.length
   · obtain ⟨f, hx⟩ := getE (l := d) (k := k) (by omega)
     have k3 := fsign_c f (smF_i (hd.2 f (mem_at hx)))
     have k4 := fright_c f (smF_i (hd.2 f (mem_at hx)))
     cases h5 : okF f
     · rw [h5] at k4
       refine aGo (cj4 hres h0 h4 (cj2 hx hw)) ?_
       repeat with_reducible intro K hK
       exact ray_false (by simp [rayD, okP, all_not hx h5])
     rw [h5] at k4
     by_cases h6 : sgnD f < 0
     · refine aGo (cj4 hres h0 h4 (cj3 hx hw h6)) ?_
       repeat with_reducible intro K hK
       exact ray_false (by have : nonneg d = false := all_not hx (by simp; omega); simp [rayD, this])
     · refine aGo (cj4 hres h0 h4 (cj3 hx hw h6)) ?_
       repeat with_reducible intro K hK
       exact loop_end (k + 1) ⟨by omega, all_take_succ hx hg1 h5, all_take_succ hx hg2 (by simp; omega)⟩ (by omega) (by exact leGo trivial)
   · rw [List.take_of_length_le (by omega)] at hg1 hg2
     refine aGo (cj2 hres h4) ?_
     repeat with_reducible intro K hK
     refine aLoopT (fun (k : Nat) => [(1, encTs goal), (2, encFs d), (49, encWs s.r), (50, dI s.r.length), (51, dI k)]) (fun k => []) 0 0 (fun k => k ≤ s.r.length ∧ (s.r.take k).all (fun w => fitsK w.k (sgQ (dotD w.t d))) = true) (fun k => s.r.length - k) 0 ⟨by omega, rfl⟩ ?_ ?_
     · exact leGo trivial
     · rintro k ⟨hk, hr⟩
       obtain ⟨hw, h0⟩ := wrap2 k
       by_cases h4 : (k : Int) < s.r.length
       · obtain ⟨w, hx⟩ := getE (l := s.r) (k := k) (by omega)
         obtain ⟨h6, h7⟩ := holdsS_at h1 hn hx
         have sm := hs.2 w (mem_at hx)
         have k3 := lValue_c w.t d sm.1 hd
         rw [valueD_yes (by rw [h6, show okP d = true from hg1]; rfl)] at k3
         have k4 := fsign_c (ofQ (dotD w.t d)) (by have := szF_dot w d sm.1 hd h6 hg1; omega)
         rw [sgnD_ofQ] at k4
         have bad : fitsK w.k (sgQ (dotD w.t d)) = false → D.v (.bool false) = dB (rayD s goal d) := fun h => ray_false (by simp [rayD, all_not (p := fun w : RowD => fitsK w.k (sgQ (dotD w.t d))) hx h])
         have good : fitsK w.k (sgQ (dotD w.t d)) = true → (s.r.take (k + 1)).all (fun w => fitsK w.k (sgQ (dotD w.t d))) = true := fun h => all_take_succ (p := fun w : RowD => fitsK w.k (sgQ (dotD w.t d))) hx hr h
         generalize sgQ (dotD w.t d) = c at *
         by_cases g1 : c < 0
         · have g3 : ¬ c > 0 := by omega
           cases g2 : w.k != 1
           · refine aGo (cj4 hres h0 h4 (cj4 hx hw g1 (cj2 g2 g3))) ?_
             repeat with_reducible intro K hK
             exact loop_end (k + 1) ⟨by omega, good (by simp at g2; simp [fitsK, g2]; omega)⟩ (by omega) (by exact leGo trivial)
           · refine aGo (cj4 hres h0 h4 (cj4 hx hw g1 (cj2 g2 g3))) ?_
             repeat with_reducible intro K hK
             exact bad (by simp at g2; simp [fitsK, g2]; omega)
         by_cases g3 : c > 0
         · cases g2 : w.k != 0
           · refine aGo (cj4 hres h0 h4 (cj4 hx hw g1 (cj2 g2 g3))) ?_
             repeat with_reducible intro K hK
             exact loop_end (k + 1) ⟨by omega, good (by simp at g2; simp [fitsK, g2]; omega)⟩ (by omega) (by exact leGo trivial)
           · refine aGo (cj4 hres h0 h4 (cj4 hx hw g1 (cj2 g2 g3))) ?_
             repeat with_reducible intro K hK
             exact bad (by simp at g2; simp [fitsK, g2]; omega)
         · refine aGo (cj4 hres h0 h4 (cj4 hx hw g1 g3)) ?_
           repeat with_reducible intro K hK
           exact loop_end (k + 1) ⟨by omega, good (by simp [fitsK]; omega)⟩ (by omega) (by exact leGo trivial)
       · rw [List.take_of_length_le (by omega)] at hr
         have k3 := lValue_c goal d hg hd
         rw [valueD_yes (by rw [hn, h2, show okP d = true from hg1]; rfl)] at k3
         have k4 := fsign_c (ofQ (dotD goal d)) (by have := szF_dot ⟨goal, 0, zF⟩ d hg hd (by rw [hn]; exact h2) hg1; dsimp only at this; omega)
         rw [sgnD_ofQ] at k4
         refine aGo (cj2 hres h4) ?_
         repeat with_reducible intro K hK
         exact bool_eq (by simp only [rayD, h1, h2, hn, okP, nonneg, hg1, hg2, hr, decide_true, Bool.and_self, Bool.true_and])
theorem dempty_c (f : FracD) : ContractN Tryz.prog 205 [encF f] (dB (sameF f zF)) := by
 refine Contract.toN ?_ rfl
 have hres := Tryz.results205
 have e : sameF f zF = (f.p.s == 0 && f.q.s == 0 && ((f.p.d.length : Int) == 0) && ((f.q.d.length : Int) == 0)) := by
  rw [Bool.eq_iff_iff, sameF_iff]
  cases f with | mk p q => cases p with | mk a b => cases q with | mk c d =>
  simp [zF, zB, List.length_eq_zero_iff]
  constructor
  · rintro ⟨⟨rfl, rfl⟩, rfl, rfl⟩; simp
  · rintro ⟨⟨⟨rfl, rfl⟩, h1⟩, h2⟩
    exact ⟨⟨rfl, by simpa using h1⟩, rfl, by simpa using h2⟩
 rw [e]
 refine inC Tryz.func205 rfl Tryz.ntmps205 ?_
 cases h1 : f.p.s == 0
 · exact aGo (cj2 hres h1) trivial
 cases h2 : f.q.s == 0
 · exact aGo (cj3 hres h1 h2) trivial
 cases h3 : (f.p.d.length : Int) == 0
 · exact aGo (cj4 hres h1 h2 h3) trivial
 exact aGo (cj4 hres h1 h2 h3) trivial
theorem isE {α : Type} (l : List α) : l.isEmpty = ((l.length : Int) == 0) := by
 cases l with
 | nil => rfl
 | cons x l => simp; omega
def tnO (o : OptD) : Prop := tnF o.v ∧ tnFs o.x ∧ tnFs o.y ∧ tnFs o.d
theorem dcheck_c (s : SysD) (goal : List TermD) (o : OptD) (hs : tnS s) (hg : smT goal) (ho : tnO o) : Contract Tryz.prog 143 [encS s, encTs goal, encO o] (dB (checkD s goal o)) := by
 have hres := Tryz.results143
 have k1 := lrightS_c s hs.sm
 have k2 := lright_c goal s.n hg
 cases h1 : rightS s
 · rw [h1] at k1
   refine inC Tryz.func143 rfl Tryz.ntmps143 ?_
   refine aGo hres ?_
   repeat with_reducible intro K hK
   exact bool_eq (by simp [checkD, h1])
 rw [h1] at k1
 cases h2 : rightT goal s.n
 · rw [h2] at k2
   refine inC Tryz.func143 rfl Tryz.ntmps143 ?_
   refine aGo hres ?_
   repeat with_reducible intro K hK
   exact bool_eq (by simp [checkD, h2])
 rw [h2] at k2
 have c1 := dlower_c s goal o.y hs hg ho.2.2.1
 have c2 := lValue_c goal o.x hg ho.2.1.sm
 have c3 := lholds_c s o.x hs.sm ho.2.1.sm
 have c4 := fsame_c (valueD goal o.x).1 o.v
 have c5 := fsame_c (lowerD s goal o.y).1 o.v
 have c6 := drefutes_c s o.y hs ho.2.2.1
 have c7 := dempty_c o.v
 have c8 := dray_c s goal o.d hs.sm hg ho.2.2.2.sm
 cases e0 : o.k == 0
 rotate_left
 · have e0' : o.k = 0 := by simpa using e0
   have hd : checkD s goal o = ((lowerD s goal o.y).2 && holdsS s o.x && sameF (valueD goal o.x).1 o.v && sameF (lowerD s goal o.y).1 o.v && ((o.d.length : Int) == 0)) := by
    simp only [checkD, h1, h2, e0', if_true, Bool.true_and, isE]
   rw [hd]
   refine inC Tryz.func143 rfl Tryz.ntmps143 ?_
   cases d1 : (lowerD s goal o.y).2
   · rw [d1] at c1
     exact aGo (cj2 hres e0) trivial
   rw [d1] at c1
   cases d2 : holdsS s o.x
   · rw [d2] at c3
     exact aGo (cj2 hres e0) trivial
   rw [d2] at c3
   cases d3 : sameF (valueD goal o.x).1 o.v
   · rw [d3] at c4
     exact aGo (cj2 hres e0) trivial
   rw [d3] at c4
   cases d4 : sameF (lowerD s goal o.y).1 o.v
   · rw [d4] at c5
     exact aGo (cj2 hres e0) trivial
   rw [d4] at c5
   exact aGo (cj2 hres e0) trivial
 have e0' : ¬ o.k = 0 := by simpa using e0
 cases e1 : o.k == 1
 rotate_left
 · have e1' : o.k = 1 := by simpa using e1
   have hd : checkD s goal o = (refutesD s o.y && ((o.x.length : Int) == 0) && ((o.d.length : Int) == 0) && sameF o.v zF) := by
    simp only [checkD, h1, h2, e0', e1', if_true, if_false, Bool.true_and, isE]
    rfl
   rw [hd]
   refine inC Tryz.func143 rfl Tryz.ntmps143 ?_
   cases d1 : refutesD s o.y
   · rw [d1] at c6
     exact aGo (cj3 hres e0 e1) trivial
   rw [d1] at c6
   cases d2 : (o.x.length : Int) == 0
   · exact aGo (cj4 hres e0 e1 d2) trivial
   cases d3 : (o.d.length : Int) == 0
   · exact aGo (cj4 hres e0 e1 (cj2 d2 d3)) trivial
   exact aGo (cj4 hres e0 e1 (cj2 d2 d3)) trivial
 have e1' : ¬ o.k = 1 := by simpa using e1
 cases e2 : o.k == 2
 rotate_left
 · have e2' : o.k = 2 := by simpa using e2
   have hd : checkD s goal o = (holdsS s o.x && rayD s goal o.d && ((o.y.length : Int) == 0) && sameF o.v zF) := by
    simp only [checkD, h1, h2, e2', if_true, Bool.true_and, isE]
    rfl
   rw [hd]
   refine inC Tryz.func143 rfl Tryz.ntmps143 ?_
   cases d1 : holdsS s o.x
   · rw [d1] at c3
     exact aGo (cj4 hres e0 e1 e2) trivial
   rw [d1] at c3
   cases d2 : rayD s goal o.d
   · rw [d2] at c8
     exact aGo (cj4 hres e0 e1 e2) trivial
   rw [d2] at c8
   cases d3 : (o.y.length : Int) == 0
   · exact aGo (cj4 hres e0 e1 (cj2 e2 d3)) trivial
   exact aGo (cj4 hres e0 e1 (cj2 e2 d3)) trivial
 have e2' : ¬ o.k = 2 := by simpa using e2
 refine inC Tryz.func143 rfl Tryz.ntmps143 ?_
 refine aGo (cj4 hres e0 e1 e2) ?_
 repeat with_reducible intro K hK
 exact bool_eq (by simp [checkD, h1, h2, e0', e1', e2'])
end Go.Proofs.YtpkdhmnlpnijhaaGreat
