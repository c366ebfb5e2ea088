/-
  The reference for layer 9: Fracs, Signed, Coef, plus, Mix.
-/
import Derived.Test.YtpkdhmnlpnijhaaGreatPDualX
import Derived.Test.YtpkdhmnlpnijhaaGreatPDualW
import Derived.Test.YtpkdhmnlpnijhaaGreatPSimC
namespace Go.Proofs.YtpkdhmnlpnijhaaGreat
set_option linter.unusedVariables false
set_option linter.unusedSimpArgs false
set_option linter.unusedSectionVars false
open Go Go.RowKit
set_option maxRecDepth 100000
set_option maxHeartbeats 8000000
theorem fracs9_c (x : List FracD) (n : Int) (hs : smFs x) : ContractN Tryz.prog 242 [encFs x, dI n] (dB (okP x && decide ((x.length : Int) = n))) := by
 refine Contract.toN ?_ rfl
 have hres := Tryz.results242
 have hl := smFs_len hs
 refine inC Tryz.func242 rfl Tryz.ntmps242 ?_
 refine aGo hres ?_
 repeat with_reducible intro K hK
 refine aLoopT (fun (k : Nat) => [(0, encFs x), (1, dI n), (5, dI k)]) (fun _ => []) 0 0 (fun k => k ≤ x.length ∧ (x.take k).all okF = true) (fun k => x.length - k) 0 ⟨by omega, rfl⟩ ?_ ?_
 · exact leGo trivial
 · rintro k ⟨hk, hg⟩
   have hw := wrap1 k
   have h0 : (0 : Int) ≤ k := by omega
   by_cases h4 : (k : Int) < x.length
   · obtain ⟨f, hx⟩ := getE (l := x) (k := k) (by omega)
     have hc := (rrightF_c f (smF_i (hs.2 f (mem_at hx)))).toN rfl
     cases h5 : okF f
     · rw [h5] at hc
       refine aGo (cj4 hres h0 h4 (cj2 hx hw)) ?_
       repeat with_reducible intro K hK
       exact bool_eq (by simp only [okP, all_not hx h5, Bool.false_and])
     · rw [h5] at hc
       refine aGo (cj4 hres h0 h4 (cj2 hx hw)) ?_
       repeat with_reducible intro K hK
       exact loop_end (k + 1) ⟨by omega, all_take_succ hx hg h5⟩ (by omega) (by exact leGo trivial)
   · rw [List.take_of_length_le (by omega)] at hg
     by_cases h6 : (x.length : Int) = n
     · have h7 : ((x.length : Int) == n) = true := by simp [h6]
       refine aGo (cj3 hres h4 h7) ?_
       repeat with_reducible intro K hK
       exact bool_eq (by simp only [okP, hg, h6, decide_true, Bool.and_self])
     · have h7 : ((x.length : Int) == n) = false := by simp [h6]
       refine aGo (cj3 hres h4 h7) ?_
       repeat with_reducible intro K hK
       exact bool_eq (by simp only [okP, hg, h6, decide_false, Bool.and_false])
theorem signed9_c (s : SysD) (y : List FracD) (hs : smS s) (hy : smFs y) : ContractN Tryz.prog 207 [encS s, encFs y] (dB (signedD s y)) := by
 refine Contract.toN ?_ rfl
 have hres := Tryz.results207
 have hl := smFs_len hy
 have k1 := rrightS_c s hs
 have k3 := fracs9_c y s.r.length hy
 cases h1 : rightS s
 · rw [h1] at k1
   refine inC Tryz.func207 rfl Tryz.ntmps207 ?_
   refine aGo hres ?_
   repeat with_reducible intro K hK
   exact bool_eq (by simp [signedD, mulOk, h1])
 rw [h1] at k1
 cases h2 : (okP y && decide ((y.length : Int) = s.r.length))
 · rw [h2] at k3
   refine inC Tryz.func207 rfl Tryz.ntmps207 ?_
   refine aGo hres ?_
   repeat with_reducible intro K hK
   exact bool_eq (by unfold signedD mulOk; rw [h1, Bool.true_and, Bool.and_comm (decide _), h2, Bool.false_and])
 rw [h2] at k3
 have hm : mulOk s y = true := by unfold mulOk; rw [h1, Bool.true_and, Bool.and_comm (decide _), h2]
 obtain ⟨hr, hlen, hok⟩ := mulOk_iff.1 hm
 have hzl : (s.r.zip y).length = y.length := by rw [List.length_zip]; omega
 refine inC Tryz.func207 rfl Tryz.ntmps207 ?_
 refine aGo hres ?_
 repeat with_reducible intro K hK
 refine aLoopT (fun (k : Nat) => [(1, encFs y), (2, .lp 0 0 0 0), (5, dI k)]) (fun _ => [(0, ⟨24, 0, 2, [cS s], 0, false⟩)]) 1 0 (fun k => k ≤ y.length ∧ ((s.r.zip y).take k).all (fun p => signOk p.1 p.2) = true) (fun k => y.length - k) 0 ⟨by omega, rfl⟩ ?_ ?_
 · exact leGo trivial
 · rintro k ⟨hk, hg⟩
   have hw := wrap1 k
   have h0 : (0 : Int) ≤ k := by omega
   by_cases h4 : (k : Int) < y.length
   · obtain ⟨f, hx⟩ := getE (l := y) (k := k) (by omega)
     obtain ⟨w, hv⟩ := getE (l := s.r) (k := k) (by omega)
     have h4b : (k : Int) < s.r.length := by omega
     have k2 := (rsignF_c f (smF_i (hy.2 f (mem_at hx)))).toN rfl
     have hz := zip_at hv hx
     have bad : signOk w f = false → D.v (.bool false) = dB (signedD s y) := fun h => bool_eq (by unfold signedD; rw [all_not (p := fun p : RowD × FracD => signOk p.1 p.2) hz h, Bool.and_false])
     have good : signOk w f = true → ((s.r.zip y).take (k + 1)).all (fun p => signOk p.1 p.2) = true := fun h => all_take_succ (p := fun p : RowD × FracD => signOk p.1 p.2) hz hg h
     cases h5 : w.k == 0
     · cases h6 : w.k == 1
       · refine aGo (cj4 hres h0 h4 (cj4 h4b hx hv (cj3 hw h5 h6))) ?_
         repeat with_reducible intro K hK
         exact loop_end (k + 1) ⟨by omega, good (by simp [signOk, h5, h6])⟩ (by omega) (by exact leGo trivial)
       · by_cases h7 : sgnD f > 0
         · refine aGo (cj4 hres h0 h4 (cj4 h4b hx hv (cj4 hw h5 h6 h7))) ?_
           repeat with_reducible intro K hK
           exact bad (by simp [signOk, h6]; omega)
         · refine aGo (cj4 hres h0 h4 (cj4 h4b hx hv (cj4 hw h5 h6 h7))) ?_
           repeat with_reducible intro K hK
           exact loop_end (k + 1) ⟨by omega, good (by simp [signOk, h5]; omega)⟩ (by omega) (by exact leGo trivial)
     · by_cases h7 : sgnD f < 0
       · refine aGo (cj4 hres h0 h4 (cj4 h4b hx hv (cj3 hw h5 h7))) ?_
         repeat with_reducible intro K hK
         exact bad (by simp [signOk, h5]; omega)
       · have h6 : (w.k == 1) = false := by simp at h5; simp [h5]
         refine aGo (cj4 hres h0 h4 (cj4 h4b hx hv (cj4 hw h5 h6 h7))) ?_
         repeat with_reducible intro K hK
         exact loop_end (k + 1) ⟨by omega, good (by simp [signOk, h6]; omega)⟩ (by omega) (by exact leGo trivial)
   · have hg2 : (s.r.zip y).all (fun p => signOk p.1 p.2) = true := by rw [List.take_of_length_le (by omega)] at hg; exact hg
     refine aGo (cj2 hres h4) ?_
     repeat with_reducible intro K hK
     exact bool_eq (by simp only [signedD, hm, hg2, Bool.and_self])
theorem coef9_c (l : List TermD) (v : Nat) {n : Int} (hs : (l.length : Int) ≤ 4096) (hr : rightT l n = true) : Contract Tryz.prog 209 [encTs l, dI v] (encF (ofQ (coefT l v))) := by
 have hres := Tryz.results209
 have kz := rint_c 0 (by decide) (by decide)
 rw [Rat.intCast_zero] at kz
 refine inC Tryz.func209 rfl Tryz.ntmps209 ?_
 refine aGo hres ?_
 repeat with_reducible intro K hK
 refine aLoopT (fun (k : Nat) => [(0, encTs l), (1, dI v), (4, .lp 0 0 0 0), (5, dI k)]) (fun _ => [(0, ⟨32, 0, 4, [zc], 0, false⟩)]) 1 0 (fun k => k ≤ l.length ∧ coefT (l.take k) v = 0) (fun k => l.length - k) 0 ⟨by omega, rfl⟩ ?_ ?_
 · exact leGo trivial
 · rintro k ⟨hk, hg⟩
   have hw := wrap1 k
   have h0 : (0 : Int) ≤ k := by omega
   by_cases h4 : (k : Int) < l.length
   · obtain ⟨t, ht⟩ := getE (l := l) (k := k) (by omega)
     obtain ⟨t0, t1, t2, t3⟩ := rightT_mem hr (mem_at ht)
     by_cases h5 : t.v = v
     · have h6 : (t.v == (v : Int)) = true := by simp [h5]
       have e1 : coefT l v = qOf t.f := by have := coef_at hr ht t0; rwa [show t.v.toNat = v by omega] at this
       refine aGo (cj4 hres h0 h4 (cj3 ht hw h6)) ?_
       repeat with_reducible intro K hK
       rw [e1, ← okF_eq t2]
     · have h6 : (t.v == (v : Int)) = false := by simp [h5]
       have e1 : coefT (l.take (k + 1)) v = 0 := by rw [coef_succ ht t0, hg, if_neg (by omega)]; grind
       refine aGo (cj4 hres h0 h4 (cj3 ht hw h6)) ?_
       repeat with_reducible intro K hK
       exact loop_end (k + 1) ⟨by omega, e1⟩ (by omega) (by exact leGo trivial)
   · rw [List.take_of_length_le (by omega)] at hg
     refine aGo (cj2 hres h4) ?_
     repeat with_reducible intro K hK
     rw [hg]
theorem plus9_c (a b c : Rat) (za : (szQ a : Int) ≤ 34359750000) (zb : (szQ b : Int) ≤ 4194304) (zc : (szQ c : Int) ≤ 4194304) : Contract Tryz.prog 243 [encF (ofQ a), encF (ofQ b), encF (ofQ c)] (encF (ofQ (a + b * c))) := by
 have hres := Tryz.results243
 have k1 := rmulF_c (ofQ b) (ofQ c) (by rw [szQ_ofQ]; omega) (by rw [szQ_ofQ]; omega)
 rw [mulD_ofQ] at k1
 have z := szQ_mul b c
 have k2 := raddF_c (ofQ a) (ofQ (b * c)) (by rw [szQ_ofQ]; omega) (by rw [szQ_ofQ]; omega)
 rw [addD_ofQ] at k2
 refine inC Tryz.func243 rfl Tryz.ntmps243 ?_
 exact aGo hres trivial
theorem coef_sz9 {l : List TermD} {n : Int} (h : rightT l n = true) (hs : ∀ t ∈ l, szF t.f ≤ 262144) (u : Nat) : szQ (coefT l u) ≤ 262144 := by
 by_cases he : ∃ t ∈ l, t.v.toNat = u
 · obtain ⟨t, ht, rfl⟩ := he
   obtain ⟨i, hi⟩ := List.getElem?_of_mem ht
   obtain ⟨h0, h1, h2, h3⟩ := rightT_mem h ht
   rw [coef_at h hi h0, szF_ok h2]; exact hs t ht
 · have h0 : ∀ k, k ≤ l.length → coefT (l.take k) u = 0 := by
     intro k
     induction k with
     | zero => intro _; simp only [List.take_zero, coefT, dotS]
     | succ k ih =>
       intro hk
       obtain ⟨t, ht⟩ := getE (l := l) (k := k) (by omega)
       have ht0 := (rightT_mem h (mem_at ht)).1
       rw [coef_succ ht ht0, ih (by omega), if_neg (fun e => he ⟨t, mem_at ht, e.symm⟩)]; grind
   have := h0 l.length (Nat.le_refl _)
   rw [List.take_length] at this
   rw [this]
   have : szQ 0 ≤ 4 := szQ_int 0 (by decide) (by decide)
   omega
theorem mix9_c (s : SysD) (y : List FracD) (hs : tnS s) (hy : tnFs y) : Contract Tryz.prog 208 [encS s, encFs y] (.tup [encTs (mixD9 s y).1, encF (mixD9 s y).2]) := by
 have hres := Tryz.results208
 have k1 := rrightS_c s hs.sm
 have k3 := fracs9_c y s.r.length hy.sm
 cases h1 : rightS s
 · rw [h1] at k1
   refine inC Tryz.func208 rfl Tryz.ntmps208 ?_
   rw [show mixD9 s y = ([], zF) by simp [mixD9, mulOk, h1]]
   refine aGo hres ?_
   repeat with_reducible intro K hK
   rfl
 rw [h1] at k1
 cases h2 : (okP y && decide ((y.length : Int) = s.r.length))
 · rw [h2] at k3
   have hm : mulOk s y = false := by unfold mulOk; rw [h1, Bool.true_and, Bool.and_comm (decide _), h2]
   refine inC Tryz.func208 rfl Tryz.ntmps208 ?_
   rw [show mixD9 s y = ([], zF) by simp [mixD9, hm]]
   refine aGo hres ?_
   repeat with_reducible intro K hK
   rfl
 rw [h2] at k3
 have hm : mulOk s y = true := by unfold mulOk; rw [h1, Bool.true_and, Bool.and_comm (decide _), h2]
 obtain ⟨hr, hlen, hok⟩ := mulOk_iff.1 hm
 have hn := rightS_n hr
 have hly := hy.1
 have kz := rint_c 0 (by decide) (by decide)
 rw [Rat.intCast_zero] at kz
 obtain ⟨N, hN⟩ : ∃ N, s.n.toNat = N := ⟨_, rfl⟩
 have hNn : s.n = (N : Int) := by omega
 rw [show mixD9 s y = (mixT s y, ofQ (mixV s.r y)) by simp [mixD9, hm]]
 have hmix : mixT s y = termsOf N (fun v => mixG (indI v) s.r y) := by unfold mixT; rw [hN]
 rw [hmix]
 obtain ⟨c, hc⟩ : ∃ c : Nat → Rat, (fun v : Nat => mixG (indI v) s.r y) = c := ⟨_, rfl⟩
 rw [hc]
 have zc' : ∀ u, (szQ (c u) : Int) ≤ 549755813888 := fun u => by
  have h := sz_sums hs hy hok hr u y.length (Nat.le_refl _) (by omega)
  unfold sumsQ at h
  rw [hlen, List.take_length, ← hlen, List.take_length] at h
  rw [← hc]; dsimp only; omega
 refine inC Tryz.func208 rfl Tryz.ntmps208 ?_
 have et0 := termsOf_zero c
 refine aGo hres ?_
 repeat with_reducible intro K hK
 refine aLoopT (fun (u : Nat) => [(1, encFs y), (2, .lp 0 0 0 0), (5, .lp 1 0 0 0), (6, .ls 2 (termsOf u c).length), (7, dI u)]) (fun u => [(0, ⟨24, 0, 2, [cS s], 0, false⟩), (1, ⟨32, 0, 4, [zc], 0, false⟩), (2, ⟨107, (termsOf u c).length, 5, (termsOf u c).map cT, 0, false⟩)]) 3 0 (fun u => u ≤ N) (fun u => N - u) 0 (by omega) ?_ ?_
 · exact leGo et0
 · rintro u hu
   have hwu := wrap1 u
   have u0 : (0 : Int) ≤ u := by omega
   have htl := termsOf_len c u
   by_cases h6 : (u : Int) < s.n
   · have e00 : sumsQ s y 0 u = 0 := by unfold sumsQ; rw [List.take_zero, mixG_nil]
     refine aGo (cj3 hres u0 h6) ?_
     repeat with_reducible intro K hK
     refine aLoopT (fun (i : Nat) => [(1, encFs y), (2, .lp 0 0 0 0), (5, .lp 1 0 0 0), (6, .ls 2 (termsOf u c).length), (7, dI u), (8, .lp 3 0 0 0), (9, dI i)]) (fun i => [(0, ⟨24, 0, 2, [cS s], 0, false⟩), (1, ⟨32, 0, 4, [zc], 0, false⟩), (2, ⟨107, (termsOf u c).length, 5, (termsOf u c).map cT, 0, false⟩), (3, ⟨32, 0, 4, [cF (ofQ (sumsQ s y i u))], 0, false⟩)]) 4 0 (fun i => i ≤ y.length) (fun i => y.length - i) 0 (by omega) ?_ ?_
     · exact leGo e00
     · rintro i hi
       have hwi := wrap1 i
       have i0 : (0 : Int) ≤ i := by omega
       by_cases h3 : (i : Int) < y.length
       · obtain ⟨f, hf⟩ := getE (l := y) (k := i) (by omega)
         obtain ⟨w, hrw⟩ := getE (l := s.r) (k := i) (by omega)
         have h3b : (i : Int) < s.r.length := by omega
         have tf := hy.2 f (mem_at hf)
         have tw := hs.2 w (mem_at hrw)
         have of := List.all_eq_true.1 hok f (mem_at hf)
         have rw' := rightW_T hr (mem_at hrw)
         have kc := coef9_c w.t u (by have := tw.1.1; omega) rw'
         have z1 := sz_sums hs hy hok hr u i hi (by omega)
         have zc2 : szQ (coefT w.t u) ≤ 262144 := coef_sz9 rw' (fun t ht => by have := tw.1.2 t ht; unfold tnF at this; omega) u
         have kp := plus9_c (sumsQ s y i u) (qOf f) (coefT w.t u) (by omega) (by rw [szF_ok of]; unfold tnF at tf; omega) (by omega)
         rw [← okF_eq of] at kp
         have e1 : sumsQ s y (i + 1) u = sumsQ s y i u + qOf f * coefT w.t u := by unfold sumsQ; rw [mixG_add _ _ _ _ _ _ hrw hf]; rfl
         refine aGo (cj4 hres i0 h3 (cj4 h3b hf hrw (cj2 hwi u0))) ?_
         repeat with_reducible intro K hK
         exact loop_end (i + 1) (by omega) (by omega) (by exact leGo e1)
       · obtain rfl : i = y.length := by omega
         have e1 : sumsQ s y y.length u = c u := by rw [← hc]; unfold sumsQ; rw [hlen, List.take_length, ← hlen, List.take_length]
         have ks := (rsignF_c (ofQ (c u)) (by rw [szQ_ofQ]; exact zc' u)).toN rfl
         rw [sgnD_ofQ] at ks
         rw [e1]
         by_cases h7 : c u = 0
         · have h8 : (sgQ (c u) != 0) = false := by simp [sgQ_zero.2 h7]
           have e3 := termsOf_skip h7
           refine aGo (cj4 hres h3 hwu h8) ?_
           repeat with_reducible intro K hK
           exact loop_end (u + 1) (by omega) (by omega) (by exact leGo e3)
         · have h8 : (sgQ (c u) != 0) = true := by simp [sgQ_zero, h7]
           have e3 := termsOf_yes h7
           refine aGo (cj4 hres h3 hwu h8) ?_
           repeat with_reducible intro K hK
           exact loop_end (u + 1) (by omega) (by omega) (by exact leGo e3)
   · obtain rfl : u = N := by omega
     have hv0 := valQ_zero s y
     refine aGo (cj2 hres h6) ?_
     repeat with_reducible intro K hK
     refine aLoopT (fun (i : Nat) => [(1, encFs y), (2, .lp 0 0 0 0), (5, .lp 1 0 0 0), (6, .ls 2 (termsOf u c).length), (10, .lp 3 0 0 0), (11, dI i)]) (fun i => [(0, ⟨24, 0, 2, [cS s], 0, false⟩), (1, ⟨32, 0, 4, [zc], 0, false⟩), (2, ⟨107, (termsOf u c).length, 5, (termsOf u c).map cT, 0, false⟩), (3, ⟨32, 0, 4, [cF (ofQ (valQ s y i))], 0, false⟩)]) 4 0 (fun i => i ≤ y.length) (fun i => y.length - i) 0 (by omega) ?_ ?_
     · exact leGo hv0
     · rintro i hi
       have hwi := wrap1 i
       have i0 : (0 : Int) ≤ i := by omega
       by_cases h3 : (i : Int) < y.length
       · obtain ⟨f, hf⟩ := getE (l := y) (k := i) (by omega)
         obtain ⟨w, hrw⟩ := getE (l := s.r) (k := i) (by omega)
         have h3b : (i : Int) < s.r.length := by omega
         have tf := hy.2 f (mem_at hf)
         have tw := hs.2 w (mem_at hrw)
         have of := List.all_eq_true.1 hok f (mem_at hf)
         have ow := (rightS_row hr (mem_at hrw)).2.2.2
         have e2 := valQ_succ hrw hf
         have zv := sz_value hs hy hok hr i hi (by omega)
         have kp := plus9_c (valQ s y i) (qOf f) (qOf w.v) (by unfold valQ; omega) (by rw [szF_ok of]; unfold tnF at tf; omega) (by rw [szF_ok ow]; have := tw.2; unfold tnF at this; omega)
         rw [← okF_eq of, ← okF_eq ow] at kp
         refine aGo (cj4 hres i0 h3 (cj4 h3b hf hrw hwi)) ?_
         repeat with_reducible intro K hK
         exact loop_end (i + 1) (by omega) (by omega) (by exact leGo e2)
       · obtain rfl : i = y.length := by omega
         have e2 : valQ s y y.length = mixV s.r y := by unfold valQ; rw [hlen, List.take_length, ← hlen, List.take_length]
         rw [e2]
         refine aGo (cj2 hres h3) ?_
         repeat with_reducible intro K hK
         rw [map_map_id (fun _ => rfl)]
theorem rcmp_c (a b : Rat) (za : (szQ a : Int) ≤ 68719476736) (zb : (szQ b : Int) ≤ 68719476736) : Contract Tryz.prog 141 [encF (ofQ a), encF (ofQ b)] (dI (sgQ (a - b))) := by
 have := rcompareF_c (ofQ a) (ofQ b) (by rw [szQ_ofQ]; exact za) (by rw [szQ_ofQ]; exact zb)
 rwa [cmpD_ofQ] at this
theorem termsOf_small (n : Nat) (c : Nat → Rat) : (termsOf n c).length ≤ n := by
 induction n with
 | zero => exact Nat.le_refl _
 | succ n ih =>
   rw [termsOf_succ, List.length_append]
   split <;> simp <;> omega
theorem below_no {n : Nat} {a b : List TermD} {v : Nat} (hv : v < n) (h : ¬ coefT a v ≤ coefT b v) : belowN n a b = false := by
 cases hb : belowN n a b
 · rfl
 · exact absurd (of_decide_eq_true (List.all_eq_true.1 hb v (List.mem_range.2 hv))) h
theorem lower9_c (s : SysD) (goal : List TermD) (y : List FracD) (hs : tnS s) (hg : tnT goal) (hy : tnFs y) : Contract Tryz.prog 146 [encS s, encTs goal, encFs y] (.tup [encF (lowerD s goal y).1, dB (lowerD s goal y).2]) := by
 have hres := Tryz.results146
 have k1 := signed9_c s y hs.sm hy.sm
 have k2 := rrightT_c goal s.n hg.sm
 cases h1 : signedD s y
 · rw [h1] at k1
   refine inC Tryz.func146 rfl Tryz.ntmps146 ?_
   rw [show lowerD s goal y = (zF, false) by simp [lowerD, h1]]
   refine aGo hres ?_
   repeat with_reducible intro K hK
   rfl
 rw [h1] at k1
 cases h2 : rightT goal s.n
 · rw [h2] at k2
   refine inC Tryz.func146 rfl Tryz.ntmps146 ?_
   rw [show lowerD s goal y = (zF, false) by simp [lowerD, h2]]
   refine aGo hres ?_
   repeat with_reducible intro K hK
   rfl
 rw [h2] at k2
 have hm : mulOk s y = true := by simp only [signedD, Bool.and_eq_true] at h1; exact h1.1
 obtain ⟨hr, hlen, hok⟩ := mulOk_iff.1 hm
 have hn := rightS_n hr
 have hly := hy.1
 obtain ⟨N, hN⟩ : ∃ N, s.n.toNat = N := ⟨_, rfl⟩
 have hNn : s.n = (N : Int) := by omega
 have k3 := mix9_c s y hs hy
 rw [show mixD9 s y = (mixT s y, ofQ (mixV s.r y)) by simp [mixD9, hm]] at k3
 have hR := mixT_right hr y
 have hl : ((mixT s y).length : Int) ≤ 4096 := by have := termsOf_small s.n.toNat (fun v => mixG (indI v) s.r y); unfold mixT; omega
 have hco : ∀ u, u < N → coefT (mixT s y) u = mixG (indI u) s.r y := fun u hu => by unfold mixT; rw [termsOf_coef, if_pos (by omega)]
 have zc' : ∀ u, u < N → (szQ (coefT (mixT s y) u) : Int) ≤ 549755813888 := fun u hu => by
  have h := sz_sums hs hy hok hr u y.length (Nat.le_refl _) (by omega)
  unfold sumsQ at h
  rw [hlen, List.take_length, ← hlen, List.take_length] at h
  rw [hco u hu]; omega
 have zc2 : ∀ u, u < N → (szQ (coefT (mixT s y) u) : Int) ≤ 4294967296 := fun u hu => by
  have h := sz_sums hs hy hok hr u y.length (Nat.le_refl _) (by omega)
  unfold sumsQ at h
  rw [hlen, List.take_length, ← hlen, List.take_length] at h
  rw [hco u hu]; omega
 refine inC Tryz.func146 rfl Tryz.ntmps146 ?_
 generalize hMT : mixT s y = MT at *
 refine aGo hres ?_
 repeat with_reducible intro K hK
 refine aLoopT (fun (u : Nat) => [(1, encTs goal), (3, .lp 0 0 0 0), (6, .lp 1 0 0 0), (8, encTs MT), (9, .lp 2 0 0 0), (10, dI u)]) (fun u => [(0, ⟨24, 0, 2, [cS s], 0, false⟩), (1, ⟨32, 0, 4, [zc], 0, false⟩), (2, ⟨32, 0, 4, [cF (ofQ (mixV s.r y))], 0, false⟩)]) 3 0 (fun u => u ≤ N ∧ ∀ v, v < u → coefT MT v ≤ coefT goal v) (fun u => N - u) 0 ⟨by omega, fun v hv => absurd hv (Nat.not_lt_zero _)⟩ ?_ ?_
 · exact leGo trivial
 · rintro u ⟨hu, hb⟩
   have hwu := wrap1 u
   have u0 : (0 : Int) ≤ u := by omega
   by_cases h6 : (u : Int) < s.n
   · have kc := coef9_c MT u hl hR
     have kd := coef9_c goal u hg.sm.1 h2
     have zg := coef_sz9 h2 (fun t ht => by have := hg.2 t ht; unfold tnF at this; omega) u
     have kk := rcmp_c (coefT MT u) (coefT goal u) (by have := zc2 u (by omega); omega) (by omega)
     by_cases h7 : coefT MT u ≤ coefT goal u
     · have h8 : ¬ sgQ (coefT MT u - coefT goal u) > 0 := by rw [gt_iff_lt, sgQ_gt]; grind
       refine aGo (cj4 hres u0 h6 (cj2 hwu h8)) ?_
       repeat with_reducible intro K hK
       refine loop_end (u + 1) ⟨by omega, fun v hv => ?_⟩ (by omega) (by exact leGo trivial)
       by_cases e : v = u
       · subst e; exact h7
       · exact hb v (by omega)
     · have h8 : sgQ (coefT MT u - coefT goal u) > 0 := by rw [gt_iff_lt, sgQ_gt]; grind
       have e1 : lowerD s goal y = (zF, false) := lowerD_no (by
        cases hl : (lowerD s goal y).2
        · rfl
        · have := (lowerD_iff.1 hl).2.2; rw [hMT, below_no (by omega) h7] at this; cases this)
       refine aGo (cj4 hres u0 h6 (cj2 hwu h8)) ?_
       repeat with_reducible intro K hK
       rw [e1]; rfl
   · obtain rfl : u = N := by omega
     have e1 : lowerD s goal y = (ofQ (mixV s.r y), true) := by
      have hl : (lowerD s goal y).2 = true := lowerD_iff.2 ⟨h1, h2, by
       rw [hMT]; unfold belowN
       exact List.all_eq_true.2 fun v hv => decide_eq_true (hb v (by have := List.mem_range.1 hv; omega))⟩
      rw [← hl, ← lowerD_val hl]
     refine aGo (cj2 hres h6) ?_
     repeat with_reducible intro K hK
     rw [e1]
theorem refutes9_c (s : SysD) (y : List FracD) (hs : tnS s) (hy : tnFs y) : Contract Tryz.prog 58 [encS s, encFs y] (dB (refutesD s y)) := by
 have hres := Tryz.results58
 have k1 := lower9_c s [] y hs ⟨by simp, fun t ht => by cases ht⟩ hy
 refine inC Tryz.func58 rfl Tryz.ntmps58 ?_
 cases h1 : (lowerD s [] y).2
 · rw [h1] at k1
   refine aGo hres ?_
   repeat with_reducible intro K hK
   exact bool_eq (by simp [refutesD, h1])
 · rw [h1, lowerD_val h1] at k1
   have hm : mulOk s y = true := by have := (lowerD_iff.1 h1).1; simp only [signedD, Bool.and_eq_true] at this; exact this.1
   obtain ⟨hr, hlen, hok⟩ := mulOk_iff.1 hm
   have hly := hy.1
   have zv := sz_value hs hy hok hr y.length (Nat.le_refl _) (by omega)
   rw [hlen, List.take_length, ← hlen, List.take_length] at zv
   have ks := (rsignF_c (ofQ (mixV s.r y)) (by rw [szQ_ofQ]; omega)).toN rfl
   have e1 : refutesD s y = decide (sgnD (ofQ (mixV s.r y)) > 0) := by unfold refutesD; rw [h1, lowerD_val h1, Bool.true_and]
   by_cases h2 : sgnD (ofQ (mixV s.r y)) > 0
   · refine aGo (cj2 hres h2) ?_
     repeat with_reducible intro K hK
     exact bool_eq (by rw [e1]; simp [h2])
   · refine aGo (cj2 hres h2) ?_
     repeat with_reducible intro K hK
     exact bool_eq (by rw [e1]; simp [h2])
theorem refray9_c (s : SysD) (goal : List TermD) (d : List FracD) (hs : smS s) (hg : smT goal) (hd : smFs d) : Contract Tryz.prog 203 [encS s, encTs goal, encFs d] (dB (rayD s goal d)) := by
 have hres := Tryz.results203
 have hl := smS_len hs
 have hlx := smFs_len hd
 have k1 := rrightS_c s hs
 have k2 := rrightT_c goal s.n hg
 have k5 := fracs9_c d s.n hd
 cases h1 : rightS s
 · rw [h1] at k1
   refine inC Tryz.func203 rfl Tryz.ntmps203 ?_
   refine aGo hres ?_
   repeat with_reducible intro K hK
   exact ray_false (by simp [rayD, h1])
 rw [h1] at k1
 cases h2 : rightT goal s.n
 · rw [h2] at k2
   refine inC Tryz.func203 rfl Tryz.ntmps203 ?_
   refine aGo hres ?_
   repeat with_reducible intro K hK
   exact ray_false (by simp [rayD, h2])
 rw [h2] at k2
 cases h3 : (okP d && decide ((d.length : Int) = s.n))
 · rw [h3] at k5
   refine inC Tryz.func203 rfl Tryz.ntmps203 ?_
   refine aGo hres ?_
   repeat with_reducible intro K hK
   refine ray_false ?_
   unfold rayD
   rw [h1, h2, Bool.true_and, Bool.true_and, Bool.and_comm (decide _), h3]; rfl
 rw [h3] at k5
 simp only [Bool.and_eq_true, decide_eq_true_eq] at h3
 obtain ⟨hg1, hn⟩ := h3
 refine inC Tryz.func203 rfl Tryz.ntmps203 ?_
 refine aGo hres ?_
 repeat with_reducible intro K hK
 refine aLoopT (fun (k : Nat) => [(1, encTs goal), (2, encFs d), (3, .lp 0 0 0 0), (7, dI k)]) (fun k => [(0, ⟨24, 0, 2, [cS s], 0, false⟩)]) 1 0 (fun k => k ≤ d.length ∧ (d.take k).all (fun f => decide (0 ≤ sgnD f)) = true) (fun k => d.length - k) 0 ⟨by omega, rfl⟩ ?_ ?_
 · exact leGo trivial
 · rintro k ⟨hk, hg2⟩
   have hw := wrap1 k
   have h0 : (0 : Int) ≤ k := by omega
   by_cases h4 : (k : Int) < d.length
   · obtain ⟨f, hx⟩ := getE (l := d) (k := k) (by omega)
     have k3 := (rsignF_c f (smF_i (hd.2 f (mem_at hx)))).toN rfl
     by_cases h6 : sgnD f < 0
     · refine aGo (cj4 hres h0 h4 (cj3 hx hw h6)) ?_
       repeat with_reducible intro K hK
       exact ray_false (by have : nonneg d = false := all_not hx (by simp; omega); simp [rayD, this])
     · refine aGo (cj4 hres h0 h4 (cj3 hx hw h6)) ?_
       repeat with_reducible intro K hK
       exact loop_end (k + 1) ⟨by omega, all_take_succ hx hg2 (by simp; omega)⟩ (by omega) (by exact leGo trivial)
   · rw [List.take_of_length_le (by omega)] at hg2
     refine aGo (cj2 hres h4) ?_
     repeat with_reducible intro K hK
     refine aLoopT (fun (k : Nat) => [(1, encTs goal), (2, encFs d), (3, .lp 0 0 0 0), (8, dI k)]) (fun k => [(0, ⟨24, 0, 2, [cS s], 0, false⟩)]) 1 0 (fun k => k ≤ s.r.length ∧ (s.r.take k).all (fun w => fitsK w.k (sgQ (dotD w.t d))) = true) (fun k => s.r.length - k) 0 ⟨by omega, rfl⟩ ?_ ?_
     · exact leGo trivial
     · rintro k ⟨hk, hr⟩
       have hw := wrap1 k
       have h0 : (0 : Int) ≤ k := by omega
       by_cases h4 : (k : Int) < s.r.length
       · obtain ⟨w, hx⟩ := getE (l := s.r) (k := k) (by omega)
         obtain ⟨h6, h7⟩ := holdsS_at h1 hn hx
         have sm := hs.2 w (mem_at hx)
         have k3 := rValue_c w.t d sm.1 hd
         rw [valueD_yes (by rw [h6, show okP d = true from hg1]; rfl)] at k3
         have k4 := (rsignF_c (ofQ (dotD w.t d)) (by have := szF_dot w d sm.1 hd h6 hg1; omega)).toN rfl
         rw [sgnD_ofQ] at k4
         have bad : fitsK w.k (sgQ (dotD w.t d)) = false → D.v (.bool false) = dB (rayD s goal d) := fun h => ray_false (by simp [rayD, all_not (p := fun w : RowD => fitsK w.k (sgQ (dotD w.t d))) hx h])
         have good : fitsK w.k (sgQ (dotD w.t d)) = true → (s.r.take (k + 1)).all (fun w => fitsK w.k (sgQ (dotD w.t d))) = true := fun h => all_take_succ (p := fun w : RowD => fitsK w.k (sgQ (dotD w.t d))) hx hr h
         generalize sgQ (dotD w.t d) = c at *
         by_cases g1 : c < 0
         · have g3 : ¬ c > 0 := by omega
           cases g2 : w.k != 1
           · refine aGo (cj4 hres h0 h4 (cj4 hx hw g1 (cj2 g2 g3))) ?_
             repeat with_reducible intro K hK
             exact loop_end (k + 1) ⟨by omega, good (by simp at g2; simp [fitsK, g2]; omega)⟩ (by omega) (by exact leGo trivial)
           · refine aGo (cj4 hres h0 h4 (cj4 hx hw g1 (cj2 g2 g3))) ?_
             repeat with_reducible intro K hK
             exact bad (by simp at g2; simp [fitsK, g2]; omega)
         by_cases g3 : c > 0
         · cases g2 : w.k != 0
           · refine aGo (cj4 hres h0 h4 (cj4 hx hw g1 (cj2 g2 g3))) ?_
             repeat with_reducible intro K hK
             exact loop_end (k + 1) ⟨by omega, good (by simp at g2; simp [fitsK, g2]; omega)⟩ (by omega) (by exact leGo trivial)
           · refine aGo (cj4 hres h0 h4 (cj4 hx hw g1 (cj2 g2 g3))) ?_
             repeat with_reducible intro K hK
             exact bad (by simp at g2; simp [fitsK, g2]; omega)
         · refine aGo (cj4 hres h0 h4 (cj4 hx hw g1 g3)) ?_
           repeat with_reducible intro K hK
           exact loop_end (k + 1) ⟨by omega, good (by simp [fitsK]; omega)⟩ (by omega) (by exact leGo trivial)
       · rw [List.take_of_length_le (by omega)] at hr
         have k3 := rValue_c goal d hg hd
         rw [valueD_yes (by rw [hn, h2, show okP d = true from hg1]; rfl)] at k3
         have k4 := (rsignF_c (ofQ (dotD goal d)) (by have := szF_dot ⟨goal, 0, zF⟩ d hg hd (by rw [hn]; exact h2) hg1; dsimp only at this; omega)).toN rfl
         rw [sgnD_ofQ] at k4
         refine aGo (cj2 hres h4) ?_
         repeat with_reducible intro K hK
         exact bool_eq (by simp only [rayD, h1, h2, hn, nonneg, hg1, hg2, hr, decide_true, Bool.and_self, Bool.true_and])
theorem refcheck9_c (s : SysD) (goal : List TermD) (o : OptD) (hs : tnS s) (hg : tnT goal) (ho : tnO o) : Contract Tryz.prog 139 [encS s, encTs goal, encO o] (dB (checkD s goal o)) := by
 have hres := Tryz.results139
 have k1 := rrightS_c s hs.sm
 have k2 := rrightT_c goal s.n hg.sm
 cases h1 : rightS s
 · rw [h1] at k1
   refine inC Tryz.func139 rfl Tryz.ntmps139 ?_
   refine aGo hres ?_
   repeat with_reducible intro K hK
   exact bool_eq (by simp [checkD, h1])
 rw [h1] at k1
 cases h2 : rightT goal s.n
 · rw [h2] at k2
   refine inC Tryz.func139 rfl Tryz.ntmps139 ?_
   refine aGo hres ?_
   repeat with_reducible intro K hK
   exact bool_eq (by simp [checkD, h2])
 rw [h2] at k2
 have zv0 := ho.1
 have c1 := lower9_c s goal o.y hs hg ho.2.2.1
 have c2 := rValue_c goal o.x hg.sm ho.2.1.sm
 have c3 := rholds_c s o.x hs.sm ho.2.1.sm
 have zval : (szF (valueD goal o.x).1 : Int) ≤ 9007199254740992 := by
  unfold valueD
  split
  · rename_i h
    simp only [Bool.and_eq_true] at h
    have := szF_dot ⟨goal, 0, zF⟩ o.x hg.sm ho.2.1.sm h.1 h.2
    dsimp only at this ⊢; omega
  · decide
 have zlow : (szF (lowerD s goal o.y).1 : Int) ≤ 9007199254740992 := by have := sz_lower (goal := goal) hs ho.2.2.1; omega
 have c4 := same9_c (valueD goal o.x).1 o.v zval
 have c5 := same9_c (lowerD s goal o.y).1 o.v zlow
 have c6 := refutes9_c s o.y hs ho.2.2.1
 have c7 := same9_c o.v zF (by unfold tnF at zv0; omega)
 have c8 := refray9_c s goal o.d hs.sm hg.sm ho.2.2.2.sm
 cases e0 : o.k == 0
 rotate_left
 · have e0' : o.k = 0 := by simpa using e0
   have hd : checkD s goal o = (holdsS s o.x && (lowerD s goal o.y).2 && sameF (valueD goal o.x).1 o.v && sameF (lowerD s goal o.y).1 o.v && ((o.d.length : Int) == 0)) := by
    simp only [checkD, h1, h2, e0', if_true, Bool.true_and, isE]
    rw [Bool.and_comm (lowerD s goal o.y).2]
   rw [hd]
   refine inC Tryz.func139 rfl Tryz.ntmps139 ?_
   cases d2 : holdsS s o.x
   · rw [d2] at c3
     exact aGo (cj2 hres e0) trivial
   rw [d2] at c3
   cases d1 : (lowerD s goal o.y).2
   · rw [d1] at c1
     exact aGo (cj2 hres e0) trivial
   rw [d1] at c1
   cases d3 : sameF (valueD goal o.x).1 o.v
   · rw [d3] at c4
     exact aGo (cj2 hres e0) trivial
   rw [d3] at c4
   cases d4 : sameF (lowerD s goal o.y).1 o.v
   · rw [d4] at c5
     exact aGo (cj2 hres e0) trivial
   rw [d4] at c5
   exact aGo (cj2 hres e0) trivial
 have e0' : ¬ o.k = 0 := by simpa using e0
 cases e1 : o.k == 1
 rotate_left
 · have e1' : o.k = 1 := by simpa using e1
   have hd : checkD s goal o = (refutesD s o.y && ((o.x.length : Int) == 0) && ((o.d.length : Int) == 0) && sameF o.v zF) := by
    simp only [checkD, h1, h2, e0', e1', if_true, if_false, Bool.true_and, isE]
    rfl
   rw [hd]
   refine inC Tryz.func139 rfl Tryz.ntmps139 ?_
   cases d1 : refutesD s o.y
   · rw [d1] at c6
     exact aGo (cj3 hres e0 e1) trivial
   rw [d1] at c6
   cases d2 : (o.x.length : Int) == 0
   · exact aGo (cj4 hres e0 e1 d2) trivial
   cases d3 : (o.d.length : Int) == 0
   · exact aGo (cj4 hres e0 e1 (cj2 d2 d3)) trivial
   exact aGo (cj4 hres e0 e1 (cj2 d2 d3)) trivial
 have e1' : ¬ o.k = 1 := by simpa using e1
 cases e2 : o.k == 2
 rotate_left
 · have e2' : o.k = 2 := by simpa using e2
   have hd : checkD s goal o = (holdsS s o.x && rayD s goal o.d && ((o.y.length : Int) == 0) && sameF o.v zF) := by
    simp only [checkD, h1, h2, e2', if_true, Bool.true_and, isE]
    rfl
   rw [hd]
   refine inC Tryz.func139 rfl Tryz.ntmps139 ?_
   cases d1 : holdsS s o.x
   · rw [d1] at c3
     exact aGo (cj4 hres e0 e1 e2) trivial
   rw [d1] at c3
   cases d2 : rayD s goal o.d
   · rw [d2] at c8
     exact aGo (cj4 hres e0 e1 e2) trivial
   rw [d2] at c8
   cases d3 : (o.y.length : Int) == 0
   · exact aGo (cj4 hres e0 e1 (cj2 e2 d3)) trivial
   exact aGo (cj4 hres e0 e1 (cj2 e2 d3)) trivial
 have e2' : ¬ o.k = 2 := by simpa using e2
 refine inC Tryz.func139 rfl Tryz.ntmps139 ?_
 refine aGo (cj4 hres e0 e1 e2) ?_
 repeat with_reducible intro K hK
 exact bool_eq (by simp [checkD, h1, h2, e0', e1', e2'])
end Go.Proofs.YtpkdhmnlpnijhaaGreat
