/-
  The reference's fractions, as data.
-/
import Derived.Test.YtpkdhmnlpnijhaaGreatVRefA
namespace Go.Proofs.YtpkdhmnlpnijhaaGreat
set_option linter.unusedVariables false
set_option linter.unusedSimpArgs false
set_option linter.unusedSectionVars false
open Go Go.RowKit
set_option maxRecDepth 100000
set_option maxHeartbeats 1000000
theorem fwsamebig_c (a b : BigD) (ha : (a.d.length : Int) ≤ 9007199254740992) : Contract Tryz.prog 78 [encB a, encB b] (dB (sameB a b)) := by
 refine inC Tryz.func78 rfl Tryz.ntmps78 ?_
 have hres := Tryz.results78
 cases h1 : a.s != b.s; rotate_left
 · refine aGo (cj2 hres h1) ?_
   repeat with_reducible intro K hK
   exact bool_eq (sameB_s h1).symm
 cases h2 : (a.d.length : Int) != b.d.length; rotate_left
 · refine aGo (cj3 hres h1 h2) ?_
   repeat with_reducible intro K hK
   exact bool_eq (sameB_len h2).symm
 have hlen : a.d.length = b.d.length := by simp at h2; omega
 refine aGo (cj3 hres h1 h2) ?_
 repeat with_reducible intro K hK
 refine aLoopT (fun (k : Nat) => [(2, .lp 0 0 0 0), (3, .lp 1 0 0 0), (5, dI k)]) (fun _ => [(0, ⟨30, 0, 2, [cB a], 0, false⟩), (1, ⟨30, 0, 2, [cB b], 0, false⟩)]) 2 0 (fun k => k ≤ a.d.length ∧ a.d.take k = b.d.take k) (fun k => a.d.length - k) 0 ⟨by omega, by simp⟩ ?_ ?_
 · exact leGo trivial
 · rintro k ⟨hk, hd⟩
   obtain ⟨hw, h0⟩ := wrap2 k
   by_cases h3 : (k : Int) < a.d.length
   · obtain ⟨x, hx⟩ := getE (l := a.d) (k := k) (by omega)
     obtain ⟨y, hy⟩ := getE (l := b.d) (k := k) (by omega)
     cases h4 : x != y; rotate_left
     · refine aGo (cj4 hres h0 h3 (cj3 h4 hx hy)) ?_
       repeat with_reducible intro K hK
       exact bool_eq (sameB_at hx hy h4).symm
     · refine aGo (cj4 hres h0 h3 (cj4 h4 hx hy hw)) ?_
       repeat with_reducible intro K hK
       exact loop_end (k + 1) ⟨by omega, take_succ_eq hd hx hy h4⟩ (by omega) (by exact leGo trivial)
   · refine aGo (cj2 hres h3) ?_
     repeat with_reducible intro K hK
     refine bool_eq (Eq.symm (sameB_iff.2 ?_))
     rw [List.take_of_length_le (by omega), List.take_of_length_le (by omega)] at hd
     have h1' : a.s = b.s := by simpa using h1
     cases a; cases b; simp_all
theorem rsameF_c (f g : FracD) (hf : (szF f : Int) ≤ 9007199254740992) : Contract Tryz.prog 13 [encF f, encF g] (dB (sameF f g)) := by
 refine inC Tryz.func13 rfl Tryz.ntmps13 ?_
 have hres := Tryz.results13
 have h1 := (fwsamebig_c f.p g.p (by unfold szF at hf; omega)).toN rfl
 have h2 := (fwsamebig_c f.q g.q (by unfold szF at hf; omega)).toN rfl
 cases h : sameB f.p g.p
 · rw [h] at h1
   refine aGo hres ?_
   repeat with_reducible intro K hK
   exact bool_eq (by simp [sameF, h])
 · rw [h] at h1
   refine aGo hres ?_
   repeat with_reducible intro K hK
   exact bool_eq (by simp [sameF, h])
theorem rfew_c (f : FracD) (n : Int) : Contract Tryz.prog 39 [encF f, dI n] (dB (decide ((f.p.d.length : Int) ≤ n) && decide ((f.q.d.length : Int) ≤ n))) := by
 refine inC Tryz.func39 rfl Tryz.ntmps39 ?_
 have hres := Tryz.results39
 by_cases h1 : (f.p.d.length : Int) ≤ n
 · by_cases h2 : (f.q.d.length : Int) ≤ n
   · exact aGo (cj3 hres h1 h2) trivial
   · exact aGo (cj3 hres h1 h2) trivial
 · exact aGo (cj2 hres h1) trivial
theorem rrightF_c (f : FracD) (hf : (szF f : Int) ≤ 549755813888) : Contract Tryz.prog 96 [encF f] (dB (okF f)) := by
 have hres := Tryz.results96
 have h1 := (rright_c f.p (by unfold szF at hf; omega)).toN rfl
 have h2 := (rright_c f.q (by unfold szF at hf; omega)).toN rfl
 cases hp : okB f.p
 · rw [hp] at h1
   refine inC Tryz.func96 rfl Tryz.ntmps96 ?_
   refine aGo hres ?_
   repeat with_reducible intro K hK
   exact bool_eq (by simp [okF, hp])
 cases hq : okB f.q
 · rw [hp] at h1
   rw [hq] at h2
   refine inC Tryz.func96 rfl Tryz.ntmps96 ?_
   refine aGo hres ?_
   repeat with_reducible intro K hK
   exact bool_eq (by simp [okF, hq])
 rw [hp] at h1
 rw [hq] at h2
 by_cases hs : f.q.s < 1
 · refine inC Tryz.func96 rfl Tryz.ntmps96 ?_
   refine aGo (cj2 hres hs) ?_
   repeat with_reducible intro K hK
   refine bool_eq ?_
   have : (f.q.s == 1) = false := by simp; omega
   simp [okF, this]
 obtain ⟨a, ha⟩ := okB_iff.1 hp
 obtain ⟨b, hb⟩ := okB_iff.1 hq
 obtain ⟨p, q⟩ := f
 dsimp only at ha hb hs h1 h2
 subst ha
 subst hb
 have hb0 : 0 < b := by
  have h : (ofZ b).s = b.sign := rfl
  have := sign_cases b
  omega
 have la : (szZ a : Int) ≤ 549755813888 := by have : szF ⟨ofZ a, ofZ b⟩ = max (szZ a) (szZ b) := rfl; omega
 have lb : (szZ b : Int) ≤ 549755813888 := by have : szF ⟨ofZ a, ofZ b⟩ = max (szZ a) (szZ b) := rfl; omega
 have hg := rgcd_c a b la lb
 have h1c := rofi_c 1 (by omega) (by omega)
 have hgb : (Nat.gcd a.natAbs b.natAbs : Nat) ≤ b.natAbs := Nat.gcd_le_right _ (by omega)
 have hc := (rcompare_c (Nat.gcd a.natAbs b.natAbs) 1 (by have : szZ (Nat.gcd a.natAbs b.natAbs : Int) ≤ szZ b := szZ_mono hgb; omega) (by have : szZ 1 ≤ 1 := szZ_le (by decide); omega)).toN rfl
 have hok : okF ⟨ofZ a, ofZ b⟩ = (Nat.gcd a.natAbs b.natAbs == 1) := by
  have : ((ofZ b).s == 1) = true := by
   have h : (ofZ b).s = b.sign := rfl
   rw [h, Int.sign_eq_one_of_pos hb0]; rfl
  simp only [okF, hp, hq, this, Bool.true_and, zOf_ofZ]
 refine inC Tryz.func96 rfl Tryz.ntmps96 ?_
 refine aGo (cj2 hres hs) ?_
 repeat with_reducible intro K hK
 refine bool_eq ?_
 rw [hok]
 rcases Nat.lt_trichotomy (Nat.gcd a.natAbs b.natAbs) 1 with h | h | h
 · have : Nat.gcd a.natAbs b.natAbs = 0 := by omega
   rw [this]; rfl
 · rw [h]; rfl
 · have h3 : (Nat.gcd a.natAbs b.natAbs == 1) = false := by simp; omega
   rw [h3, sign_sub_pos (by omega)]
   rfl
set_option maxHeartbeats 8000000
theorem tup2_eq {f : FracD × Int} {k : Int} (h : f = (zF, k)) : D.tup [encF zF, dI k] = D.tup [encF f.1, dI f.2] := by rw [h]
theorem rnew_c (p q : Int) (hq : q ≠ 0) (lp : (szZ p : Int) ≤ 549755813888) (lq : (szZ q : Int) ≤ 549755813888) : ContractN Tryz.prog 195 [encB (ofZ p), encB (ofZ q)] (.tup [encF (ofQ (Rat.divInt p q)), dI 0]) := by
 have hres := Tryz.results195
 have h1 := rrightZ_c p (by omega)
 have h2 := rrightZ_c q (by omega)
 have eq : (ofZ q).s = q.sign := rfl
 rcases Int.lt_or_gt_of_ne hq with hneg | hpos
 · have n1 := rneg_c p (by omega)
   have n2 := rneg_c q (by omega)
   have t1 : (q.sign == 0) = false := by rw [Int.sign_eq_neg_one_of_neg hneg]; rfl
   have t2 : q.sign < 0 := by rw [Int.sign_eq_neg_one_of_neg hneg]; decide
   obtain ⟨c, d, hpc, hqd, hof, hg0⟩ := divInt_parts (p := -p) (q := -q) (by omega)
   have hgc := rgcd_c (-p) (-q) (by rw [szZ_neg]; exact lp) (by rw [szZ_neg]; exact lq)
   have lg : (szZ (Nat.gcd (-p).natAbs (-q).natAbs : Int) : Int) ≤ 549755813888 := by
    have : szZ (Nat.gcd (-p).natAbs (-q).natAbs : Int) ≤ szZ (-q) := szZ_mono (Nat.gcd_le_right _ (by omega))
    rw [szZ_neg] at this; omega
   have d1 := rdiv_c (-p) (Nat.gcd (-p).natAbs (-q).natAbs) c hg0 hpc (by rw [szZ_neg]; exact lp) lg
   have d2 := rdiv_c (-q) (Nat.gcd (-p).natAbs (-q).natAbs) d hg0 hqd (by rw [szZ_neg]; exact lq) lg
   rw [Rat.neg_divInt_neg] at hof
   rw [hof]
   clear hof hpc hqd hg0
   generalize Nat.gcd (-p).natAbs (-q).natAbs = G at *
   refine inN Tryz.func195 rfl Tryz.ntmps195 fun I => ?_
   exact aGo (cj4 hres eq t1 t2) trivial
 · have t1 : (q.sign == 0) = false := by rw [Int.sign_eq_one_of_pos hpos]; rfl
   have t2 : ¬ q.sign < 0 := by rw [Int.sign_eq_one_of_pos hpos]; decide
   obtain ⟨c, d, hpc, hqd, hof, hg0⟩ := divInt_parts (p := p) (q := q) (by omega)
   have hgc := rgcd_c p q lp lq
   have lg : (szZ (Nat.gcd p.natAbs q.natAbs : Int) : Int) ≤ 549755813888 := by
    have : szZ (Nat.gcd p.natAbs q.natAbs : Int) ≤ szZ q := szZ_mono (Nat.gcd_le_right _ (by omega))
    omega
   have d1 := rdiv_c p (Nat.gcd p.natAbs q.natAbs) c hg0 hpc lp lg
   have d2 := rdiv_c q (Nat.gcd p.natAbs q.natAbs) d hg0 hqd lq lg
   rw [hof]
   clear hof hpc hqd hg0
   generalize Nat.gcd p.natAbs q.natAbs = G at *
   refine inN Tryz.func195 rfl Tryz.ntmps195 fun I => ?_
   exact aGo (cj4 hres eq t1 t2) trivial
theorem szZ_i64 (n : Int) (h1 : -9223372036854775808 ≤ n) (h2 : n ≤ 9223372036854775808) : szZ n ≤ 4 := by
 have := szQ_int n h1 h2
 rw [szQ_eq] at this
 simp at this
 omega
theorem rof_c (p q : Int) (hq : q ≠ 0) (p1 : -9223372036854775808 ≤ p) (p2 : p ≤ 9223372036854775807) (q1 : -9223372036854775808 ≤ q) (q2 : q ≤ 9223372036854775807) : ContractN Tryz.prog 144 [dI p, dI q] (.tup [encF (ofQ (Rat.divInt p q)), dI 0]) := by
 have hres := Tryz.results144
 have h1 := rofi_c p p1 p2
 have h2 := rofi_c q q1 q2
 have hn := rnew_c p q hq (by have := szZ_i64 p p1 (by omega); omega) (by have := szZ_i64 q q1 (by omega); omega)
 refine inN Tryz.func144 rfl Tryz.ntmps144 fun I => ?_
 exact aGo hres trivial
theorem divInt_one (n : Int) : Rat.divInt n 1 = (n : Rat) := by simp [Rat.divInt, Rat.mkRat_one]
theorem rint_c (n : Int) (h1 : -9223372036854775808 ≤ n) (h2 : n ≤ 9223372036854775807) : ContractN Tryz.prog 90 [dI n] (encF (ofQ (n : Rat))) := by
 have hres := Tryz.results90
 have h := rof_c n 1 (by decide) h1 h2 (by decide) (by decide)
 rw [divInt_one] at h
 refine inN Tryz.func90 rfl Tryz.ntmps90 fun I => ?_
 exact aGo hres trivial
theorem rsignF_c (f : FracD) (zf : (szF f : Int) ≤ 549755813888) : Contract Tryz.prog 97 [encF f] (dI (sgnD f)) := by
 have hres := Tryz.results97
 have h1 := (rrightF_c f zf).toN rfl
 cases hf : okF f
 · rw [hf] at h1
   refine inC Tryz.func97 rfl Tryz.ntmps97 ?_
   refine aGo hres ?_
   repeat with_reducible intro K hK
   exact int_eq (by simp [sgnD, hf])
 · rw [hf] at h1
   obtain ⟨a, rfl⟩ := okF_iff.1 hf
   rw [sgnD_ofQ]
   refine inC Tryz.func97 rfl Tryz.ntmps97 ?_
   refine aGo hres ?_
   repeat with_reducible intro K hK
   exact int_eq (ofQ_num a)
theorem raddF_c (f g : FracD) (zf : (szF f : Int) ≤ 68719476736) (zg : (szF g : Int) ≤ 68719476736) : ContractN Tryz.prog 172 [encF f, encF g] (.tup [encF (addD f g).1, dI (addD f g).2]) := by
 have hres := Tryz.results172
 have h1 := (rrightF_c f (by omega)).toN rfl
 have h2 := (rrightF_c g (by omega)).toN rfl
 cases hf : okF f
 · rw [hf] at h1
   refine inN Tryz.func172 rfl Tryz.ntmps172 fun I => ?_
   refine aGo hres ?_
   repeat with_reducible intro K hK
   exact tup2_eq (by simp [addD, hf])
 cases hg : okF g
 · rw [hf] at h1
   rw [hg] at h2
   refine inN Tryz.func172 rfl Tryz.ntmps172 fun I => ?_
   refine aGo hres ?_
   repeat with_reducible intro K hK
   exact tup2_eq (by simp [addD, hf, hg])
 rw [hf] at h1
 rw [hg] at h2
 obtain ⟨a, rfl⟩ := okF_iff.1 hf
 obtain ⟨b, rfl⟩ := okF_iff.1 hg
 rw [addD_ofQ]
 have za := szQ_eq a
 have zb := szQ_eq b
 have ea : szF (ofQ a) = szQ a := rfl
 have eb : szF (ofQ b) = szQ b := rfl
 have da := a.den_pos
 have db := b.den_pos
 have m1 := rmul_c a.num b.den (by omega) (by omega)
 have m2 := rmul_c b.num a.den (by omega) (by omega)
 have m3 := rmul_c a.den b.den (by omega) (by omega)
 have s1 := szZ_mul a.num b.den
 have s2 := szZ_mul b.num a.den
 have s3 := szZ_mul a.den b.den
 have s4 := szZ_add (a.num * b.den) ((b.num * a.den))
 have hs := radd_c (a.num * b.den) (b.num * a.den) (by omega) (by omega)
 have hn := rnew_c (a.num * b.den + b.num * a.den) (a.den * b.den) (by exact Int.ne_of_gt (Int.mul_pos (by omega) (by omega))) (by omega) (by omega)
 rw [← add_divInt] at hn
 refine inN Tryz.func172 rfl Tryz.ntmps172 fun I => ?_
 exact aGo hres trivial
theorem rsubF_c (f g : FracD) (zf : (szF f : Int) ≤ 68719476736) (zg : (szF g : Int) ≤ 68719476736) : ContractN Tryz.prog 184 [encF f, encF g] (.tup [encF (subD f g).1, dI (subD f g).2]) := by
 have hres := Tryz.results184
 have h1 := (rrightF_c f (by omega)).toN rfl
 have h2 := (rrightF_c g (by omega)).toN rfl
 cases hf : okF f
 · rw [hf] at h1
   refine inN Tryz.func184 rfl Tryz.ntmps184 fun I => ?_
   refine aGo hres ?_
   repeat with_reducible intro K hK
   exact tup2_eq (by simp [subD, hf])
 cases hg : okF g
 · rw [hf] at h1
   rw [hg] at h2
   refine inN Tryz.func184 rfl Tryz.ntmps184 fun I => ?_
   refine aGo hres ?_
   repeat with_reducible intro K hK
   exact tup2_eq (by simp [subD, hf, hg])
 rw [hf] at h1
 rw [hg] at h2
 obtain ⟨a, rfl⟩ := okF_iff.1 hf
 obtain ⟨b, rfl⟩ := okF_iff.1 hg
 rw [subD_ofQ]
 have za := szQ_eq a
 have zb := szQ_eq b
 have ea : szF (ofQ a) = szQ a := rfl
 have eb : szF (ofQ b) = szQ b := rfl
 have da := a.den_pos
 have db := b.den_pos
 have m1 := rmul_c a.num b.den (by omega) (by omega)
 have m2 := rmul_c b.num a.den (by omega) (by omega)
 have m3 := rmul_c a.den b.den (by omega) (by omega)
 have s1 := szZ_mul a.num b.den
 have s2 := szZ_mul b.num a.den
 have s3 := szZ_mul a.den b.den
 have s4 := szZ_add (a.num * b.den) (-(b.num * a.den))
 have hs := rsub_c (a.num * b.den) (b.num * a.den) (by omega) (by omega)
 have hn := rnew_c (a.num * b.den - b.num * a.den) (a.den * b.den) (by exact Int.ne_of_gt (Int.mul_pos (by omega) (by omega))) (by rw [szZ_neg] at s4; rw [Int.sub_eq_add_neg]; omega) (by omega)
 rw [← sub_divInt] at hn
 refine inN Tryz.func184 rfl Tryz.ntmps184 fun I => ?_
 exact aGo hres trivial
theorem rmulF_c (f g : FracD) (zf : (szF f : Int) ≤ 68719476736) (zg : (szF g : Int) ≤ 68719476736) : ContractN Tryz.prog 114 [encF f, encF g] (.tup [encF (mulD f g).1, dI (mulD f g).2]) := by
 have hres := Tryz.results114
 have h1 := (rrightF_c f (by omega)).toN rfl
 have h2 := (rrightF_c g (by omega)).toN rfl
 cases hf : okF f
 · rw [hf] at h1
   refine inN Tryz.func114 rfl Tryz.ntmps114 fun I => ?_
   refine aGo hres ?_
   repeat with_reducible intro K hK
   exact tup2_eq (by simp [mulD, hf])
 cases hg : okF g
 · rw [hf] at h1
   rw [hg] at h2
   refine inN Tryz.func114 rfl Tryz.ntmps114 fun I => ?_
   refine aGo hres ?_
   repeat with_reducible intro K hK
   exact tup2_eq (by simp [mulD, hf, hg])
 rw [hf] at h1
 rw [hg] at h2
 obtain ⟨a, rfl⟩ := okF_iff.1 hf
 obtain ⟨b, rfl⟩ := okF_iff.1 hg
 rw [mulD_ofQ]
 have za := szQ_eq a
 have zb := szQ_eq b
 have ea : szF (ofQ a) = szQ a := rfl
 have eb : szF (ofQ b) = szQ b := rfl
 have da := a.den_pos
 have db := b.den_pos
 have m1 := rmul_c a.num b.num (by omega) (by omega)
 have m3 := rmul_c a.den b.den (by omega) (by omega)
 have s1 := szZ_mul a.num b.num
 have s3 := szZ_mul a.den b.den
 have hn := rnew_c (a.num * b.num) (a.den * b.den) (by exact Int.ne_of_gt (Int.mul_pos (by omega) (by omega))) (by omega) (by omega)
 rw [← mul_divInt] at hn
 refine inN Tryz.func114 rfl Tryz.ntmps114 fun I => ?_
 exact aGo hres trivial
theorem rcompareF_c (f g : FracD) (zf : (szF f : Int) ≤ 68719476736) (zg : (szF g : Int) ≤ 68719476736) : Contract Tryz.prog 141 [encF f, encF g] (dI (cmpD f g)) := by
 have hres := Tryz.results141
 have h1 := (rrightF_c f (by omega)).toN rfl
 have h2 := (rrightF_c g (by omega)).toN rfl
 cases hf : okF f
 · rw [hf] at h1
   refine inC Tryz.func141 rfl Tryz.ntmps141 ?_
   refine aGo hres ?_
   repeat with_reducible intro K hK
   exact int_eq (by simp [cmpD, hf])
 cases hg : okF g
 · rw [hf] at h1
   rw [hg] at h2
   refine inC Tryz.func141 rfl Tryz.ntmps141 ?_
   refine aGo hres ?_
   repeat with_reducible intro K hK
   exact int_eq (by simp [cmpD, hf, hg])
 rw [hf] at h1
 rw [hg] at h2
 obtain ⟨a, rfl⟩ := okF_iff.1 hf
 obtain ⟨b, rfl⟩ := okF_iff.1 hg
 rw [cmpD_ofQ]
 have za := szQ_eq a
 have zb := szQ_eq b
 have ea : szF (ofQ a) = szQ a := rfl
 have eb : szF (ofQ b) = szQ b := rfl
 have da := a.den_pos
 have db := b.den_pos
 have m1 := rmul_c a.num b.den (by omega) (by omega)
 have m2 := rmul_c b.num a.den (by omega) (by omega)
 have s1 := szZ_mul a.num b.den
 have s2 := szZ_mul b.num a.den
 have hc := (rcompare_c (a.num * b.den) (b.num * a.den) (by omega) (by omega)).toN rfl
 rw [← sgQ_sub] at hc
 refine inC Tryz.func141 rfl Tryz.ntmps141 ?_
 exact aGo hres trivial
end Go.Proofs.YtpkdhmnlpnijhaaGreat
