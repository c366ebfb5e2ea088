/-
  Fractions: Right, Sign, Same, times, slim, Int: the walks.
-/
import Derived.Test.YtbnbpfjfkedbaaaPBigB
import Derived.Test.YtbnbpfjfkedbaaaPLib
namespace Go.Proofs.Ytbnbpfjfkedbaaa
set_option linter.unusedVariables false
set_option linter.unusedSimpArgs false
set_option linter.unusedSectionVars false
open Go.RowKit
attribute [local go_sem] relOp relAt relUpon
theorem cellsF {W : World} {g : Nat} {T : TypeId} {c0 c1 c2 c3 : Value} (h : W.heap[g]? = some (.cells #[c0, c1, c2, c3] T (0, 0))) : W.cell? ⟨g, 0, none⟩ = some c0 ∧ W.cell? ⟨g, 1, none⟩ = some c1 ∧ W.cell? ⟨g, 2, none⟩ = some c2 ∧ W.cell? ⟨g, 3, none⟩ = some c3 := by
 obtain ⟨h0, h1, h2, h3, _⟩ := cells4 h
 exact ⟨h0, h1, h2, h3⟩
theorem okF_parts {P Q : Int} : okF ⟨ofZ P, ofZ Q⟩ = ((ofZ Q).s == 1 && decide ((Nat.gcd P.natAbs Q.natAbs : Int) = 1)) := by
 simp only [okF, okB_ofZ, zOf_ofZ, Bool.true_and]
 congr 1
 rw [Bool.eq_iff_iff]; simp; omega
set_option maxRecDepth 100000 in
set_option maxHeartbeats 8000000 in
theorem Right_any (f : FracD) (v : Value) (w : World) (h : FracV w v f) (hz : (szF f : Int) ≤ 2199023255552) :
    Calls Try.prog 35 #[v] w fun e w' => e = .returned (B (okF f)) ∧ Below w.heap.size w w' := by
 obtain ⟨d, e, rfl, id, ie⟩ := h
 obtain ⟨A, ca, rfl, hla, hca⟩ := id.shape
 obtain ⟨B', cb, rfl, hlb, hcb⟩ := ie.shape
 have HP := Lib.hid (fun W h => right_any f.p (.agg #[I f.p.s, .slice A f.p.d.length ca]) W h)
 have HQ := Lib.hid (fun W h => right_any f.q (.agg #[I f.q.s, .slice B' f.q.d.length cb]) W h)
 have Hid' := Lib.hid id
 have Hie := Lib.hid ie
 clear id ie
 cases hp : okB f.p with
 | false =>
   rw [hp] at HP
   have E : Hid (false = okF f) := Lib.hid (by unfold okF; rw [hp]; rfl)
   clear hp
   go_enter Try.func35, Try.ntmps35
   go_wp2_with (go_at_call 72; refine (HP.out _ ⟨_, rfl, Hid'.out.below RInt.mono (below_alloc _ _)⟩).mono ?_; rintro e w1 ⟨rfl, hb1⟩; obtain ⟨hs1, hb1', k0⟩ := boxes1 hb1; obtain ⟨a0, a1, a2, a3⟩ := cellsF k0)
   go_ret
   exact ⟨retB E.out, hb1'⟩
 | true =>
   rw [hp] at HP
   cases hq : okB f.q with
   | false =>
     rw [hq] at HQ
     have E : Hid (false = okF f) := Lib.hid (by unfold okF; rw [hp, hq]; rfl)
     clear hp hq
     go_enter Try.func35, Try.ntmps35
     go_upto_region 3 with (go_at_call 72; fail)
     go_at_call 72
     refine (HP.out _ ⟨_, rfl, Hid'.out.below RInt.mono (below_alloc _ _)⟩).mono ?_
     rintro e w1 ⟨rfl, hb1⟩
     obtain ⟨hs1, hb1', k0⟩ := boxes1 hb1
     obtain ⟨a0, a1, a2, a3⟩ := cellsF k0
     go_wp2_with (go_at_call 72; refine (HQ.out _ ⟨_, rfl, Hie.out.below RInt.mono hb1'⟩).mono ?_; rintro e w2 ⟨rfl, hb2⟩)
     go_ret
     exact ⟨retB E.out, hb1'.trans (hb2.mono hb1'.size)⟩
   | true =>
     rw [hq] at HQ
     obtain ⟨p, q⟩ := f
     simp only at *
     obtain ⟨P, rfl⟩ := okB_iff.1 hp
     obtain ⟨Q, rfl⟩ := okB_iff.1 hq
     clear hp hq
     have hE := okF_parts (P := P) (Q := Q)
     have hzP : (szZ P : Int) ≤ 2199023255552 := by unfold szF at hz; simp only [szB_ofZ] at hz; omega
     have hzQ : (szZ Q : Int) ≤ 2199023255552 := by unfold szF at hz; simp only [szB_ofZ] at hz; omega
     clear hz
     by_cases hs : (ofZ Q).s = 1
     · have hs1 : ((ofZ Q).s != 1) = false := by simpa using hs
       have E := Lib.hid (hE.trans (by rw [hs]; rfl : _ = decide ((Nat.gcd P.natAbs Q.natAbs : Int) = 1)))
       have Hs := Lib.hid hs
       clear hE hs
       have HG := Lib.hid (fun W h1 h2 => Gcd_ok P Q (.agg #[I (ofZ P).s, .slice A (ofZ P).d.length ca]) (.agg #[I (ofZ Q).s, .slice B' (ofZ Q).d.length cb]) W h1 h2 hzP hzQ)
       generalize hg : Nat.gcd P.natAbs Q.natAbs = G at *
       have Hg := Lib.hid hg; clear hg
       go_enter Try.func35, Try.ntmps35
       go_upto_region 3 with (go_at_call 72; fail)
       go_at_call 72
       refine (HP.out _ ⟨_, rfl, Hid'.out.below RInt.mono (below_alloc _ _)⟩).mono ?_
       rintro e w1 ⟨rfl, hb1⟩
       obtain ⟨hz1, hb1', k0⟩ := boxes1 hb1
       obtain ⟨a0, a1, a2, a3⟩ := cellsF k0
       go_upto_region 3 with (go_at_call 72; fail)
       go_at_call 72
       refine (HQ.out _ ⟨_, rfl, Hie.out.below RInt.mono hb1'⟩).mono ?_
       rintro e w2 ⟨rfl, hb2⟩
       have hb12 := hb1.trans (hb2.mono hb1.size)
       clear hb1' k0 a0 a1 a2 a3 hz1
       obtain ⟨hz2, hb2', k0⟩ := boxes1 hb12
       obtain ⟨a0, a1, a2, a3⟩ := cellsF k0
       go_upto_region 4 with (go_at_call 73; fail)
       go_at_call 73
       refine (HG.out _ ⟨_, rfl, Hid'.out.below RInt.mono hb2'⟩ ⟨_, rfl, Hie.out.below RInt.mono hb2'⟩).mono ?_
       rintro e w3 ⟨v3, rfl, ⟨v4, rfl, ⟨d3, rfl, i3, t3⟩⟩, hb3⟩
       obtain ⟨A3, c3, rfl, hl3, hc3⟩ := i3.shape
       have hb3' := hb2'.trans (hb3.mono hb2'.size)
       have hbb := hb3'.trans ((below_alloc w3 (.cells #[I (ofZ (G : Int)).s, .slice A3 (ofZ (G : Int)).d.length c3] 26)).mono hb3'.size)
       go_wp2_with (go_at_call 74; refine (one_ok (G : Int) (by omega) _ _ ⟨_, rfl, i3.below RInt.mono (below_alloc w3 _)⟩).mono ?_; rintro e w5 ⟨rfl, hb5⟩)
       go_ret
       exact ⟨retB E.out.symm, hbb.trans (hb5.mono hbb.size)⟩
     · have hs1 : ((ofZ Q).s != 1) = true := by simpa using hs
       have hs2 : ((ofZ Q).s == 1) = false := by simpa using hs
       have E : Hid (false = okF ⟨ofZ P, ofZ Q⟩) := Lib.hid (by rw [hE, hs2]; rfl)
       clear hE hs
       go_enter Try.func35, Try.ntmps35
       go_upto_region 3 with (go_at_call 72; fail)
       go_at_call 72
       refine (HP.out _ ⟨_, rfl, Hid'.out.below RInt.mono (below_alloc _ _)⟩).mono ?_
       rintro e w1 ⟨rfl, hb1⟩
       obtain ⟨hz1, hb1', k0⟩ := boxes1 hb1
       obtain ⟨a0, a1, a2, a3⟩ := cellsF k0
       go_upto_region 3 with (go_at_call 72; fail)
       go_at_call 72
       refine (HQ.out _ ⟨_, rfl, Hie.out.below RInt.mono hb1'⟩).mono ?_
       rintro e w2 ⟨rfl, hb2⟩
       have hb12 := hb1.trans (hb2.mono hb1.size)
       clear hb1' k0 a0 a1 a2 a3 hz1
       obtain ⟨hz2, hb2', k0⟩ := boxes1 hb12
       obtain ⟨a0, a1, a2, a3⟩ := cellsF k0
       go_wp2_with fail
       go_ret
       exact ⟨retB E.out, hb2'⟩
abbrev FracQ (w : World) (v : Value) (r : Rat) : Prop := FracV w v (ofQ r)
theorem Right_ok (r : Rat) (v : Value) (w : World) (h : FracQ w v r) (hz : (szQ r : Int) ≤ 2199023255552) : Calls Try.prog 35 #[v] w fun e w' => e = .returned (B true) ∧ Below w.heap.size w w' :=
 (Right_any _ v w h hz).mono fun _ _ h => by rw [okF_ofQ] at h; exact h
set_option maxRecDepth 100000 in
set_option maxHeartbeats 8000000 in
theorem times_ok (a b : Int) (va vb : Value) (w : World) (ha : BigZ w va a) (hb : BigZ w vb b) (la : (szZ a : Int) ≤ 1099511627776) (lb : (szZ b : Int) ≤ 1099511627776) :
    Calls Try.prog 46 #[va, vb] w (RetBig w (ofZ (a * b))) := by
 obtain ⟨da, rfl, ia⟩ := ha
 obtain ⟨db, rfl, ib⟩ := hb
 obtain ⟨A, ca, rfl, hla, hca⟩ := ia.shape
 obtain ⟨B', cb, rfl, hlb, hcb⟩ := ib.shape
 have HM := Lib.hid (fun W h1 h2 => Mul_ok a b (.agg #[I (ofZ a).s, .slice A (ofZ a).d.length ca]) (.agg #[I (ofZ b).s, .slice B' (ofZ b).d.length cb]) W h1 h2 la lb)
 have Hia := Lib.hid ia
 have Hib := Lib.hid ib
 clear ia ib
 go_enter Try.func46, Try.ntmps46
 go_upto_region 2 with (go_at_call 79; fail)
 go_at_call 79
 refine (HM.out _ ⟨_, rfl, Hia.out.below RInt.mono (below3 _ _ _ _)⟩ ⟨_, rfl, Hib.out.below RInt.mono (below3 _ _ _ _)⟩).mono ?_
 rintro e w1 ⟨v1, rfl, ⟨u1, rfl, ho1⟩, hb1⟩
 obtain ⟨hs1, hb1', k0, k1, k2⟩ := boxes3 hb1
 have Kr := Lib.hid k2
 have hu1 := Lib.hid ho1
 obtain ⟨d1, e1, hi1, hty1⟩ := ho1
 obtain ⟨A1, c1, e2, hl1, hc1⟩ := hi1.shape
 subst e2
 subst e1
 clear hi1 hty1 k0 k1
 obtain ⟨r0, r1, rf⟩ := cells2 k2
 clear k2
 go_wp2_with fail
 have q1 := set2 Kr.out (I (ofZ (a * b)).s) (.slice A1 (ofZ (a * b)).d.length c1)
 have q2 := hu1.out.set2 (v0 := I (ofZ (a * b)).s) (v1 := .slice A1 (ofZ (a * b)).d.length c1) Kr.out (by decide)
 have q3 := below_set2 hb1' (by omega : w.heap.size ≤ w.heap.size + 2) (I (ofZ (a * b)).s) (.slice A1 (ofZ (a * b)).d.length c1)
 refine end_cell rfl (by rfl) rfl ((Below.heap_alloc _ _ _ (Array.getElem?_eq_some_iff.1 q1).1).trans q1) Try.underlying26 rfl (by kernel_rfl) ⟨_, rfl, q2.below (below_alloc _ _), q3.alloc q3.size _⟩
set_option maxRecDepth 100000 in
set_option maxHeartbeats 8000000 in
theorem slim_ok (a : Int) (va : Value) (w : World) (ha : BigZ w va a) (la : (szZ a : Int) ≤ 4398046511104) : Calls Try.prog 71 #[va] w (RetBig w (ofZ a)) := by
 obtain ⟨da, rfl, ia⟩ := ha
 obtain ⟨A, ca, rfl, hla, hca⟩ := ia.shape
 have HN := Lib.hid (fun W h1 => Neg_ok a (.agg #[I (ofZ a).s, .slice A (ofZ a).d.length ca]) W h1 la)
 have hnn := fun v W h1 => Neg_ok (-a) v W h1 (by rw [szZ_neg]; exact la)
 rw [Int.neg_neg] at hnn
 have HNN := Lib.hid hnn; clear hnn
 have Hia := Lib.hid ia
 clear ia
 go_enter Try.func71, Try.ntmps71
 go_upto_region 2 with (go_at_call 70; fail)
 go_at_call 70
 refine (HN.out _ ⟨_, rfl, Hia.out.below RInt.mono (below2 _ _ _)⟩).mono ?_
 rintro e w1 ⟨v1, rfl, ho1, hb1⟩
 go_upto_region 2 with (go_at_call 70; fail)
 go_at_call 70
 refine (HNN.out _ _ ho1.big).mono ?_
 rintro e w2 ⟨v2, rfl, ho2, hb2⟩
 have hb12 := hb1.trans (hb2.mono hb1.size)
 obtain ⟨hs2, hb2', k0, k1⟩ := boxes2 hb12
 have Kr := Lib.hid k1
 have hu1 := Lib.hid ho2
 obtain ⟨d1, e1, hi1, hty1⟩ := ho2
 obtain ⟨A1, c1, e2, hl1, hc1⟩ := hi1.shape
 subst e2
 subst e1
 clear hi1 hty1 k0
 obtain ⟨r0, r1, rf⟩ := cells2 k1
 clear k1
 go_wp2_with fail
 exact end_cell rfl (by rfl) rfl (set2 Kr.out _ _) Try.underlying26 rfl (by kernel_rfl) ⟨_, rfl, hu1.out.set2 Kr.out (by decide), below_set2 hb2' (by omega) _ _⟩
theorem ofQ_int (n : Int) : ofQ (n : Rat) = ⟨ofZ n, ofZ 1⟩ := rfl
set_option maxRecDepth 100000 in
set_option maxHeartbeats 8000000 in
theorem Int_ok (n : Int) (w : World) (h1 : -9223372036854775808 ≤ n) (h2 : n ≤ 9223372036854775807) : Calls Try.prog 13 #[I n] w (RetFrac w (ofQ (n : Rat))) := by
 rw [ofQ_int]
 have HN := Lib.hid (fun W => Of_ok n W h1 h2)
 have HO := Lib.hid (fun W => Of_ok 1 W (by decide) (by decide))
 go_enter Try.func13, Try.ntmps13
 go_upto_region 2 with (go_at_call 44; fail)
 go_at_call 44
 refine (HN.out _).mono ?_
 rintro e w1 ⟨v1, rfl, ho1, hb1⟩
 go_upto_region 2 with (go_at_call 44; fail)
 go_at_call 44
 refine (HO.out _).mono ?_
 rintro e w2 ⟨v2, rfl, ho2, hb2⟩
 have hb12 := hb1.trans (hb2.mono hb1.size)
 obtain ⟨hs2, hb2', k0⟩ := boxes1 hb12
 have Kr := Lib.hid k0
 obtain ⟨d1, e1, hi1, hty1⟩ := ho1.below hb2
 obtain ⟨A1, c1, e2, hl1, hc1⟩ := hi1.shape
 obtain ⟨d2, e3, hi2, hty2⟩ := ho2
 obtain ⟨A2, c2, e4, hl2, hc2⟩ := hi2.shape
 subst e2
 subst e1
 subst e4
 subst e3
 have hF : FracF w2 (.agg #[I (ofZ n).s, .slice A1 (ofZ n).d.length c1, I (ofZ 1).s, .slice A2 (ofZ 1).d.length c2]) ⟨ofZ n, ofZ 1⟩ := ⟨_, _, rfl, hi1, hi2, hty1, hty2⟩
 have HF := Lib.hid hF
 clear hi1 hty1 hi2 hty2 hF ho1
 obtain ⟨r0, r1, r2, r3, rf⟩ := cells4 k0
 clear k0
 go_wp2_with fail
 exact end_cell rfl (by rfl) rfl (set4 Kr.out _ _ _ _) Try.underlying28 rfl (by kernel_rfl) ⟨_, rfl, HF.out.set4 Kr.out (by decide), below_set4 hb2' (by omega) _ _ _ _⟩
theorem divInt_parts {p q : Int} (hq : 0 < q) : ∃ c d : Int, p = (Nat.gcd p.natAbs q.natAbs : Int) * c ∧ q = (Nat.gcd p.natAbs q.natAbs : Int) * d ∧ ofQ (Rat.divInt p q) = ⟨ofZ c, ofZ d⟩ ∧ 0 < (Nat.gcd p.natAbs q.natAbs : Int) := by
 have hg : 0 < Nat.gcd p.natAbs q.natAbs := Nat.gcd_pos_of_pos_right _ (by omega)
 have e1 : ((Nat.gcd p.natAbs q.natAbs : Nat) : Int) ∣ p := Int.gcd_dvd_left ..
 have e2 : ((Nat.gcd p.natAbs q.natAbs : Nat) : Int) ∣ q := Int.gcd_dvd_right ..
 refine ⟨p / (Nat.gcd p.natAbs q.natAbs : Int), q / (Nat.gcd p.natAbs q.natAbs : Int), (Int.mul_ediv_cancel' e1).symm, (Int.mul_ediv_cancel' e2).symm, ?_, by omega⟩
 have hgc : Int.gcd q p = Nat.gcd p.natAbs q.natAbs := Nat.gcd_comm _ _
 have h1 : (Rat.divInt p q).num = p / (Nat.gcd p.natAbs q.natAbs : Int) := by
  rw [Rat.num_divInt, Int.sign_eq_one_of_pos hq, hgc, Int.one_mul]
 have h2 : (((Rat.divInt p q).den : Nat) : Int) = q / (Nat.gcd p.natAbs q.natAbs : Int) := by
  rw [Rat.den_divInt, if_neg (by omega), hgc, Int.natCast_ediv]
  congr 1; omega
 unfold ofQ
 rw [h1, h2]
theorem szZ_gcd {p q : Int} : szZ (Nat.gcd p.natAbs q.natAbs : Nat) ≤ max (szZ p) (szZ q) := by
 by_cases h : p = 0
 · subst h; rw [show Nat.gcd (0 : Int).natAbs q.natAbs = q.natAbs by simp]
   have : szZ ((q.natAbs : Nat) : Int) = szZ q := by unfold szZ; simp
   omega
 · have : szZ ((Nat.gcd p.natAbs q.natAbs : Nat) : Int) ≤ szZ p := szZ_mono (by
     have := Nat.gcd_le_left q.natAbs (show 0 < p.natAbs by omega)
     simpa using this)
   omega
def NewAt2 (w : World) (p q : Int) (W : World) : Prop := ∃ (p' q' : Int) (d e : Value), 0 < q' ∧ Rat.divInt p' q' = Rat.divInt p q ∧ szZ p' = szZ p ∧ szZ q' = szZ q ∧
 W.heap[w.heap.size]? = some (.cells #[I (ofZ p').s, d] 26) ∧ W.heap[w.heap.size + 1]? = some (.cells #[I (ofZ q').s, e] 26) ∧ W.heap[w.heap.size + 2]? = some (.cells #[I 0, .slice none 0 0, I 0, .slice none 0 0] 28) ∧
 IntsAt W d (ofZ p').d ∧ IntsAt W e (ofZ q').d ∧ Below w.heap.size w W ∧ w.heap.size + 2 < W.heap.size
set_option maxRecDepth 100000 in
set_option maxHeartbeats 16000000 in
theorem New_ok (a b : Int) (va vb : Value) (w : World) (ha : BigZ w va a) (hb : BigZ w vb b) (hb0 : b ≠ 0) (la : (szZ a : Int) ≤ 2199023255552) (lb : (szZ b : Int) ≤ 2199023255552) :
    Calls Try.prog 45 #[va, vb] w (RetFracE w (ofQ (Rat.divInt a b)) 0) := by
 obtain ⟨da, rfl, ia⟩ := ha
 obtain ⟨db, rfl, ib⟩ := hb
 obtain ⟨A, ca, rfl, hla, hca⟩ := ia.shape
 obtain ⟨B', cb, rfl, hlb, hcb⟩ := ib.shape
 obtain ⟨sb1, sb2⟩ := sign_mul_bounds a b
 obtain ⟨sba1, sba2⟩ := sign_bounds a
 obtain ⟨sbb1, sbb2⟩ := sign_bounds b
 have sbw : IntKind.i64.wrap (a.sign * b.sign) = a.sign * b.sign := IntWalk.i64_in _ (by omega)
 have HA := Lib.hid (fun W h => right_ok a (.agg #[I (ofZ a).s, .slice A (ofZ a).d.length ca]) W h)
 have HB := Lib.hid (fun W h => right_ok b (.agg #[I (ofZ b).s, .slice B' (ofZ b).d.length cb]) W h)
 have Hia := Lib.hid ia
 have Hib := Lib.hid ib
 have HNA := Lib.hid (fun W h => Neg_ok a (.agg #[I (ofZ a).s, .slice A (ofZ a).d.length ca]) W h (by omega))
 have HNB := Lib.hid (fun W h => Neg_ok b (.agg #[I (ofZ b).s, .slice B' (ofZ b).d.length cb]) W h (by omega))
 have hsa : (ofZ a).s = a.sign := rfl
 have hsb : (ofZ b).s = b.sign := rfl
 have hda : (ofZ a).d = digs a.natAbs := rfl
 have hdb : (ofZ b).d = digs b.natAbs := rfl
 simp only [hsa, hsb, hda, hdb] at *
 clear hsa hsb hda hdb ia ib
 have hbn : (b.sign == 0) = false := by
  rcases sign_cases b with ⟨h1, h2, _⟩ | ⟨h1, h2, _⟩ | ⟨h1, h2, _⟩
  · rw [h2]; rfl
  · exact absurd h1 hb0
  · rw [h2]; rfl
 have Hb0 := Lib.hid hb0; clear hb0
 go_enter Try.func45, Try.ntmps45
 go_upto_block 0 with fail
 go_cut [29] (fun _ wx => NewAt2 w a b wx)
 case first =>
  go_upto_region 3 with (go_at_call 72; fail)
  go_at_call 72
  refine (HA.out _ ⟨_, rfl, Hia.out.below RInt.mono (below3 _ _ _ _)⟩).mono ?_
  rintro e w1 ⟨rfl, hb1⟩
  obtain ⟨hs1, hb1', k0, k1, k2⟩ := boxes3 hb1
  have hk1 := cells2 k0
  have hk2 := cells2 k1
  go_upto_region 3 with (go_at_call 72; fail)
  go_at_call 72
  refine (HB.out _ ⟨_, rfl, Hib.out.below RInt.mono hb1'⟩).mono ?_
  rintro e w2 ⟨rfl, hb2⟩
  have hb12 := hb1.trans (hb2.mono hb1.size)
  clear hs1 hb1' hk1 hk2 k0 k1 k2
  obtain ⟨hs2, hb2', k0, k1, k2⟩ := boxes3 hb12
  have Hia2 := Lib.hid (Hia.out.below RInt.mono hb2')
  have Hib2 := Lib.hid (Hib.out.below RInt.mono hb2')
  obtain ⟨a0, a1, af⟩ := cells2 k0
  obtain ⟨b0, b1, bf⟩ := cells2 k1
  have hsz0 : w.heap.size < w2.heap.size := by omega
  have hsz1 : w.heap.size + 1 < w2.heap.size := by omega
  have Ka := Lib.hid k0
  have Kb := Lib.hid k1
  have Kr := Lib.hid k2
  clear k0 k1 k2
  by_cases hneg : b.sign < 0
  · have hbneg : b < 0 := by
      rcases sign_cases b with ⟨h1, h2, _⟩ | ⟨h1, h2, _⟩ | ⟨h1, h2, _⟩ <;> omega
    go_wp2_with fail
    refine wp_region_rel_seq 4 (by kernel_rfl) (by kernel_rfl) (by kernel_rfl) (by kernel_rfl) (by kernel_rfl) ?_
    simp only [List.take_succ_cons, List.take_zero]
    repeat (with_reducible apply rel_is
            · intro wx hx
              have hc := (bcell hx).2.1
              try simp only [List.nil_append, List.cons_append]
              repeat (first | with_reducible refine reads_is ?_ | (with_reducible refine reads_skip ?_ ?_; (· decide +kernel)))
              with_reducible refine reads_nil ?_
              go_simp
              exact ⟨Grows.refl _, rfl⟩)
    refine rel_of (fun W u => BigF W u (ofZ (-a))) (BigF.mono _) ?_ ?_
    · intro wx hx
      have hc := (bcell hx).2.1
      try simp only [List.nil_append, List.cons_append]
      repeat (with_reducible refine reads_is ?_)
      with_reducible refine reads_nil ?_
      go_simp
      go_at_call 70
      refine (HNA.out _ ⟨_, rfl, Hia2.out.below RInt.mono hx⟩).mono ?_
      rintro e w3 ⟨v3, rfl, ho, hb3⟩
      exact ⟨_, rfl, hb3, ho⟩
    repeat (with_reducible apply rel_is
            · intro wx hx
              have hc := (bcell hx).2.1
              try simp only [List.nil_append, List.cons_append]
              repeat (first | with_reducible refine reads_is ?_ | (with_reducible refine reads_skip ?_ ?_; (· decide +kernel)))
              with_reducible refine reads_nil ?_
              go_simp
              exact ⟨Grows.refl _, rfl⟩)
    refine rel_of (fun W u => BigF W u (ofZ (-b))) (BigF.mono _) ?_ ?_
    · intro wx hx
      have hc := (bcell hx).2.1
      try simp only [List.nil_append, List.cons_append]
      repeat (with_reducible refine reads_is ?_)
      (with_reducible refine reads_skip ?_ ?_; (· decide +kernel))
      repeat (with_reducible refine reads_is ?_)
      with_reducible refine reads_nil ?_
      go_simp
      go_at_call 70
      refine (HNB.out _ ⟨_, rfl, Hib2.out.below RInt.mono hx⟩).mono ?_
      rintro e w3 ⟨v3, rfl, ho, hb3⟩
      exact ⟨_, rfl, hb3, ho⟩
    with_reducible refine rel_end ?_
    intro w6 hg6
    simp only [List.nil_append, List.cons_append]
    repeat (with_reducible refine final_is ?_)
    with_reducible refine final_of ?_
    intro u34 hu34
    repeat (with_reducible refine final_is ?_)
    with_reducible refine final_of ?_
    intro u36 hu36
    repeat (with_reducible refine final_is ?_)
    have ka6 := (hg6.block _ hsz0).trans Ka.out
    have kb6 := (hg6.block _ hsz1).trans Kb.out
    have kr6 := (hg6.block _ hs2).trans Kr.out
    have Ka6 := Lib.hid ka6
    have Kb6 := Lib.hid kb6
    have Kr6 := Lib.hid kr6
    obtain ⟨r0, r1, rf⟩ := cells2 ka6
    obtain ⟨r0', r1', rf'⟩ := cells2 kb6
    have hu6 := Lib.hid hu34
    have hu7 := Lib.hid hu36
    obtain ⟨d6, e6, hi6, hty6⟩ := hu34
    obtain ⟨A6, c6, e7, hl6, hc6⟩ := hi6.shape
    obtain ⟨d7, e8, hi7, hty7⟩ := hu36
    obtain ⟨A7, c7, e9, hl7, hc7⟩ := hi7.shape
    subst e7
    subst e6
    subst e9
    subst e8
    clear hi6 hty6 ka6 hi7 hty7 kb6 kr6
    with_reducible refine final_nil ?_
    simp only [List.drop_succ_cons, List.drop_zero]
    go_frame
    go_wp2_with fail
    go_meet
    case rel =>
     have q1 := set2 Ka6.out (I (ofZ (-a)).s) (.slice A6 (ofZ (-a)).d.length c6)
     have q2 := set2_far Kb6.out (g := w.heap.size) (by omega) (I (ofZ (-a)).s) (.slice A6 (ofZ (-a)).d.length c6)
     have q2r := set2_far Kr6.out (g := w.heap.size) (by omega) (I (ofZ (-a)).s) (.slice A6 (ofZ (-a)).d.length c6)
     have q3 := hu6.out.set2 (v0 := I (ofZ (-a)).s) (v1 := .slice A6 (ofZ (-a)).d.length c6) Ka6.out (by decide)
     have q4 := hu7.out.set2 (v0 := I (ofZ (-a)).s) (v1 := .slice A6 (ofZ (-a)).d.length c6) Ka6.out (by decide)
     have q5 := q3.set2 (v0 := I (ofZ (-b)).s) (v1 := .slice A7 (ofZ (-b)).d.length c7) q2 (by decide)
     have q6 := q4.set2 (v0 := I (ofZ (-b)).s) (v1 := .slice A7 (ofZ (-b)).d.length c7) q2 (by decide)
     obtain ⟨d6, e6, hi6, _⟩ := q5
     obtain ⟨d7, e7, hi7, _⟩ := q6
     simp only [Value.agg.injEq, Array.mk.injEq, List.cons.injEq, and_true, true_and] at e6 e7
     subst e6
     subst e7
     have hbw := below_set2 (below_set2 (hb2'.trans (hg6.mono hb2'.size)) (by omega : w.heap.size ≤ w.heap.size) (I (ofZ (-a)).s) (.slice A6 (ofZ (-a)).d.length c6)) (by omega : w.heap.size ≤ w.heap.size + 1) (I (ofZ (-b)).s) (.slice A7 (ofZ (-b)).d.length c7)
     refine ⟨-a, -b, _, _, by omega, Rat.neg_divInt_neg a b, szZ_neg a, szZ_neg b, set2_far q1 (by omega) _ _, set2 q2 _ _, set2_far q2r (by omega) _ _, hi6, hi7, hbw, ?_⟩
     have := (Array.getElem?_eq_some_iff.1 (set2_far q2r (g := w.heap.size + 1) (by omega) (I (ofZ (-b)).s) (.slice A7 (ofZ (-b)).d.length c7))).1
     exact this
  · have hbpos : 0 < b := by
      have := Hb0.out
      rcases sign_cases b with ⟨h1, h2, _⟩ | ⟨h1, h2, _⟩ | ⟨h1, h2, _⟩ <;> omega
    go_wp2_with fail
    go_meet
    case rel => exact ⟨a, b, _, _, hbpos, rfl, rfl, rfl, Ka.out, Kb.out, Kr.out, Hia2.out, Hib2.out, hb2', hs2⟩
 case rest =>
  clear hbn
  obtain ⟨p, q, d, e, hq0, hpq, hsp, hsq, ka, kb, kr, ip, iq, hbx, hsx⟩ := hcut
  have Hpq := Lib.hid hpq
  have Hsp := Lib.hid hsp
  have Hsq := Lib.hid hsq
  obtain ⟨Ap, cp, rfl, hlp, hcp⟩ := ip.shape
  obtain ⟨Aq, cq, rfl, hlq, hcq⟩ := iq.shape
  obtain ⟨c, f, hpc, hqf, hof, hg0⟩ := divInt_parts (p := p) hq0
  have hlg := szZ_gcd (p := p) (q := q)
  have HG := Lib.hid (fun W h1 h2 => Gcd_ok p q (.agg #[I (ofZ p).s, .slice Ap (ofZ p).d.length cp]) (.agg #[I (ofZ q).s, .slice Aq (ofZ q).d.length cq]) W h1 h2 (by omega) (by omega))
  have HD1 := Lib.hid (fun vg W h1 h2 => Div_exact p (Nat.gcd p.natAbs q.natAbs : Nat) c (.agg #[I (ofZ p).s, .slice Ap (ofZ p).d.length cp]) vg W h1 h2 hg0 hpc (by omega) (by omega))
  have HD2 := Lib.hid (fun vg W h1 h2 => Div_exact q (Nat.gcd p.natAbs q.natAbs : Nat) f (.agg #[I (ofZ q).s, .slice Aq (ofZ q).d.length cq]) vg W h1 h2 hg0 hqf (by omega) (by omega))
  have Hof := Lib.hid hof
  generalize Nat.gcd p.natAbs q.natAbs = G at *
  clear hpq hsp hsq hpc hqf hof hlg
  have Hip := Lib.hid ip
  have Hiq := Lib.hid iq
  have Ka := Lib.hid ka
  have Kb := Lib.hid kb
  have Kr := Lib.hid kr
  obtain ⟨a0, a1, af⟩ := cells2 ka
  obtain ⟨b0, b1, bf⟩ := cells2 kb
  obtain ⟨wc, rfl⟩ : ∃ W : World, W = wc := ⟨_, rfl⟩
  clear ip iq ka kb kr
  go_upto_region 8 with (go_at_call 73; fail)
  go_at_call 73
  refine (HG.out _ ⟨_, rfl, Hip.out⟩ ⟨_, rfl, Hiq.out⟩).mono ?_
  rintro e3 w3 ⟨v3, rfl, ⟨v4, rfl, ⟨d3, rfl, i3, t3⟩⟩, hb3⟩
  obtain ⟨A3, c3, rfl, hl3, hc3⟩ := i3.shape
  have hb3x := hb3.trans ((below_alloc w3 (.cells #[I (ofZ (G : Int)).s, .slice A3 (ofZ (G : Int)).d.length c3] 26)).mono hb3.size)
  have Hi3 := Lib.hid i3
  have Ht3 := Lib.hid t3
  clear i3 t3
  have hx0 : w.heap.size < wc.heap.size := by omega
  have hx1 : w.heap.size + 1 < wc.heap.size := by omega
  have a0 := (hb3.cell (p := ⟨w.heap.size, 0, none⟩) hx0).trans a0
  have a1 := (hb3.cell (p := ⟨w.heap.size, 1, none⟩) hx0).trans a1
  have b0 := (hb3.cell (p := ⟨w.heap.size + 1, 0, none⟩) hx1).trans b0
  have b1 := (hb3.cell (p := ⟨w.heap.size + 1, 1, none⟩) hx1).trans b1
  have hs3 : w.heap.size + 2 < w3.heap.size := by have := hb3.size; omega
  have hx0' : w.heap.size < w3.heap.size := by omega
  have hx1' : w.heap.size + 1 < w3.heap.size := by omega
  go_upto_region 9 with (go_at_call 78; fail)
  go_at_call 78
  refine (HD1.out _ _ ⟨_, rfl, Hip.out.below RInt.mono hb3x⟩ ⟨_, rfl, Hi3.out.below RInt.mono (below_alloc w3 _)⟩).mono ?_
  rintro e4 w4 ⟨v4, v5, rfl, ho4, ho5, hb4⟩
  obtain ⟨hg4, hb4', kg⟩ := boxes1 hb4
  have Kg := Lib.hid kg
  obtain ⟨g0, g1, gf⟩ := cells2 kg
  have hb34 := hb3.trans (hb4'.mono hb3.size)
  have a0 := (hb4'.cell (p := ⟨w.heap.size, 0, none⟩) hx0').trans a0
  have a1 := (hb4'.cell (p := ⟨w.heap.size, 1, none⟩) hx0').trans a1
  have b0 := (hb4'.cell (p := ⟨w.heap.size + 1, 0, none⟩) hx1').trans b0
  have b1 := (hb4'.cell (p := ⟨w.heap.size + 1, 1, none⟩) hx1').trans b1
  have Hu4 := Lib.hid ho4
  obtain ⟨d4, e6, i4, t4⟩ := ho4
  obtain ⟨A4, c4, e7, hl4, hc4⟩ := i4.shape
  obtain ⟨d5, e8, i5, t5⟩ := ho5
  obtain ⟨A5, c5, e9, hl5, hc5⟩ := i5.shape
  subst e7
  subst e6
  subst e9
  subst e8
  have Hi4 := Lib.hid i4
  have Ht4 := Lib.hid t4
  have Hi5 := Lib.hid i5
  have Hs5 : zB.s = 0 := rfl
  have Hl5 : zB.d.length = 0 := rfl
  clear i4 t4 t5 i5 hl5
  rw [Hs5, Hl5] at *
  clear Hs5 Hl5
  have hx4 : w.heap.size < w4.heap.size := by have := hb4'.size; omega
  have hx5 : w.heap.size + 1 < w4.heap.size := by have := hb4'.size; omega
  have hx6 : w3.heap.size < w4.heap.size := by omega
  go_upto_region 10 with (go_at_call 78; fail)
  go_at_call 78
  have hbA := below2 w4 (.cells #[I (ofZ c).s, .slice A4 (ofZ c).d.length c4] 26) (.cells #[I 0, .slice A5 0 c5] 26)
  refine (HD2.out _ _ ⟨_, rfl, Hiq.out.below RInt.mono (hb34.trans (hbA.mono hb34.size))⟩ ⟨_, rfl, Hi3.out.below RInt.mono (hb4'.trans (hbA.mono hb4'.size))⟩).mono ?_
  rintro e5 w5 ⟨v6, v7, rfl, ho6, ho7, hb5⟩
  obtain ⟨hg5, hb5', kc, kz⟩ := boxes2 hb5
  obtain ⟨k0, k1, kf⟩ := cells2 kc
  have hb35 := hb34.trans (hb5'.mono hb34.size)
  have kr := (hb35.block _ hsx).trans Kr.out
  have Kr5 := Lib.hid kr
  have kr' : w5.heap[w.heap.size + 1 + 1]? = some (.cells #[I 0, .slice none 0 0, I 0, .slice none 0 0] 28) := kr
  obtain ⟨r0, r1, r2, r3, rf⟩ := cells4 kr'
  clear kr'
  obtain ⟨d6, e6, i6, t6⟩ := ho6
  obtain ⟨A6, c6, e7, hl6, hc6⟩ := i6.shape
  obtain ⟨d7, e8, i7, t7⟩ := ho7
  obtain ⟨A7, c7, e9, hl7, hc7⟩ := i7.shape
  subst e7
  subst e6
  subst e9
  subst e8
  have Hs5 : zB.s = 0 := rfl
  have Hl5 : zB.d.length = 0 := rfl
  have hF : FracF w5 (.agg #[I (ofZ c).s, .slice A4 (ofZ c).d.length c4, I (ofZ f).s, .slice A6 (ofZ f).d.length c6]) ⟨ofZ c, ofZ f⟩ := ⟨_, _, rfl, Hi4.out.below RInt.mono hb5', i6, Ht4.out.below hb5', t6⟩
  have HF := Lib.hid hF
  clear i6 t6 t7 i7 hl7 hF kr kc kz
  rw [Hs5, Hl5] at *
  clear Hs5 Hl5
  have hx7 : w4.heap.size < w5.heap.size := by omega
  have hs5 : w.heap.size + 1 + 1 < w5.heap.size := by have := hb35.size; omega
  have kx : ((w5.alloc (.cells #[I (ofZ f).s, .slice A6 (ofZ f).d.length c6] 26)).alloc (.cells #[I 0, .slice A7 0 c7] 26)).heap[w.heap.size + 1 + 1]? = some (.cells #[I 0, .slice none 0 0, I 0, .slice none 0 0] 28) := by
   rw [Below.heap_alloc _ _ _ (by simp; omega), Below.heap_alloc _ _ _ hs5]; exact Kr5.out
  obtain ⟨x0, x1, x2, x3, xf⟩ := cells4 kx
  have hF2 := HF.out.below (below2 w5 (.cells #[I (ofZ f).s, .slice A6 (ofZ f).d.length c6] 26) (.cells #[I 0, .slice A7 0 c7] 26))
  have HF2 := Lib.hid hF2
  have Kx := Lib.hid kx
  clear kx hF2 r0 r1 r2 r3 rf
  go_wp2_with fail
  have q2 := HF2.out.set4 (v0 := I (ofZ c).s) (v1 := .slice A4 (ofZ c).d.length c4) (v2 := I (ofZ f).s) (v3 := .slice A6 (ofZ f).d.length c6) Kx.out (by decide)
  have hb5x := hbx.trans (hb35.mono hbx.size)
  have hb6x := hb5x.trans ((below2 w5 (.cells #[I (ofZ f).s, .slice A6 (ofZ f).d.length c6] 26) (.cells #[I 0, .slice A7 0 c7] 26)).mono hb5x.size)
  have q3 := below_set4 hb6x (by omega : w.heap.size ≤ w.heap.size + 1 + 1) (I (ofZ c).s) (.slice A4 (ofZ c).d.length c4) (I (ofZ f).s) (.slice A6 (ofZ f).d.length c6)
  have e : ofQ (Rat.divInt a b) = ⟨ofZ c, ofZ f⟩ := by rw [← Hpq.out, Hof.out]
  rw [e]
  exact end_cell_tmp rfl (by rfl) (by rfl) rfl (set4 Kx.out _ _ _ _) Try.underlying28 rfl (by kernel_rfl) ⟨_, rfl, ⟨_, rfl, q2⟩, q3⟩
theorem szQ_parts (r : Rat) : szZ r.num ≤ szQ r ∧ szZ (r.den : Int) ≤ szQ r := by rw [szQ_eq]; omega
def NewAt (T : TypeId) (z : Value) (B : Nat) (w : World) (v : Value) : Prop := ∃ b, v = .pointer (some ⟨b, 0, none⟩) ∧ B ≤ b ∧ w.heap[b]? = some (.cells z.cells T (0, 0))
theorem newAt_mono (T : TypeId) (z : Value) (B : Nat) (w w' : World) (v : Value) (hg : Grows w w') (h : NewAt T z B w v) : NewAt T z B w' v := by
 obtain ⟨b, h1, h2, h3⟩ := h
 exact ⟨b, h1, h2, (hg.block b (Array.getElem?_eq_some_iff.1 h3).1).trans h3⟩
set_option maxRecDepth 100000 in
set_option maxHeartbeats 16000000 in
theorem FMul_no (f g : FracD) (va vb : Value) (w : World) (hf : FracV w va f) (hg : FracV w vb g) (zf : (szF f : Int) ≤ 549755813888) (zg : (szF g : Int) ≤ 549755813888) (hno : (okF f && okF g) = false) :
    Calls Try.prog 14 #[va, vb] w (RetFracE w zF 1) := by
 obtain ⟨df, ef, rfl, idf, ief⟩ := hf
 obtain ⟨A, ca, rfl, hlaf, hcaf⟩ := idf.shape
 obtain ⟨B1, cb, rfl, hlbf, hcbf⟩ := ief.shape
 obtain ⟨dg, eg, rfl, idg, ieg⟩ := hg
 obtain ⟨A2, ca2, rfl, hlag, hcag⟩ := idg.shape
 obtain ⟨B2, cb2, rfl, hlbg, hcbg⟩ := ieg.shape
 have HF := Lib.hid (fun W h => Right_any f (.agg #[I f.p.s, .slice A f.p.d.length ca, I f.q.s, .slice B1 f.q.d.length cb]) W h (by omega))
 have HG := Lib.hid (fun W h => Right_any g (.agg #[I g.p.s, .slice A2 g.p.d.length ca2, I g.q.s, .slice B2 g.q.d.length cb2]) W h (by omega))
 have Hf := Lib.hid (show FracV w (.agg #[I f.p.s, .slice A f.p.d.length ca, I f.q.s, .slice B1 f.q.d.length cb]) f from ⟨_, _, rfl, idf, ief⟩)
 have Hg := Lib.hid (show FracV w (.agg #[I g.p.s, .slice A2 g.p.d.length ca2, I g.q.s, .slice B2 g.q.d.length cb2]) g from ⟨_, _, rfl, idg, ieg⟩)
 clear idf ief idg ieg
 cases hok : okF f with
 | false =>
   rw [hok] at HF
   clear hno hok
   go_enter Try.func14, Try.ntmps14
   go_upto_region 3 with (go_at_call 35; fail)
   go_at_call 35
   refine (HF.out _ (Hf.out.below (below3 _ _ _ _))).mono ?_
   rintro e w1 ⟨rfl, hb1⟩
   obtain ⟨hs1, hb1', k0, k1, k2⟩ := boxes3 hb1
   have Kr := Lib.hid k2
   obtain ⟨r0, r1, r2, r3, rf⟩ := cells4 k2
   have hz := Lib.hid (fracF_zero w1)
   clear k0 k1 k2
   go_wp2_with fail
   exact end_cell_tmp rfl (by rfl) (by rfl) rfl (set4 Kr.out _ _ _ _) Try.underlying28 rfl (by kernel_rfl) ⟨_, rfl, ⟨_, rfl, hz.out.set4 Kr.out (by decide)⟩, below_set4 hb1' (by omega) _ _ _ _⟩
 | true =>
   rw [hok] at HF hno
   rw [Bool.true_and] at hno
   rw [hno] at HG
   clear hno hok
   go_enter Try.func14, Try.ntmps14
   go_upto_region 3 with (go_at_call 35; fail)
   go_at_call 35
   refine (HF.out _ (Hf.out.below (below3 _ _ _ _))).mono ?_
   rintro e w1 ⟨rfl, hb1⟩
   obtain ⟨hs1, hb1', k0, k1, k2⟩ := boxes3 hb1
   obtain ⟨y0, y1, y2, y3⟩ := cellsF k1
   go_upto_region 3 with (go_at_call 35; fail)
   go_at_call 35
   refine (HG.out _ (Hg.out.below hb1')).mono ?_
   rintro e w2 ⟨rfl, hb2⟩
   have hb12 := hb1.trans (hb2.mono hb1.size)
   clear y0 y1 y2 y3 hs1 hb1' k0 k1 k2
   obtain ⟨hs2, hb2', k0, k1, k2⟩ := boxes3 hb12
   have Kr := Lib.hid k2
   obtain ⟨r0, r1, r2, r3, rf⟩ := cells4 k2
   have hz := Lib.hid (fracF_zero w2)
   clear k0 k1 k2
   go_wp2_with fail
   exact end_cell_tmp rfl (by rfl) (by rfl) rfl (set4 Kr.out _ _ _ _) Try.underlying28 rfl (by kernel_rfl) ⟨_, rfl, ⟨_, rfl, hz.out.set4 Kr.out (by decide)⟩, below_set4 hb2' (by omega) _ _ _ _⟩
set_option maxRecDepth 100000 in
set_option maxHeartbeats 16000000 in
theorem FMul_ok (a b : Rat) (va vb : Value) (w : World) (ha : FracQ w va a) (hb : FracQ w vb b) (za : (szQ a : Int) ≤ 549755813888) (zb : (szQ b : Int) ≤ 549755813888) :
    Calls Try.prog 14 #[va, vb] w (RetFracE w (ofQ (a * b)) 0) := by
 obtain ⟨da, ea, rfl, ida, iea⟩ := ha
 obtain ⟨A, ca, rfl, hlaa, hcaa⟩ := ida.shape
 obtain ⟨B1, cb, rfl, hlba, hcba⟩ := iea.shape
 obtain ⟨db, eb, rfl, idb, ieb⟩ := hb
 obtain ⟨A2, ca2, rfl, hlab, hcab⟩ := idb.shape
 obtain ⟨B2, cb2, rfl, hlbb, hcbb⟩ := ieb.shape
 have hpa : (ofQ a).p = ofZ a.num := rfl
 have hqa : (ofQ a).q = ofZ a.den := rfl
 have hpb : (ofQ b).p = ofZ b.num := rfl
 have hqb : (ofQ b).q = ofZ b.den := rfl
 simp only [hpa, hqa, hpb, hqb] at *
 clear hpa hqa hpb hqb
 have zpa := szQ_parts a
 have zpb := szQ_parts b
 have HF := Lib.hid (fun W h => Right_ok a (.agg #[I (ofZ a.num).s, .slice A (ofZ a.num).d.length ca, I (ofZ a.den).s, .slice B1 (ofZ a.den).d.length cb]) W h (by omega))
 have HG := Lib.hid (fun W h => Right_ok b (.agg #[I (ofZ b.num).s, .slice A2 (ofZ b.num).d.length ca2, I (ofZ b.den).s, .slice B2 (ofZ b.den).d.length cb2]) W h (by omega))
 have Hf := Lib.hid (show FracV w (.agg #[I (ofZ a.num).s, .slice A (ofZ a.num).d.length ca, I (ofZ a.den).s, .slice B1 (ofZ a.den).d.length cb]) (ofQ a) from ⟨_, _, rfl, ida, iea⟩)
 have Hg := Lib.hid (show FracV w (.agg #[I (ofZ b.num).s, .slice A2 (ofZ b.num).d.length ca2, I (ofZ b.den).s, .slice B2 (ofZ b.den).d.length cb2]) (ofQ b) from ⟨_, _, rfl, idb, ieb⟩)
 have Hap := Lib.hid ida
 have Haq := Lib.hid iea
 have Hbp := Lib.hid idb
 have Hbq := Lib.hid ieb
 clear ida iea idb ieb
 have HT1 := Lib.hid (fun W h1 h2 => times_ok a.num b.num (.agg #[I (ofZ a.num).s, .slice A (ofZ a.num).d.length ca]) (.agg #[I (ofZ b.num).s, .slice A2 (ofZ b.num).d.length ca2]) W h1 h2 (by omega) (by omega))
 have HT2 := Lib.hid (fun W h1 h2 => times_ok (a.den : Int) (b.den : Int) (.agg #[I (ofZ a.den).s, .slice B1 (ofZ a.den).d.length cb]) (.agg #[I (ofZ b.den).s, .slice B2 (ofZ b.den).d.length cb2]) W h1 h2 (by omega) (by omega))
 have zm1 := szZ_mul a.num b.num
 have zm2 := szZ_mul a.den b.den
 have hn := fun va vb W h1 h2 => New_ok (a.num * b.num) ((a.den : Int) * b.den) va vb W h1 h2 (Int.mul_ne_zero (den_ne a) (den_ne b)) (by omega) (by omega)
 rw [← mul_divInt] at hn
 have HN := Lib.hid hn; clear hn zm1 zm2
 clear zpa zpb
 go_enter Try.func14, Try.ntmps14
 go_upto_region 3 with (go_at_call 35; fail)
 go_at_call 35
 refine (HF.out _ (Hf.out.below (below3 _ _ _ _))).mono ?_
 rintro e w1 ⟨rfl, hb1⟩
 obtain ⟨hs1, hb1', k0, k1, k2⟩ := boxes3 hb1
 obtain ⟨y0, y1, y2, y3⟩ := cellsF k1
 go_upto_region 3 with (go_at_call 35; fail)
 go_at_call 35
 refine (HG.out _ (Hg.out.below hb1')).mono ?_
 rintro e w2 ⟨rfl, hb2⟩
 have hb12 := hb1.trans (hb2.mono hb1.size)
 clear y0 y1 y2 y3 hs1 hb1' k0 k1 k2
 obtain ⟨hs2, hb2', k0, k1, k2⟩ := boxes3 hb12
 obtain ⟨x0, x1, x2, x3⟩ := cellsF k0
 obtain ⟨y0, y1, y2, y3⟩ := cellsF k1
 have Hap2 := Lib.hid (Hap.out.below RInt.mono hb2')
 have Haq2 := Lib.hid (Haq.out.below RInt.mono hb2')
 have Hbp2 := Lib.hid (Hbp.out.below RInt.mono hb2')
 have Hbq2 := Lib.hid (Hbq.out.below RInt.mono hb2')
 have hz0 : w.heap.size < w2.heap.size := by omega
 have hz1 : w.heap.size + 1 < w2.heap.size := by omega
 have Kr := Lib.hid k2
 clear k0 k1 k2
 go_upto_region 3 with fail
 refine wp_region_rel_seq 13 (by kernel_rfl) (by kernel_rfl) (by kernel_rfl) (by kernel_rfl) (by kernel_rfl) ?_
 simp only [List.take_succ_cons, List.take_zero]
 repeat (with_reducible apply rel_is
         · intro wx hx
           have hc := (bcell hx).2.1
           try simp only [List.nil_append, List.cons_append]
           repeat (first | with_reducible refine reads_is ?_ | (with_reducible refine reads_skip ?_ ?_; (· decide +kernel)))
           with_reducible refine reads_nil ?_
           go_simp
           exact ⟨Grows.refl _, rfl⟩)
 refine rel_of (fun W u => BigF W u (ofZ (a.num * b.num))) (BigF.mono _) ?_ ?_
 · intro wx hx
   have hc := (bcell hx).2.1
   try simp only [List.nil_append, List.cons_append]
   repeat (with_reducible refine reads_is ?_)
   with_reducible refine reads_nil ?_
   go_simp
   go_at_call 46
   refine (HT1.out _ ⟨_, rfl, Hap2.out.below RInt.mono hx⟩ ⟨_, rfl, Hbp2.out.below RInt.mono hx⟩).mono ?_
   rintro e w3 ⟨v3, rfl, ho, hb3⟩
   exact ⟨_, rfl, hb3, ho⟩
 repeat (with_reducible apply rel_is
         · intro wx hx
           have hc := (bcell hx).2.1
           try simp only [List.nil_append, List.cons_append]
           repeat (first | with_reducible refine reads_is ?_ | (with_reducible refine reads_skip ?_ ?_; (· decide +kernel)))
           with_reducible refine reads_nil ?_
           go_simp
           exact ⟨Grows.refl _, rfl⟩)
 refine rel_of (fun W u => BigF W u (ofZ ((a.den : Int) * b.den))) (BigF.mono _) ?_ ?_
 · intro wx hx
   have hc := (bcell hx).2.1
   try simp only [List.nil_append, List.cons_append]
   repeat (with_reducible refine reads_is ?_)
   (with_reducible refine reads_skip ?_ ?_; (· decide +kernel))
   repeat (with_reducible refine reads_is ?_)
   with_reducible refine reads_nil ?_
   go_simp
   go_at_call 46
   refine (HT2.out _ ⟨_, rfl, Haq2.out.below RInt.mono hx⟩ ⟨_, rfl, Hbq2.out.below RInt.mono hx⟩).mono ?_
   rintro e w3 ⟨v3, rfl, ho, hb3⟩
   exact ⟨_, rfl, hb3, ho⟩
 refine rel_of (fun W u => FracE W u (ofQ (a * b)) 0) (FracE.mono _ _) ?_ ?_
 · intro wx hx
   have hc := (bcell hx).2.1
   try simp only [List.nil_append, List.cons_append]
   repeat (with_reducible refine reads_is ?_)
   (with_reducible refine reads_take ?_ ?_; (· decide +kernel))
   intro u19 hu19
   repeat (with_reducible refine reads_is ?_)
   (with_reducible refine reads_take ?_ ?_; (· decide +kernel))
   intro u24 hu24
   repeat (with_reducible refine reads_is ?_)
   with_reducible refine reads_nil ?_
   go_simp
   go_at_call 45
   refine (HN.out _ _ _ hu19.big hu24.big).mono ?_
   rintro e w3 ⟨v3, rfl, ho, hb3⟩
   exact ⟨_, rfl, hb3, ho⟩
 refine rel_of (fun W u => FracF W u (ofQ (a * b))) (FracF.mono _) ?_ ?_
 · intro wx hx
   have hc := (bcell hx).2.1
   try simp only [List.nil_append, List.cons_append]
   repeat (with_reducible refine reads_is ?_)
   (with_reducible refine reads_skip ?_ ?_; (· decide +kernel))
   repeat (with_reducible refine reads_is ?_)
   (with_reducible refine reads_skip ?_ ?_; (· decide +kernel))
   repeat (with_reducible refine reads_is ?_)
   (with_reducible refine reads_take ?_ ?_; (· decide +kernel))
   intro u25 hu25
   repeat (with_reducible refine reads_is ?_)
   obtain ⟨u1, he, hu1⟩ := hu25
   with_reducible refine reads_nil ?_
   go_simp
   (first | exact ⟨Grows.refl _, hu1⟩ | exact Grows.refl _)
 apply rel_is (v := I 0)
 · intro wx hx
   have hc := (bcell hx).2.1
   try simp only [List.nil_append, List.cons_append]
   repeat (with_reducible refine reads_is ?_)
   (with_reducible refine reads_skip ?_ ?_; (· decide +kernel))
   repeat (with_reducible refine reads_is ?_)
   (with_reducible refine reads_skip ?_ ?_; (· decide +kernel))
   repeat (with_reducible refine reads_is ?_)
   (with_reducible refine reads_take ?_ ?_; (· decide +kernel))
   intro u25 hu25
   repeat (with_reducible refine reads_is ?_)
   (with_reducible refine reads_skip ?_ ?_; (· decide +kernel))
   repeat (with_reducible refine reads_is ?_)
   obtain ⟨u1, he, hu1⟩ := hu25
   with_reducible refine reads_nil ?_
   go_simp
   (first | exact ⟨Grows.refl _, rfl⟩ | exact Grows.refl _)
 with_reducible refine rel_end ?_
 intro w6 hg6
 simp only [List.nil_append, List.cons_append]
 repeat (with_reducible refine final_is ?_)
 with_reducible refine final_of ?_
 intro u19 hu19
 repeat (with_reducible refine final_is ?_)
 with_reducible refine final_of ?_
 intro u24 hu24
 repeat (with_reducible refine final_is ?_)
 with_reducible refine final_of ?_
 intro u25 hu25
 repeat (with_reducible refine final_is ?_)
 with_reducible refine final_of ?_
 intro u26 hu26
 repeat (with_reducible refine final_is ?_)
 have kr6 := (hg6.block _ hs2).trans Kr.out
 have Kr6 := Lib.hid kr6
 obtain ⟨r0, r1, r2, r3, rf⟩ := cells4 kr6
 have hu6 := Lib.hid hu26
 obtain ⟨d6, d7, e6, hi6, hi7, hty6, hty7⟩ := hu26
 obtain ⟨A6, c6, e7, hl6, hc6⟩ := hi6.shape
 obtain ⟨A7, c7, e8, hl7, hc7⟩ := hi7.shape
 subst e7
 subst e8
 subst e6
 clear hi6 hty6 hi7 hty7 kr6
 with_reducible refine final_nil ?_
 simp only [List.drop_succ_cons, List.drop_zero]
 go_frame
 go_wp2_with fail
 exact end_cell_tmp rfl (by rfl) (by rfl) rfl (set4 Kr6.out _ _ _ _) Try.underlying28 rfl (by kernel_rfl) ⟨_, rfl, ⟨_, rfl, hu6.out.set4 Kr6.out (by decide)⟩, below_set4 (hb2'.trans (hg6.mono hb2'.size)) (by omega) _ _ _ _⟩
theorem FMul_any (f g : FracD) (va vb : Value) (w : World) (hf : FracV w va f) (hg : FracV w vb g) (zf : (szF f : Int) ≤ 549755813888) (zg : (szF g : Int) ≤ 549755813888) :
    Calls Try.prog 14 #[va, vb] w (RetFracE w (mulD f g).1 (mulD f g).2) := by
 cases hno : (okF f && okF g) with
 | false => unfold mulD; rw [hno]; exact FMul_no f g va vb w hf hg zf zg hno
 | true =>
   rw [Bool.and_eq_true] at hno
   obtain ⟨a, rfl⟩ := okF_iff.1 hno.1
   obtain ⟨b, rfl⟩ := okF_iff.1 hno.2
   rw [mulD_ofQ]
   exact FMul_ok a b va vb w hf hg zf zg
set_option maxRecDepth 100000 in
set_option maxHeartbeats 16000000 in
theorem FAdd_no (f g : FracD) (va vb : Value) (w : World) (hf : FracV w va f) (hg : FracV w vb g) (zf : (szF f : Int) ≤ 549755813888) (zg : (szF g : Int) ≤ 549755813888) (hno : (okF f && okF g) = false) :
    Calls Try.prog 18 #[va, vb] w (RetFracE w zF 1) := by
 obtain ⟨df, ef, rfl, idf, ief⟩ := hf
 obtain ⟨A, ca, rfl, hlaf, hcaf⟩ := idf.shape
 obtain ⟨B1, cb, rfl, hlbf, hcbf⟩ := ief.shape
 obtain ⟨dg, eg, rfl, idg, ieg⟩ := hg
 obtain ⟨A2, ca2, rfl, hlag, hcag⟩ := idg.shape
 obtain ⟨B2, cb2, rfl, hlbg, hcbg⟩ := ieg.shape
 have HF := Lib.hid (fun W h => Right_any f (.agg #[I f.p.s, .slice A f.p.d.length ca, I f.q.s, .slice B1 f.q.d.length cb]) W h (by omega))
 have HG := Lib.hid (fun W h => Right_any g (.agg #[I g.p.s, .slice A2 g.p.d.length ca2, I g.q.s, .slice B2 g.q.d.length cb2]) W h (by omega))
 have Hf := Lib.hid (show FracV w (.agg #[I f.p.s, .slice A f.p.d.length ca, I f.q.s, .slice B1 f.q.d.length cb]) f from ⟨_, _, rfl, idf, ief⟩)
 have Hg := Lib.hid (show FracV w (.agg #[I g.p.s, .slice A2 g.p.d.length ca2, I g.q.s, .slice B2 g.q.d.length cb2]) g from ⟨_, _, rfl, idg, ieg⟩)
 clear idf ief idg ieg
 cases hok : okF f with
 | false =>
   rw [hok] at HF
   clear hno hok
   go_enter Try.func18, Try.ntmps18
   go_upto_region 3 with (go_at_call 35; fail)
   go_at_call 35
   refine (HF.out _ (Hf.out.below (below3 _ _ _ _))).mono ?_
   rintro e w1 ⟨rfl, hb1⟩
   obtain ⟨hs1, hb1', k0, k1, k2⟩ := boxes3 hb1
   have Kr := Lib.hid k2
   obtain ⟨r0, r1, r2, r3, rf⟩ := cells4 k2
   have hz := Lib.hid (fracF_zero w1)
   clear k0 k1 k2
   go_wp2_with fail
   exact end_cell_tmp rfl (by rfl) (by rfl) rfl (set4 Kr.out _ _ _ _) Try.underlying28 rfl (by kernel_rfl) ⟨_, rfl, ⟨_, rfl, hz.out.set4 Kr.out (by decide)⟩, below_set4 hb1' (by omega) _ _ _ _⟩
 | true =>
   rw [hok] at HF hno
   rw [Bool.true_and] at hno
   rw [hno] at HG
   clear hno hok
   go_enter Try.func18, Try.ntmps18
   go_upto_region 3 with (go_at_call 35; fail)
   go_at_call 35
   refine (HF.out _ (Hf.out.below (below3 _ _ _ _))).mono ?_
   rintro e w1 ⟨rfl, hb1⟩
   obtain ⟨hs1, hb1', k0, k1, k2⟩ := boxes3 hb1
   obtain ⟨y0, y1, y2, y3⟩ := cellsF k1
   go_upto_region 3 with (go_at_call 35; fail)
   go_at_call 35
   refine (HG.out _ (Hg.out.below hb1')).mono ?_
   rintro e w2 ⟨rfl, hb2⟩
   have hb12 := hb1.trans (hb2.mono hb1.size)
   clear y0 y1 y2 y3 hs1 hb1' k0 k1 k2
   obtain ⟨hs2, hb2', k0, k1, k2⟩ := boxes3 hb12
   have Kr := Lib.hid k2
   obtain ⟨r0, r1, r2, r3, rf⟩ := cells4 k2
   have hz := Lib.hid (fracF_zero w2)
   clear k0 k1 k2
   go_wp2_with fail
   exact end_cell_tmp rfl (by rfl) (by rfl) rfl (set4 Kr.out _ _ _ _) Try.underlying28 rfl (by kernel_rfl) ⟨_, rfl, ⟨_, rfl, hz.out.set4 Kr.out (by decide)⟩, below_set4 hb2' (by omega) _ _ _ _⟩
set_option maxRecDepth 100000 in
set_option maxHeartbeats 16000000 in
theorem FAdd_ok (a b : Rat) (va vb : Value) (w : World) (ha : FracQ w va a) (hb : FracQ w vb b) (za : (szQ a : Int) ≤ 549755813888) (zb : (szQ b : Int) ≤ 549755813888) :
    Calls Try.prog 18 #[va, vb] w (RetFracE w (ofQ (a + b)) 0) := by
 obtain ⟨da, ea, rfl, ida, iea⟩ := ha
 obtain ⟨A, ca, rfl, hlaa, hcaa⟩ := ida.shape
 obtain ⟨B1, cb, rfl, hlba, hcba⟩ := iea.shape
 obtain ⟨db, eb, rfl, idb, ieb⟩ := hb
 obtain ⟨A2, ca2, rfl, hlab, hcab⟩ := idb.shape
 obtain ⟨B2, cb2, rfl, hlbb, hcbb⟩ := ieb.shape
 have hpa : (ofQ a).p = ofZ a.num := rfl
 have hqa : (ofQ a).q = ofZ a.den := rfl
 have hpb : (ofQ b).p = ofZ b.num := rfl
 have hqb : (ofQ b).q = ofZ b.den := rfl
 simp only [hpa, hqa, hpb, hqb] at *
 clear hpa hqa hpb hqb
 have zpa := szQ_parts a
 have zpb := szQ_parts b
 have HF := Lib.hid (fun W h => Right_ok a (.agg #[I (ofZ a.num).s, .slice A (ofZ a.num).d.length ca, I (ofZ a.den).s, .slice B1 (ofZ a.den).d.length cb]) W h (by omega))
 have HG := Lib.hid (fun W h => Right_ok b (.agg #[I (ofZ b.num).s, .slice A2 (ofZ b.num).d.length ca2, I (ofZ b.den).s, .slice B2 (ofZ b.den).d.length cb2]) W h (by omega))
 have Hf := Lib.hid (show FracV w (.agg #[I (ofZ a.num).s, .slice A (ofZ a.num).d.length ca, I (ofZ a.den).s, .slice B1 (ofZ a.den).d.length cb]) (ofQ a) from ⟨_, _, rfl, ida, iea⟩)
 have Hg := Lib.hid (show FracV w (.agg #[I (ofZ b.num).s, .slice A2 (ofZ b.num).d.length ca2, I (ofZ b.den).s, .slice B2 (ofZ b.den).d.length cb2]) (ofQ b) from ⟨_, _, rfl, idb, ieb⟩)
 have Hap := Lib.hid ida
 have Haq := Lib.hid iea
 have Hbp := Lib.hid idb
 have Hbq := Lib.hid ieb
 clear ida iea idb ieb
 have HT1 := Lib.hid (fun W h1 h2 => times_ok a.num (b.den : Int) (.agg #[I (ofZ a.num).s, .slice A (ofZ a.num).d.length ca]) (.agg #[I (ofZ b.den).s, .slice B2 (ofZ b.den).d.length cb2]) W h1 h2 (by omega) (by omega))
 have HT2 := Lib.hid (fun W h1 h2 => times_ok b.num (a.den : Int) (.agg #[I (ofZ b.num).s, .slice A2 (ofZ b.num).d.length ca2]) (.agg #[I (ofZ a.den).s, .slice B1 (ofZ a.den).d.length cb]) W h1 h2 (by omega) (by omega))
 have HT3 := Lib.hid (fun W h1 h2 => times_ok (a.den : Int) (b.den : Int) (.agg #[I (ofZ a.den).s, .slice B1 (ofZ a.den).d.length cb]) (.agg #[I (ofZ b.den).s, .slice B2 (ofZ b.den).d.length cb2]) W h1 h2 (by omega) (by omega))
 have zm1 := szZ_mul a.num b.den
 have zm2 := szZ_mul b.num a.den
 have zm3 := szZ_mul a.den b.den
 have zs := szZ_add (a.num * b.den) (b.num * a.den)
 have HA := Lib.hid (fun va vb W h1 h2 => Add_ok (a.num * b.den) (b.num * a.den) va vb W h1 h2 (by omega) (by omega))
 have hn := fun va vb W h1 h2 => New_ok (a.num * b.den + b.num * a.den) ((a.den : Int) * b.den) va vb W h1 h2 (Int.mul_ne_zero (den_ne a) (den_ne b)) (by omega) (by omega)
 rw [← add_divInt] at hn
 have HN := Lib.hid hn; clear hn zm1 zm2 zm3 zs
 clear zpa zpb
 go_enter Try.func18, Try.ntmps18
 go_upto_region 3 with (go_at_call 35; fail)
 go_at_call 35
 refine (HF.out _ (Hf.out.below (below3 _ _ _ _))).mono ?_
 rintro e w1 ⟨rfl, hb1⟩
 obtain ⟨hs1, hb1', k0, k1, k2⟩ := boxes3 hb1
 obtain ⟨y0, y1, y2, y3⟩ := cellsF k1
 go_upto_region 3 with (go_at_call 35; fail)
 go_at_call 35
 refine (HG.out _ (Hg.out.below hb1')).mono ?_
 rintro e w2 ⟨rfl, hb2⟩
 have hb12 := hb1.trans (hb2.mono hb1.size)
 clear y0 y1 y2 y3 hs1 hb1' k0 k1 k2
 obtain ⟨hs2, hb2', k0, k1, k2⟩ := boxes3 hb12
 obtain ⟨x0, x1, x2, x3⟩ := cellsF k0
 obtain ⟨y0, y1, y2, y3⟩ := cellsF k1
 have Hap2 := Lib.hid (Hap.out.below RInt.mono hb2')
 have Haq2 := Lib.hid (Haq.out.below RInt.mono hb2')
 have Hbp2 := Lib.hid (Hbp.out.below RInt.mono hb2')
 have Hbq2 := Lib.hid (Hbq.out.below RInt.mono hb2')
 have hz0 : w.heap.size < w2.heap.size := by omega
 have hz1 : w.heap.size + 1 < w2.heap.size := by omega
 have K0 := Lib.hid k0
 have K1 := Lib.hid k1
 have K2 := Lib.hid k2
 clear k0 k1 k2
 go_upto_region 3 with fail
 refine wp_region_rel_late 15 13 (by rfl) (by kernel_rfl) (by kernel_rfl) (by kernel_rfl) (by kernel_rfl) (by kernel_rfl) ?_
 simp only [List.take_succ_cons, List.take_zero]
 repeat (with_reducible apply rel_is
         · intro wx hx
           have hc := (bcell hx).2.1
           try simp only [List.nil_append, List.cons_append]
           repeat (first | with_reducible refine reads_is ?_ | (with_reducible refine reads_skip ?_ ?_; (· decide +kernel)))
           with_reducible refine reads_nil ?_
           go_simp
           exact ⟨Grows.refl _, rfl⟩)
 refine rel_of (fun W u => BigF W u (ofZ (a.num * b.den))) (BigF.mono _) ?_ ?_
 · intro wx hx
   have hc := (bcell hx).2.1
   try simp only [List.nil_append, List.cons_append]
   repeat (with_reducible refine reads_is ?_)
   with_reducible refine reads_nil ?_
   go_simp
   go_at_call 46
   refine (HT1.out _ ⟨_, rfl, Hap2.out.below RInt.mono hx⟩ ⟨_, rfl, Hbq2.out.below RInt.mono hx⟩).mono ?_
   rintro e w3 ⟨v3, rfl, ho, hb3⟩
   exact ⟨_, rfl, hb3, ho⟩
 repeat (with_reducible apply rel_is
         · intro wx hx
           have hc := (bcell hx).2.1
           try simp only [List.nil_append, List.cons_append]
           repeat (first | with_reducible refine reads_is ?_ | (with_reducible refine reads_skip ?_ ?_; (· decide +kernel)))
           with_reducible refine reads_nil ?_
           go_simp
           exact ⟨Grows.refl _, rfl⟩)
 refine rel_of (fun W u => BigF W u (ofZ (b.num * a.den))) (BigF.mono _) ?_ ?_
 · intro wx hx
   have hc := (bcell hx).2.1
   try simp only [List.nil_append, List.cons_append]
   repeat (with_reducible refine reads_is ?_)
   (with_reducible refine reads_skip ?_ ?_; (· decide +kernel))
   repeat (with_reducible refine reads_is ?_)
   with_reducible refine reads_nil ?_
   go_simp
   go_at_call 46
   refine (HT2.out _ ⟨_, rfl, Hbp2.out.below RInt.mono hx⟩ ⟨_, rfl, Haq2.out.below RInt.mono hx⟩).mono ?_
   rintro e w3 ⟨v3, rfl, ho, hb3⟩
   exact ⟨_, rfl, hb3, ho⟩
 refine rel_of (fun W u => BigE W u (ofZ (a.num * b.den + b.num * a.den)) 0) (BigE.mono _ _) ?_ ?_
 · intro wx hx
   have hc := (bcell hx).2.1
   try simp only [List.nil_append, List.cons_append]
   repeat (with_reducible refine reads_is ?_)
   (with_reducible refine reads_take ?_ ?_; (· decide +kernel))
   intro u22 hu22
   repeat (with_reducible refine reads_is ?_)
   (with_reducible refine reads_take ?_ ?_; (· decide +kernel))
   intro u27 hu27
   repeat (with_reducible refine reads_is ?_)
   with_reducible refine reads_nil ?_
   go_simp
   go_at_call 48
   refine (HA.out _ _ _ hu22.big hu27.big).mono ?_
   rintro e w3 ⟨v3, rfl, ho, hb3⟩
   exact ⟨_, rfl, hb3, ho⟩
 refine rel_of (fun W u => BigE W u (ofZ (a.num * b.den + b.num * a.den)) 0) (BigE.mono _ _) ?_ ?_
 · intro wx hx
   have hc := (bcell hx).2.1
   try simp only [List.nil_append, List.cons_append]
   repeat (with_reducible refine reads_is ?_)
   (with_reducible refine reads_skip ?_ ?_; (· decide +kernel))
   repeat (with_reducible refine reads_is ?_)
   (with_reducible refine reads_skip ?_ ?_; (· decide +kernel))
   repeat (with_reducible refine reads_is ?_)
   (with_reducible refine reads_take ?_ ?_; (· decide +kernel))
   intro u28 hu28
   repeat (with_reducible refine reads_is ?_)
   with_reducible refine reads_nil ?_
   go_simp
   first | exact ⟨Grows.refl _, hu28⟩ | exact Grows.refl _
 refine rel_of (fun W u => BigF W u (ofZ (a.num * b.den + b.num * a.den))) (BigF.mono _) ?_ ?_
 · intro wx hx
   have hc := (bcell hx).2.1
   try simp only [List.nil_append, List.cons_append]
   repeat (with_reducible refine reads_is ?_)
   (with_reducible refine reads_skip ?_ ?_; (· decide +kernel))
   repeat (with_reducible refine reads_is ?_)
   (with_reducible refine reads_skip ?_ ?_; (· decide +kernel))
   repeat (with_reducible refine reads_is ?_)
   (with_reducible refine reads_skip ?_ ?_; (· decide +kernel))
   repeat (with_reducible refine reads_is ?_)
   (with_reducible refine reads_take ?_ ?_; (· decide +kernel))
   intro u17 hu17
   repeat (with_reducible refine reads_is ?_)
   obtain ⟨u1, he, hu1⟩ := hu17
   with_reducible refine reads_nil ?_
   go_simp
   (first | exact ⟨Grows.refl _, hu1⟩ | exact Grows.refl _)
 apply rel_is (v := I 0)
 · intro wx hx
   have hc := (bcell hx).2.1
   try simp only [List.nil_append, List.cons_append]
   repeat (with_reducible refine reads_is ?_)
   (with_reducible refine reads_skip ?_ ?_; (· decide +kernel))
   repeat (with_reducible refine reads_is ?_)
   (with_reducible refine reads_skip ?_ ?_; (· decide +kernel))
   repeat (with_reducible refine reads_is ?_)
   (with_reducible refine reads_skip ?_ ?_; (· decide +kernel))
   repeat (with_reducible refine reads_is ?_)
   (with_reducible refine reads_take ?_ ?_; (· decide +kernel))
   intro u17 hu17
   repeat (with_reducible refine reads_is ?_)
   (with_reducible refine reads_skip ?_ ?_; (· decide +kernel))
   repeat (with_reducible refine reads_is ?_)
   obtain ⟨u1, he, hu1⟩ := hu17
   with_reducible refine reads_nil ?_
   go_simp
   (first | exact ⟨Grows.refl _, rfl⟩ | exact Grows.refl _)
 refine rel_of (fun W u => NewAt 26 (.agg #[I 0, .slice none 0 0]) w2.heap.size W u) (newAt_mono _ _ _) ?_ ?_
 · intro wx hx
   have hc := (bcell hx).2.1
   try simp only [List.nil_append, List.cons_append]
   repeat (with_reducible refine reads_is ?_)
   (with_reducible refine reads_skip ?_ ?_; (· decide +kernel))
   repeat (with_reducible refine reads_is ?_)
   (with_reducible refine reads_skip ?_ ?_; (· decide +kernel))
   repeat (with_reducible refine reads_is ?_)
   (with_reducible refine reads_skip ?_ ?_; (· decide +kernel))
   repeat (with_reducible refine reads_is ?_)
   (with_reducible refine reads_skip ?_ ?_; (· decide +kernel))
   repeat (with_reducible refine reads_is ?_)
   (with_reducible refine reads_skip ?_ ?_; (· decide +kernel))
   repeat (with_reducible refine reads_is ?_)
   with_reducible refine reads_nil ?_
   go_simp
   exact ⟨belowA (Below.refl _ _) (Nat.le_refl _), _, rfl, hx.size, heap_alloc_new _ _⟩
 with_reducible refine rel_end ?_
 simp only [List.nil_append, List.cons_append]
 refine ⟨by rfl, ?_⟩
 intro w6 hg6
 repeat (with_reducible refine final_is ?_)
 with_reducible refine final_of ?_
 intro u22 hu22
 repeat (with_reducible refine final_is ?_)
 with_reducible refine final_of ?_
 intro u27 hu27
 repeat (with_reducible refine final_is ?_)
 with_reducible refine final_of ?_
 intro u28 hu28
 repeat (with_reducible refine final_is ?_)
 with_reducible refine final_of ?_
 intro u17 hu17
 repeat (with_reducible refine final_is ?_)
 with_reducible refine final_of ?_
 intro u29 hu29
 repeat (with_reducible refine final_is ?_)
 with_reducible refine final_of ?_
 intro u6 hu6
 repeat (with_reducible refine final_is ?_)
 obtain ⟨bx, ebx, hbx1, hbx2⟩ := hu6
 have HX6 := Lib.hid hu29
 obtain ⟨d6, e6, hi6, hty6⟩ := hu29
 obtain ⟨A6, c6, e7, hl6, hc6⟩ := hi6.shape
 subst e7
 subst e6
 subst ebx
 clear hi6 hty6
 have Kbx := Lib.hid hbx2
 obtain ⟨r0, r1, rf⟩ := cells2 (c0 := I 0) (c1 := .slice none 0 0) hbx2
 clear hbx2
 have hbxs : bx < w6.heap.size := (Array.getElem?_eq_some_iff.1 Kbx.out).1
 with_reducible refine final_nil ?_
 simp only [List.drop_succ_cons, List.drop_zero]
 go_frame
 refine ⟨_, by go_simp; rfl, ?_⟩
 obtain ⟨w7, hw7⟩ : ∃ w7, w7 = ((w6.setCell ⟨bx, 0, none⟩ (I (ofZ (a.num * b.den + b.num * a.den)).s)).setCell ⟨bx, 1, none⟩ (.slice A6 (ofZ (a.num * b.den + b.num * a.den)).d.length c6)) := ⟨_, rfl⟩
 have q1 := set2 Kbx.out (I (ofZ (a.num * b.den + b.num * a.den)).s) (.slice A6 (ofZ (a.num * b.den + b.num * a.den)).d.length c6)
 have q2 := HX6.out.set2 (v0 := I (ofZ (a.num * b.den + b.num * a.den)).s) (v1 := .slice A6 (ofZ (a.num * b.den + b.num * a.den)).d.length c6) Kbx.out (by decide)
 have hb6' := hb2'.trans (hg6.mono hb2'.size)
 have hw0 : w.heap.size ≤ bx := by have := hb2'.size; omega
 have q3 := below_set2 hb6' hw0 (I (ofZ (a.num * b.den + b.num * a.den)).s) (.slice A6 (ofZ (a.num * b.den + b.num * a.den)).d.length c6)
 have q4 := below_set2 hg6 hbx1 (I (ofZ (a.num * b.den + b.num * a.den)).s) (.slice A6 (ofZ (a.num * b.den + b.num * a.den)).d.length c6)
 rw [← hw7] at q1 q2 q3 q4
 have k07 := (q4.block _ hz0).trans K0.out
 have k17 := (q4.block _ hz1).trans K1.out
 have k27 := (q4.block _ hs2).trans K2.out
 have Kr := Lib.hid k27
 have HX := Lib.hid q2
 have Haq7 := Lib.hid (Haq.out.below RInt.mono q3)
 have Hbq7 := Lib.hid (Hbq.out.below RInt.mono q3)
 have hsz7 := q4.size
 have hz07 : w.heap.size < w7.heap.size := by omega
 have hz17 : w.heap.size + 1 < w7.heap.size := by omega
 have hs2 : w.heap.size + 2 < w7.heap.size := by omega
 have hbx7 := (Array.getElem?_eq_some_iff.1 q1).1
 have hb7' := Lib.hid q3
 clear q2 q3 q4
 rw [← hw7]
 clear hw7 x0 x1 x2 x3 y0 y1 y2 y3 r0 r1 rf
 obtain ⟨x0, x1, x2, x3⟩ := cellsF k07
 obtain ⟨y0, y1, y2, y3⟩ := cellsF k17
 obtain ⟨r0, r1, rf⟩ := cells2 q1
 clear k07 k17 k27 q1
 go_upto_region 4 with fail
 refine wp_region_rel_seq 9 (by kernel_rfl) (by kernel_rfl) (by kernel_rfl) (by kernel_rfl) (by kernel_rfl) ?_
 simp only [List.take_succ_cons, List.take_zero]
 repeat (with_reducible apply rel_is
         · intro wx hx
           have hc := (bcell hx).2.1
           try simp only [List.nil_append, List.cons_append]
           repeat (first | with_reducible refine reads_is ?_ | (with_reducible refine reads_skip ?_ ?_; (· decide +kernel)))
           with_reducible refine reads_nil ?_
           go_simp
           exact ⟨Grows.refl _, rfl⟩)
 refine rel_of (fun W u => BigF W u (ofZ ((a.den : Int) * b.den))) (BigF.mono _) ?_ ?_
 · intro wx hx
   have hc := (bcell hx).2.1
   try simp only [List.nil_append, List.cons_append]
   repeat (with_reducible refine reads_is ?_)
   with_reducible refine reads_nil ?_
   go_simp
   go_at_call 46
   refine (HT3.out _ ⟨_, rfl, Haq7.out.below RInt.mono hx⟩ ⟨_, rfl, Hbq7.out.below RInt.mono hx⟩).mono ?_
   rintro e w3 ⟨v3, rfl, ho, hb3⟩
   exact ⟨_, rfl, hb3, ho⟩
 refine rel_of (fun W u => FracE W u (ofQ (a + b)) 0) (FracE.mono _ _) ?_ ?_
 · intro wx hx
   have hc := (bcell hx).2.1
   try simp only [List.nil_append, List.cons_append]
   repeat (with_reducible refine reads_is ?_)
   (with_reducible refine reads_take ?_ ?_; (· decide +kernel))
   intro u36 hu36
   repeat (with_reducible refine reads_is ?_)
   with_reducible refine reads_nil ?_
   go_simp
   go_at_call 45
   refine (HN.out _ _ _ (HX.out.below hx).big hu36.big).mono ?_
   rintro e w3 ⟨v3, rfl, ho, hb3⟩
   exact ⟨_, rfl, hb3, ho⟩
 refine rel_of (fun W u => FracF W u (ofQ (a + b))) (FracF.mono _) ?_ ?_
 · intro wx hx
   have hc := (bcell hx).2.1
   try simp only [List.nil_append, List.cons_append]
   repeat (with_reducible refine reads_is ?_)
   (with_reducible refine reads_skip ?_ ?_; (· decide +kernel))
   repeat (with_reducible refine reads_is ?_)
   (with_reducible refine reads_take ?_ ?_; (· decide +kernel))
   intro u37 hu37
   repeat (with_reducible refine reads_is ?_)
   obtain ⟨u1, he, hu1⟩ := hu37
   with_reducible refine reads_nil ?_
   go_simp
   (first | exact ⟨Grows.refl _, hu1⟩ | exact Grows.refl _)
 apply rel_is (v := I 0)
 · intro wx hx
   have hc := (bcell hx).2.1
   try simp only [List.nil_append, List.cons_append]
   repeat (with_reducible refine reads_is ?_)
   (with_reducible refine reads_skip ?_ ?_; (· decide +kernel))
   repeat (with_reducible refine reads_is ?_)
   (with_reducible refine reads_take ?_ ?_; (· decide +kernel))
   intro u37 hu37
   repeat (with_reducible refine reads_is ?_)
   (with_reducible refine reads_skip ?_ ?_; (· decide +kernel))
   repeat (with_reducible refine reads_is ?_)
   obtain ⟨u1, he, hu1⟩ := hu37
   with_reducible refine reads_nil ?_
   go_simp
   (first | exact ⟨Grows.refl _, rfl⟩ | exact Grows.refl _)
 with_reducible refine rel_end ?_
 intro w8 hg8
 simp only [List.nil_append, List.cons_append]
 repeat (with_reducible refine final_is ?_)
 with_reducible refine final_of ?_
 intro u36 hu36
 repeat (with_reducible refine final_is ?_)
 with_reducible refine final_of ?_
 intro u37 hu37
 repeat (with_reducible refine final_is ?_)
 with_reducible refine final_of ?_
 intro u38 hu38
 repeat (with_reducible refine final_is ?_)
 have hb2' := hb7'.out
 have kr6 := (hg8.block _ hs2).trans Kr.out
 have Kr6 := Lib.hid kr6
 obtain ⟨r0, r1, r2, r3, rf⟩ := cells4 kr6
 have hu6 := Lib.hid hu38
 obtain ⟨d6, d7, e6, hi6, hi7, hty6, hty7⟩ := hu38
 obtain ⟨A6, c6, e7, hl6, hc6⟩ := hi6.shape
 obtain ⟨A7, c7, e8, hl7, hc7⟩ := hi7.shape
 subst e7
 subst e8
 subst e6
 clear hi6 hty6 hi7 hty7 kr6
 with_reducible refine final_nil ?_
 simp only [List.drop_succ_cons, List.drop_zero]
 go_frame
 go_wp2_with fail
 exact end_cell_tmp rfl (by rfl) (by rfl) rfl (set4 Kr6.out _ _ _ _) Try.underlying28 rfl (by kernel_rfl) ⟨_, rfl, ⟨_, rfl, hu6.out.set4 Kr6.out (by decide)⟩, below_set4 (hb2'.trans (hg8.mono hb2'.size)) (by omega) _ _ _ _⟩
theorem FAdd_any (f g : FracD) (va vb : Value) (w : World) (hf : FracV w va f) (hg : FracV w vb g) (zf : (szF f : Int) ≤ 549755813888) (zg : (szF g : Int) ≤ 549755813888) :
    Calls Try.prog 18 #[va, vb] w (RetFracE w (addD f g).1 (addD f g).2) := by
 cases hno : (okF f && okF g) with
 | false => unfold addD; rw [hno]; exact FAdd_no f g va vb w hf hg zf zg hno
 | true =>
   rw [Bool.and_eq_true] at hno
   obtain ⟨a, rfl⟩ := okF_iff.1 hno.1
   obtain ⟨b, rfl⟩ := okF_iff.1 hno.2
   rw [addD_ofQ]
   exact FAdd_ok a b va vb w hf hg zf zg
set_option maxRecDepth 100000 in
set_option maxHeartbeats 16000000 in
theorem Sign_any (f : FracD) (va : Value) (w : World) (hf : FracV w va f) (zf : (szF f : Int) ≤ 549755813888) : Calls Try.prog 17 #[va] w fun e w' => e = .returned (I (sgnD f)) ∧ Below w.heap.size w w' := by
 obtain ⟨df, ef, rfl, idf, ief⟩ := hf
 obtain ⟨A, ca, rfl, hlaf, hcaf⟩ := idf.shape
 obtain ⟨B1, cb, rfl, hlbf, hcbf⟩ := ief.shape
 have HF := Lib.hid (fun W h => Right_any f (.agg #[I f.p.s, .slice A f.p.d.length ca, I f.q.s, .slice B1 f.q.d.length cb]) W h (by omega))
 have Hf := Lib.hid (show FracV w (.agg #[I f.p.s, .slice A f.p.d.length ca, I f.q.s, .slice B1 f.q.d.length cb]) f from ⟨_, _, rfl, idf, ief⟩)
 clear idf ief
 cases hok : okF f with
 | false =>
   rw [hok] at HF
   have E := Lib.hid (show (0 : Int) = sgnD f by unfold sgnD; rw [hok]; rfl)
   clear hok
   go_enter Try.func17, Try.ntmps17
   go_wp2_with (go_at_call 35; refine (HF.out _ (Hf.out.below (below_alloc _ _))).mono ?_; rintro e w1 ⟨rfl, hb1⟩; obtain ⟨hs1, hb1', k0⟩ := boxes1 hb1)
   go_ret
   exact ⟨retI E.out, hb1'⟩
 | true =>
   rw [hok] at HF
   have E := Lib.hid (show f.p.s = sgnD f by
    obtain ⟨r, rfl⟩ := okF_iff.1 hok
    rw [sgnD_ofQ, ofQ_num]; rfl)
   clear hok
   go_enter Try.func17, Try.ntmps17
   go_wp2_with (go_at_call 35; refine (HF.out _ (Hf.out.below (below_alloc _ _))).mono ?_; rintro e w1 ⟨rfl, hb1⟩; obtain ⟨hs1, hb1', k0⟩ := boxes1 hb1; obtain ⟨x0, x1, x2, x3⟩ := cellsF k0)
   go_ret
   exact ⟨retI E.out, hb1'⟩
set_option maxRecDepth 100000 in
set_option maxHeartbeats 16000000 in
theorem FNeg_no (f : FracD) (va : Value) (w : World) (hf : FracV w va f) (zf : (szF f : Int) ≤ 549755813888) (hok : okF f = false) : Calls Try.prog 34 #[va] w (RetFrac w zF) := by
 obtain ⟨df, ef, rfl, idf, ief⟩ := hf
 obtain ⟨A, ca, rfl, hlaf, hcaf⟩ := idf.shape
 obtain ⟨B1, cb, rfl, hlbf, hcbf⟩ := ief.shape
 have HF := Lib.hid (fun W h => Right_any f (.agg #[I f.p.s, .slice A f.p.d.length ca, I f.q.s, .slice B1 f.q.d.length cb]) W h (by omega))
 have Hf := Lib.hid (show FracV w (.agg #[I f.p.s, .slice A f.p.d.length ca, I f.q.s, .slice B1 f.q.d.length cb]) f from ⟨_, _, rfl, idf, ief⟩)
 clear idf ief
 rw [hok] at HF
 clear hok
 go_enter Try.func34, Try.ntmps34
 go_upto_region 3 with (go_at_call 35; fail)
 go_at_call 35
 refine (HF.out _ (Hf.out.below (below2 _ _ _))).mono ?_
 rintro e w1 ⟨rfl, hb1⟩
 obtain ⟨hs1, hb1', k0, k1⟩ := boxes2 hb1
 have Kr := Lib.hid k1
 obtain ⟨r0, r1, r2, r3, rf⟩ := cells4 k1
 have hz := Lib.hid (fracF_zero w1)
 clear k0 k1
 go_wp2_with fail
 exact end_cell rfl (by rfl) rfl (set4 Kr.out _ _ _ _) Try.underlying28 rfl (by kernel_rfl) ⟨_, rfl, hz.out.set4 Kr.out (by decide), below_set4 hb1' (by omega) _ _ _ _⟩
set_option maxRecDepth 100000 in
set_option maxHeartbeats 16000000 in
theorem FNeg_ok (a : Rat) (va : Value) (w : World) (ha : FracQ w va a) (za : (szQ a : Int) ≤ 549755813888) : Calls Try.prog 34 #[va] w (RetFrac w (ofQ (-a))) := by
 obtain ⟨da, ea, rfl, ida, iea⟩ := ha
 obtain ⟨A, ca, rfl, hlaa, hcaa⟩ := ida.shape
 obtain ⟨B1, cb, rfl, hlba, hcba⟩ := iea.shape
 have hpa : (ofQ a).p = ofZ a.num := rfl
 have hqa : (ofQ a).q = ofZ a.den := rfl
 simp only [hpa, hqa] at *
 clear hpa hqa
 have zpa := szQ_parts a
 have HF := Lib.hid (fun W h => Right_ok a (.agg #[I (ofZ a.num).s, .slice A (ofZ a.num).d.length ca, I (ofZ a.den).s, .slice B1 (ofZ a.den).d.length cb]) W h (by omega))
 have Hf := Lib.hid (show FracV w (.agg #[I (ofZ a.num).s, .slice A (ofZ a.num).d.length ca, I (ofZ a.den).s, .slice B1 (ofZ a.den).d.length cb]) (ofQ a) from ⟨_, _, rfl, ida, iea⟩)
 have HN := Lib.hid (fun W h => Neg_ok a.num (.agg #[I (ofZ a.num).s, .slice A (ofZ a.num).d.length ca]) W h (by omega))
 have HS := Lib.hid (fun W h => slim_ok a.den (.agg #[I (ofZ a.den).s, .slice B1 (ofZ a.den).d.length cb]) W h (by omega))
 have Hap0 := Lib.hid ida
 have Haq0 := Lib.hid iea
 clear ida iea zpa
 go_enter Try.func34, Try.ntmps34
 go_upto_region 3 with (go_at_call 35; fail)
 go_at_call 35
 refine (HF.out _ (Hf.out.below (below2 _ _ _))).mono ?_
 rintro e w1 ⟨rfl, hb1⟩
 obtain ⟨hs1, hb1', k0, k1⟩ := boxes2 hb1
 have Kr := Lib.hid k1
 obtain ⟨x0, x1, x2, x3⟩ := cellsF k0
 have Hap := Lib.hid (Hap0.out.below RInt.mono hb1')
 have Haq := Lib.hid (Haq0.out.below RInt.mono hb1')
 have hz0 : w.heap.size < w1.heap.size := by omega
 clear k0 k1
 go_upto_region 3 with fail
 refine wp_region_rel_seq 7 (by kernel_rfl) (by kernel_rfl) (by kernel_rfl) (by kernel_rfl) (by kernel_rfl) ?_
 simp only [List.take_succ_cons, List.take_zero]
 repeat (with_reducible apply rel_is
         · intro wx hx
           have hc := (bcell hx).2.1
           try simp only [List.nil_append, List.cons_append]
           repeat (first | with_reducible refine reads_is ?_ | (with_reducible refine reads_skip ?_ ?_; (· decide +kernel)))
           with_reducible refine reads_nil ?_
           go_simp
           exact ⟨Grows.refl _, rfl⟩)
 refine rel_of (fun W u => BigF W u (ofZ (-a.num))) (BigF.mono _) ?_ ?_
 · intro wx hx
   have hc := (bcell hx).2.1
   try simp only [List.nil_append, List.cons_append]
   repeat (with_reducible refine reads_is ?_)
   with_reducible refine reads_nil ?_
   go_simp
   go_at_call 70
   refine (HN.out _ ⟨_, rfl, Hap.out.below RInt.mono hx⟩).mono ?_
   rintro e w3 ⟨v3, rfl, ho, hb3⟩
   exact ⟨_, rfl, hb3, ho⟩
 repeat (with_reducible apply rel_is
         · intro wx hx
           have hc := (bcell hx).2.1
           try simp only [List.nil_append, List.cons_append]
           repeat (first | with_reducible refine reads_is ?_ | (with_reducible refine reads_skip ?_ ?_; (· decide +kernel)))
           with_reducible refine reads_nil ?_
           go_simp
           exact ⟨Grows.refl _, rfl⟩)
 refine rel_of (fun W u => BigF W u (ofZ ((a.den : Int)))) (BigF.mono _) ?_ ?_
 · intro wx hx
   have hc := (bcell hx).2.1
   try simp only [List.nil_append, List.cons_append]
   repeat (with_reducible refine reads_is ?_)
   (with_reducible refine reads_skip ?_ ?_; (· decide +kernel))
   repeat (with_reducible refine reads_is ?_)
   with_reducible refine reads_nil ?_
   go_simp
   go_at_call 71
   refine (HS.out _ ⟨_, rfl, Haq.out.below RInt.mono hx⟩).mono ?_
   rintro e w3 ⟨v3, rfl, ho, hb3⟩
   exact ⟨_, rfl, hb3, ho⟩
 refine rel_of (fun W u => FracF W u (ofQ (-a))) (FracF.mono _) ?_ ?_
 · intro wx hx
   have hc := (bcell hx).2.1
   try simp only [List.nil_append, List.cons_append]
   repeat (with_reducible refine reads_is ?_)
   (with_reducible refine reads_take ?_ ?_; (· decide +kernel))
   intro u9 hu9
   repeat (with_reducible refine reads_is ?_)
   (with_reducible refine reads_take ?_ ?_; (· decide +kernel))
   intro u12 hu12
   repeat (with_reducible refine reads_is ?_)
   obtain ⟨d3, he, hi3, ht3⟩ := hu9
   obtain ⟨d4, he4, hi4, ht4⟩ := hu12
   with_reducible refine reads_nil ?_
   go_simp
   first | exact ⟨Grows.refl _, _, _, rfl, hi3, hi4, ht3, ht4⟩ | exact ⟨_, _, rfl, hi3, hi4, ht3, ht4⟩ | trace_state
 with_reducible refine rel_end ?_
 intro w6 hg6
 simp only [List.nil_append, List.cons_append]
 repeat (with_reducible refine final_is ?_)
 with_reducible refine final_of ?_
 intro u9 hu9
 repeat (with_reducible refine final_is ?_)
 with_reducible refine final_of ?_
 intro u12 hu12
 repeat (with_reducible refine final_is ?_)
 with_reducible refine final_of ?_
 intro u13 hu13
 repeat (with_reducible refine final_is ?_)
 have kr6 := (hg6.block _ hs1).trans Kr.out
 have Kr6 := Lib.hid kr6
 obtain ⟨r0, r1, r2, r3, rf⟩ := cells4 kr6
 have hu6 := Lib.hid hu13
 obtain ⟨d6, d7, e6, hi6, hi7, hty6, hty7⟩ := hu13
 obtain ⟨A6, c6, e7, hl6, hc6⟩ := hi6.shape
 obtain ⟨A7, c7, e8, hl7, hc7⟩ := hi7.shape
 subst e7
 subst e8
 subst e6
 clear hi6 hty6 hi7 hty7 kr6
 with_reducible refine final_nil ?_
 simp only [List.drop_succ_cons, List.drop_zero]
 go_frame
 go_wp2_with fail
 exact end_cell rfl (by rfl) rfl (set4 Kr6.out _ _ _ _) Try.underlying28 rfl (by kernel_rfl) ⟨_, rfl, hu6.out.set4 Kr6.out (by decide), below_set4 (hb1'.trans (hg6.mono hb1'.size)) (by omega) _ _ _ _⟩
theorem FNeg_any (f : FracD) (va : Value) (w : World) (hf : FracV w va f) (zf : (szF f : Int) ≤ 549755813888) : Calls Try.prog 34 #[va] w (RetFrac w (negD f)) := by
 cases hok : okF f with
 | false => unfold negD; rw [hok]; exact FNeg_no f va w hf zf hok
 | true =>
   obtain ⟨a, rfl⟩ := okF_iff.1 hok
   rw [negD_ofQ]
   exact FNeg_ok a va w hf zf
def sameF (f g : FracD) : Bool := sameB f.p g.p && sameB f.q g.q
set_option maxRecDepth 100000 in
set_option maxHeartbeats 8000000 in
theorem Same_any (f g : FracD) (va vb : Value) (w : World) (hf : FracV w va f) (hg : FracV w vb g) : Calls Try.prog 19 #[va, vb] w fun e w' => e = .returned (B (sameF f g)) ∧ Below w.heap.size w w' := by
 obtain ⟨df, ef, rfl, idf, ief⟩ := hf
 obtain ⟨A, ca, rfl, hlaf, hcaf⟩ := idf.shape
 obtain ⟨B1, cb, rfl, hlbf, hcbf⟩ := ief.shape
 obtain ⟨dg, eg, rfl, idg, ieg⟩ := hg
 obtain ⟨A2, ca2, rfl, hlag, hcag⟩ := idg.shape
 obtain ⟨B2, cb2, rfl, hlbg, hcbg⟩ := ieg.shape
 have HP := Lib.hid (fun W h1 h2 => same_big f.p g.p (.agg #[I f.p.s, .slice A f.p.d.length ca]) (.agg #[I g.p.s, .slice A2 g.p.d.length ca2]) W h1 h2)
 have HQ := Lib.hid (fun W h1 h2 => same_big f.q g.q (.agg #[I f.q.s, .slice B1 f.q.d.length cb]) (.agg #[I g.q.s, .slice B2 g.q.d.length cb2]) W h1 h2)
 have H1 := Lib.hid idf
 have H2 := Lib.hid ief
 have H3 := Lib.hid idg
 have H4 := Lib.hid ieg
 clear idf ief idg ieg
 cases hs : sameB f.p g.p with
 | false =>
   rw [hs] at HP
   have E := Lib.hid (show false = sameF f g by unfold sameF; rw [hs]; rfl)
   clear hs
   go_enter Try.func19, Try.ntmps19
   go_wp2_with (go_at_call 49; refine (HP.out _ ⟨_, rfl, H1.out.below RInt.mono (below2 _ _ _)⟩ ⟨_, rfl, H3.out.below RInt.mono (below2 _ _ _)⟩).mono ?_; rintro e w1 ⟨rfl, hb1⟩; obtain ⟨hs1, hb1', k0, k1⟩ := boxes2 hb1)
   go_ret
   exact ⟨retB E.out, hb1'⟩
 | true =>
   rw [hs] at HP
   have E := Lib.hid (show sameB f.q g.q = sameF f g by unfold sameF; rw [hs]; rfl)
   clear hs
   go_enter Try.func19, Try.ntmps19
   go_upto_region 2 with (go_at_call 49; fail)
   go_at_call 49
   refine (HP.out _ ⟨_, rfl, H1.out.below RInt.mono (below2 _ _ _)⟩ ⟨_, rfl, H3.out.below RInt.mono (below2 _ _ _)⟩).mono ?_
   rintro e w1 ⟨rfl, hb1⟩
   obtain ⟨hs1, hb1', k0, k1⟩ := boxes2 hb1
   obtain ⟨x0, x1, x2, x3⟩ := cellsF k0
   obtain ⟨y0, y1, y2, y3⟩ := cellsF k1
   go_wp2_with (go_at_call 49; refine (HQ.out _ ⟨_, rfl, H2.out.below RInt.mono hb1'⟩ ⟨_, rfl, H4.out.below RInt.mono hb1'⟩).mono ?_; rintro e w2 ⟨rfl, hb2⟩)
   go_ret
   exact ⟨retB E.out, hb1'.trans (hb2.mono hb1'.size)⟩
end Go.Proofs.Ytbnbpfjfkedbaaa
