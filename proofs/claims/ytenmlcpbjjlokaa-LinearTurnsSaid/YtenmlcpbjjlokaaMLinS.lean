/-
  LinearTurns: the walk.
-/
import Derived.Test.YtenmlcpbjjlokaaMLinE
import Derived.Test.YtenmlcpbjjlokaaMGo

/-
  LinearTurns: the walk.
-/
namespace Go.Proofs.Ytenmlcpbjjlokaa
set_option linter.unusedVariables false
set_option linter.unusedSimpArgs false
open Go Go.RowKit
attribute [local go_sem] opsL_nil opsL_go opsL_guard gSel_tt gSel_ff gSel_tf gSel_ft stepR_some stepR_none callS_some callE_some runL_nil runL_go runL_guard gSelE_tt gSelE_ff gSelE_tf gSelE_ft stepE_some stepE_none opF callD rd constD putT upd_get guardL gOf_bool gOf_undef fieldAddrF fieldF loadF storeF indexAddrF indexF sliceF strSliceF bound buildF fillF buildSliceF elemsF allocF makeSliceF lenF elemsOf appendF minmaxF convertF boxF ldE blkAt spliceE D.cells? D.isCell Res.pure ov TyI.agg binD unD boolD initT thenA inBlockA argD argDs refsD refsL killW datJ datJs endA_ret endA_normal endR_some oneD_one oneD_two oneD_three oneD_four resDs resD fzT Value.oneCell' strip tabT tabM
attribute [local go_sem] List.map Nat.reduceEqDiff Nat.reduceBEq List.getElem?_cons_zero List.getElem?_cons_succ List.getElem?_nil Option.getD_some Option.getD_none true_and and_true true_or or_true false_or or_false and_self Nat.add_zero Nat.zero_add List.length_nil List.length_cons forall_const ite_true ite_false Bool.or_self Bool.false_eq_true Option.map_some Option.map_none beq_self_eq_true Nat.reduceAdd Nat.reduceSub Nat.reduceMul reduceCtorEq List.getElem?_toArray Bool.not_true Bool.not_false decide_eq_true_eq decide_true decide_false Nat.reduceLeDiff Nat.reduceLT Bool.or_false Bool.or_true Bool.and_true Bool.and_false Bool.false_and Bool.true_and Bool.true_beq Bool.false_beq beq_true beq_false Bool.not_eq_true List.drop_succ_cons List.take_succ_cons List.drop_zero List.take_zero List.length_map List.getElem?_map List.length_append List.all_cons List.all_nil List.append_nil List.nil_append List.cons_append List.set_cons_zero List.set_cons_succ Int.toNat_natCast Int.toNat_zero Option.isSome_some Option.isSome_none Array.size_empty ByteArray.size_empty Int.reduceToNat Int.reduceAdd Int.reduceSub Int.reduceLT Int.reduceLE Int.reduceEq Int.reduceNe Int.reduceBEq Int.reduceNeg List.forall_mem_cons List.not_mem_nil false_implies List.forall_mem_map implies_true Nat.reduceBNe Int.cast_ofNat_Int Int.reduceMul Int.reduceGE Int.reduceGT wrap_in ty_2 ty_3 ty_4 ty_5 ty_6 ty_7 ty_8 ty_9 ty_10 ty_11 ty_12 ty_13 ty_14 ty_18 ty_19 ty_21 ty_22 ty_23 ty_24 ty_25 ty_30 ty_31 ty_32 ty_33 ty_34 ty_44 ty_51 ty_52 ty_54 ty_55 ty_56 ty_57 ty_58 ty_74 ty_75 ty_78 ty_93 ty_94 ty_121 ty_122 ty_131 ty_132 ty_133 ty_134 ty_135 ty_137 ty_138 ty_139 ty_142 ty_143 ty_144 ty_145
set_option maxRecDepth 100000
set_option maxHeartbeats 16000000

theorem one_row {N : Int} {x : List FracD} {w : RowD} (k : Int) (hb : holdsS ⟨N, []⟩ x = true) (hr : rightS ⟨N, [w]⟩ = true) (h0 : 0 ≤ k) (h3 : k < 3) : holdsS ⟨N, [⟨w.t, k, w.v⟩]⟩ x = fitsK k (sgQ (dotD w.t x - qOf w.v)) := by
  simp only [holdsS, rightS, rightW, Bool.and_eq_true, List.all_cons, List.all_nil, List.length_nil, List.length_cons, decide_eq_true_eq] at hb hr
  obtain ⟨⟨⟨⟨⟨⟨⟨b1, b2⟩, _⟩, _⟩, b3⟩, b4⟩, b5⟩, _⟩ := hb
  obtain ⟨_, ⟨⟨⟨r1, _⟩, _⟩, r2⟩, _⟩ := hr
  simp only [holdsS, rightS, rightW, List.all_cons, List.all_nil, List.length_cons, List.length_nil, holdsW]
  simp [b1, b2, b3, b4, b5, r1, r2, h0, h3]
theorem sgQ_mul (a b : Rat) : sgQ (a * b) = sgQ a * sgQ b := by
  rcases sgQ_cases a with ⟨h1, e1⟩ | ⟨h1, e1⟩ | ⟨h1, e1⟩ <;> rcases sgQ_cases b with ⟨h2, e2⟩ | ⟨h2, e2⟩ | ⟨h2, e2⟩ <;> rw [e1, e2]
  · exact sgQ_pos.2 (by have := Rat.mul_pos (a := -a) (b := -b) (by grind) (by grind); grind)
  · rw [h2, Rat.mul_zero]; rfl
  · exact sgQ_neg.2 (by have := Rat.mul_pos (a := -a) (b := b) (by grind) h2; grind)
  · rw [h1, Rat.zero_mul]; rfl
  · rw [h1, Rat.zero_mul]; rfl
  · rw [h1, Rat.zero_mul]; rfl
  · exact sgQ_neg.2 (by have := Rat.mul_pos (a := a) (b := -b) h1 (by grind); grind)
  · rw [h2, Rat.mul_zero]; rfl
  · exact sgQ_pos.2 (Rat.mul_pos h1 h2)
/-- The kind of a row that is multiplied by f. -/
def turnI (f : FracD) (k : Int) : Int := if sgnD f < 0 ∧ k ≠ 2 then 1 - k else k
theorem turn_fits {f : FracD} {k c : Int} (hf : sgnD f ≠ 0) (h0 : 0 ≤ k) (h3 : k < 3) (hc : c = -1 ∨ c = 0 ∨ c = 1) : fitsK (turnI f k) (sgQ (qOf f) * c) = fitsK k c := by
  obtain ⟨ho, hq⟩ := sgnD_ne hf
  have e : sgnD f = sgQ (qOf f) := by simp [sgnD, ho]
  have hk : k = 0 ∨ k = 1 ∨ k = 2 := by omega
  unfold turnI
  rw [e]
  rcases sgQ_cases (qOf f) with ⟨h, g⟩ | ⟨h, g⟩ | ⟨h, g⟩ <;> rw [g]
  · rcases hk with rfl | rfl | rfl <;> rcases hc with rfl | rfl | rfl <;> decide
  · exact absurd h hq
  · rcases hk with rfl | rfl | rfl <;> rcases hc with rfl | rfl | rfl <;> decide
theorem four_or {a b c d : Bool} (h : ¬ (a = true ∧ b = true ∧ c = true ∧ d = true)) : a = false ∨ (a = true ∧ b = false) ∨ (a = true ∧ b = true ∧ c = false) ∨ (a = true ∧ b = true ∧ c = true ∧ d = false) := by
  revert h; cases a <;> cases b <;> cases c <;> cases d <;> decide

theorem turns8_c (w : RowD) (x : List FracD) (f : FracD) : Contract Try.prog 12 [encW w, encFs x, encF f] (dB true) := by
  have hres := Try.results12
  have k0 := small8_c
  have c1 := fewT_c w.t 8 4 (by decide)
  have c2 := (rfew_c w.v 4).toN rfl
  rw [show (decide ((w.v.p.d.length : Int) ≤ 4) && decide ((w.v.q.d.length : Int) ≤ 4)) = fewF 4 w.v from rfl] at c2
  have c3 := fewP_c x 8 4 (by decide)
  have c4 := (rfew_c f 4).toN rfl
  rw [show (decide ((f.p.d.length : Int) ≤ 4) && decide ((f.q.d.length : Int) ≤ 4)) = fewF 4 f from rfl] at c4
  by_cases hall : fewT w.t 8 4 = true ∧ fewF 4 w.v = true ∧ fewP x 8 4 = true ∧ fewF 4 f = true
  rotate_left
  · rcases four_or hall with h | h | h | h
    · rw [h] at c1
      refine Contract.ofA (CallA.inline Try.func12 rfl (by kernel_rfl) (by kernel_rfl) (by kernel_rfl) ?_)
      rw [Try.ntmps12]
      exact aGo hres trivial
    · rw [h.1] at c1; rw [h.2] at c2
      refine Contract.ofA (CallA.inline Try.func12 rfl (by kernel_rfl) (by kernel_rfl) (by kernel_rfl) ?_)
      rw [Try.ntmps12]
      exact aGo hres trivial
    · rw [h.1] at c1; rw [h.2.1] at c2; rw [h.2.2] at c3
      refine Contract.ofA (CallA.inline Try.func12 rfl (by kernel_rfl) (by kernel_rfl) (by kernel_rfl) ?_)
      rw [Try.ntmps12]
      exact aGo hres trivial
    · rw [h.1] at c1; rw [h.2.1] at c2; rw [h.2.2.1] at c3; rw [h.2.2.2] at c4
      refine Contract.ofA (CallA.inline Try.func12 rfl (by kernel_rfl) (by kernel_rfl) (by kernel_rfl) ?_)
      rw [Try.ntmps12]
      exact aGo hres trivial
  obtain ⟨h1, h2, h3, h4⟩ := hall
  rw [h1] at c1; rw [h2] at c2; rw [h3] at c3; rw [h4] at c4
  have st := fewT_sm (by decide) (by decide) h1
  have sv := fewF_sm (by decide) h2
  have sx := fewP_sm (by decide) (by decide) h3
  have sf := fewF_sm (by decide) h4
  have sw : smW w := ⟨st, sv⟩
  have nt := fewT_nat 4 (by decide) h1
  have nf := fewF_nat 4 (by decide) h4
  have lt := (fewT_sz h1).1
  have e1 := lholds_c ⟨x.length, []⟩ x ⟨by simp, fun w hw => by cases hw⟩ sx
  have e2 := lrightS_c ⟨x.length, [w]⟩ ⟨by simp, fun u hu => by simp at hu; subst hu; exact sw⟩
  have e3 := fsign_c f (smF_i sf)
  cases hb : holdsS ⟨x.length, []⟩ x
  · rw [hb] at e1
    refine Contract.ofA (CallA.inline Try.func12 rfl (by kernel_rfl) (by kernel_rfl) (by kernel_rfl) ?_)
    rw [Try.ntmps12]
    exact aGo hres trivial
  rw [hb] at e1
  cases hr : rightS ⟨x.length, [w]⟩
  · rw [hr] at e2
    refine Contract.ofA (CallA.inline Try.func12 rfl (by kernel_rfl) (by kernel_rfl) (by kernel_rfl) ?_)
    rw [Try.ntmps12]
    exact aGo hres trivial
  rw [hr] at e2
  cases hs : sgnD f == 0
  rotate_left
  · skip
    refine Contract.ofA (CallA.inline Try.func12 rfl (by kernel_rfl) (by kernel_rfl) (by kernel_rfl) ?_)
    rw [Try.ntmps12]
    exact aGo (cj2 hres hs) trivial
  have hs' : sgnD f ≠ 0 := by simpa using hs
  have hof := (sgnD_ne hs').1
  have hwr : rightW x.length w = true := by simp only [rightS, List.all_cons, List.all_nil, Bool.and_true, Bool.and_eq_true] at hr; exact hr.2
  simp only [rightW, Bool.and_eq_true, decide_eq_true_eq] at hwr
  obtain ⟨⟨⟨rt, hk0⟩, hk3⟩, hov⟩ := hwr
  have r1500 : rightT w.t 1500 = true := rightT_high (by have := (fewP_sz h3).1; omega) rt
  -- the rows
  have g0 := lholds1_c ⟨w.t, 0, w.v⟩ x ⟨st, sv⟩ sx
  rw [one_row 0 hb hr (by decide) (by decide)] at g0
  have g1 := lholds1_c ⟨w.t, 1, w.v⟩ x ⟨st, sv⟩ sx
  rw [one_row 1 hb hr (by decide) (by decide)] at g1
  have g2 := lholds1_c ⟨w.t, 2, w.v⟩ x ⟨st, sv⟩ sx
  rw [one_row 2 hb hr (by decide) (by decide)] at g2
  have g3 := lholds1_c w x ⟨st, sv⟩ sx
  rw [show holdsS ⟨x.length, [w]⟩ x = fitsK w.k (sgQ (dotD w.t x - qOf w.v)) from one_row w.k hb hr hk0 hk3] at g3
  have m1 := fmul_c w.v f (smF_i sv) (smF_i sf)
  rw [show mulD w.v f = (ofQ (qOf w.v * qOf f), 0) by simp [mulD, hov, hof]] at m1
  have m2 := ltimes_c w.t f st sf
  obtain ⟨tl, tz⟩ := timesD_sz nt nf
  have stt : smT (timesD w.t f) := smT_nat (by omega) (by decide) tz
  have nv : szF (ofQ (qOf w.v * qOf f)) ≤ 8 := by
    have := szQ_mul (qOf w.v) (qOf f)
    rw [szF_ok hov, szF_ok hof] at this
    have := fewF_nat 4 (by decide) h2
    rw [szQ_ofQ]; omega
  have svv : smF (ofQ (qOf w.v * qOf f)) := by unfold smF; omega
  have rtt : rightT (timesD w.t f) x.length = true := rightT_times rt
  have hk' : 0 ≤ turnI f w.k ∧ turnI f w.k < 3 := by unfold turnI; split <;> omega
  have hr' : rightS ⟨x.length, [⟨timesD w.t f, turnI f w.k, ofQ (qOf w.v * qOf f)⟩]⟩ = true := by
    simp only [rightS, rightW, List.all_cons, List.all_nil, Bool.and_true, Bool.and_eq_true, decide_eq_true_eq] at hr ⊢
    exact ⟨hr.1, ⟨⟨rtt, hk'.1⟩, hk'.2⟩, okF_ofQ _⟩
  have g4 := lholds1_c ⟨timesD w.t f, turnI f w.k, ofQ (qOf w.v * qOf f)⟩ x ⟨stt, svv⟩ sx
  rw [show holdsS ⟨x.length, [⟨timesD w.t f, turnI f w.k, ofQ (qOf w.v * qOf f)⟩]⟩ x = fitsK w.k (sgQ (dotD w.t x - qOf w.v)) by
    have := one_row (turnI f w.k) hb hr' hk'.1 hk'.2
    dsimp only at this
    rw [this, qOf_ofQ, dotD_eq, timesD_dot r1500 hof, ← dotD_eq, show qOf f * dotD w.t x - qOf w.v * qOf f = qOf f * (dotD w.t x - qOf w.v) by grind, sgQ_mul]
    exact turn_fits hs' hk0 hk3 (by rcases sgQ_cases (dotD w.t x - qOf w.v) with ⟨_, h⟩ | ⟨_, h⟩ | ⟨_, h⟩ <;> simp [h])] at g4
  have w1 : IntKind.i64.wrap (1 - w.k) = 1 - w.k := wrap_in (by omega) (by omega)
  have d0 : fitsK 0 (sgQ (dotD w.t x - qOf w.v)) = decide (0 ≤ sgQ (dotD w.t x - qOf w.v)) := by
    rcases sgQ_cases (dotD w.t x - qOf w.v) with ⟨_, h⟩ | ⟨_, h⟩ | ⟨_, h⟩ <;> rw [h] <;> decide
  have d1 : fitsK 1 (sgQ (dotD w.t x - qOf w.v)) = decide (sgQ (dotD w.t x - qOf w.v) ≤ 0) := by
    rcases sgQ_cases (dotD w.t x - qOf w.v) with ⟨_, h⟩ | ⟨_, h⟩ | ⟨_, h⟩ <;> rw [h] <;> decide
  have d2 : fitsK 2 (sgQ (dotD w.t x - qOf w.v)) = decide (sgQ (dotD w.t x - qOf w.v) = 0) := by
    rcases sgQ_cases (dotD w.t x - qOf w.v) with ⟨_, h⟩ | ⟨_, h⟩ | ⟨_, h⟩ <;> rw [h] <;> decide
  rw [d0] at g0
  rw [d1] at g1
  rw [d2] at g2
  generalize hH : fitsK w.k (sgQ (dotD w.t x - qOf w.v)) = H at g3 g4
  clear hH d0 d1 d2
  have h3c : sgQ (dotD w.t x - qOf w.v) = -1 ∨ sgQ (dotD w.t x - qOf w.v) = 0 ∨ sgQ (dotD w.t x - qOf w.v) = 1 := by
    rcases sgQ_cases (dotD w.t x - qOf w.v) with ⟨_, h⟩ | ⟨_, h⟩ | ⟨_, h⟩ <;> simp [h]
  by_cases hneg : sgnD f < 0
  · cases hk2 : w.k != 2
    · rw [show turnI f w.k = w.k by unfold turnI; rw [if_neg (by simp at hk2; simp [hk2])]] at g4
      rcases h3c with hc | hc | hc <;> rw [hc] at g0 g1 g2
      · skip
        refine Contract.ofA (CallA.inline Try.func12 rfl (by kernel_rfl) (by kernel_rfl) (by kernel_rfl) ?_)
        rw [Try.ntmps12]
        exact aGo (cj4 hres hs hneg (cj2 hk2 w1)) trivial
      · skip
        refine Contract.ofA (CallA.inline Try.func12 rfl (by kernel_rfl) (by kernel_rfl) (by kernel_rfl) ?_)
        rw [Try.ntmps12]
        exact aGo (cj4 hres hs hneg (cj2 hk2 w1)) trivial
      · skip
        refine Contract.ofA (CallA.inline Try.func12 rfl (by kernel_rfl) (by kernel_rfl) (by kernel_rfl) ?_)
        rw [Try.ntmps12]
        exact aGo (cj4 hres hs hneg (cj2 hk2 w1)) trivial
    · rw [show turnI f w.k = 1 - w.k by unfold turnI; rw [if_pos ⟨hneg, by simpa using hk2⟩]] at g4
      rcases h3c with hc | hc | hc <;> rw [hc] at g0 g1 g2
      · skip
        refine Contract.ofA (CallA.inline Try.func12 rfl (by kernel_rfl) (by kernel_rfl) (by kernel_rfl) ?_)
        rw [Try.ntmps12]
        exact aGo (cj4 hres hs hneg (cj2 hk2 w1)) trivial
      · skip
        refine Contract.ofA (CallA.inline Try.func12 rfl (by kernel_rfl) (by kernel_rfl) (by kernel_rfl) ?_)
        rw [Try.ntmps12]
        exact aGo (cj4 hres hs hneg (cj2 hk2 w1)) trivial
      · skip
        refine Contract.ofA (CallA.inline Try.func12 rfl (by kernel_rfl) (by kernel_rfl) (by kernel_rfl) ?_)
        rw [Try.ntmps12]
        exact aGo (cj4 hres hs hneg (cj2 hk2 w1)) trivial
  · rw [show turnI f w.k = w.k by unfold turnI; rw [if_neg (fun h => hneg h.1)]] at g4
    rcases h3c with hc | hc | hc <;> rw [hc] at g0 g1 g2
    · skip
      refine Contract.ofA (CallA.inline Try.func12 rfl (by kernel_rfl) (by kernel_rfl) (by kernel_rfl) ?_)
      rw [Try.ntmps12]
      exact aGo (cj4 hres hs hneg w1) trivial
    · skip
      refine Contract.ofA (CallA.inline Try.func12 rfl (by kernel_rfl) (by kernel_rfl) (by kernel_rfl) ?_)
      rw [Try.ntmps12]
      exact aGo (cj4 hres hs hneg w1) trivial
    · skip
      refine Contract.ofA (CallA.inline Try.func12 rfl (by kernel_rfl) (by kernel_rfl) (by kernel_rfl) ?_)
      rw [Try.ntmps12]
      exact aGo (cj4 hres hs hneg w1) trivial
end Go.Proofs.Ytenmlcpbjjlokaa
