/-
  LinearMixes: the walk.
-/
import Derived.Test.YtenmlcpbjjlokaaMLinE
import Derived.Test.YtenmlcpbjjlokaaMGo

/-
  LinearMixes: the walk.
-/
namespace Go.Proofs.Ytenmlcpbjjlokaa
set_option linter.unusedVariables false
set_option linter.unusedSimpArgs false
open Go Go.RowKit
attribute [local go_sem] opsL_nil opsL_go opsL_guard gSel_tt gSel_ff gSel_tf gSel_ft stepR_some stepR_none callS_some callE_some runL_nil runL_go runL_guard gSelE_tt gSelE_ff gSelE_tf gSelE_ft stepE_some stepE_none opF callD rd constD putT upd_get guardL gOf_bool gOf_undef fieldAddrF fieldF loadF storeF indexAddrF indexF sliceF strSliceF bound buildF fillF buildSliceF elemsF allocF makeSliceF lenF elemsOf appendF minmaxF convertF boxF ldE blkAt spliceE D.cells? D.isCell Res.pure ov TyI.agg binD unD boolD initT thenA inBlockA argD argDs refsD refsL killW datJ datJs endA_ret endA_normal endR_some oneD_one oneD_two oneD_three oneD_four resDs resD fzT Value.oneCell' strip tabT tabM
attribute [local go_sem] List.map Nat.reduceEqDiff Nat.reduceBEq List.getElem?_cons_zero List.getElem?_cons_succ List.getElem?_nil Option.getD_some Option.getD_none true_and and_true true_or or_true false_or or_false and_self Nat.add_zero Nat.zero_add List.length_nil List.length_cons forall_const ite_true ite_false Bool.or_self Bool.false_eq_true Option.map_some Option.map_none beq_self_eq_true Nat.reduceAdd Nat.reduceSub Nat.reduceMul reduceCtorEq List.getElem?_toArray Bool.not_true Bool.not_false decide_eq_true_eq decide_true decide_false Nat.reduceLeDiff Nat.reduceLT Bool.or_false Bool.or_true Bool.and_true Bool.and_false Bool.false_and Bool.true_and Bool.true_beq Bool.false_beq beq_true beq_false Bool.not_eq_true List.drop_succ_cons List.take_succ_cons List.drop_zero List.take_zero List.length_map List.getElem?_map List.length_append List.all_cons List.all_nil List.append_nil List.nil_append List.cons_append List.set_cons_zero List.set_cons_succ Int.toNat_natCast Int.toNat_zero Option.isSome_some Option.isSome_none Array.size_empty ByteArray.size_empty Int.reduceToNat Int.reduceAdd Int.reduceSub Int.reduceLT Int.reduceLE Int.reduceEq Int.reduceNe Int.reduceBEq Int.reduceNeg List.forall_mem_cons List.not_mem_nil false_implies List.forall_mem_map implies_true Nat.reduceBNe Int.cast_ofNat_Int Int.reduceMul Int.reduceGE Int.reduceGT wrap_in ty_2 ty_3 ty_4 ty_5 ty_6 ty_7 ty_8 ty_9 ty_10 ty_11 ty_12 ty_13 ty_14 ty_18 ty_19 ty_21 ty_22 ty_23 ty_24 ty_25 ty_30 ty_31 ty_32 ty_33 ty_34 ty_44 ty_51 ty_52 ty_54 ty_55 ty_56 ty_57 ty_58 ty_74 ty_75 ty_78 ty_93 ty_94 ty_121 ty_122 ty_131 ty_132 ty_133 ty_134 ty_135 ty_137 ty_138 ty_139 ty_142 ty_143 ty_144 ty_145
set_option maxRecDepth 100000
set_option maxHeartbeats 16000000

def mixD (p : Rat) (x y : List FracD) : List FracD := List.zipWith (fun f g => ofQ (p * qOf f + (1 - p) * qOf g)) x y
theorem zip_take_succ {α β γ : Type} (g : α → β → γ) {l : List α} {m : List β} {k : Nat} {x : α} {y : β} (hx : l[k]? = some x) (hy : m[k]? = some y) : List.zipWith g (l.take (k + 1)) (m.take (k + 1)) = List.zipWith g (l.take k) (m.take k) ++ [g x y] := by
  have h1 : k < l.length := (List.getElem?_eq_some_iff.1 hx).1
  have h2 : k < m.length := (List.getElem?_eq_some_iff.1 hy).1
  rw [List.take_add_one, List.take_add_one, hx, hy, Option.toList_some, Option.toList_some, List.zipWith_append (by simp; omega)]
  rfl
def mixK (p : Rat) (x y : List FracD) (k : Nat) : List FracD := mixD p (x.take k) (y.take k)
theorem mixK_succ {p : Rat} {x y : List FracD} {k : Nat} {f g : FracD} (hx : x[k]? = some f) (hy : y[k]? = some g) : mixK p x y (k + 1) = mixK p x y k ++ [ofQ (p * qOf f + (1 - p) * qOf g)] := zip_take_succ _ hx hy
theorem mixK_zero (p : Rat) (x y : List FracD) : mixK p x y 0 = [] := rfl
theorem mixK_len (p : Rat) (x y : List FracD) (k : Nat) : (mixK p x y k).length ≤ x.length := by
  unfold mixK mixD; rw [List.length_zipWith, List.length_take]; omega
theorem mixK_all (p : Rat) {x y : List FracD} (h : x.length = y.length) : mixK p x y x.length = mixD p x y := by
  unfold mixK; rw [List.take_length, h, List.take_length]
theorem fz_fracs (m : Mem) (n : Nat) (l : List FracD) : D.sl (List.map (List.map (fzT true m (n + 1))) (List.map cF l)) = encFs l := by rw [map_map_id (fun _ => rfl)]
theorem mixed8_c (x y : List FracD) (p : Rat) (sx : smFs x) (sy : smFs y) (hx : okP x = true) (hy : okP y = true) (hl : x.length = y.length) (zp : (szQ p : Int) ≤ 4194304) : Contract Try.prog 57 [encFs x, encFs y, encF (ofQ p)] (encFs (mixD p x y)) := by
  have hres := Try.results57
  have lx := smFs_len sx
  have z1 : szQ ((1 : Int) : Rat) ≤ 4 := szQ_int 1 (by decide) (by decide)
  have i1 := fint_c 1 (by decide) (by decide)
  have m1 := qsub_c ((1 : Int) : Rat) p (by omega) (by omega)
  have zr := szQ_sub ((1 : Int) : Rat) p
  rw [Rat.intCast_one] at m1 i1 zr z1
  refine Contract.ofA (CallA.inline Try.func57 rfl (by kernel_rfl) (by kernel_rfl) (by kernel_rfl) ?_)
  rw [Try.ntmps57]
  refine aGo hres ?_
  repeat (guard_target =~ ∀ _ : St → Prop, _; intro K hK)
  refine aLe (le_row 9 34 4 rfl) ?_
  refine aLoopT (fun (k : Nat) => [(0, encFs x), (1, encFs y), (5, .lp 0 0 0 0), (7, .lp 1 0 0 0), (9, .ls 2 k), (10, dI k)]) (fun k => [(0, ⟨34, 0, 4, [cF (ofQ p)], 0, false⟩), (1, ⟨34, 0, 4, [cF (ofQ (1 - p))], 0, false⟩), (2, ⟨34, k, 4, (mixK p x y k).map cF, 0, false⟩)]) 3 0 (fun k => k ≤ x.length) (fun k => x.length - k) 0 (by omega) ?_ ?_
  · refine le_head _ _ _ ?_ ?_ ?_ ?_ ?_ (.inl rfl) <;> simp [go_sem, okD, okDs, okBlk, mixK_zero] <;> (first | (intros; subst_vars; simp [okD, okDs]; done) | (intro _ h; rcases h with ⟨_, _, rfl⟩ | rfl <;> simp [okD, okDs]; done) | (intros; rename_i h; rcases h with ⟨_, _, rfl⟩ | rfl <;> simp [okD, okDs]))
  · rintro k hk
    have hw : IntKind.i64.wrap ((k : Int) + 1) = (k : Int) + 1 := wrap_in (by omega) (by omega)
    have h0 : (0 : Int) ≤ k := by omega
    by_cases h1 : (k : Int) < x.length
    · obtain ⟨f, h2⟩ : ∃ e, x[k]? = some e := ⟨_, List.getElem?_eq_getElem (by omega)⟩
      obtain ⟨g, h3⟩ : ∃ e, y[k]? = some e := ⟨_, List.getElem?_eq_getElem (by omega)⟩
      have h1b : (k : Int) < y.length := by omega
      have of := (List.all_eq_true.1 hx) f (mem_at h2)
      have og := (List.all_eq_true.1 hy) g (mem_at h3)
      have sf : (szF f : Int) ≤ 4194304 := sx.2 f (mem_at h2)
      have sg : (szF g : Int) ≤ 4194304 := sy.2 g (mem_at h3)
      have k1 := fmul_c (ofQ p) f (by rw [szQ_ofQ]; omega) (by omega)
      rw [show mulD (ofQ p) f = (ofQ (p * qOf f), 0) by simp [mulD, okF_ofQ, qOf_ofQ, of]] at k1
      have k2 := fmul_c (ofQ (1 - p)) g (by rw [szQ_ofQ]; omega) (by omega)
      rw [show mulD (ofQ (1 - p)) g = (ofQ ((1 - p) * qOf g), 0) by simp [mulD, okF_ofQ, qOf_ofQ, og]] at k2
      have y1 := szQ_mul p (qOf f)
      rw [szF_ok of] at y1
      have y2 := szQ_mul (1 - p) (qOf g)
      rw [szF_ok og] at y2
      have k3 := qadd_c (p * qOf f) ((1 - p) * qOf g) (by omega) (by omega)
      have n1 := mixK_succ (p := p) h2 h3
      have n2 := mixK_len p x y k
      refine aGo (cj4 hres h0 h1 (cj4 h1b h2 h3 hw)) ?_
      repeat (guard_target =~ ∀ _ : St → Prop, _; intro K hK)
      exact loop_end (k + 1) (by omega) (by omega) (by refine le_head _ _ _ ?_ ?_ ?_ ?_ ?_ (.inl rfl) <;> simp [go_sem, okD, okDs, okBlk, n1] <;> (first | (intros; subst_vars; simp [okD, okDs]; done) | (intro _ h; rcases h with ⟨_, _, rfl⟩ | rfl <;> simp [okD, okDs]; done) | (intros; rename_i h; rcases h with ⟨_, _, rfl⟩ | rfl <;> simp [okD, okDs])))
    · obtain rfl : k = x.length := by omega
      refine aGo (cj2 hres h1) ?_
      repeat (guard_target =~ ∀ _ : St → Prop, _; intro K hK)
      rw [mixK_all p hl]
      exact fz_fracs _ _ _

theorem at_mix {p : Rat} {x y : List FracD} (hl : x.length = y.length) (v : Int) : atP (mixD p x y) v = p * atP x v + (1 - p) * atP y v := by
  unfold atP mixD
  rw [List.getElem?_zipWith]
  cases hx : x[v.toNat]? with
  | none =>
    have : y[v.toNat]? = none := List.getElem?_eq_none (by have := List.getElem?_eq_none_iff.1 hx; omega)
    rw [this]
    have : qOf zF = 0 := by decide +kernel
    simp only [Option.getD_none, this]; grind
  | some f =>
    have hlt := (List.getElem?_eq_some_iff.1 hx).1
    rw [List.getElem?_eq_getElem (by omega : v.toNat < y.length)]
    simp only [Option.getD_some, qOf_ofQ]
theorem dotS_lin (p q : Rat) (g h : Int → Rat) : ∀ l : List TermD, dotS (fun v => p * g v + q * h v) l = p * dotS g l + q * dotS h l
  | [] => by simp only [dotS]; grind
  | t :: l => by simp only [dotS, dotS_lin p q g h l]; grind
theorem fitsK_iff {k : Int} {d : Rat} (h0 : 0 ≤ k) (h3 : k < 3) : fitsK k (sgQ d) = true ↔ (k = 0 → 0 ≤ d) ∧ (k = 1 → d ≤ 0) ∧ (k = 2 → d = 0) := by
  have hk : k = 0 ∨ k = 1 ∨ k = 2 := by omega
  rcases sgQ_cases d with ⟨h, e⟩ | ⟨h, e⟩ | ⟨h, e⟩ <;> rw [e] <;> rcases hk with rfl | rfl | rfl <;> simp [fitsK] <;> grind
theorem fits_mix {k : Int} {d e p : Rat} (h0 : 0 ≤ k) (h3 : k < 3) (p0 : 0 ≤ p) (p1 : p ≤ 1) (hd : fitsK k (sgQ d) = true) (he : fitsK k (sgQ e) = true) : fitsK k (sgQ (p * d + (1 - p) * e)) = true := by
  rw [fitsK_iff h0 h3] at *
  refine ⟨fun h => ?_, fun h => ?_, fun h => ?_⟩
  · have a := Rat.mul_nonneg p0 (hd.1 h)
    have b := Rat.mul_nonneg (a := 1 - p) (by grind) (he.1 h)
    grind
  · have a := Rat.mul_nonneg p0 (by have := hd.2.1 h; grind : 0 ≤ -d)
    have b := Rat.mul_nonneg (a := 1 - p) (by grind) (by have := he.2.1 h; grind : 0 ≤ -e)
    grind
  · rw [hd.2.2 h, he.2.2 h]; grind
theorem sgnD_nonneg {f : FracD} (h : okF f = true) : 0 ≤ sgnD f ↔ 0 ≤ qOf f := by
  have e : sgnD f = sgQ (qOf f) := by simp [sgnD, h]
  rw [e]
  rcases sgQ_cases (qOf f) with ⟨h, g⟩ | ⟨h, g⟩ | ⟨h, g⟩ <;> rw [g] <;> constructor <;> intro h1 <;> grind
theorem holds_mix {s : SysD} {x y : List FracD} {p : Rat} (hx : holdsS s x = true) (hy : holdsS s y = true) (p0 : 0 ≤ p) (p1 : p ≤ 1) : holdsS s (mixD p x y) = true := by
  simp only [holdsS, Bool.and_eq_true, decide_eq_true_eq] at hx hy ⊢
  obtain ⟨⟨⟨⟨hr, ln⟩, ox⟩, nx⟩, rx⟩ := hx
  obtain ⟨⟨⟨⟨_, ln'⟩, oy⟩, ny⟩, ry⟩ := hy
  have hl : x.length = y.length := by omega
  refine ⟨⟨⟨⟨hr, by unfold mixD; rw [List.length_zipWith]; omega⟩, ?_⟩, ?_⟩, ?_⟩
  · refine List.all_eq_true.2 fun f hf => ?_
    obtain ⟨i, hi⟩ := List.getElem?_of_mem hf
    unfold mixD at hi
    rw [List.getElem?_zipWith] at hi
    split at hi
    · cases hi; exact okF_ofQ _
    · cases hi
  · refine List.all_eq_true.2 fun f hf => ?_
    obtain ⟨i, hi⟩ := List.getElem?_of_mem hf
    unfold mixD at hi
    rw [List.getElem?_zipWith] at hi
    split at hi
    · rename_i a b ha hb
      cases hi
      have na := of_decide_eq_true ((List.all_eq_true.1 nx) a (mem_at ha))
      have nb := of_decide_eq_true ((List.all_eq_true.1 ny) b (mem_at hb))
      have oa := (List.all_eq_true.1 ox) a (mem_at ha)
      have ob := (List.all_eq_true.1 oy) b (mem_at hb)
      rw [sgnD_nonneg oa] at na
      rw [sgnD_nonneg ob] at nb
      refine decide_eq_true ((sgnD_nonneg (okF_ofQ _)).2 ?_)
      rw [qOf_ofQ]
      have u := Rat.mul_nonneg p0 na
      have v := Rat.mul_nonneg (a := 1 - p) (by grind) nb
      grind
    · cases hi
  · refine List.all_eq_true.2 fun w hw => ?_
    have hwr := rightS_mem hr hw
    simp only [rightW, Bool.and_eq_true, decide_eq_true_eq] at hwr
    have a := (List.all_eq_true.1 rx) w hw
    have b := (List.all_eq_true.1 ry) w hw
    unfold holdsW at a b ⊢
    have e : dotD w.t (mixD p x y) - qOf w.v = p * (dotD w.t x - qOf w.v) + (1 - p) * (dotD w.t y - qOf w.v) := by
      rw [dotD_eq, dotD_eq, dotD_eq, show atP (mixD p x y) = fun v => p * atP x v + (1 - p) * atP y v from funext (at_mix hl), dotS_lin]
      grind
    rw [e]
    exact fits_mix hwr.1.1.2 hwr.1.2 p0 p1 a b
theorem divInt_unit {p q : Int} (h0 : 0 ≤ p) (h1 : p ≤ q) (hq : 0 < q) : 0 ≤ Rat.divInt p q ∧ Rat.divInt p q ≤ 1 := by
  have key : ∀ r : Int, 0 ≤ r → 0 ≤ Rat.divInt r q := by
    intro r hr
    have h := sgQ_divInt (p := r) hq
    rcases sgQ_cases (Rat.divInt r q) with ⟨h1, h2⟩ | ⟨h1, h2⟩ | ⟨h1, h2⟩
    · rw [h2] at h
      have := Int.sign_nonneg_iff.2 hr
      omega
    · grind
    · grind
  have hq' : (q : Rat) ≠ 0 := by exact_mod_cast (by omega : q ≠ 0)
  refine ⟨key p h0, ?_⟩
  have h2 := key (q - p) (by omega)
  have e : Rat.divInt (q - p) q = 1 - Rat.divInt p q := by
    rw [Rat.divInt_eq_div, Rat.divInt_eq_div, Rat.intCast_sub]
    have : (q : Rat) / q = 1 := by rw [Rat.div_def, Rat.mul_inv_cancel _ hq']
    grind
  grind

theorem mixes8_c (s : SysD) (x y : List FracD) (p q : Int) (hp : 0 ≤ p ∧ p ≤ 65535) (hq : 0 ≤ q ∧ q ≤ 65535) : Contract Try.prog 13 [encS s, encFs x, encFs y, .v (.int .u16 p), .v (.int .u16 q)] (dB true) := by
  have hres := Try.results13
  have k0 := small8_c
  have c1 := fewS_c s 8 8 4 (by decide) (by decide)
  have c2 := fewP_c x 8 4 (by decide)
  have c3 := fewP_c y 8 4 (by decide)
  cases h1 : fewS s 8 8 4
  · rw [h1] at c1
    refine Contract.ofA (CallA.inline Try.func13 rfl (by kernel_rfl) (by kernel_rfl) (by kernel_rfl) ?_)
    rw [Try.ntmps13]
    exact aGo hres trivial
  rw [h1] at c1
  cases h2 : fewP x 8 4
  · rw [h2] at c2
    refine Contract.ofA (CallA.inline Try.func13 rfl (by kernel_rfl) (by kernel_rfl) (by kernel_rfl) ?_)
    rw [Try.ntmps13]
    exact aGo hres trivial
  rw [h2] at c2
  cases h3 : fewP y 8 4
  · rw [h3] at c3
    refine Contract.ofA (CallA.inline Try.func13 rfl (by kernel_rfl) (by kernel_rfl) (by kernel_rfl) ?_)
    rw [Try.ntmps13]
    exact aGo hres trivial
  rw [h3] at c3
  have ss := fewS_sm (by decide) (by decide) (by decide) h1
  have sx := fewP_sm (by decide) (by decide) h2
  have sy := fewP_sm (by decide) (by decide) h3
  have e1 := lholds_c s x ss sx
  have e2 := lholds_c s y ss sy
  cases hx : holdsS s x
  · rw [hx] at e1
    refine Contract.ofA (CallA.inline Try.func13 rfl (by kernel_rfl) (by kernel_rfl) (by kernel_rfl) ?_)
    rw [Try.ntmps13]
    exact aGo hres trivial
  rw [hx] at e1
  cases hy : holdsS s y
  · rw [hy] at e2
    refine Contract.ofA (CallA.inline Try.func13 rfl (by kernel_rfl) (by kernel_rfl) (by kernel_rfl) ?_)
    rw [Try.ntmps13]
    exact aGo hres trivial
  rw [hy] at e2
  cases h4 : q == 0
  rotate_left
  · refine Contract.ofA (CallA.inline Try.func13 rfl (by kernel_rfl) (by kernel_rfl) (by kernel_rfl) ?_)
    rw [Try.ntmps13]
    exact aGo (cj2 hres h4) trivial
  have h4' : q ≠ 0 := by simpa using h4
  by_cases h5 : p > q
  · refine Contract.ofA (CallA.inline Try.func13 rfl (by kernel_rfl) (by kernel_rfl) (by kernel_rfl) ?_)
    rw [Try.ntmps13]
    exact aGo (cj3 hres h4 h5) trivial
  have w1 : IntKind.i64.wrap p = p := wrap_in (by omega) (by omega)
  have w2 : IntKind.i64.wrap q = q := wrap_in (by omega) (by omega)
  obtain ⟨u0, u1⟩ := divInt_unit hp.1 (by omega : p ≤ q) (by omega)
  have o1 := lof_c p q h4' (by omega) (by omega) (by omega) (by omega)
  have zq := szQ_frac p q h4' (by omega) (by omega) (by omega) (by omega)
  have hx' := hx
  have hy' := hy
  simp only [holdsS, Bool.and_eq_true, decide_eq_true_eq] at hx' hy'
  obtain ⟨⟨⟨⟨_, ln⟩, ox⟩, _⟩, _⟩ := hx'
  obtain ⟨⟨⟨⟨_, ln'⟩, oy⟩, _⟩, _⟩ := hy'
  have o2 := mixed8_c x y (Rat.divInt p q) sx sy ox oy (by omega) (by omega)
  have nx := fewP_nat 4 (by decide) h2
  have ny := fewP_nat 4 (by decide) h3
  have sm : smFs (mixD (Rat.divInt p q) x y) := by
    refine ⟨by unfold mixD; rw [List.length_zipWith]; have := smFs_len sx; omega, fun f hf => ?_⟩
    obtain ⟨i, hi⟩ := List.getElem?_of_mem hf
    unfold mixD at hi
    rw [List.getElem?_zipWith] at hi
    split at hi
    · rename_i a b ha hb
      cases hi
      have oa := (List.all_eq_true.1 ox) a (mem_at ha)
      have ob := (List.all_eq_true.1 oy) b (mem_at hb)
      have z1 := szQ_mul (Rat.divInt p q) (qOf a)
      have z2 := szQ_mul (1 - Rat.divInt p q) (qOf b)
      have z3 := szQ_sub 1 (Rat.divInt p q)
      have z4 : szQ 1 ≤ 4 := szQ_int 1 (by decide) (by decide)
      have z5 := szQ_add (Rat.divInt p q * qOf a) ((1 - Rat.divInt p q) * qOf b)
      rw [szF_ok oa] at z1
      rw [szF_ok ob] at z2
      have := nx a (mem_at ha)
      have := ny b (mem_at hb)
      unfold smF
      rw [szQ_ofQ]
      omega
    · cases hi
  have o3 := lholds_c s (mixD (Rat.divInt p q) x y) ss sm
  rw [holds_mix hx hy u0 u1] at o3
  refine Contract.ofA (CallA.inline Try.func13 rfl (by kernel_rfl) (by kernel_rfl) (by kernel_rfl) ?_)
  rw [Try.ntmps13]
  exact aGo (cj4 hres h4 h5 (cj2 w1 w2)) trivial
end Go.Proofs.Ytenmlcpbjjlokaa
