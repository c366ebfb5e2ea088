/-
  The walk over data: memory that is known by letters: parts of it, names of it, dead blocks.
-/
import Derived.Test.YtbnbpfjfkedbaaaPConv
import Derived.Test.YtbnbpfjfkedbaaaPDualP
namespace Go.Proofs.Ytbnbpfjfkedbaaa
set_option linter.unusedVariables false
set_option linter.unusedSimpArgs false
set_option linter.unusedSectionVars false
open Go Go.RowKit
section ifl
variable [Ifl]
section
variable {β β' : Bet} {m m' : Mem} {S S' : Nat → Nat → Prop} {w : World} {keep : Nat → Bool}
mutual
theorem ok_repB (hm : ∀ id, keep id = true → m' id = m id ∧ β' id = β id) (hs : SafeLe S w S' w) : ∀ (d : D) (x : Value), okD keep d = true → Rep β m S w x d → Rep β' m' S' w x d
 | .v y, x, _, h => by rw [h.inv_v]; exact .v _
 | .nil, x, _, h => by rw [h.inv_nil]; exact .nil
 | .agg l, x, ho, h => by
   obtain ⟨vs, rfl, h1, h2⟩ := h.inv_agg
   exact (ok_repsB hm hs l vs (by simpa [okD] using ho) ⟨h1, h2⟩).rep_agg
 | .tup l, x, ho, h => by
   obtain ⟨vs, rfl, h1, h2⟩ := h.inv_tup
   exact (ok_repsB hm hs l vs (by simpa [okD] using ho) ⟨h1, h2⟩).rep_tup
 | .sl es, x, _, h => (h.sl_no.mono (MemLe.refl _ _ _) hs).lift
 | .ep es i o, x, _, h => (h.ep_no.mono (MemLe.refl _ _ _) hs).lift
 | .ls id ver, x, ho, h => by
   obtain ⟨a, n, cap, blk, rfl, h1, h2, hx, h3⟩ := h.inv_lsx
   have hk := hm id (by simpa [okD] using ho)
   exact .ls a n cap id ver blk (hk.1.trans h1) h2 hx (fun e => by rw [hk.2]; exact h3 e)
 | .lp id ver i o, x, ho, h => by
   obtain ⟨b, p, blk, rfl, h1, h2, h3⟩ := h.inv_lp
   have hk := hm id (by simpa [okD] using ho)
   exact .lp b p id ver i o blk (hk.1.trans h1) h2 (fun e => by rw [hk.2]; exact h3 e)
 | .clo f l, x, ho, h => by
   obtain ⟨vs, rfl, h1, h2⟩ := h.inv_clo
   have := ok_repsB hm hs l vs (by simpa [okD] using ho) ⟨h1, h2⟩
   exact .clo f vs l this.1 this.2
 | .junk, x, _, _ => .junk _
theorem ok_repsB (hm : ∀ id, keep id = true → m' id = m id ∧ β' id = β id) (hs : SafeLe S w S' w) : ∀ (l : List D) (vs : List Value), okDs keep l = true → Reps β m S w vs l → Reps β' m' S' w vs l
 | [], vs, _, h => by
   obtain rfl : vs = [] := List.eq_nil_of_length_eq_zero h.1
   exact Reps.nil
 | d :: l, vs, ho, h => by
   simp only [okDs, Bool.and_eq_true] at ho
   match vs, h with
   | [], h => exact absurd h.1 (by simp)
   | v :: vs, h =>
     exact Reps.cons (ok_repB hm hs d v ho.1 (h.2 0 v d rfl rfl)) (ok_repsB hm hs l vs ho.2 ⟨by simpa using h.1, fun i y e hy he => h.2 (i + 1) y e (by simpa using hy) (by simpa using he)⟩)
end
end
theorem Rep.names {β : Bet} {m : Mem} {S : Nat → Nat → Prop} {w : World} {x : Value} {d : D} (h : Rep β m S w x d) : okD (fun i => (m i).isSome) d = true := by
 have lists : ∀ {m : Mem} {l : List D} {vs : List Value}, vs.length = l.length → (∀ (i : Nat) (x : Value) (d : D), vs[i]? = some x → l[i]? = some d → okD (fun i => (m i).isSome) d = true) → okDs (fun i => (m i).isSome) l = true := by
  intro m l
  induction l with
  | nil => intro _ _ _; rfl
  | cons d l ih =>
    intro vs hl h
    match vs, hl with
    | v :: vs, hl =>
      simp only [okDs, Bool.and_eq_true]
      exact ⟨h 0 v d rfl rfl, ih (by simpa using hl) fun i x e hx he => h (i + 1) x e (by simpa using hx) (by simpa using he)⟩
 induction h with
 | agg vs l hl _ ih => simp only [okD]; exact lists hl ih
 | tup vs l hl _ ih => simp only [okD]; exact lists hl ih
 | clo f vs l hl _ ih => simp only [okD]; exact lists hl ih
 | ls a n cap id ver blk hm _ _ _ => simp only [okD, hm]; rfl
 | lp b p id ver i o blk hm _ _ => simp only [okD, hm]; rfl
 | _ => rfl
structure SubM (m' m : Mem) (n' : Nat) : Prop where
 sub : ∀ id b, m' id = some b → m id = some b ∧ id < n'
 cl : ∀ id b, m' id = some b → okBlk (fun i => (m' i).isSome) b
section
variable {E : Env} {β : Bet} {m m' : Mem} {nx n' : Nat} {w : World}
theorem SubM.safe (h : SubM m' m n') : SafeLe (safe E β m) w (Go.Proofs.Ytbnbpfjfkedbaaa.safe E β m') w :=
 fun b o u h1 h2 => ⟨⟨h1.1, fun id blk h3 h4 => h1.2 id blk (h.sub id blk h3).1 h4⟩, h2⟩
theorem SubM.keep (h : SubM m' m n') : ∀ id, (m' id).isSome = true → m' id = m id := by
 intro id hid
 cases hm : m' id with
 | none => rw [hm] at hid; cases hid
 | some b => rw [(h.sub id b hm).1]
theorem SubM.mem (h : SubM m' m n') (hM : MemOk E β m nx w) : MemOk E β m' n' w := by
 refine ⟨hM.below, fun id b hb => (h.sub id b hb).2, fun id b hb => hM.fz id b (h.sub id b hb).1, fun id b hb => hM.wid id b (h.sub id b hb).1, fun id b hb => hM.non id b (h.sub id b hb).1, ?_, ?_⟩
 · intro id b c hb hc
   obtain ⟨h3, cs', h4, h5, h6⟩ := hM.row id b c (h.sub id b hb).1 hc
   refine ⟨h3, cs', h4, h5, fun i j d hd => ?_⟩
   obtain ⟨u, h7, h8⟩ := h6 i j d hd
   obtain ⟨e, he, hj⟩ := cellAt_some.1 hd
   exact ⟨u, h7, ok_rep h.keep h.safe d u (okDs_get (h.cl id b hb e (List.mem_of_getElem? he)) d (List.mem_of_getElem? hj)) h8⟩
 · intro x1 x2 y1 y2 c h1 h2 h3 h4
   exact hM.inj x1 x2 y1 y2 c (h.sub _ _ h1).1 (h.sub _ _ h2).1 h3 h4
end
theorem le_sub {s : St} (l : List (Nat × D)) (m' : Mem) (n' : Nat) (h : SubM m' s.m n') (ht : ∀ p ∈ l, s.t p.1 = p.2) (hok : ∀ p ∈ l, okD (fun i => (m' i).isSome) p.2 = true) (hlo : ∀ id, id < s.lo → m' id = s.m id) : StLe s ⟨tabT l, m', n', s.lo⟩ := by
 intro E B nn β a w hr
 refine ⟨β, h.mem hr.mem, fun k hk => ?_, hr.width, hr.defers, ⟨fun id x hx => ?_, hr.le.cap⟩, hr.sle.trans h.safe, hr.lo⟩
 · rcases tabT_get l k with h1 | ⟨d, h1, h2⟩
   · simp only [h1]; exact .junk _
   · simp only [h2]
     have := hr.tmp k hk
     rw [ht _ h1] at this
     exact ok_rep h.keep h.safe d _ (hok _ h1) this
 · obtain ⟨y, h1, h2, h3⟩ := hr.le.blk id x hx
   exact ⟨y, (hlo id (hr.lo id x hx)).trans h1, h2, h3⟩
theorem CallA.sub {P : Program} {f : FuncId} {ds : List D} {m : Mem} {nx : Nat} {K : D → Mem → Nat → Prop}
    (h : CallA P f ds m nx fun d m' nx' => ∃ M N, SubM M m' N ∧ okD (fun i => (M i).isSome) d = true ∧ (∀ id, (m id).isSome = true → M id = m' id) ∧ K d M N) : CallA P f ds m nx K := by
 refine ⟨h.1, fun E β w vs hM hvs => (h.2 E β w vs hM hvs).mono ?_⟩
 rintro e w' ⟨v, d, m', nx', rfl, ⟨β', h1, h2, h3, h4⟩, M, N, h5, h6, h7, hK⟩
 refine ⟨v, d, M, N, rfl, ⟨β', h5.mem h1, ⟨fun id x hx => ?_, h2.cap⟩, h3.trans h5.safe, ok_rep h5.keep h5.safe d v h6 h4⟩, hK⟩
 obtain ⟨y, h8, h9⟩ := h2.blk id x hx
 exact ⟨y, (h7 id (by rw [hx]; rfl)).trans h8, h9⟩
theorem le_killL {s : St} (l : List Nat) : StLe s { s with m := ov s.m (killW l s.m) } := by
 intro E B nn β a w h
 obtain ⟨h1, h2, h3⟩ := kill_ok l s.m h.mem
 exact ⟨β, h1, fun j hj => (h.tmp j hj).mono h2 h3, h.width, h.defers, h.le.trans h2, h.sle.trans h3, h.lo⟩
theorem After.rename {E : Env} {β : Bet} {m : Mem} {NX NY : Nat} {w w' : World} {v : Value} {x y ver : Nat} {blk : Blk} (h : After E β m NY w (upd m y (some blk)) v (.ls y ver) w') (hM : MemOk E β m NX w) (hy : m y = none) (hx : m x = none) (hxN : x < NX)
    (hb : okBlk (fun _ => false) blk) : After E β m NX w (upd m x (some blk)) v (.ls x ver) w' := by
 obtain ⟨β', h1, h2, h3, h4⟩ := h
 have hne : ∀ id b, m id = some b → id ≠ y ∧ id ≠ x := fun id b hi => ⟨fun e => (by subst e; rw [hi] at hy; cases hy), fun e => (by subst e; rw [hi] at hx; cases hx)⟩
 have hold : ∀ id b, m id = some b → upd m y (some blk) id = some b := fun id b hi => by rw [upd_ne _ _ (hne id b hi).1]; exact hi
 have hB : ∀ id b, m id = some b → upd β' x (β' y) id = β' id := fun id b hi => upd_ne _ _ (hne id b hi).2
 have hcase : ∀ id b, upd m x (some blk) id = some b → (id = x ∧ b = blk) ∨ m id = some b := fun id b hi => by
  by_cases e : id = x
  · subst e; rw [upd_same] at hi; cases hi; exact .inl ⟨rfl, rfl⟩
  · rw [upd_ne _ _ e] at hi; exact .inr hi
 have hyb := upd_same m y (some blk)
 have hs : SafeLe (safe E β' (upd m y (some blk))) w' (safe E (upd β' x (β' y)) (upd m x (some blk))) w' := by
  intro c o u g1 g2
  refine ⟨⟨g1.1, fun id b g3 g4 => ?_⟩, g2⟩
  rcases hcase id b g3 with ⟨rfl, rfl⟩ | g5
  · rw [upd_same] at g4; exact g1.2 y _ hyb g4
  · rw [hB id b g5] at g4; exact g1.2 id b (hold id b g5) g4
 have hml : MemLe β m w (upd β' x (β' y)) (upd m x (some blk)) w' := by
  refine ⟨fun id b hi => ?_, h2.cap⟩
  obtain ⟨z, g1, g2, g3⟩ := h2.blk id b hi
  rw [hold id b hi] at g1; cases g1
  exact ⟨b, by rw [upd_ne _ _ (hne id b hi).2]; exact hi, Nat.le_refl _, fun _ => ⟨rfl, rfl, by rw [hB id b hi]; exact (g3 rfl).2.2⟩⟩
 refine ⟨upd β' x (β' y), ⟨h1.below, ?_, ?_, ?_, ?_, ?_, ?_⟩, hml, h3.trans hs, ?_⟩
 · intro id b hi
   rcases hcase id b hi with ⟨rfl, rfl⟩ | hi
   · exact hxN
   · exact hM.lt id b hi
 · intro id b hi
   rcases hcase id b hi with ⟨rfl, rfl⟩ | hi
   · exact h1.fz y _ hyb
   · exact h1.fz id b (hold id b hi)
 · intro id b hi
   rcases hcase id b hi with ⟨rfl, rfl⟩ | hi
   · exact h1.wid y _ hyb
   · exact h1.wid id b (hold id b hi)
 · intro id b hi hn
   rcases hcase id b hi with ⟨rfl, rfl⟩ | hi
   · rw [upd_same] at hn; exact h1.non y _ hyb hn
   · rw [hB id b hi] at hn; exact h1.non id b (hold id b hi) hn
 · intro id b c hi hc
   rcases hcase id b hi with ⟨rfl, rfl⟩ | hi
   · rw [upd_same] at hc
     obtain ⟨g1, cs, g2, g3, g4⟩ := h1.row y _ c hyb hc
     refine ⟨g1, cs, g2, g3, fun i j d hd => ?_⟩
     obtain ⟨u, g5, g6⟩ := g4 i j d hd
     obtain ⟨e, he, hj⟩ := cellAt_some.1 hd
     exact ⟨u, g5, ok_repB (keep := fun _ => false) (fun _ h => by cases h) hs d u (okDs_get (hb e (List.mem_of_getElem? he)) d (List.mem_of_getElem? hj)) g6⟩
   · rw [hB id b hi] at hc
     obtain ⟨g1, cs, g2, g3, g4⟩ := h1.row id b c (hold id b hi) hc
     refine ⟨g1, cs, g2, g3, fun i j d hd => ?_⟩
     obtain ⟨u, g5, g6⟩ := g4 i j d hd
     refine ⟨u, g5, ok_repB (keep := fun i => (m i).isSome) (fun k hk => ?_) hs d u ?_ g6⟩
     · cases hmk : m k with
       | none => rw [hmk] at hk; cases hk
       | some z => exact ⟨by rw [hold k z hmk, upd_ne _ _ (hne k z hmk).2, hmk], hB k z hmk⟩
     · cases hbt : β id with
       | none =>
         obtain ⟨e, he, _⟩ := cellAt_some.1 hd
         rw [hM.non id b hi hbt] at he; simp at he
       | some c0 =>
         obtain ⟨_, cs0, _, _, g7⟩ := hM.row id b c0 hi hbt
         obtain ⟨u0, _, g8⟩ := g7 i j d hd
         exact g8.names
 · intro x1 x2 y1 y2 c g1 g2 g3 g4
   rcases hcase x1 y1 g1 with ⟨rfl, rfl⟩ | g5 <;> rcases hcase x2 y2 g2 with ⟨rfl, rfl⟩ | g6
   · rfl
   · rw [upd_same] at g3
     rw [hB x2 y2 g6] at g4
     exact absurd (h1.inj y x2 _ _ c hyb (hold x2 y2 g6) g3 g4) (fun e => (hne x2 y2 g6).1 e.symm)
   · rw [upd_same] at g4
     rw [hB x1 y1 g5] at g3
     exact absurd (h1.inj x1 y _ _ c (hold x1 y1 g5) hyb g3 g4) (hne x1 y1 g5).1
   · rw [hB x1 y1 g5] at g3
     rw [hB x2 y2 g6] at g4
     exact h1.inj x1 x2 _ _ c (hold x1 y1 g5) (hold x2 y2 g6) g3 g4
 · obtain ⟨a, n, cap, b, rfl, g1, g2, gx, g3⟩ := h4.inv_lsx
   rw [hyb] at g1; cases g1
   exact .ls a n cap x ver blk (upd_same _ _ _) g2 gx (fun e => by
    obtain ⟨q1, q2, q3, q4⟩ := g3 e
    refine ⟨q1, q2, q3, ?_⟩
    rw [upd_same]; exact q4)
theorem EffC.made {P : Program} {f : FuncId} {ds : List D} {m : Mem} {nx ver : Nat} {blk : Blk} (hm : m nx = none) (hb : okBlk (fun _ => false) blk)
    (h : ∀ (m1 : Mem) (NX : Nat), CallA P f ds m1 NX fun d m' nx' => d = .ls NX ver ∧ m' = upd m1 NX (some blk) ∧ nx' = NX + 1) : EffC P f ds m nx ⟨.ls nx ver, [nx], [(nx, blk)], false⟩ (nx + 1) := by
 refine ⟨(h noM 0).1, rfl, Nat.le_succ _, fun p hp => ?_, fun E β m1 NX w vs hN hM ht hvs => ?_⟩
 · simp only [List.mem_singleton] at hp; subst hp; exact ⟨by simp, Nat.lt_succ_self _⟩
 · refine ((h m1 NX).2 E β w vs hM hvs).mono ?_
   rintro e w' ⟨v, d, m', nx', rfl, ha, rfl, rfl, rfl⟩
   exact ⟨v, rfl, ha.rename hM hM.none ((ht nx (by simp)).trans hm) (by omega) hb⟩
theorem EffC.of {P : Program} {f : FuncId} {ds : List D} {m : Mem} {nx : Nat} {d : D} {touch : List Nat} {wr : List (Nat × Blk)} (hb : bodied P f) (hw : ∀ p ∈ wr, p.1 ∈ touch ∧ p.1 < nx)
    (h : ∀ (m1 : Mem) (NX : Nat), nx ≤ NX → (∀ id ∈ touch, m1 id = m id) → CallA P f ds m1 NX fun d' m' nx' => d' = d ∧ m' = ov m1 wr ∧ nx' = NX) : EffC P f ds m nx ⟨d, touch, wr, false⟩ nx := by
 refine ⟨hb, rfl, Nat.le_refl _, hw, fun E β m1 NX w vs hN hM ht hvs => ?_⟩
 refine ((h m1 NX hN ht).2 E β w vs hM hvs).mono ?_
 rintro e w' ⟨v, d', m', nx', rfl, ha, rfl, rfl, rfl⟩
 exact ⟨v, rfl, ha⟩
end ifl
attribute [local go_sem] opsL_nil opsL_go opsL_guard gSel_tt gSel_ff gSel_tf gSel_ft stepR_some stepR_none callS_some callE_some runL_nil runL_go runL_guard gSelE_tt gSelE_ff gSelE_tf gSelE_ft stepE_some stepE_none opF callD rd constD putT upd_get guardL gOf_bool gOf_undef fieldAddrF fieldF loadF storeF indexAddrF indexF sliceF strSliceF bound buildF fillF buildSliceF elemsF allocF makeSliceF lenF elemsOf appendF minmaxF convertF boxF ldE blkAt spliceE D.cells? D.isCell Res.pure ov TyI.agg binD unD boolD initT thenA inBlockA argD argDs refsD refsL killW datJ datJs endA_ret endA_normal endR_some oneD_one oneD_two oneD_three oneD_four resDs resD fzT Value.oneCell' strip tabT tabM
attribute [local go_sem] List.map Nat.reduceEqDiff Nat.reduceBEq List.getElem?_cons_zero List.getElem?_cons_succ List.getElem?_nil Option.getD_some Option.getD_none true_and and_true true_or or_true false_or or_false and_self Nat.add_zero Nat.zero_add List.length_nil List.length_cons forall_const ite_true ite_false Bool.or_self Bool.false_eq_true Option.map_some Option.map_none beq_self_eq_true Nat.reduceAdd Nat.reduceSub Nat.reduceMul reduceCtorEq List.getElem?_toArray Bool.not_true Bool.not_false decide_eq_true_eq decide_true decide_false Nat.reduceLeDiff Nat.reduceLT Bool.or_false Bool.or_true Bool.and_true Bool.and_false Bool.false_and Bool.true_and Bool.true_beq Bool.false_beq beq_true beq_false Bool.not_eq_true List.drop_succ_cons List.take_succ_cons List.drop_zero List.take_zero List.length_map List.getElem?_map List.length_append List.all_cons List.all_nil List.append_nil List.nil_append List.cons_append List.set_cons_zero List.set_cons_succ Int.toNat_natCast Int.toNat_zero Option.isSome_some Option.isSome_none Array.size_empty ByteArray.size_empty Int.reduceToNat Int.reduceAdd Int.reduceSub Int.reduceLT Int.reduceLE Int.reduceEq Int.reduceNe Int.reduceBEq Int.reduceNeg List.forall_mem_cons List.not_mem_nil false_implies List.forall_mem_map implies_true Nat.reduceBNe Int.cast_ofNat_Int Int.reduceMul Int.reduceGE Int.reduceGT wrap_in ty_2 ty_3 ty_4 ty_5 ty_6 ty_7 ty_8 ty_9 ty_10 ty_11 ty_12 ty_13 ty_14 ty_18 ty_19 ty_21 ty_22 ty_23 ty_24 ty_25 ty_26 ty_27 ty_28 ty_29 ty_30 ty_34 ty_37 ty_41 ty_42 ty_49 ty_51 ty_53 ty_54 ty_55 ty_57 ty_58 ty_59 ty_60 ty_61 ty_62 ty_63 ty_64 ty_65 ty_66 ty_69 ty_70 ty_118 ty_119 ty_129 ty_130 ty_131 ty_132 ty_134 ty_139 ty_140 ty_141 ty_142 ty_145 ty_146 ty_162 ty_163 ty_173 ty_174 ty_175 ty_176 ty_177 ty_178 ty_179 ty_180 ty_183 ty_184 ty_185 ty_186
set_option maxRecDepth 100000
set_option maxHeartbeats 8000000
section
variable {f : FuncId} {P : Program}
theorem cb1_val {a : BigD} {x : Value} (hb : bodied P f) (h : ∀ w v, BigV w v a → Calls P f #[v] w fun e w' => e = .returned x ∧ Below w.heap.size w w') : ContractN P f [encB a] (.v x) := by
 refine ⟨hb, fun S w vs hf hvs => ?_⟩
 obtain ⟨v, rfl, h1⟩ := reps1 hvs
 refine (h w v (bigV_of_rep h1)).mono ?_
 rintro e w' ⟨rfl, h2⟩
 exact ⟨_, rfl, h2, .v _⟩
end
theorem nright_c (a : BigD) : ContractN Try.prog 72 [encB a] (dB (okB a)) :=
 cb1_val ⟨_, _, Try.func72, rfl, by kernel_rfl⟩ fun w v h => right_any a v w h
theorem ndadd_c (a b : List Int) (da : Dig a) (db : Dig b) (la : (a.length : Int) ≤ 4398046511104) (lb : (b.length : Int) ≤ 4398046511104) : ContractN Try.prog 84 [encInts a, encInts b] (encInts (digs (val a + val b).toNat)) :=
 c2_digs ⟨_, _, Try.func84, rfl, by kernel_rfl⟩ fun w v u h1 h2 => add_any v u a b w h1 h2 da db la lb
theorem ndsub_c (a b : List Int) (da : Dig a) (db : Dig b) (hl : b.length ≤ a.length) (hle : val b ≤ val a) (la : (a.length : Int) ≤ 4398046511104) : ContractN Try.prog 85 [encInts a, encInts b] (encInts (digs (val a - val b).toNat)) :=
 c2_digs ⟨_, _, Try.func85, rfl, by kernel_rfl⟩ fun w v u h1 h2 => sub_any v u a b w h1 h2 da db hl hle la
theorem ndmul_c (a b : List Int) (da : Dig a) (db : Dig b) (la : (a.length : Int) ≤ 4398046511104) (lb : (b.length : Int) ≤ 4398046511104) : ContractN Try.prog 108 [encInts a, encInts b] (encInts (digs (val a * val b).toNat)) :=
 c2_digs ⟨_, _, Try.func108, rfl, by kernel_rfl⟩ fun w v u h1 h2 => mul_any v u a b w h1 h2 da db la lb
theorem nclone_c (a : List Int) (la : (a.length : Int) ≤ 8796093022208) : ContractN Try.prog 104 [encInts a] (encInts a) :=
 c1_digs ⟨_, _, Try.func104, rfl, by kernel_rfl⟩ fun w v h1 => clone_any v a w h1 la
theorem nddiv_c (A B : Nat) (la : ((digs A).length : Int) ≤ 2199023255552) (hB : 0 < B) : ContractN Try.prog 105 [encInts (digs A), encInts (digs B)] (.tup [encInts (digs (A / B)), encInts (digs (A % B))]) := by
 refine ⟨⟨_, _, Try.func105, rfl, by kernel_rfl⟩, fun S w vs hf hvs => ?_⟩
 obtain ⟨v, u, rfl, h1, h2⟩ := reps2 hvs
 refine (div_any A B v u w (ints_of_rep h1) (ints_of_rep h2) la hB).mono ?_
 rintro e w' ⟨x, y, rfl, h3, h4, h5⟩
 exact ⟨_, rfl, h5, (Reps.cons (rep_of_owns h3 hf) (Reps.cons (rep_of_owns h4 hf) Reps.nil)).rep_tup⟩
theorem rep_prefix {S : Nat → Nat → Prop} {w : World} {a : Option Addr} {cap k : Nat} {es : List (List D)} (h : Rep noB noM S w (.slice a es.length cap) (.sl es)) (hk : k ≤ es.length) : Rep noB noM S w (.slice a k cap) (.sl (es.take k)) := by
 obtain ⟨a', cap', e, h1, h2, h3⟩ := h.inv_sl
 simp only [Value.slice.injEq, true_and] at e
 obtain ⟨rfl, rfl⟩ := e
 have hl : (es.take k).length = k := by rw [List.length_take]; omega
 rcases h3 with rfl | ⟨b, off, kk, rfl, h4, h5⟩
 · obtain rfl : k = 0 := by simpa using hk
   exact .sl0 _ _ h1
 · have := rep_sl (β := noB) (m := noM) (S := S) (w := w) (b := b) (off := off) (k := kk) (cap := cap) (es := es.take k) ⟨fun i e he => ?_, fun i j d hd => ?_⟩ (by omega) h1
   · rw [hl] at this; exact this
   · rw [List.getElem?_take] at he
     split at he
     · exact h4 i e he
     · cases he
   · obtain ⟨e, he, hj⟩ := cellAt_some.1 hd
     rw [List.getElem?_take] at he
     split at he
     · exact h5 i j d (cellAt_some.2 ⟨e, he, hj⟩)
     · cases he
theorem ntrim_c (l : List Int) : ContractN Try.prog 107 [encInts l] (encInts (trimL l)) := by
 refine ⟨⟨_, _, Try.func107, rfl, by kernel_rfl⟩, fun S w vs hf hvs => ?_⟩
 obtain ⟨v, rfl, h1⟩ := reps1 hvs
 have h2 := ints_of_rep h1
 obtain ⟨A, ca, rfl, hla, hca⟩ := h2.shape
 refine (trim_any A ca l w h2).mono ?_
 rintro e w' ⟨rfl, rfl⟩
 refine ⟨_, rfl, Below.refl _ _, ?_⟩
 have h3 := rep_prefix (k := (trimL l).length) (es := l.map fun x => [dI x]) (by rw [List.length_map]; exact h1) (by rw [List.length_map]; exact trim_length l)
 rw [← List.map_take, ← trim_take] at h3
 exact h3
theorem nor_c (x y : Int) : ContractN Try.prog 83 [encInts [x, y]] (dI (orI x y)) := by
 refine ⟨⟨_, _, Try.func83, rfl, by kernel_rfl⟩, fun S w vs hf hvs => ?_⟩
 obtain ⟨v, rfl, h1⟩ := reps1 hvs
 refine (or_any v x y w (ints_of_rep h1)).mono ?_
 rintro e w' ⟨rfl, rfl⟩
 exact ⟨_, rfl, Below.refl _ _, .v _⟩
theorem ncompare_c (a b : List Int) (na : Norm a) (nb : Norm b) : ContractN Try.prog 81 [encInts a, encInts b] (dI (val a - val b).sign) := by
 refine ⟨⟨_, _, Try.func81, rfl, by kernel_rfl⟩, fun S w vs hf hvs => ?_⟩
 obtain ⟨v, u, rfl, h1, h2⟩ := reps2 hvs
 refine (compare_any v u a b w (ints_of_rep h1) (ints_of_rep h2) na nb).mono ?_
 rintro e w' ⟨rfl, h3⟩
 exact ⟨_, rfl, h3, .v _⟩
theorem nsigned_c (s : Int) (l : List Int) : ContractN Try.prog 77 [dI s, encInts l] (encB (sgnd s l)) := by
 have k1 := ntrim_c l
 have hres := Try.results77
 refine ContractN.ofA fun I => CallA.inline Try.func77 rfl (by kernel_rfl) (by kernel_rfl) (by kernel_rfl) ?_
 rw [Try.ntmps77]
 by_cases h : (trimL l).length = 0
 · have h2 : trimL l = [] := List.eq_nil_of_length_eq_zero h
   rw [show sgnd s l = zB by unfold sgnd; rw [h2]; rfl]
   rw [h2] at k1
   refine aGo hres ?_
   rfl
 · have h2 : (((trimL l).length : Int) == 0) = false := by simpa using h
   rw [show sgnd s l = ⟨s, trimL l⟩ by unfold sgnd; rw [if_neg]; simpa using fun e => h (by rw [e]; rfl)]
   exact aGo (cj2 hres h2) trivial
theorem nchecked_c (x : BigD) : ContractN Try.prog 82 [dB true, encB x] (.tup [encB x, dI 0]) := by
 have hres := Try.results82
 refine ContractN.ofA fun I => CallA.inline Try.func82 rfl (by kernel_rfl) (by kernel_rfl) (by kernel_rfl) ?_
 rw [Try.ntmps82]
 exact aGo hres trivial
abbrev encZ (a : Int) : D := encB ⟨a.sign, digs a.natAbs⟩
theorem nrightZ_c (a : Int) : ContractN Try.prog 72 [encZ a] (dB true) := by
 have := nright_c (ofZ a); rw [okB_ofZ] at this; exact this
theorem nsignedZ_c {s : Int} {n : Nat} {z : Int} (h : sgnd s (digs n) = ofZ z) : ContractN Try.prog 77 [dI s, encInts (digs n)] (encZ z) := by
 have := nsigned_c s (digs n); rw [h] at this; exact this
theorem nMul_c (a b : Int) (la : (szZ a : Int) ≤ 1099511627776) (lb : (szZ b : Int) ≤ 1099511627776) : ContractN Try.prog 79 [encZ a, encZ b] (.tup [encZ (a * b), dI 0]) := by
 obtain ⟨sb1, sb2⟩ := sign_mul_bounds a b
 have sbw : IntKind.i64.wrap (a.sign * b.sign) = a.sign * b.sign := wrap_in (by omega) (by omega)
 have k1 := nrightZ_c a
 have k2 := nrightZ_c b
 have k3 := ndmul_c (digs a.natAbs) (digs b.natAbs) (norm_digs _).1 (norm_digs _).1 (by unfold szZ at la; omega) (by unfold szZ at lb; omega)
 have k4 := nsignedZ_c (sgnd_mul a b)
 have k5 := nchecked_c ⟨(a * b).sign, digs (a * b).natAbs⟩
 have hres := Try.results79
 refine ContractN.ofA fun I => CallA.inline Try.func79 rfl (by kernel_rfl) (by kernel_rfl) (by kernel_rfl) ?_
 rw [Try.ntmps79]
 exact aGo (cj2 hres sbw) trivial
theorem nNeg_c (a : Int) (la : (szZ a : Int) ≤ 4398046511104) : ContractN Try.prog 70 [encZ a] (encZ (-a)) := by
 obtain ⟨sb1, sb2⟩ := sign_bounds a
 have sbw : IntKind.i64.wrap (0 - a.sign) = -a.sign := by rw [wrap_in (by omega) (by omega)]; omega
 have k1 := nrightZ_c a
 have k3 := nclone_c (digs a.natAbs) (by unfold szZ at la; omega)
 have k4 := nsignedZ_c (sgnd_neg a)
 have hres := Try.results70
 refine ContractN.ofA fun I => CallA.inline Try.func70 rfl (by kernel_rfl) (by kernel_rfl) (by kernel_rfl) ?_
 rw [Try.ntmps70]
 exact aGo (cj2 hres sbw) trivial
theorem nAdd_c (a b : Int) (la : (szZ a : Int) ≤ 4398046511104) (lb : (szZ b : Int) ≤ 4398046511104) : ContractN Try.prog 48 [encZ a, encZ b] (.tup [encZ (a + b), dI 0]) := by
 obtain ⟨sb1, sb2⟩ := sign_mul_bounds a b
 have sbw : IntKind.i64.wrap (a.sign * b.sign) = a.sign * b.sign := wrap_in (by omega) (by omega)
 have k1 := nrightZ_c a
 have k2 := nrightZ_c b
 have k3 := nor_c a.sign b.sign
 have k5 := nchecked_c ⟨(a + b).sign, digs (a + b).natAbs⟩
 have k6 := ncompare_c (digs a.natAbs) (digs b.natAbs) (norm_digs _) (norm_digs _)
 rw [val_digs, val_digs] at k6
 have hres := Try.results48
 refine ContractN.ofA fun I => CallA.inline Try.func48 rfl (by kernel_rfl) (by kernel_rfl) (by kernel_rfl) ?_
 rw [Try.ntmps48]
 by_cases h : 0 ≤ a.sign * b.sign
 · have k7 := ndadd_c (digs a.natAbs) (digs b.natAbs) (norm_digs _).1 (norm_digs _).1 (by unfold szZ at la; omega) (by unfold szZ at lb; omega)
   rw [val_digs, val_digs] at k7
   have k8 := nsignedZ_c (sgnd_add h)
   have h' : a.sign * b.sign ≥ 0 := h
   exact aGo (cj3 hres sbw h') trivial
 · have h' : ¬ a.sign * b.sign ≥ 0 := h
   by_cases hlt : (a.natAbs : Int) < b.natAbs
   · have k7 := ndsub_c (digs b.natAbs) (digs a.natAbs) (norm_digs _).1 (norm_digs _).1 (digs_le (by omega)) (by rw [val_digs, val_digs]; omega) (by unfold szZ at lb; omega)
     rw [val_digs, val_digs, show ((b.natAbs : Int) - a.natAbs).toNat = b.natAbs - a.natAbs by omega] at k7
     have k8 := nsignedZ_c (sgnd_sub1 h hlt)
     have h2 : ((a.natAbs : Int) - b.natAbs).sign < 0 := by rw [Int.sign_eq_neg_one_of_neg (by omega)]; decide
     exact aGo (cj4 hres sbw h' h2) trivial
   · have k7 := ndsub_c (digs a.natAbs) (digs b.natAbs) (norm_digs _).1 (norm_digs _).1 (digs_le (by omega)) (by rw [val_digs, val_digs]; omega) (by unfold szZ at la; omega)
     rw [val_digs, val_digs, show ((a.natAbs : Int) - b.natAbs).toNat = a.natAbs - b.natAbs by omega] at k7
     have k8 := nsignedZ_c (sgnd_sub2 h hlt)
     have h2 : ¬ ((a.natAbs : Int) - b.natAbs).sign < 0 := by have := Int.sign_nonneg_iff.2 (show (0 : Int) ≤ (a.natAbs : Int) - b.natAbs by omega); omega
     exact aGo (cj4 hres sbw h' h2) trivial
theorem nGcd_c (a b : Int) (la : (szZ a : Int) ≤ 2199023255552) (lb : (szZ b : Int) ≤ 2199023255552) : ContractN Try.prog 73 [encZ a, encZ b] (.tup [encZ (Nat.gcd a.natAbs b.natAbs : Nat), dI 0]) := by
 have k1 := nrightZ_c a
 have k2 := nrightZ_c b
 have k3 := nclone_c (digs a.natAbs) (by unfold szZ at la; omega)
 have hres := Try.results73
 refine ContractN.ofA fun I => CallA.inline Try.func73 rfl (by kernel_rfl) (by kernel_rfl) (by kernel_rfl) ?_
 rw [Try.ntmps73]
 refine aGo hres ?_
 repeat (guard_target =~ ∀ _ : St → Prop, _; intro K hK)
 refine aLoopT (fun (p : Nat × Nat) => [(4, .lp 2 0 0 0), (6, encInts (digs p.1)), (7, encInts (digs p.2))]) (fun _ => [(2, ⟨26, 0, 2, [[dI 0, .nil]], 0, false⟩)]) 3 0 (fun p => Nat.gcd p.1 p.2 = Nat.gcd a.natAbs b.natAbs ∧ ((digs p.1).length : Int) ≤ 2199023255552 ∧ ((digs p.2).length : Int) ≤ 2199023255552) (fun p => p.2) (a.natAbs, b.natAbs) ⟨rfl, la, lb⟩ ?_ ?_
 · exact leGo hres
 · rintro ⟨X, Y⟩ ⟨hg, hX, hY⟩
   simp only at hg hX hY ⊢
   by_cases h : Y = 0
   · subst h
     rw [digs_zero, Nat.gcd_zero_right] at *
     subst hg
     have c3 := nclone_c (digs (Nat.gcd a.natAbs b.natAbs)) (by omega)
     have c4 := nsignedZ_c (sgnd_one (Nat.gcd a.natAbs b.natAbs))
     have c5 := nchecked_c ⟨((Nat.gcd a.natAbs b.natAbs : Nat) : Int).sign, digs ((Nat.gcd a.natAbs b.natAbs : Nat) : Int).natAbs⟩
     exact aGo hres trivial
   · have h1 : ((digs Y).length : Int) > 0 := by
       have : digs Y ≠ [] := fun e => h (digs_nil_iff.1 e)
       have := List.length_pos_iff.2 this
       omega
     have c3 := nddiv_c X Y hX (by omega)
     refine aGo (cj2 hres h1) ?_
     repeat (guard_target =~ ∀ _ : St → Prop, _; intro K hK)
     refine loop_end (Y, X % Y) ⟨?_, hY, ?_⟩ ?_ ?_
     · rw [← hg, Nat.gcd_comm Y, ← Nat.gcd_rec, Nat.gcd_comm]
     · have := digs_le (Nat.le_of_lt (Nat.mod_lt X (by omega : Y > 0)))
       show ((digs (X % Y)).length : Int) ≤ _
       omega
     · exact Nat.mod_lt X (by omega)
     · exact leGo hres
theorem nDiv_c (a b c : Int) (hb : 0 < b) (hac : a = b * c) (la : (szZ a : Int) ≤ 2199023255552) : ContractN Try.prog 78 [encZ a, encZ b] (.tup [encZ c, encB zB, dI 0]) := by
 obtain ⟨sb1, sb2⟩ := sign_mul_bounds a b
 have sbw : IntKind.i64.wrap (a.sign * b.sign) = a.sign * b.sign := wrap_in (by omega) (by omega)
 have k1 := nrightZ_c a
 have k2 := nrightZ_c b
 have hb1 : (b.sign == 0) = false := by rw [Int.sign_eq_one_of_pos hb]; rfl
 have k3 := nddiv_c a.natAbs b.natAbs la (by omega)
 have hm : a.natAbs % b.natAbs = 0 := by rw [hac, Int.natAbs_mul]; exact Nat.mul_mod_right _ _
 rw [hm, digs_zero] at k3
 have k4 := nsignedZ_c (sgnd_div hb hac)
 have k5 := nsigned_c a.sign []
 rw [show sgnd a.sign [] = zB by rw [← digs_zero]; exact sgnd_nil _] at k5
 have hres := Try.results78
 refine ContractN.ofA fun I => CallA.inline Try.func78 rfl (by kernel_rfl) (by kernel_rfl) (by kernel_rfl) ?_
 rw [Try.ntmps78]
 by_cases h : a.sign * b.sign < 0
 · exact aGo (cj4 hres sbw hb1 h) trivial
 · exact aGo (cj4 hres sbw hb1 h) trivial
abbrev encQ (r : Rat) : D := .agg [dI r.num.sign, encInts (digs r.num.natAbs), dI (r.den : Int).sign, encInts (digs (r.den : Int).natAbs)]
theorem nfrightQ_c (a : Rat) (za : (szQ a : Int) ≤ 549755813888) : ContractN Try.prog 35 [encQ a] (dB true) := by
 have := fright_c (ofQ a) (by rw [szQ_ofQ]; exact za); rw [okF_ofQ] at this; exact this
theorem nNew_pos (p q : Int) (hq : 0 < q) (la : (szZ p : Int) ≤ 2199023255552) (lb : (szZ q : Int) ≤ 2199023255552) : ContractN Try.prog 45 [encZ p, encZ q] (.tup [encF (ofQ (Rat.divInt p q)), dI 0]) := by
 obtain ⟨c, f, hpc, hqf, hof, hg0⟩ := divInt_parts (p := p) hq
 have hlg := szZ_gcd (p := p) (q := q)
 have k1 := nrightZ_c p
 have k2 := nrightZ_c q
 have k3 := nGcd_c p q la lb
 have k4 := nDiv_c p (Nat.gcd p.natAbs q.natAbs : Nat) c hg0 hpc la
 have k5 := nDiv_c q (Nat.gcd p.natAbs q.natAbs : Nat) f hg0 hqf lb
 rw [hof]
 generalize Nat.gcd p.natAbs q.natAbs = G at *
 have hs : (q.sign == 0) = false := by rw [Int.sign_eq_one_of_pos hq]; rfl
 have hs2 : ¬ q.sign < 0 := by rw [Int.sign_eq_one_of_pos hq]; decide
 have hres := Try.results45
 refine ContractN.ofA fun I => CallA.inline Try.func45 rfl (by kernel_rfl) (by kernel_rfl) (by kernel_rfl) ?_
 rw [Try.ntmps45]
 refine aGo (cj3 hres hs hs2) ?_
 rfl
theorem nNew_neg (p q : Int) (hq : q < 0) (la : (szZ p : Int) ≤ 2199023255552) (lb : (szZ q : Int) ≤ 2199023255552) : ContractN Try.prog 45 [encZ p, encZ q] (.tup [encF (ofQ (Rat.divInt p q)), dI 0]) := by
 have hof0 : Rat.divInt p q = Rat.divInt (-p) (-q) := (Rat.neg_divInt_neg p q).symm
 have lp : szZ (-p) = szZ p := by unfold szZ; rw [Int.natAbs_neg]
 have lq : szZ (-q) = szZ q := by unfold szZ; rw [Int.natAbs_neg]
 have m1 := nNeg_c p (by omega)
 have m2 := nNeg_c q (by omega)
 rw [hof0]
 have k1 := nrightZ_c p
 have k2 := nrightZ_c q
 have hs : (q.sign == 0) = false := by rw [Int.sign_eq_neg_one_of_neg hq]; rfl
 have hs2 : q.sign < 0 := by rw [Int.sign_eq_neg_one_of_neg hq]; decide
 have hq' : 0 < -q := by omega
 generalize hp1 : -p = p1 at *
 generalize hq1 : -q = q1 at *
 obtain ⟨c, f, hpc, hqf, hof, hg0⟩ := divInt_parts (p := p1) hq'
 have hlg := szZ_gcd (p := p1) (q := q1)
 have k3 := nGcd_c p1 q1 (by omega) (by omega)
 have k4 := nDiv_c p1 (Nat.gcd p1.natAbs q1.natAbs : Nat) c hg0 hpc (by omega)
 have k5 := nDiv_c q1 (Nat.gcd p1.natAbs q1.natAbs : Nat) f hg0 hqf (by omega)
 rw [hof]
 generalize Nat.gcd p1.natAbs q1.natAbs = G at *
 have hres := Try.results45
 refine ContractN.ofA fun I => CallA.inline Try.func45 rfl (by kernel_rfl) (by kernel_rfl) (by kernel_rfl) ?_
 rw [Try.ntmps45]
 refine aGo (cj3 hres hs hs2) ?_
 rfl
theorem nNew_c (p q : Int) (hq : q ≠ 0) (la : (szZ p : Int) ≤ 2199023255552) (lb : (szZ q : Int) ≤ 2199023255552) : ContractN Try.prog 45 [encZ p, encZ q] (.tup [encF (ofQ (Rat.divInt p q)), dI 0]) := by
 rcases Int.lt_or_gt_of_ne hq with h | h
 · exact nNew_neg p q h la lb
 · exact nNew_pos p q h la lb
theorem nTimes_c (a b : Int) (la : (szZ a : Int) ≤ 1099511627776) (lb : (szZ b : Int) ≤ 1099511627776) : ContractN Try.prog 46 [encZ a, encZ b] (encZ (a * b)) := by
 have k1 := nMul_c a b la lb
 have hres := Try.results46
 refine ContractN.ofA fun I => CallA.inline Try.func46 rfl (by kernel_rfl) (by kernel_rfl) (by kernel_rfl) ?_
 rw [Try.ntmps46]
 exact aGo hres trivial
theorem nSlim_c (a : Int) (la : (szZ a : Int) ≤ 4398046511104) : ContractN Try.prog 71 [encZ a] (encZ a) := by
 have lp : szZ (-a) = szZ a := by unfold szZ; rw [Int.natAbs_neg]
 have k1 := nNeg_c a la
 have k2 := nNeg_c (-a) (by omega)
 rw [Int.neg_neg] at k2
 have hres := Try.results71
 refine ContractN.ofA fun I => CallA.inline Try.func71 rfl (by kernel_rfl) (by kernel_rfl) (by kernel_rfl) ?_
 rw [Try.ntmps71]
 exact aGo hres trivial
theorem nfMul_c (a b : Rat) (za : (szQ a : Int) ≤ 549755813888) (zb : (szQ b : Int) ≤ 549755813888) : ContractN Try.prog 14 [encQ a, encQ b] (.tup [encF (ofQ (a * b)), dI 0]) := by
 have zpa := szQ_parts a
 have zpb := szQ_parts b
 have k1 := nfrightQ_c a za
 have k2 := nfrightQ_c b zb
 have m1 := szZ_mul a.num b.num
 have m2 := szZ_mul (a.den : Int) b.den
 have k3 := nTimes_c a.num b.num (by omega) (by omega)
 have k4 := nTimes_c a.den b.den (by omega) (by omega)
 have k5 := nNew_c (a.num * b.num) (a.den * b.den) (Int.mul_ne_zero (den_ne a) (den_ne b)) (by omega) (by omega)
 rw [← mul_divInt] at k5
 have hres := Try.results14
 refine ContractN.ofA fun I => CallA.inline Try.func14 rfl (by kernel_rfl) (by kernel_rfl) (by kernel_rfl) ?_
 rw [Try.ntmps14]
 exact aGo hres trivial
theorem nfAdd_c (a b : Rat) (za : (szQ a : Int) ≤ 549755813888) (zb : (szQ b : Int) ≤ 549755813888) : ContractN Try.prog 18 [encQ a, encQ b] (.tup [encF (ofQ (a + b)), dI 0]) := by
 have zpa := szQ_parts a
 have zpb := szQ_parts b
 have k1 := nfrightQ_c a za
 have k2 := nfrightQ_c b zb
 have m1 := szZ_mul a.num b.den
 have m2 := szZ_mul b.num a.den
 have m3 := szZ_mul (a.den : Int) b.den
 have m4 := szZ_add (a.num * b.den) (b.num * a.den)
 have k3 := nTimes_c a.num b.den (by omega) (by omega)
 have k4 := nTimes_c b.num a.den (by omega) (by omega)
 have k6 := nTimes_c a.den b.den (by omega) (by omega)
 have k7 := nAdd_c (a.num * b.den) (b.num * a.den) (by omega) (by omega)
 have k5 := nNew_c (a.num * b.den + b.num * a.den) (a.den * b.den) (Int.mul_ne_zero (den_ne a) (den_ne b)) (by omega) (by omega)
 rw [← add_divInt] at k5
 have hres := Try.results18
 refine ContractN.ofA fun I => CallA.inline Try.func18 rfl (by kernel_rfl) (by kernel_rfl) (by kernel_rfl) ?_
 rw [Try.ntmps18]
 exact aGo hres trivial
theorem nfSub_c (a b : Rat) (za : (szQ a : Int) ≤ 274877906944) (zb : (szQ b : Int) ≤ 274877906944) : ContractN Try.prog 40 [encQ a, encQ b] (.tup [encF (ofQ (a - b)), dI 0]) := by
 have zpa := szQ_parts a
 have zpb := szQ_parts b
 have k1 := nfrightQ_c a (by omega)
 have k2 := nfrightQ_c b (by omega)
 have k3 := nNeg_c b.num (by omega)
 have e : szQ (-b) = szQ b := szQ_neg b
 have k4 := nfAdd_c a (-b) (by omega) (by omega)
 rw [show a + -b = a - b from (Rat.sub_eq_add_neg a b).symm] at k4
 unfold encQ at k4
 rw [Rat.neg_num, Rat.neg_den] at k4
 have hres := Try.results40
 refine ContractN.ofA fun I => CallA.inline Try.func40 rfl (by kernel_rfl) (by kernel_rfl) (by kernel_rfl) ?_
 rw [Try.ntmps40]
 exact aGo hres trivial
theorem nfDiv_c (a b : Rat) (hb : b ≠ 0) (za : (szQ a : Int) ≤ 549755813888) (zb : (szQ b : Int) ≤ 549755813888) : ContractN Try.prog 119 [encQ a, encQ b] (.tup [encF (ofQ (a / b)), dI 0]) := by
 have zpa := szQ_parts a
 have zpb := szQ_parts b
 have k1 := nfrightQ_c a za
 have k2 := nfrightQ_c b zb
 have hn : b.num ≠ 0 := fun e => hb (Rat.num_eq_zero.1 e)
 have hs : (b.num.sign == 0) = false := by
  cases h : b.num.sign == 0
  · rfl
  · exact absurd (Int.sign_eq_zero_iff_zero.1 (by simpa using h)) hn
 have m1 := szZ_mul a.num b.den
 have m2 := szZ_mul (a.den : Int) b.num
 have k3 := nTimes_c a.num b.den (by omega) (by omega)
 have k4 := nTimes_c a.den b.num (by omega) (by omega)
 have k5 := nNew_c (a.num * b.den) (a.den * b.num) (Int.mul_ne_zero (den_ne a) hn) (by omega) (by omega)
 rw [← div_divInt] at k5
 have hres := Try.results119
 refine ContractN.ofA fun I => CallA.inline Try.func119 rfl (by kernel_rfl) (by kernel_rfl) (by kernel_rfl) ?_
 rw [Try.ntmps119]
 exact aGo (cj2 hres hs) trivial
theorem nfNeg_c (a : Rat) (za : (szQ a : Int) ≤ 549755813888) : ContractN Try.prog 34 [encQ a] (encF (ofQ (-a))) := by
 have zpa := szQ_parts a
 have k1 := nfrightQ_c a za
 have k3 := nNeg_c a.num (by omega)
 have k4 := nSlim_c a.den (by omega)
 have e : encF (ofQ (-a)) = .agg [dI (-a.num).sign, encInts (digs (-a.num).natAbs), dI (a.den : Int).sign, encInts (digs (a.den : Int).natAbs)] := by
  show encQ (-a) = _
  unfold encQ; rw [Rat.neg_num, Rat.neg_den]
 rw [e]
 have hres := Try.results34
 refine ContractN.ofA fun I => CallA.inline Try.func34 rfl (by kernel_rfl) (by kernel_rfl) (by kernel_rfl) ?_
 rw [Try.ntmps34]
 exact aGo hres trivial
theorem u64_in {n : Int} (h0 : 0 ≤ n) (h1 : n < 18446744073709551616) : IntKind.u64.wrap n = n := by
 simp only [IntKind.wrap, IntKind.bits, IntKind.signed]
 simp; omega
theorem nOf_c (n : Nat) (h : (n : Int) ≤ 9223372036854775807) : ContractN Try.prog 44 [dI n] (encZ n) := by
 have hn : ¬ (n : Int) < 0 := by omega
 have hu := u64_in (n := n) (by omega) (by omega)
 have hres := Try.results44
 refine ContractN.ofA fun I => CallA.inline Try.func44 rfl (by kernel_rfl) (by kernel_rfl) (by kernel_rfl) ?_
 rw [Try.ntmps44]
 refine aGo (cj3 hres hn hu) ?_
 repeat (guard_target =~ ∀ _ : St → Prop, _; intro K hK)
 refine aLe (le_row 5 3 1 rfl) ?_
 refine aLoopT (fun (p : Nat × List Int × Nat) => [(2, .lp 0 0 0 0), (3, dI 1), (4, .v (.int .u64 p.1)), (5, .ls 1 p.2.2)]) (fun p => [(0, ⟨26, 0, 2, [[dI 0, .nil]], 0, false⟩), (1, ⟨3, p.2.2, 1, p.2.1.map (fun x => [dI x]), 0, false⟩)]) 2 0 (fun p => p.2.1 ++ digs p.1 = digs n ∧ p.1 ≤ n ∧ p.2.1.length + (digs p.1).length ≤ 4) (fun p => p.1) (n, [], 0) ⟨rfl, Nat.le_refl _, by
  have : (digs n).length ≤ 4 := length_digs_le (by simp only [bp]; omega)
  simpa using this⟩ ?_ ?_
 · exact leGo hres
 · rintro ⟨k, l, ver⟩ ⟨hl, hk, h4⟩
   simp only at hl hk h4 ⊢
   have j1 : (l.map fun x => [dI x]).map (List.map datJ) = l.map fun x => [dI x] := by rw [List.map_map]; exact List.map_congr_left fun x _ => rfl
   by_cases h0 : k = 0
   · subst h0
     rw [digs_zero, List.append_nil] at hl
     subst hl
     have hc : ¬ ((0 : Nat) : Int) > 0 := by decide
     have k4 := nsignedZ_c (sgnd_one n)
     exact aGo (cj3 hres hc j1) trivial
   · have hc : (k : Int) > 0 := by omega
     have hd := digs_pos h0
     have ha : IntKind.u64.wrap ((BitVec.ofInt IntKind.u64.bits (k : Int) &&& BitVec.ofInt IntKind.u64.bits 1048575).toNat : Nat) = ((k % 1048576 : Nat) : Int) := (and_mask_u k).trans (by omega)
     have hcv : IntKind.i64.wrap ((k % 1048576 : Nat) : Int) = ((k % 1048576 : Nat) : Int) := wrap_in (by omega) (by omega)
     have hsh : (k : Int).fdiv (2 ^ min 20 IntKind.u64.bits) = ((k / 1048576 : Nat) : Int) := by
      show (k : Int).fdiv 1048576 = _
      rw [Int.fdiv_eq_ediv_of_nonneg _ (by decide)]; omega
     have h20 : (0 : Int) ≤ 20 := by decide
     refine aGo (cj4 hres hc ha (cj4 hcv hsh h20 trivial)) ?_
     repeat (guard_target =~ ∀ _ : St → Prop, _; intro K hK)
     refine loop_end (k / 1048576, l ++ [((k % 1048576 : Nat) : Int)], ver + 1) ⟨?_, ?_, ?_⟩ (Nat.div_lt_self (by omega) (by decide)) ?_
     · rw [← hl, hd, List.append_assoc]; rfl
     · have := Nat.div_le_self k 1048576
       show k / 1048576 ≤ n
       omega
     · rw [hd] at h4
       simp only [List.length_append, List.length_cons, List.length_nil] at h4 ⊢
       omega
     · have ha2 := (congrArg IntKind.i64.wrap ha).trans hcv
       simp [IntKind.bits] at ha2
       refine le_head _ _ _ ?_ ?_ ?_ ?_ ?_ (.inl rfl) <;> simp [go_sem, okD, okDs, okBlk]
       · rw [Int.fdiv_eq_ediv_of_nonneg _ (by decide)]
       · exact ha2
       · intro _ h; rcases h with ⟨_, _, rfl⟩ | rfl <;> simp [okD, okDs]
theorem nInt_c (n : Nat) (h : (n : Int) ≤ 9223372036854775807) : ContractN Try.prog 13 [dI n] (encF (ofQ ((n : Int) : Rat))) := by
 have k1 := nOf_c n h
 have k2 := nOf_c 1 (by decide)
 rw [ofQ_int]
 have hres := Try.results13
 refine ContractN.ofA fun I => CallA.inline Try.func13 rfl (by kernel_rfl) (by kernel_rfl) (by kernel_rfl) ?_
 rw [Try.ntmps13]
 refine aGo hres ?_
 rfl
theorem qzero_eq (n : Nat) (r : Rat) (h : ((n : Int) : Rat) = r) (hn : (n : Int) ≤ 9223372036854775807) : ContractN Try.prog 13 [dI n] (encF (ofQ r)) := h ▸ nInt_c n hn
theorem nZ_c : ContractN Try.prog 13 [dI 0] (encF (ofQ 0)) := qzero_eq 0 0 rfl (by decide)
theorem nO_c : ContractN Try.prog 13 [dI 1] (encF (ofQ 1)) := qzero_eq 1 1 rfl (by decide)
theorem nmul_c (a b : Rat) (za : (szQ a : Int) ≤ 549755813888) (zb : (szQ b : Int) ≤ 549755813888) : ContractN Try.prog 14 [encF (ofQ a), encF (ofQ b)] (.tup [encF (ofQ (a * b)), dI 0]) := nfMul_c a b za zb
theorem nadd_c (a b : Rat) (za : (szQ a : Int) ≤ 549755813888) (zb : (szQ b : Int) ≤ 549755813888) : ContractN Try.prog 18 [encF (ofQ a), encF (ofQ b)] (.tup [encF (ofQ (a + b)), dI 0]) := nfAdd_c a b za zb
theorem nsub_c (a b : Rat) (za : (szQ a : Int) ≤ 274877906944) (zb : (szQ b : Int) ≤ 274877906944) : ContractN Try.prog 40 [encF (ofQ a), encF (ofQ b)] (.tup [encF (ofQ (a - b)), dI 0]) := nfSub_c a b za zb
theorem ndiv_c (a b : Rat) (hb : b ≠ 0) (za : (szQ a : Int) ≤ 549755813888) (zb : (szQ b : Int) ≤ 549755813888) : ContractN Try.prog 119 [encF (ofQ a), encF (ofQ b)] (.tup [encF (ofQ (a / b)), dI 0]) := nfDiv_c a b hb za zb
theorem nneg_c (a : Rat) (za : (szQ a : Int) ≤ 549755813888) : ContractN Try.prog 34 [encF (ofQ a)] (encF (ofQ (-a))) := nfNeg_c a za
theorem sgn_zero (b : Rat) : ((ofQ b).p.s == 0) = decide (b = 0) := by
 rw [Bool.eq_iff_iff, sign_num_iff, decide_eq_true_eq]
theorem szero_c (b : Rat) : ContractN Try.prog 113 [encF (ofQ b)] (dB (decide (b = 0))) := by
 rw [← sgn_zero]
 have hres := Try.results113
 refine ContractN.ofA fun I => CallA.inline Try.func113 rfl (by kernel_rfl) (by kernel_rfl) (by kernel_rfl) ?_
 rw [Try.ntmps113]
 exact aGo hres trivial
theorem sover_c (a b : Rat) (hb : b ≠ 0) (za : (szQ a : Int) ≤ 549755813888) (zb : (szQ b : Int) ≤ 549755813888) : ContractN Try.prog 112 [encF (ofQ a), encF (ofQ b)] (encF (ofQ (a / b))) := by
 have k1 := ndiv_c a b hb za zb
 have hres := Try.results112
 refine ContractN.ofA fun I => CallA.inline Try.func112 rfl (by kernel_rfl) (by kernel_rfl) (by kernel_rfl) ?_
 rw [Try.ntmps112]
 exact aGo hres trivial
theorem sless_c (a b c : Rat) (za : (szQ a : Int) ≤ 137438953472) (zb : (szQ b : Int) ≤ 137438953472) (zc : (szQ c : Int) ≤ 137438953472) : ContractN Try.prog 114 [encF (ofQ a), encF (ofQ b), encF (ofQ c)] (encF (ofQ (a - b * c))) := by
 have z1 := szQ_mul b c
 have k1 := szero_c b
 have k2 := szero_c c
 have k3 := nmul_c b c (by omega) (by omega)
 have k4 := nsub_c a (b * c) (by omega) (by omega)
 have hres := Try.results114
 refine ContractN.ofA fun I => CallA.inline Try.func114 rfl (by kernel_rfl) (by kernel_rfl) (by kernel_rfl) ?_
 rw [Try.ntmps114]
 by_cases h1 : b = 0
 · rw [decide_eq_true h1] at k1
   subst h1
   rw [show a - 0 * c = a by grind]
   exact aGo hres trivial
 · rw [decide_eq_false h1] at k1
   by_cases h2 : c = 0
   · rw [decide_eq_true h2] at k2
     subst h2
     rw [show a - b * 0 = a by grind]
     exact aGo hres trivial
   · rw [decide_eq_false h2] at k2
     exact aGo hres trivial
structure Dic where
 m : Nat
 n : Nat
 own : Nat → Nat
 free : Nat → Nat
 v : Nat → Rat
 a : Nat → Nat → Rat
 g : Nat → Rat
 z : Rat
theorem sumN_split (f : Nat → Rat) {s : Nat} : ∀ n, s < n → sumN n f = f s + sumN n (fun j => if j = s then 0 else f j)
 | 0, h => absurd h (Nat.not_lt_zero _)
 | n + 1, h => by
   simp only [sumN]
   by_cases e : n = s
   · subst e
     rw [if_pos rfl, sumN_congr (f := fun j => if j = n then 0 else f j) (g := f) n (fun i hi => if_neg (by omega))]; grind
   · rw [if_neg e, sumN_split f (s := s) n (by omega)]; grind
theorem sumN_pos {f : Nat → Rat} {n s : Nat} (hs : s < n) (h0 : 0 < f s) (h : ∀ j, j < n → 0 ≤ f j) : 0 < sumN n f := by
 rw [sumN_split f n hs]
 have h2 : sumN n (fun _ => 0) ≤ sumN n (fun j => if j = s then 0 else f j) := sumN_le n fun j hj => by
  split
  · exact Rat.le_refl
  · exact h j hj
 rw [sumN_zero] at h2; grind
theorem sumN_nonneg {f : Nat → Rat} {n : Nat} (h : ∀ j, j < n → 0 ≤ f j) : 0 ≤ sumN n f := by
 have h2 : sumN n (fun _ => 0) ≤ sumN n f := sumN_le n h
 rwa [sumN_zero] at h2
theorem sumN_sub (f g : Nat → Rat) (n : Nat) : sumN n (fun i => f i - g i) = sumN n f - sumN n g := by
 have h : (fun i => f i - g i) = fun i => f i + (-1) * g i := by funext i; grind
 rw [h, sumN_add, sumN_mul]; grind
namespace Dic
def up {α : Type} (f : Nat → α) (k : Nat) (x : α) : Nat → α := fun i => if i = k then x else f i
def ex (d : Dic) (r s : Nat) : Dic :=
 { d with
   own := up d.own r (d.free s), free := up d.free s (d.own r)
   v := fun i => if i = r then d.v r / d.a r s else d.v i - d.a i s * (d.v r / d.a r s)
   a := fun i j => if i = r then (if j = s then 1 / d.a r s else d.a r j / d.a r s) else if j = s then 0 - d.a i s * (1 / d.a r s) else d.a i j - d.a i s * (d.a r j / d.a r s)
   g := fun j => if j = s then 0 - d.g s * (1 / d.a r s) else d.g j - d.g s * (d.a r j / d.a r s)
   z := d.z + d.g s * (d.v r / d.a r s) }
def Row (d : Dic) (k : Rat) (x : Nat → Rat) (i : Nat) : Prop := x (d.own i) = d.v i * k - sumN d.n fun j => d.a i j * x (d.free j)
def Sol (d : Dic) (k : Rat) (x : Nat → Rat) : Prop := ∀ i, i < d.m → d.Row k x i
def obj (d : Dic) (k : Rat) (x : Nat → Rat) : Rat := d.z * k + sumN d.n fun j => d.g j * x (d.free j)
structure Part (d : Dic) : Prop where
 own_lt : ∀ i, i < d.m → d.own i < d.n + d.m
 free_lt : ∀ j, j < d.n → d.free j < d.n + d.m
 own_inj : ∀ i i', i < d.m → i' < d.m → d.own i = d.own i' → i = i'
 free_inj : ∀ j j', j < d.n → j' < d.n → d.free j = d.free j' → j = j'
 apart : ∀ i j, i < d.m → j < d.n → d.own i ≠ d.free j
 all : ∀ q, q < d.n + d.m → (∃ i, i < d.m ∧ d.own i = q) ∨ ∃ j, j < d.n ∧ d.free j = q
theorem ex_part {d : Dic} (h : Part d) {r s : Nat} (hr : r < d.m) (hs : s < d.n) : Part (d.ex r s) := by
 refine ⟨fun i hi => ?_, fun j hj => ?_, fun i i' hi hi' e => ?_, fun j j' hj hj' e => ?_, fun i j hi hj e => ?_, fun q hq => ?_⟩
 · simp only [ex, up] at *
   split
   · exact h.free_lt s hs
   · exact h.own_lt i hi
 · simp only [ex, up] at *
   split
   · exact h.own_lt r hr
   · exact h.free_lt j hj
 · simp only [ex, up] at *
   split at e <;> split at e
   · omega
   · exact absurd e.symm (h.apart _ _ hi' hs)
   · exact absurd e (h.apart _ _ hi hs)
   · exact h.own_inj _ _ hi hi' e
 · simp only [ex, up] at *
   split at e <;> split at e
   · omega
   · exact absurd e (h.apart _ _ hr hj')
   · exact absurd e.symm (h.apart _ _ hr hj)
   · exact h.free_inj _ _ hj hj' e
 · simp only [ex, up] at *
   split at e <;> split at e
   · exact h.apart _ _ hr hs e.symm
   · rename_i h1 h2; exact h2 (h.free_inj _ _ hj hs e.symm)
   · rename_i h1 h2; exact h1 (h.own_inj _ _ hi hr e)
   · exact h.apart _ _ hi hj e
 · simp only [ex, up] at *
   rcases h.all q hq with ⟨i, hi, e⟩ | ⟨j, hj, e⟩
   · by_cases hir : i = r
     · subst hir; exact .inr ⟨s, hs, by rw [if_pos rfl]; exact e⟩
     · exact .inl ⟨i, hi, by rw [if_neg hir]; exact e⟩
   · by_cases hjs : j = s
     · subst hjs; exact .inl ⟨r, hr, by rw [if_pos rfl]; exact e⟩
     · exact .inr ⟨j, hj, by rw [if_neg hjs]; exact e⟩
theorem ex_row_r {d : Dic} {r s : Nat} (hs : s < d.n) (hp : d.a r s ≠ 0) (k : Rat) (x : Nat → Rat) : (d.ex r s).Row k x r ↔ d.Row k x r := by
 unfold Row
 rw [sumN_split _ (d.ex r s).n (s := s) hs, sumN_split _ d.n hs]
 have e : sumN (d.ex r s).n (fun j => if j = s then 0 else (d.ex r s).a r j * x ((d.ex r s).free j)) = (1 / d.a r s) * sumN d.n (fun j => if j = s then 0 else d.a r j * x (d.free j)) := by
  rw [← sumN_mul]
  refine sumN_congr _ fun j _ => ?_
  by_cases h : j = s
  · rw [if_pos h, if_pos h]; grind
  · rw [if_neg h, if_neg h]; simp only [ex, up, if_neg h, if_pos]; grind
 rw [e]
 simp only [ex, up, if_pos]
 have h1 : d.a r s * (1 / d.a r s) = 1 := by grind
 grind
theorem ex_row {d : Dic} {r s i : Nat} (hs : s < d.n) (hp : d.a r s ≠ 0) (hi : i ≠ r) {k : Rat} {x : Nat → Rat} (hx : d.Row k x r) : (d.ex r s).Row k x i ↔ d.Row k x i := by
 unfold Row at hx ⊢
 rw [sumN_split _ d.n hs] at hx
 rw [sumN_split _ (d.ex r s).n (s := s) hs, sumN_split _ d.n hs]
 have e : sumN (d.ex r s).n (fun j => if j = s then 0 else (d.ex r s).a i j * x ((d.ex r s).free j)) = sumN d.n (fun j => if j = s then 0 else d.a i j * x (d.free j)) - d.a i s * (1 / d.a r s) * sumN d.n (fun j => if j = s then 0 else d.a r j * x (d.free j)) := by
  rw [← sumN_mul, ← sumN_sub]
  refine sumN_congr _ fun j _ => ?_
  by_cases h : j = s
  · rw [if_pos h, if_pos h, if_pos h]; grind
  · rw [if_neg h, if_neg h, if_neg h]; simp only [ex, up, if_neg h, if_neg hi]; grind
 rw [e]
 simp only [ex, up, if_pos, if_neg hi]
 have h1 : d.a r s * (1 / d.a r s) = 1 := by grind
 grind
theorem ex_sol {d : Dic} {r s : Nat} (hr : r < d.m) (hs : s < d.n) (hp : d.a r s ≠ 0) (k : Rat) (x : Nat → Rat) : (d.ex r s).Sol k x ↔ d.Sol k x := by
 constructor
 · intro h i hi
   have h0 := (ex_row_r hs hp k x).1 (h r hr)
   by_cases e : i = r
   · subst e; exact h0
   · exact (ex_row hs hp e h0).1 (h i hi)
 · intro h i hi
   have h0 := h r hr
   by_cases e : i = r
   · subst e; exact (ex_row_r hs hp k x).2 h0
   · exact (ex_row hs hp e h0).2 (h i hi)
theorem ex_obj {d : Dic} {r s : Nat} (hs : s < d.n) (hp : d.a r s ≠ 0) {k : Rat} {x : Nat → Rat} (hx : d.Row k x r) : (d.ex r s).obj k x = d.obj k x := by
 unfold Row at hx
 unfold obj
 rw [sumN_split _ d.n hs] at hx
 rw [sumN_split _ (d.ex r s).n (s := s) hs, sumN_split _ d.n hs]
 have e : sumN (d.ex r s).n (fun j => if j = s then 0 else (d.ex r s).g j * x ((d.ex r s).free j)) = sumN d.n (fun j => if j = s then 0 else d.g j * x (d.free j)) - d.g s * (1 / d.a r s) * sumN d.n (fun j => if j = s then 0 else d.a r j * x (d.free j)) := by
  rw [← sumN_mul, ← sumN_sub]
  refine sumN_congr _ fun j _ => ?_
  by_cases h : j = s
  · rw [if_pos h, if_pos h, if_pos h]; grind
  · rw [if_neg h, if_neg h, if_neg h]; simp only [ex, up, if_neg h]; grind
 rw [e]
 simp only [ex, up, if_pos]
 have h1 : d.a r s * (1 / d.a r s) = 1 := by grind
 grind
open Classical in
noncomputable def posOf (n : Nat) (f : Nat → Nat) (q : Nat) : Option Nat := if h : ∃ i, i < n ∧ f i = q then some (Classical.choose h) else none
theorem posOf_some {n : Nat} {f : Nat → Nat} (hf : ∀ i i', i < n → i' < n → f i = f i' → i = i') {i : Nat} (hi : i < n) : posOf n f (f i) = some i := by
 have h : ∃ i', i' < n ∧ f i' = f i := ⟨i, hi, rfl⟩
 unfold posOf
 rw [dif_pos h]
 have := Classical.choose_spec h
 exact congrArg some (hf _ _ this.1 hi this.2)
theorem posOf_none {n : Nat} {f : Nat → Nat} {q : Nat} (h : ∀ i, i < n → f i ≠ q) : posOf n f q = none := by
 unfold posOf
 rw [dif_neg]
 rintro ⟨i, hi, e⟩; exact h i hi e
noncomputable def val (d : Dic) (k : Rat) (c : Nat → Rat) (q : Nat) : Rat :=
 match posOf d.m d.own q with
 | some i => d.v i * k - sumN d.n fun j => d.a i j * c j
 | none => match posOf d.n d.free q with
   | some j => c j
   | none => 0
section
variable {d : Dic} {k : Rat} {c : Nat → Rat}
theorem val_own (h : Part d) {i : Nat} (hi : i < d.m) : d.val k c (d.own i) = d.v i * k - sumN d.n fun j => d.a i j * c j := by
 unfold val; rw [posOf_some h.own_inj hi]
theorem val_free (h : Part d) {j : Nat} (hj : j < d.n) : d.val k c (d.free j) = c j := by
 unfold val; rw [posOf_none (fun i hi => h.apart i j hi hj), posOf_some h.free_inj hj]
theorem val_sol (h : Part d) : d.Sol k (d.val k c) := by
 intro i hi
 unfold Row
 rw [val_own h hi]
 congr 1
 exact sumN_congr _ fun j hj => by rw [val_free h hj]
theorem val_obj (h : Part d) : d.obj k (d.val k c) = d.z * k + sumN d.n fun j => d.g j * c j := by
 unfold obj
 congr 1
 exact sumN_congr _ fun j hj => by rw [val_free h hj]
end
noncomputable def base (d : Dic) : Nat → Rat := d.val 1 fun _ => 0
noncomputable def dir (d : Dic) (s : Nat) : Nat → Rat := d.val 0 fun j => if j = s then 1 else 0
section
variable {d : Dic}
theorem base_own (h : Part d) {i : Nat} (hi : i < d.m) : d.base (d.own i) = d.v i := by
 unfold base
 rw [val_own h hi, show (fun j => d.a i j * (0 : Rat)) = fun _ => 0 by funext j; grind, sumN_zero]; grind
theorem base_free (h : Part d) {j : Nat} (hj : j < d.n) : d.base (d.free j) = 0 := val_free h hj
theorem sumN_at (f : Nat → Rat) {n s : Nat} (hs : s < n) : sumN n (fun j => f j * if j = s then 1 else 0) = f s := by
 have e : (fun j => f j * if j = s then (1 : Rat) else 0) = fun j => if j = s then f s else 0 := by
  funext j
  by_cases h : j = s
  · subst h; rw [if_pos rfl, if_pos rfl]; grind
  · rw [if_neg h, if_neg h]; grind
 rw [e, sumN_one, if_pos hs]
theorem dir_own (h : Part d) {i s : Nat} (hi : i < d.m) (hs : s < d.n) : d.dir s (d.own i) = - d.a i s := by
 unfold dir
 rw [val_own h hi, sumN_at _ hs]; grind
theorem dir_free (h : Part d) {j s : Nat} (hj : j < d.n) : d.dir s (d.free j) = if j = s then 1 else 0 := val_free h hj
theorem base_obj (h : Part d) : d.obj 1 d.base = d.z := by
 unfold base
 rw [val_obj h, show (fun j => d.g j * (0 : Rat)) = fun _ => 0 by funext j; grind, sumN_zero]; grind
theorem dir_obj (h : Part d) {s : Nat} (hs : s < d.n) : d.obj 0 (d.dir s) = d.g s := by
 unfold dir
 rw [val_obj h, sumN_at _ hs]; grind
end
structure Same (d e : Dic) : Prop where
 m : d.m = e.m
 n : d.n = e.n
 sol : ∀ k x, d.Sol k x ↔ e.Sol k x
 obj : ∀ k x, d.Sol k x → d.obj k x = e.obj k x
theorem Same.refl (d : Dic) : Same d d := ⟨rfl, rfl, fun _ _ => Iff.rfl, fun _ _ _ => rfl⟩
theorem Same.symm {d e : Dic} (h : Same d e) : Same e d := ⟨h.m.symm, h.n.symm, fun k x => (h.sol k x).symm, fun k x hx => (h.obj k x ((h.sol k x).2 hx)).symm⟩
theorem Same.trans {d e f : Dic} (h : Same d e) (h' : Same e f) : Same d f := ⟨h.m.trans h'.m, h.n.trans h'.n, fun k x => (h.sol k x).trans (h'.sol k x), fun k x hx => (h.obj k x hx).trans (h'.obj k x ((h.sol k x).1 hx))⟩
theorem ex_same {d : Dic} {r s : Nat} (hr : r < d.m) (hs : s < d.n) (hp : d.a r s ≠ 0) : Same d (d.ex r s) :=
 ⟨rfl, rfl, fun k x => (ex_sol hr hs hp k x).symm, fun _ _ hx => (ex_obj hs hp (hx r hr)).symm⟩
theorem ex_ex {d : Dic} {r s : Nat} (hp : d.a r s ≠ 0) : (d.ex r s).ex r s = d := by
 have hp' : (1 / d.a r s) ≠ 0 := by grind
 cases d with
 | mk m n own free v a g z =>
 simp only at hp hp'
 simp only [ex, up, if_pos, Dic.mk.injEq, true_and]
 refine ⟨?_, ?_, ?_, ?_, ?_, ?_⟩
 · funext i; by_cases h : i = r
   · subst h; simp only [up, if_pos]
   · simp only [up, if_neg h]
 · funext i; by_cases h : i = s
   · subst h; simp only [up, if_pos]
   · simp only [up, if_neg h]
 · funext i; by_cases h : i = r
   · subst h; rw [if_pos rfl]; grind
   · rw [if_neg h, if_neg h, if_neg h]; grind
 · funext i j
   by_cases h : i = r <;> by_cases h2 : j = s
   · subst h; subst h2; simp only [if_pos]; grind
   · subst h; simp only [if_pos, if_neg h2]; grind
   · subst h2; simp only [if_pos, if_neg h]; grind
   · simp only [if_neg h, if_neg h2]; grind
 · funext j
   by_cases h2 : j = s
   · subst h2; simp only [if_pos]; grind
   · simp only [if_neg h2]; grind
 · grind
structure RowStep (d : Dic) (r s : Nat) : Prop where
 hr : r < d.m
 hs : s < d.n
 v : d.v r < 0
 first : ∀ i, i < d.m → d.v i < 0 → d.own r ≤ d.own i
 goal : ∀ j, j < d.n → 0 < d.g j → d.own r < d.free j
 a : d.a r s < 0
 least : ∀ j, j < d.n → d.a r j < 0 → d.free s ≤ d.free j
structure ColStep (d : Dic) (r s : Nat) : Prop where
 hr : r < d.m
 hs : s < d.n
 g : 0 < d.g s
 first : ∀ j, j < d.n → 0 < d.g j → d.free s ≤ d.free j
 rows : ∀ i, i < d.m → d.v i < 0 → d.free s < d.own i
 a : 0 < d.a r s
 least : ∀ i, i < d.m → 0 < d.a i s → d.own r ≤ d.own i
def Step (d : Dic) (r s : Nat) : Prop := RowStep d r s ∨ ColStep d r s
theorem Step.hr {d : Dic} {r s : Nat} (h : Step d r s) : r < d.m := h.elim (·.hr) (·.hr)
theorem Step.hs {d : Dic} {r s : Nat} (h : Step d r s) : s < d.n := h.elim (·.hs) (·.hs)
theorem Step.ne {d : Dic} {r s : Nat} (h : Step d r s) : d.a r s ≠ 0 := by
 rcases h with h | h
 · have := h.a; grind
 · have := h.a; grind
theorem leaving {d : Dic} (hP : Part d) {r s q : Nat} (h : Step d r s) (hq : d.own r = q) (hl : d.free s < q) :
    ∃ k y, d.Sol k y ∧ y q < 0 ∧ (∀ p, p < q → p < d.n + d.m → 0 ≤ y p) ∧ (∀ j, j < d.n → q < d.free j → y (d.free j) = 0) ∧
     ((k = 1 ∧ d.obj k y = d.z ∧ ∀ j, j < d.n → d.free j < q → d.g j ≤ 0) ∨ (k = 0 ∧ 0 < d.obj k y)) := by
 rcases h with h | h
 · refine ⟨1, d.base, val_sol hP, by rw [← hq, base_own hP h.hr]; exact h.v, fun p hp hpn => ?_, fun j hj _ => base_free hP hj, .inl ⟨rfl, base_obj hP, fun j hj hjq => ?_⟩⟩
   · rcases hP.all p hpn with ⟨i, hi, e⟩ | ⟨j, hj, e⟩
     · rw [← e, base_own hP hi]
       have := h.first i hi
       by_cases hv : d.v i < 0
       · have := this hv; omega
       · grind
     · rw [← e, base_free hP hj]; exact Rat.le_refl
   · by_cases hg : 0 < d.g j
     · have := h.goal j hj hg; omega
     · grind
 · refine ⟨0, d.dir s, val_sol hP, by rw [← hq, dir_own hP h.hr h.hs]; have := h.a; grind, fun p hp hpn => ?_, fun j hj hjq => by rw [dir_free hP hj, if_neg (fun e => by subst e; omega)], .inr ⟨rfl, by rw [dir_obj hP h.hs]; exact h.g⟩⟩
   rcases hP.all p hpn with ⟨i, hi, e⟩ | ⟨j, hj, e⟩
   · rw [← e, dir_own hP hi h.hs]
     have := h.least i hi
     by_cases hv : 0 < d.a i s
     · have := this hv; omega
     · grind
   · rw [← e, dir_free hP hj]
     split
     · grind
     · exact Rat.le_refl
theorem mul_np {a b : Rat} (ha : a ≤ 0) (hb : 0 ≤ b) : a * b ≤ 0 := by
 have := Rat.mul_nonneg (a := -a) (b := b) (by grind) hb
 grind
theorem mul_neg_neg {a b : Rat} (ha : a < 0) (hb : b < 0) : 0 < a * b := by
 have := Rat.mul_pos (a := -a) (b := -b) (by grind) (by grind)
 grind
theorem mul_pos_neg {a b : Rat} (ha : 0 < a) (hb : b < 0) : a * b < 0 := by
 have := Rat.mul_pos (a := a) (b := -b) ha (by grind)
 grind
theorem sumN_neg {f : Nat → Rat} {n s : Nat} (hs : s < n) (h0 : f s < 0) (h : ∀ j, j < n → f j ≤ 0) : sumN n f < 0 := by
 have h1 := sumN_pos (f := fun j => -f j) hs (by grind) (fun j hj => by have := h j hj; grind)
 have e : (fun j => -f j) = fun j => (-1) * f j := by funext j; grind
 rw [e, sumN_mul] at h1; grind
theorem sumN_nonpos {f : Nat → Rat} {n : Nat} (h : ∀ j, j < n → f j ≤ 0) : sumN n f ≤ 0 := by
 have h2 : sumN n f ≤ sumN n (fun _ => 0) := sumN_le n h
 rwa [sumN_zero] at h2
theorem exclusive {d e : Dic} (hd : Part d) (he : Part e) (hde : Same d e) {r s r' s' q : Nat} (h : Step d r s) (hq : d.own r = q) (hl : d.free s < q) (h' : Step e r' s') (hq' : e.free s' = q) (hl' : e.own r' < q)
    (hst : ∀ j, j < e.n → q < e.free j → ∃ j', j' < d.n ∧ d.free j' = e.free j) (hst' : ∀ j, j < d.n → q < d.free j → ∃ j', j' < e.n ∧ e.free j' = d.free j) : False := by
 obtain ⟨k, y, hy, hyq, hlow, hhigh, hk⟩ := leaving hd h hq hl
 have hye := (hde.sol k y).1 hy
 have hsz : e.n + e.m = d.n + d.m := by rw [hde.m, hde.n]
 have hz : ∀ j, j < e.n → q < e.free j → y (e.free j) = 0 := fun j hj hjq => by
  obtain ⟨j', hj', e'⟩ := hst j hj hjq
  rw [← e']; exact hhigh j' hj' (by omega)
 have hlow' : ∀ j, j < e.n → e.free j < q → 0 ≤ y (e.free j) := fun j hj hjq => hlow _ hjq (by have := he.free_lt j hj; omega)
 rcases h' with h' | h'
 · have hrow := hye r' h'.hr
   unfold Row at hrow
   have h1 := hlow _ hl' (by have := he.own_lt r' h'.hr; omega)
   have h2 : 0 < sumN e.n fun j => e.a r' j * y (e.free j) := by
    refine sumN_pos h'.hs (by rw [hq']; exact mul_neg_neg h'.a hyq) fun j hj => ?_
    rcases Nat.lt_trichotomy (e.free j) q with hjq | hjq | hjq
    · refine Rat.mul_nonneg ?_ (hlow' j hj hjq)
      by_cases ha : e.a r' j < 0
      · have := h'.least j hj ha; omega
      · grind
    · obtain rfl := he.free_inj _ _ hj h'.hs (by omega)
      rw [hq']; exact Rat.le_of_lt (mul_neg_neg h'.a hyq)
    · rw [hz j hj hjq]; grind
   have h3 : e.v r' * k ≤ 0 := by
    have := h'.v
    rcases hk with ⟨rfl, _⟩ | ⟨rfl, _⟩ <;> grind
   grind
 · have hob := hde.obj k y hy
   have h2 : sumN e.n (fun j => e.g j * y (e.free j)) < 0 := by
    refine sumN_neg h'.hs (by rw [hq']; exact mul_pos_neg h'.g hyq) fun j hj => ?_
    rcases Nat.lt_trichotomy (e.free j) q with hjq | hjq | hjq
    · refine mul_np ?_ (hlow' j hj hjq)
      by_cases ha : 0 < e.g j
      · have := h'.first j hj ha; omega
      · grind
    · obtain rfl := he.free_inj _ _ hj h'.hs (by omega)
      rw [hq']; exact Rat.le_of_lt (mul_pos_neg h'.g hyq)
    · rw [hz j hj hjq]; grind
   have hoe : e.obj k y = e.z * k + sumN e.n (fun j => e.g j * y (e.free j)) := rfl
   rcases hk with ⟨rfl, hz1, hg⟩ | ⟨rfl, hz0⟩
   · have hs' := val_sol (k := 1) (c := fun _ => 0) he
     have hb := (hde.sol 1 e.base).2 hs'
     have hb1 := hde.obj 1 e.base hb
     rw [base_obj he] at hb1
     have hoe2 : d.obj 1 e.base = d.z * 1 + sumN d.n (fun j => d.g j * e.base (d.free j)) := rfl
     have h4 : sumN d.n (fun j => d.g j * e.base (d.free j)) ≤ 0 := sumN_nonpos fun j hj => by
      rcases Nat.lt_trichotomy (d.free j) q with hjq | hjq | hjq
      · refine mul_np (hg j hj hjq) ?_
        rcases he.all (d.free j) (by have := hd.free_lt j hj; omega) with ⟨i, hi, e'⟩ | ⟨j', hj', e'⟩
        · rw [← e', base_own he hi]
          by_cases hv : e.v i < 0
          · have := h'.rows i hi hv; omega
          · grind
        · rw [← e', base_free he hj']; exact Rat.le_refl
      · exact absurd (hq.trans hjq.symm) (hd.apart r j h.hr hj)
      · obtain ⟨j', hj', e'⟩ := hst' j hj hjq
        rw [← e', base_free he hj']; grind
     grind
   · grind
end Dic
namespace Dic
theorem ex_own {d : Dic} (hP : Part d) {r s : Nat} (hr : r < d.m) (hs : s < d.n) (p : Nat) : (∃ i, i < (d.ex r s).m ∧ (d.ex r s).own i = p) ↔ p = d.free s ∨ ((∃ i, i < d.m ∧ d.own i = p) ∧ p ≠ d.own r) := by
 simp only [ex, up]
 constructor
 · rintro ⟨i, hi, e⟩
   split at e
   · exact .inl e.symm
   · rename_i h
     exact .inr ⟨⟨i, hi, e⟩, fun h' => h (hP.own_inj _ _ hi hr (e.trans h'))⟩
 · rintro (rfl | ⟨⟨i, hi, e⟩, h⟩)
   · exact ⟨r, hr, by rw [if_pos rfl]⟩
   · exact ⟨i, hi, by rw [if_neg (fun h' => h (by rw [← e, h']))]; exact e⟩
theorem least_nat {p : Nat → Prop} (h : ∃ n, p n) : ∃ n, p n ∧ ∀ k, k < n → ¬ p k := by
 obtain ⟨n, hn⟩ := h
 induction n using Nat.strongRecOn with
 | ind n ih =>
   by_cases hk : ∃ k, k < n ∧ p k
   · obtain ⟨k, h1, h2⟩ := hk; exact ih k h1 h2
   · exact ⟨n, hn, fun k h1 h2 => hk ⟨k, h1, h2⟩⟩
structure Run (K : Nat) (D : Nat → Dic) (R S : Nat → Nat) : Prop where
 part : Part (D 0)
 step : ∀ k, k < K → Step (D k) (R k) (S k)
 next : ∀ k, k < K → D (k + 1) = (D k).ex (R k) (S k)
section
variable {K : Nat} {D : Nat → Dic} {R S : Nat → Nat}
theorem Run.parts (h : Run K D R S) : ∀ k, k ≤ K → Part (D k)
 | 0, _ => h.part
 | k + 1, hk => by
   rw [h.next k (by omega)]
   exact ex_part (h.parts k (by omega)) (h.step k (by omega)).hr (h.step k (by omega)).hs
theorem Run.same (h : Run K D R S) {a : Nat} : ∀ k, a + k ≤ K → Same (D a) (D (a + k))
 | 0, _ => Same.refl _
 | k + 1, hk => by
   have hs := h.step (a + k) (by omega)
   have := ex_same hs.hr hs.hs hs.ne
   rw [← h.next (a + k) (by omega)] at this
   exact (h.same k (by omega)).trans this
def InOwn (d : Dic) (p : Nat) : Prop := ∃ i, i < d.m ∧ d.own i = p
theorem Run.flip (h : Run K D R S) {k : Nat} (hk : k < K) (p : Nat) : InOwn (D (k + 1)) p ↔ p = (D k).free (S k) ∨ (InOwn (D k) p ∧ p ≠ (D k).own (R k)) := by
 unfold InOwn
 rw [h.next k hk]
 exact ex_own (h.parts k (by omega)) (h.step k hk).hr (h.step k hk).hs p
theorem Run.keep (h : Run K D R S) {p a : Nat} : ∀ k, a + k ≤ K → (∀ i, a ≤ i → i < a + k → (D i).own (R i) ≠ p ∧ (D i).free (S i) ≠ p) → (InOwn (D a) p ↔ InOwn (D (a + k)) p)
 | 0, _, _ => Iff.rfl
 | k + 1, hk, hne => by
   rw [h.keep k (by omega) fun i h1 h2 => hne i h1 (by omega), ← Nat.add_assoc, h.flip (by omega)]
   obtain ⟨h1, h2⟩ := hne (a + k) (by omega) (by omega)
   constructor
   · intro h3; exact .inr ⟨h3, fun e => h1 e.symm⟩
   · rintro (e | h3)
     · exact absurd e.symm h2
     · exact h3.1
theorem not_own {d : Dic} (h : Part d) {p : Nat} (hp : p < d.n + d.m) : ¬ InOwn d p ↔ ∃ j, j < d.n ∧ d.free j = p := by
 constructor
 · intro hn
   exact (h.all p hp).resolve_left hn
 · rintro ⟨j, hj, rfl⟩ ⟨i, hi, e⟩
   exact h.apart i j hi hj e
theorem Run.exclude (h : Run K D R S) {q a b x y : Nat} (hab : b ≤ K) (hax : a ≤ x) (hxb : x < b) (hay : a ≤ y) (hyb : y < b) (hle : ∀ k, a ≤ k → k < b → (D k).own (R k) ≤ q ∧ (D k).free (S k) ≤ q)
    (hx : (D x).own (R x) = q) (hy : (D y).free (S y) = q) : False := by
 have hPx := h.parts x (by omega)
 have hPy := h.parts y (by omega)
 have sx := h.step x (by omega)
 have sy := h.step y (by omega)
 have same : Same (D x) (D y) := by
  rcases Nat.le_total x y with hxy | hxy
  · have := h.same (a := x) (y - x) (by omega); rwa [show x + (y - x) = y by omega] at this
  · have := h.same (a := y) (x - y) (by omega); rw [show y + (x - y) = x by omega] at this; exact this.symm
 have stay : ∀ p, q < p → (InOwn (D x) p ↔ InOwn (D y) p) := by
  intro p hp
  rcases Nat.le_total x y with hxy | hxy
  · have := h.keep (p := p) (a := x) (y - x) (by omega) fun i h1 h2 => by have := hle i (by omega) (by omega); omega
    rwa [show x + (y - x) = y by omega] at this
  · have := h.keep (p := p) (a := y) (x - y) (by omega) fun i h1 h2 => by have := hle i (by omega) (by omega); omega
    rw [show y + (x - y) = x by omega] at this; exact this.symm
 have hsz : (D x).n + (D x).m = (D y).n + (D y).m := by rw [same.m, same.n]
 refine exclusive hPx hPy same sx hx ?_ sy hy ?_ ?_ ?_
 · have h1 := (hle x hax hxb).2
   have h2 := hPx.apart (R x) (S x) sx.hr sx.hs
   omega
 · have h1 := (hle y hay hyb).1
   have h2 := hPy.apart (R y) (S y) sy.hr sy.hs
   omega
 · intro j hj hjq
   have hlt := hPy.free_lt j hj
   refine (not_own hPx (by omega)).1 ?_
   rw [stay _ hjq]
   exact (not_own hPy hlt).2 ⟨j, hj, rfl⟩
 · intro j hj hjq
   have hlt := hPx.free_lt j hj
   refine (not_own hPy (by omega)).1 ?_
   rw [← stay _ hjq]
   exact (not_own hPx hlt).2 ⟨j, hj, rfl⟩
theorem Run.stretch (h : Run K D R S) : ∀ (q a b : Nat), a ≤ b → b ≤ K → (∀ k, a ≤ k → k < b → (D k).own (R k) < q ∧ (D k).free (S k) < q) → b - a < 2 ^ q
 | 0, a, b, hab, hb, hlt => by
   rcases Nat.lt_or_ge a b with h1 | h1
   · have := hlt a (by omega) h1; omega
   · rw [Nat.pow_zero]; omega
 | q + 1, a, b, hab, hb, hlt => by
   have hle : ∀ k, a ≤ k → k < b → (D k).own (R k) ≤ q ∧ (D k).free (S k) ≤ q := fun k h1 h2 => by have := hlt k h1 h2; omega
   have h2q : 2 ^ (q + 1) = 2 ^ q + 2 ^ q := by rw [Nat.pow_succ]; omega
   have hpos : 0 < 2 ^ q := Nat.two_pow_pos q
   by_cases hev : ∃ k, a ≤ k ∧ k < b ∧ ((D k).own (R k) = q ∨ (D k).free (S k) = q)
   · obtain ⟨x, ⟨hax, hxb, hx⟩, hfirst⟩ := least_nat hev
     have l1 := h.stretch q a x hax (by omega) fun k h1 h2 => by
      have h3 := hle k h1 (by omega)
      have h4 : ¬((D k).own (R k) = q ∨ (D k).free (S k) = q) := fun h5 => hfirst k h2 ⟨h1, by omega, h5⟩
      omega
     by_cases hev2 : ∃ k, x + 1 ≤ k ∧ k < b ∧ ((D k).own (R k) = q ∨ (D k).free (S k) = q)
     · exfalso
       obtain ⟨y, ⟨hxy, hyb, hy⟩, hnext⟩ := least_nat hev2
       have sx := h.step x (by omega)
       have sy := h.step y (by omega)
       have keep := h.keep (p := q) (a := x + 1) (y - (x + 1)) (by omega) fun i h1 h2 => by
        have h4 : ¬((D i).own (R i) = q ∨ (D i).free (S i) = q) := fun h5 => hnext i (by omega) ⟨h1, by omega, h5⟩
        exact ⟨fun e => h4 (.inl e), fun e => h4 (.inr e)⟩
       rw [show x + 1 + (y - (x + 1)) = y by omega, h.flip (by omega)] at keep
       rcases hx with hx | hx
       · have hno : ¬ InOwn (D y) q := by
           rw [← keep]
           rintro (e | ⟨_, e⟩)
           · exact (h.parts x (by omega)).apart _ _ sx.hr sx.hs (hx.trans e)
           · exact e hx.symm
         rcases hy with hy | hy
         · exact hno ⟨R y, sy.hr, hy⟩
         · exact h.exclude hb hax hxb (by omega) hyb hle hx hy
       · have hyes : InOwn (D y) q := keep.1 (.inl hx.symm)
         rcases hy with hy | hy
         · exact h.exclude hb (by omega) hyb hax hxb hle hy hx
         · exact (not_own (h.parts y (by omega)) (by have := (h.parts y (by omega)).free_lt _ sy.hs; omega)).2 ⟨S y, sy.hs, hy⟩ hyes
     · have l2 := h.stretch q (x + 1) b (by omega) hb fun k h1 h2 => by
         have h3 := hle k (by omega) h2
         have h4 : ¬((D k).own (R k) = q ∨ (D k).free (S k) = q) := fun h5 => hev2 ⟨k, h1, h2, h5⟩
         omega
       omega
   · have l1 := h.stretch q a b hab hb fun k h1 h2 => by
       have h3 := hle k h1 h2
       have h4 : ¬((D k).own (R k) = q ∨ (D k).free (S k) = q) := fun h5 => hev ⟨k, h1, h2, h5⟩
       omega
     omega
theorem Run.short (h : Run K D R S) : K < 2 ^ ((D 0).n + (D 0).m) := by
 have := h.stretch ((D 0).n + (D 0).m) 0 K (by omega) (Nat.le_refl _) fun k _ hk => by
  have hP := h.parts k (by omega)
  have hs := h.same (a := 0) k (by omega)
  rw [Nat.zero_add] at hs
  have h1 := hP.own_lt _ (h.step k hk).hr
  have h2 := hP.free_lt _ (h.step k hk).hs
  rw [hs.m, hs.n]
  exact ⟨h1, h2⟩
 omega
end
end Dic
namespace Dic
def cnt (p : Nat → Bool) : Nat → Nat
 | 0 => 0
 | m + 1 => cnt p m + (if p m then 1 else 0)
theorem cnt_congr {p q : Nat → Bool} : ∀ m, (∀ i, i < m → p i = q i) → cnt p m = cnt q m
 | 0, _ => rfl
 | m + 1, h => by simp only [cnt, cnt_congr m (fun i hi => h i (by omega)), h m (by omega)]
theorem cnt_less {p q : Nat → Bool} {r : Nat} (hp : p r = true) (hq : q r = false) : ∀ m, r < m → (∀ i, i < m → i ≠ r → q i = p i) → cnt q m + 1 = cnt p m
 | 0, h, _ => absurd h (Nat.not_lt_zero _)
 | m + 1, h, he => by
   simp only [cnt]
   by_cases e : m = r
   · subst e
     rw [cnt_congr (p := q) (q := p) m (fun i hi => he i (by omega) (by omega)), hp, hq]
     simp
   · have := cnt_less hp hq m (by omega) (fun i hi => he i (by omega))
     rw [he m (by omega) e]; omega
theorem cnt_le (p : Nat → Bool) : ∀ m, cnt p m ≤ m
 | 0 => Nat.le_refl _
 | m + 1 => by have := cnt_le p m; simp only [cnt]; split <;> omega
theorem cnt_zero {p : Nat → Bool} : ∀ m, cnt p m = 0 → ∀ i, i < m → p i = false
 | 0, _, _, h => absurd h (Nat.not_lt_zero _)
 | m + 1, h, i, hi => by
   simp only [cnt] at h
   by_cases e : i = m
   · subst e; cases hp : p i
     · rfl
     · rw [hp] at h; simp at h
   · exact cnt_zero m (by omega) i (by omega)
theorem cnt_some {p : Nat → Bool} : ∀ m, 0 < cnt p m → ∃ i, i < m ∧ p i = true
 | 0, h => absurd h (Nat.not_lt_zero _)
 | m + 1, h => by
   cases hp : p m
   · simp only [cnt, hp] at h
     obtain ⟨i, hi, e⟩ := cnt_some m (by simpa using h)
     exact ⟨i, by omega, e⟩
   · exact ⟨m, by omega, hp⟩
theorem cnt_inj {f : Nat → Nat} {m : Nat} (hf : ∀ i i', i < m → i' < m → f i = f i' → i = i') : ∀ n, cnt (fun i => decide (f i < n)) m ≤ n
 | 0 => by
   rw [cnt_congr (q := fun _ => false) m (fun i _ => by simp)]
   have : ∀ k, cnt (fun _ => false) k = 0 := fun k => by induction k with
    | zero => rfl
    | succ k ih => simp only [cnt, ih]; rfl
   rw [this]; exact Nat.le_refl _
 | n + 1 => by
   have ih := cnt_inj hf n
   by_cases h : ∃ i, i < m ∧ f i = n
   · obtain ⟨r, hr, e⟩ := h
     have := cnt_less (p := fun i => decide (f i < n + 1)) (q := fun i => decide (f i < n)) (r := r) (by simp [e]) (by simp [e]) m hr (fun i hi hne => by
      have : f i ≠ n := fun h' => hne (hf _ _ hi hr (h'.trans e.symm))
      simp only [decide_eq_decide]; omega)
     omega
   · rw [cnt_congr (q := fun i => decide (f i < n)) m (fun i hi => by
       have : f i ≠ n := fun h' => h ⟨i, hi, h'⟩
       simp only [decide_eq_decide]; omega)]
     omega
structure SizeFn (sz : Rat → Nat) : Prop where
 zero : sz 0 ≤ 1
 one : sz 1 ≤ 1
 sub : ∀ a b, sz (a - b) ≤ sz a + sz b + 1
 mul : ∀ a b, sz (a * b) ≤ sz a + sz b
 div : ∀ a b, b ≠ 0 → sz (a / b) ≤ sz a + sz b
structure Sized (sz : Rat → Nat) (d : Dic) (B : Nat) : Prop where
 v : ∀ i, i < d.m → sz (d.v i) ≤ B
 a : ∀ i j, i < d.m → j < d.n → sz (d.a i j) ≤ B
 g : ∀ j, j < d.n → sz (d.g j) ≤ B
theorem ex_sized {sz : Rat → Nat} (L : SizeFn sz) {d : Dic} {r s B : Nat} (hr : r < d.m) (hs : s < d.n) (hp : d.a r s ≠ 0) (h : Sized sz d B) (hB : 1 ≤ B) : Sized sz (d.ex r s) (4 * B + 1) := by
 have hpb := h.a r s hr hs
 have h1 := L.div 1 _ hp
 have l1 := L.one
 have l0 := L.zero
 refine ⟨fun i hi => ?_, fun i j hi hj => ?_, fun j hj => ?_⟩
 · simp only [ex] at *
   have hv := L.div (d.v r) _ hp
   have hb := h.v r hr
   split
   · omega
   · have e1 := L.sub (d.v i) (d.a i s * (d.v r / d.a r s))
     have e2 := L.mul (d.a i s) (d.v r / d.a r s)
     have e3 := h.v i hi
     have e4 := h.a i s hi hs
     omega
 · simp only [ex] at *
   have hv := L.div (d.a r j) _ hp
   have hb := h.a r j hr hj
   split
   · split <;> omega
   · have e4 := h.a i s hi hs
     split
     · have e1 := L.sub 0 (d.a i s * (1 / d.a r s))
       have e2 := L.mul (d.a i s) (1 / d.a r s)
       omega
     · have e1 := L.sub (d.a i j) (d.a i s * (d.a r j / d.a r s))
       have e2 := L.mul (d.a i s) (d.a r j / d.a r s)
       have e3 := h.a i j hi hj
       omega
 · simp only [ex] at *
   have hv := L.div (d.a r j) _ hp
   have hb := h.a r j hr hj
   have e4 := h.g s hs
   split
   · have e1 := L.sub 0 (d.g s * (1 / d.a r s))
     have e2 := L.mul (d.g s) (1 / d.a r s)
     omega
   · have e1 := L.sub (d.g j) (d.g s * (d.a r j / d.a r s))
     have e2 := L.mul (d.g s) (d.a r j / d.a r s)
     have e3 := h.g j hj
     omega
structure First (d : Dic) : Prop where
 own : ∀ i, i < d.m → d.own i = d.n + i
 free : ∀ j, j < d.n → d.free j = j
theorem First.part {d : Dic} (h : First d) : Part d := by
 refine ⟨fun i hi => ?_, fun j hj => ?_, fun i i' hi hi' e => ?_, fun j j' hj hj' e => ?_, fun i j hi hj e => ?_, fun q hq => ?_⟩
 · rw [h.own i hi]; omega
 · rw [h.free j hj]; omega
 · rw [h.own i hi, h.own i' hi'] at e; omega
 · rw [h.free j hj, h.free j' hj'] at e; omega
 · rw [h.own i hi, h.free j hj] at e; omega
 · rcases Nat.lt_or_ge q d.n with h1 | h1
   · exact .inr ⟨q, h1, h.free q h1⟩
   · exact .inl ⟨q - d.n, by omega, by rw [h.own _ (by omega)]; omega⟩
def grow (B : Nat) : Nat → Nat
 | 0 => B
 | t + 1 => 4 * grow B t + 1
theorem grow_pos {B : Nat} (h : 1 ≤ B) : ∀ t, 1 ≤ grow B t
 | 0 => h
 | t + 1 => by simp only [grow]; omega
theorem sum_dir (f : Nat → Rat) (y : Nat → Rat) (n w : Nat) (hy : ∀ q, q < n → y q = if q = w then 1 else 0) : sumN n (fun q => f q * y q) = if w < n then f w else 0 := by
 rw [sumN_congr (g := fun q => if q = w then f w else 0) n (fun q hq => by
  rw [hy q hq]
  by_cases e : q = w
  · subst e; rw [if_pos rfl, if_pos rfl]; grind
  · rw [if_neg e, if_neg e]; grind), sumN_one]
theorem first_sized {sz : Rat → Nat} (L : SizeFn sz) {d0 d : Dic} (h0 : First d0) {B : Nat} (hB : 1 ≤ B) (hS : Sized sz d0 B) (hP : Part d) (hE : Same d0 d) (hown : ∀ i, i < d.m → d.n ≤ d.own i) : Sized sz d B := by
 have hm := hE.m
 have hn := hE.n
 have l0 := L.zero
 have hfree : ∀ q, q < d.n → ∃ j, j < d.n ∧ d.free j = q := fun q hq => (hP.all q (by omega)).resolve_left (by rintro ⟨i, hi, e⟩; have := hown i hi; omega)
 have hat : ∀ i, i < d.m → ∃ i0, i0 < d0.m ∧ d.own i = d0.own i0 := fun i hi => by
  have h1 := hown i hi
  have h2 := hP.own_lt i hi
  exact ⟨d.own i - d.n, by omega, by rw [h0.own _ (by omega)]; omega⟩
 have hdir : ∀ s, s < d.n → ∀ q, q < d0.n → d.dir s (d0.free q) = if q = d.free s then 1 else 0 := by
  intro s hs q hq
  rw [h0.free q hq]
  obtain ⟨j, hj, rfl⟩ := hfree q (by omega)
  rw [dir_free hP hj]
  by_cases e : j = s
  · subst e; rw [if_pos rfl, if_pos rfl]
  · rw [if_neg e, if_neg (fun h' => e (hP.free_inj _ _ hj hs h'))]
 refine ⟨fun i hi => ?_, fun i j hi hj => ?_, fun j hj => ?_⟩
 · obtain ⟨i0, hi0, e⟩ := hat i hi
   have h1 := (hE.sol 1 d.base).2 (val_sol hP) i0 hi0
   unfold Row at h1
   rw [← e, base_own hP hi, sumN_congr (g := fun _ => 0) d0.n (fun q hq => by
    rw [h0.free q hq]
    obtain ⟨j, hj, rfl⟩ := hfree q (by omega)
    rw [base_free hP hj]; grind), sumN_zero] at h1
   rw [show d.v i = d0.v i0 by grind]
   exact hS.v i0 hi0
 · obtain ⟨i0, hi0, e⟩ := hat i hi
   have h1 := (hE.sol 0 (d.dir j)).2 (val_sol hP) i0 hi0
   unfold Row at h1
   rw [← e, dir_own hP hi hj, sum_dir (fun q => d0.a i0 q) (fun q => d.dir j (d0.free q)) d0.n (d.free j) (hdir j hj)] at h1
   by_cases hlt : d.free j < d0.n
   · rw [if_pos hlt] at h1
     rw [show d.a i j = d0.a i0 (d.free j) by grind]
     exact hS.a i0 _ hi0 hlt
   · rw [if_neg hlt] at h1
     rw [show d.a i j = 0 by grind]; omega
 · have h1 := hE.obj 0 (d.dir j) ((hE.sol 0 (d.dir j)).2 (val_sol hP))
   rw [dir_obj hP hj] at h1
   unfold obj at h1
   rw [sum_dir (fun q => d0.g q) (fun q => d.dir j (d0.free q)) d0.n (d.free j) (hdir j hj)] at h1
   by_cases hlt : d.free j < d0.n
   · rw [if_pos hlt] at h1
     rw [show d.g j = d0.g (d.free j) by grind]
     exact hS.g _ hlt
   · rw [if_neg hlt] at h1
     rw [show d.g j = 0 by grind]; omega
theorem sized {sz : Rat → Nat} (L : SizeFn sz) {d0 : Dic} (h0 : First d0) {B : Nat} (hB : 1 ≤ B) (hS : Sized sz d0 B) : ∀ (t : Nat) (d : Dic), Part d → Same d0 d → cnt (fun i => decide (d.own i < d.n)) d.m = t → Sized sz d (grow B t)
 | 0, d, hP, hE, hc => first_sized L h0 hB hS hP hE fun i hi => by have := cnt_zero _ hc i hi; simp at this; omega
 | t + 1, d, hP, hE, hc => by
   obtain ⟨i, hi, hio⟩ := cnt_some (p := fun i => decide (d.own i < d.n)) d.m (by omega)
   simp only [decide_eq_true_eq] at hio
   have hn := hE.n
   obtain ⟨j, hj, hjn, hp⟩ : ∃ j, j < d.n ∧ d.n ≤ d.free j ∧ d.a i j ≠ 0 := by
    refine Classical.byContradiction fun hno => ?_
    have hx := (hE.sol 0 _).1 (val_sol (k := 0) (c := fun q => if q = d.own i then 1 else 0) h0.part) i hi
    unfold Row at hx
    have hv : ∀ q, q < d.n → d0.val 0 (fun q => if q = d.own i then 1 else 0) q = if q = d.own i then 1 else 0 := fun q hq => by
     have := val_free (k := 0) (c := fun q => if q = d.own i then 1 else 0) h0.part (j := q) (by omega)
     rwa [h0.free q (by omega)] at this
    rw [hv _ hio, if_pos rfl, sumN_congr (g := fun _ => 0) d.n (fun j hj => by
     by_cases h1 : d.n ≤ d.free j
     · have : d.a i j = 0 := Classical.byContradiction fun h2 => hno ⟨j, hj, h1, h2⟩
       rw [this]; grind
     · rw [hv _ (by omega), if_neg (fun e => hP.apart i j hi hj e.symm)]; grind), sumN_zero] at hx
    grind
   have hP1 := ex_part hP hi hj
   have hE1 := hE.trans (ex_same hi hj hp)
   have hc1 : cnt (fun k => decide ((d.ex i j).own k < (d.ex i j).n)) (d.ex i j).m = t := by
    have := cnt_less (p := fun k => decide (d.own k < d.n)) (q := fun k => decide ((d.ex i j).own k < (d.ex i j).n)) (r := i) (by simpa using hio) (by simp [ex, up]; omega) d.m hi (fun k _ hne => by simp [ex, up, hne])
    have h2 : (d.ex i j).m = d.m := rfl
    rw [h2]; omega
   have ih := sized L h0 hB hS t (d.ex i j) hP1 hE1 hc1
   have hp1 : (d.ex i j).a i j ≠ 0 := by simp only [ex, if_pos]; grind
   have := ex_sized L (d := d.ex i j) hi hj hp1 ih (grow_pos hB t)
   rw [ex_ex hp] at this
   exact this
theorem grow_mono {B : Nat} : ∀ {t u : Nat}, t ≤ u → grow B t ≤ grow B u := by
 intro t u h
 induction u with
 | zero => obtain rfl : t = 0 := by omega
           exact Nat.le_refl _
 | succ u ih =>
   by_cases e : t = u + 1
   · subst e; exact Nat.le_refl _
   · have := ih (by omega); simp only [grow]; omega
theorem Sized.mono {sz : Rat → Nat} {d : Dic} {B C : Nat} (h : Sized sz d B) (hBC : B ≤ C) : Sized sz d C := ⟨fun i hi => Nat.le_trans (h.v i hi) hBC, fun i j hi hj => Nat.le_trans (h.a i j hi hj) hBC, fun j hj => Nat.le_trans (h.g j hj) hBC⟩
theorem small {sz : Rat → Nat} (L : SizeFn sz) {d0 d : Dic} (h0 : First d0) {B : Nat} (hB : 1 ≤ B) (hS : Sized sz d0 B) (hP : Part d) (hE : Same d0 d) {t : Nat} (ht : d.n ≤ t ∨ d.m ≤ t) : Sized sz d (grow B t) := by
 refine (sized L h0 hB hS _ d hP hE rfl).mono (grow_mono ?_)
 have h1 := cnt_inj hP.own_inj d.n
 have h2 := cnt_le (fun i => decide (d.own i < d.n)) d.m
 omega
end Dic
end Go.Proofs.Ytbnbpfjfkedbaaa
