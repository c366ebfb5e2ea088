/-
  The walk over data: memory that is known by letters: parts of it, names of it, dead blocks.
-/
import Derived.Test.YtpkdhmnlpnijhaaGreatVConv
namespace Go.Proofs.YtpkdhmnlpnijhaaGreat
set_option linter.unusedVariables false
set_option linter.unusedSimpArgs false
set_option linter.unusedSectionVars false
open Go Go.RowKit
section ifl
variable [Ifl]
section
variable {β β' : Bet} {m m' : Mem} {S S' : Nat → Nat → Prop} {w : World} {keep : Nat → Bool}
mutual
theorem ok_repB (hm : ∀ id, keep id = true → m' id = m id ∧ β' id = β id) (hs : SafeLe S w S' w) : ∀ (d : D) (x : Value), okD keep d = true → Rep β m S w x d → Rep β' m' S' w x d
 | .v y, x, _, h => by rw [h.inv_v]; exact .v _
 | .nil, x, _, h => by rw [h.inv_nil]; exact .nil
 | .agg l, x, ho, h => by
   obtain ⟨vs, rfl, h1, h2⟩ := h.inv_agg
   exact (ok_repsB hm hs l vs (by simpa [okD] using ho) ⟨h1, h2⟩).rep_agg
 | .tup l, x, ho, h => by
   obtain ⟨vs, rfl, h1, h2⟩ := h.inv_tup
   exact (ok_repsB hm hs l vs (by simpa [okD] using ho) ⟨h1, h2⟩).rep_tup
 | .sl es, x, _, h => (h.sl_no.mono (MemLe.refl _ _ _) hs).lift
 | .ep es i o, x, _, h => (h.ep_no.mono (MemLe.refl _ _ _) hs).lift
 | .ls id ver, x, ho, h => by
   obtain ⟨a, n, cap, blk, rfl, h1, h2, hx, h3⟩ := h.inv_lsx
   have hk := hm id (by simpa [okD] using ho)
   exact .ls a n cap id ver blk (hk.1.trans h1) h2 hx (fun e => by rw [hk.2]; exact h3 e)
 | .lp id ver i o, x, ho, h => by
   obtain ⟨b, p, blk, rfl, h1, h2, h3⟩ := h.inv_lp
   have hk := hm id (by simpa [okD] using ho)
   exact .lp b p id ver i o blk (hk.1.trans h1) h2 (fun e => by rw [hk.2]; exact h3 e)
 | .clo f l, x, ho, h => by
   obtain ⟨vs, rfl, h1, h2⟩ := h.inv_clo
   have := ok_repsB hm hs l vs (by simpa [okD] using ho) ⟨h1, h2⟩
   exact .clo f vs l this.1 this.2
 | .junk, x, _, _ => .junk _
theorem ok_repsB (hm : ∀ id, keep id = true → m' id = m id ∧ β' id = β id) (hs : SafeLe S w S' w) : ∀ (l : List D) (vs : List Value), okDs keep l = true → Reps β m S w vs l → Reps β' m' S' w vs l
 | [], vs, _, h => by
   obtain rfl : vs = [] := List.eq_nil_of_length_eq_zero h.1
   exact Reps.nil
 | d :: l, vs, ho, h => by
   simp only [okDs, Bool.and_eq_true] at ho
   match vs, h with
   | [], h => exact absurd h.1 (by simp)
   | v :: vs, h =>
     exact Reps.cons (ok_repB hm hs d v ho.1 (h.2 0 v d rfl rfl)) (ok_repsB hm hs l vs ho.2 ⟨by simpa using h.1, fun i y e hy he => h.2 (i + 1) y e (by simpa using hy) (by simpa using he)⟩)
end
end
theorem Rep.names {β : Bet} {m : Mem} {S : Nat → Nat → Prop} {w : World} {x : Value} {d : D} (h : Rep β m S w x d) : okD (fun i => (m i).isSome) d = true := by
 have lists : ∀ {m : Mem} {l : List D} {vs : List Value}, vs.length = l.length → (∀ (i : Nat) (x : Value) (d : D), vs[i]? = some x → l[i]? = some d → okD (fun i => (m i).isSome) d = true) → okDs (fun i => (m i).isSome) l = true := by
  intro m l
  induction l with
  | nil => intro _ _ _; rfl
  | cons d l ih =>
    intro vs hl h
    match vs, hl with
    | v :: vs, hl =>
      simp only [okDs, Bool.and_eq_true]
      exact ⟨h 0 v d rfl rfl, ih (by simpa using hl) fun i x e hx he => h (i + 1) x e (by simpa using hx) (by simpa using he)⟩
 induction h with
 | agg vs l hl _ ih => simp only [okD]; exact lists hl ih
 | tup vs l hl _ ih => simp only [okD]; exact lists hl ih
 | clo f vs l hl _ ih => simp only [okD]; exact lists hl ih
 | ls a n cap id ver blk hm _ _ _ => simp only [okD, hm]; rfl
 | lp b p id ver i o blk hm _ _ => simp only [okD, hm]; rfl
 | _ => rfl
structure SubM (m' m : Mem) (n' : Nat) : Prop where
 sub : ∀ id b, m' id = some b → m id = some b ∧ id < n'
 cl : ∀ id b, m' id = some b → okBlk (fun i => (m' i).isSome) b
section
variable {E : Env} {β : Bet} {m m' : Mem} {nx n' : Nat} {w : World}
theorem SubM.safe (h : SubM m' m n') : SafeLe (safe E β m) w (Go.Proofs.YtpkdhmnlpnijhaaGreat.safe E β m') w :=
 fun b o u h1 h2 => ⟨⟨h1.1, fun id blk h3 h4 => h1.2 id blk (h.sub id blk h3).1 h4⟩, h2⟩
theorem SubM.keep (h : SubM m' m n') : ∀ id, (m' id).isSome = true → m' id = m id := by
 intro id hid
 cases hm : m' id with
 | none => rw [hm] at hid; cases hid
 | some b => rw [(h.sub id b hm).1]
theorem SubM.mem (h : SubM m' m n') (hM : MemOk E β m nx w) : MemOk E β m' n' w := by
 refine ⟨hM.below, fun id b hb => (h.sub id b hb).2, fun id b hb => hM.fz id b (h.sub id b hb).1, fun id b hb => hM.wid id b (h.sub id b hb).1, fun id b hb => hM.non id b (h.sub id b hb).1, ?_, ?_⟩
 · intro id b c hb hc
   obtain ⟨h3, cs', h4, h5, h6⟩ := hM.row id b c (h.sub id b hb).1 hc
   refine ⟨h3, cs', h4, h5, fun i j d hd => ?_⟩
   obtain ⟨u, h7, h8⟩ := h6 i j d hd
   obtain ⟨e, he, hj⟩ := cellAt_some.1 hd
   exact ⟨u, h7, ok_rep h.keep h.safe d u (okDs_get (h.cl id b hb e (List.mem_of_getElem? he)) d (List.mem_of_getElem? hj)) h8⟩
 · intro x1 x2 y1 y2 c h1 h2 h3 h4
   exact hM.inj x1 x2 y1 y2 c (h.sub _ _ h1).1 (h.sub _ _ h2).1 h3 h4
end
theorem le_sub {s : St} (l : List (Nat × D)) (m' : Mem) (n' : Nat) (h : SubM m' s.m n') (ht : ∀ p ∈ l, s.t p.1 = p.2) (hok : ∀ p ∈ l, okD (fun i => (m' i).isSome) p.2 = true) (hlo : ∀ id, id < s.lo → m' id = s.m id) : StLe s ⟨tabT l, m', n', s.lo⟩ := by
 intro E B nn β a w hr
 refine ⟨β, h.mem hr.mem, fun k hk => ?_, hr.width, hr.defers, ⟨fun id x hx => ?_, hr.le.cap⟩, hr.sle.trans h.safe, hr.lo⟩
 · rcases tabT_get l k with h1 | ⟨d, h1, h2⟩
   · simp only [h1]; exact .junk _
   · simp only [h2]
     have := hr.tmp k hk
     rw [ht _ h1] at this
     exact ok_rep h.keep h.safe d _ (hok _ h1) this
 · obtain ⟨y, h1, h2, h3⟩ := hr.le.blk id x hx
   exact ⟨y, (hlo id (hr.lo id x hx)).trans h1, h2, h3⟩
theorem CallA.sub {P : Program} {f : FuncId} {ds : List D} {m : Mem} {nx : Nat} {K : D → Mem → Nat → Prop}
    (h : CallA P f ds m nx fun d m' nx' => ∃ M N, SubM M m' N ∧ okD (fun i => (M i).isSome) d = true ∧ (∀ id, (m id).isSome = true → M id = m' id) ∧ K d M N) : CallA P f ds m nx K := by
 refine ⟨h.1, fun E β w vs hM hvs => (h.2 E β w vs hM hvs).mono ?_⟩
 rintro e w' ⟨v, d, m', nx', rfl, ⟨β', h1, h2, h3, h4⟩, M, N, h5, h6, h7, hK⟩
 refine ⟨v, d, M, N, rfl, ⟨β', h5.mem h1, ⟨fun id x hx => ?_, h2.cap⟩, h3.trans h5.safe, ok_rep h5.keep h5.safe d v h6 h4⟩, hK⟩
 obtain ⟨y, h8, h9⟩ := h2.blk id x hx
 exact ⟨y, (h7 id (by rw [hx]; rfl)).trans h8, h9⟩
theorem le_killL {s : St} (l : List Nat) : StLe s { s with m := ov s.m (killW l s.m) } := by
 intro E B nn β a w h
 obtain ⟨h1, h2, h3⟩ := kill_ok l s.m h.mem
 exact ⟨β, h1, fun j hj => (h.tmp j hj).mono h2 h3, h.width, h.defers, h.le.trans h2, h.sle.trans h3, h.lo⟩
theorem After.rename {E : Env} {β : Bet} {m : Mem} {NX NY : Nat} {w w' : World} {v : Value} {x y ver : Nat} {blk : Blk} (h : After E β m NY w (upd m y (some blk)) v (.ls y ver) w') (hM : MemOk E β m NX w) (hy : m y = none) (hx : m x = none) (hxN : x < NX)
    (hb : okBlk (fun _ => false) blk) : After E β m NX w (upd m x (some blk)) v (.ls x ver) w' := by
 obtain ⟨β', h1, h2, h3, h4⟩ := h
 have hne : ∀ id b, m id = some b → id ≠ y ∧ id ≠ x := fun id b hi => ⟨fun e => (by subst e; rw [hi] at hy; cases hy), fun e => (by subst e; rw [hi] at hx; cases hx)⟩
 have hold : ∀ id b, m id = some b → upd m y (some blk) id = some b := fun id b hi => by rw [upd_ne _ _ (hne id b hi).1]; exact hi
 have hB : ∀ id b, m id = some b → upd β' x (β' y) id = β' id := fun id b hi => upd_ne _ _ (hne id b hi).2
 have hcase : ∀ id b, upd m x (some blk) id = some b → (id = x ∧ b = blk) ∨ m id = some b := fun id b hi => by
  by_cases e : id = x
  · subst e; rw [upd_same] at hi; cases hi; exact .inl ⟨rfl, rfl⟩
  · rw [upd_ne _ _ e] at hi; exact .inr hi
 have hyb := upd_same m y (some blk)
 have hs : SafeLe (safe E β' (upd m y (some blk))) w' (safe E (upd β' x (β' y)) (upd m x (some blk))) w' := by
  intro c o u g1 g2
  refine ⟨⟨g1.1, fun id b g3 g4 => ?_⟩, g2⟩
  rcases hcase id b g3 with ⟨rfl, rfl⟩ | g5
  · rw [upd_same] at g4; exact g1.2 y _ hyb g4
  · rw [hB id b g5] at g4; exact g1.2 id b (hold id b g5) g4
 have hml : MemLe β m w (upd β' x (β' y)) (upd m x (some blk)) w' := by
  refine ⟨fun id b hi => ?_, h2.cap⟩
  obtain ⟨z, g1, g2, g3⟩ := h2.blk id b hi
  rw [hold id b hi] at g1; cases g1
  exact ⟨b, by rw [upd_ne _ _ (hne id b hi).2]; exact hi, Nat.le_refl _, fun _ => ⟨rfl, rfl, by rw [hB id b hi]; exact (g3 rfl).2.2⟩⟩
 refine ⟨upd β' x (β' y), ⟨h1.below, ?_, ?_, ?_, ?_, ?_, ?_⟩, hml, h3.trans hs, ?_⟩
 · intro id b hi
   rcases hcase id b hi with ⟨rfl, rfl⟩ | hi
   · exact hxN
   · exact hM.lt id b hi
 · intro id b hi
   rcases hcase id b hi with ⟨rfl, rfl⟩ | hi
   · exact h1.fz y _ hyb
   · exact h1.fz id b (hold id b hi)
 · intro id b hi
   rcases hcase id b hi with ⟨rfl, rfl⟩ | hi
   · exact h1.wid y _ hyb
   · exact h1.wid id b (hold id b hi)
 · intro id b hi hn
   rcases hcase id b hi with ⟨rfl, rfl⟩ | hi
   · rw [upd_same] at hn; exact h1.non y _ hyb hn
   · rw [hB id b hi] at hn; exact h1.non id b (hold id b hi) hn
 · intro id b c hi hc
   rcases hcase id b hi with ⟨rfl, rfl⟩ | hi
   · rw [upd_same] at hc
     obtain ⟨g1, cs, g2, g3, g4⟩ := h1.row y _ c hyb hc
     refine ⟨g1, cs, g2, g3, fun i j d hd => ?_⟩
     obtain ⟨u, g5, g6⟩ := g4 i j d hd
     obtain ⟨e, he, hj⟩ := cellAt_some.1 hd
     exact ⟨u, g5, ok_repB (keep := fun _ => false) (fun _ h => by cases h) hs d u (okDs_get (hb e (List.mem_of_getElem? he)) d (List.mem_of_getElem? hj)) g6⟩
   · rw [hB id b hi] at hc
     obtain ⟨g1, cs, g2, g3, g4⟩ := h1.row id b c (hold id b hi) hc
     refine ⟨g1, cs, g2, g3, fun i j d hd => ?_⟩
     obtain ⟨u, g5, g6⟩ := g4 i j d hd
     refine ⟨u, g5, ok_repB (keep := fun i => (m i).isSome) (fun k hk => ?_) hs d u ?_ g6⟩
     · cases hmk : m k with
       | none => rw [hmk] at hk; cases hk
       | some z => exact ⟨by rw [hold k z hmk, upd_ne _ _ (hne k z hmk).2, hmk], hB k z hmk⟩
     · cases hbt : β id with
       | none =>
         obtain ⟨e, he, _⟩ := cellAt_some.1 hd
         rw [hM.non id b hi hbt] at he; simp at he
       | some c0 =>
         obtain ⟨_, cs0, _, _, g7⟩ := hM.row id b c0 hi hbt
         obtain ⟨u0, _, g8⟩ := g7 i j d hd
         exact g8.names
 · intro x1 x2 y1 y2 c g1 g2 g3 g4
   rcases hcase x1 y1 g1 with ⟨rfl, rfl⟩ | g5 <;> rcases hcase x2 y2 g2 with ⟨rfl, rfl⟩ | g6
   · rfl
   · rw [upd_same] at g3
     rw [hB x2 y2 g6] at g4
     exact absurd (h1.inj y x2 _ _ c hyb (hold x2 y2 g6) g3 g4) (fun e => (hne x2 y2 g6).1 e.symm)
   · rw [upd_same] at g4
     rw [hB x1 y1 g5] at g3
     exact absurd (h1.inj x1 y _ _ c (hold x1 y1 g5) hyb g3 g4) (hne x1 y1 g5).1
   · rw [hB x1 y1 g5] at g3
     rw [hB x2 y2 g6] at g4
     exact h1.inj x1 x2 _ _ c (hold x1 y1 g5) (hold x2 y2 g6) g3 g4
 · obtain ⟨a, n, cap, b, rfl, g1, g2, gx, g3⟩ := h4.inv_lsx
   rw [hyb] at g1; cases g1
   exact .ls a n cap x ver blk (upd_same _ _ _) g2 gx (fun e => by
    obtain ⟨q1, q2, q3, q4⟩ := g3 e
    refine ⟨q1, q2, q3, ?_⟩
    rw [upd_same]; exact q4)
theorem EffC.made {P : Program} {f : FuncId} {ds : List D} {m : Mem} {nx ver : Nat} {blk : Blk} (hm : m nx = none) (hb : okBlk (fun _ => false) blk)
    (h : ∀ (m1 : Mem) (NX : Nat), CallA P f ds m1 NX fun d m' nx' => d = .ls NX ver ∧ m' = upd m1 NX (some blk) ∧ nx' = NX + 1) : EffC P f ds m nx ⟨.ls nx ver, [nx], [(nx, blk)], false⟩ (nx + 1) := by
 refine ⟨(h noM 0).1, rfl, Nat.le_succ _, fun p hp => ?_, fun E β m1 NX w vs hN hM ht hvs => ?_⟩
 · simp only [List.mem_singleton] at hp; subst hp; exact ⟨by simp, Nat.lt_succ_self _⟩
 · refine ((h m1 NX).2 E β w vs hM hvs).mono ?_
   rintro e w' ⟨v, d, m', nx', rfl, ha, rfl, rfl, rfl⟩
   exact ⟨v, rfl, ha.rename hM hM.none ((ht nx (by simp)).trans hm) (by omega) hb⟩
theorem EffC.of {P : Program} {f : FuncId} {ds : List D} {m : Mem} {nx : Nat} {d : D} {touch : List Nat} {wr : List (Nat × Blk)} (hb : bodied P f) (hw : ∀ p ∈ wr, p.1 ∈ touch ∧ p.1 < nx)
    (h : ∀ (m1 : Mem) (NX : Nat), nx ≤ NX → (∀ id ∈ touch, m1 id = m id) → CallA P f ds m1 NX fun d' m' nx' => d' = d ∧ m' = ov m1 wr ∧ nx' = NX) : EffC P f ds m nx ⟨d, touch, wr, false⟩ nx := by
 refine ⟨hb, rfl, Nat.le_refl _, hw, fun E β m1 NX w vs hN hM ht hvs => ?_⟩
 refine ((h m1 NX hN ht).2 E β w vs hM hvs).mono ?_
 rintro e w' ⟨v, d', m', nx', rfl, ha, rfl, rfl, rfl⟩
 exact ⟨v, rfl, ha⟩
end ifl
set_option maxRecDepth 100000
set_option maxHeartbeats 8000000
section
variable {f : FuncId} {P : Program}
theorem cb1_val {a : BigD} {x : Value} (hb : bodied P f) (h : ∀ w v, BigV w v a → Calls P f #[v] w fun e w' => e = .returned x ∧ Below w.heap.size w w') : ContractN P f [encB a] (.v x) := by
 refine ⟨hb, fun S w vs hf hvs => ?_⟩
 obtain ⟨v, rfl, h1⟩ := reps1 hvs
 refine (h w v (bigV_of_rep h1)).mono ?_
 rintro e w' ⟨rfl, h2⟩
 exact ⟨_, rfl, h2, .v _⟩
end
theorem nright_c (a : BigD) : ContractN Tryz.prog 185 [encB a] (dB (okB a)) :=
 cb1_val ⟨_, _, Tryz.func185, rfl, by kernel_rfl⟩ fun w v h => right_any a v w h
theorem ndadd_c (a b : List Int) (da : Dig a) (db : Dig b) (la : (a.length : Int) ≤ 4398046511104) (lb : (b.length : Int) ≤ 4398046511104) : ContractN Tryz.prog 233 [encInts a, encInts b] (encInts (digs (val a + val b).toNat)) :=
 c2_digs ⟨_, _, Tryz.func233, rfl, by kernel_rfl⟩ fun w v u h1 h2 => add_any v u a b w h1 h2 da db la lb
theorem ndsub_c (a b : List Int) (da : Dig a) (db : Dig b) (hl : b.length ≤ a.length) (hle : val b ≤ val a) (la : (a.length : Int) ≤ 4398046511104) : ContractN Tryz.prog 234 [encInts a, encInts b] (encInts (digs (val a - val b).toNat)) :=
 c2_digs ⟨_, _, Tryz.func234, rfl, by kernel_rfl⟩ fun w v u h1 h2 => sub_any v u a b w h1 h2 da db hl hle la
theorem ndmul_c (a b : List Int) (da : Dig a) (db : Dig b) (la : (a.length : Int) ≤ 4398046511104) (lb : (b.length : Int) ≤ 4398046511104) : ContractN Tryz.prog 254 [encInts a, encInts b] (encInts (digs (val a * val b).toNat)) :=
 c2_digs ⟨_, _, Tryz.func254, rfl, by kernel_rfl⟩ fun w v u h1 h2 => mul_any v u a b w h1 h2 da db la lb
theorem nclone_c (a : List Int) (la : (a.length : Int) ≤ 8796093022208) : ContractN Tryz.prog 122 [encInts a] (encInts a) :=
 c1_digs ⟨_, _, Tryz.func122, rfl, by kernel_rfl⟩ fun w v h1 => clone_any v a w h1 la
theorem nddiv_c (A B : Nat) (la : ((digs A).length : Int) ≤ 2199023255552) (hB : 0 < B) : ContractN Tryz.prog 227 [encInts (digs A), encInts (digs B)] (.tup [encInts (digs (A / B)), encInts (digs (A % B))]) := by
 refine ⟨⟨_, _, Tryz.func227, rfl, by kernel_rfl⟩, fun S w vs hf hvs => ?_⟩
 obtain ⟨v, u, rfl, h1, h2⟩ := reps2 hvs
 refine (div_any A B v u w (ints_of_rep h1) (ints_of_rep h2) la hB).mono ?_
 rintro e w' ⟨x, y, rfl, h3, h4, h5⟩
 exact ⟨_, rfl, h5, (Reps.cons (rep_of_owns h3 hf) (Reps.cons (rep_of_owns h4 hf) Reps.nil)).rep_tup⟩
theorem rep_prefix {S : Nat → Nat → Prop} {w : World} {a : Option Addr} {cap k : Nat} {es : List (List D)} (h : Rep noB noM S w (.slice a es.length cap) (.sl es)) (hk : k ≤ es.length) : Rep noB noM S w (.slice a k cap) (.sl (es.take k)) := by
 obtain ⟨a', cap', e, h1, h2, h3⟩ := h.inv_sl
 simp only [Value.slice.injEq, true_and] at e
 obtain ⟨rfl, rfl⟩ := e
 have hl : (es.take k).length = k := by rw [List.length_take]; omega
 rcases h3 with rfl | ⟨b, off, kk, rfl, h4, h5⟩
 · obtain rfl : k = 0 := by simpa using hk
   exact .sl0 _ _ h1
 · have := rep_sl (β := noB) (m := noM) (S := S) (w := w) (b := b) (off := off) (k := kk) (cap := cap) (es := es.take k) ⟨fun i e he => ?_, fun i j d hd => ?_⟩ (by omega) h1
   · rw [hl] at this; exact this
   · rw [List.getElem?_take] at he
     split at he
     · exact h4 i e he
     · cases he
   · obtain ⟨e, he, hj⟩ := cellAt_some.1 hd
     rw [List.getElem?_take] at he
     split at he
     · exact h5 i j d (cellAt_some.2 ⟨e, he, hj⟩)
     · cases he
theorem ntrim_c (l : List Int) : ContractN Tryz.prog 251 [encInts l] (encInts (trimL l)) := by
 refine ⟨⟨_, _, Tryz.func251, rfl, by kernel_rfl⟩, fun S w vs hf hvs => ?_⟩
 obtain ⟨v, rfl, h1⟩ := reps1 hvs
 have h2 := ints_of_rep h1
 obtain ⟨A, ca, rfl, hla, hca⟩ := h2.shape
 refine (trim_any A ca l w h2).mono ?_
 rintro e w' ⟨rfl, rfl⟩
 refine ⟨_, rfl, Below.refl _ _, ?_⟩
 have h3 := rep_prefix (k := (trimL l).length) (es := l.map fun x => [dI x]) (by rw [List.length_map]; exact h1) (by rw [List.length_map]; exact trim_length l)
 rw [← List.map_take, ← trim_take] at h3
 exact h3
theorem nor_c (x y : Int) : ContractN Tryz.prog 232 [encInts [x, y]] (dI (orI x y)) := by
 refine ⟨⟨_, _, Tryz.func232, rfl, by kernel_rfl⟩, fun S w vs hf hvs => ?_⟩
 obtain ⟨v, rfl, h1⟩ := reps1 hvs
 refine (or_any v x y w (ints_of_rep h1)).mono ?_
 rintro e w' ⟨rfl, rfl⟩
 exact ⟨_, rfl, Below.refl _ _, .v _⟩
theorem ncompare_c (a b : List Int) (na : Norm a) (nb : Norm b) : ContractN Tryz.prog 230 [encInts a, encInts b] (dI (val a - val b).sign) := by
 refine ⟨⟨_, _, Tryz.func230, rfl, by kernel_rfl⟩, fun S w vs hf hvs => ?_⟩
 obtain ⟨v, u, rfl, h1, h2⟩ := reps2 hvs
 refine (compare_any v u a b w (ints_of_rep h1) (ints_of_rep h2) na nb).mono ?_
 rintro e w' ⟨rfl, h3⟩
 exact ⟨_, rfl, h3, .v _⟩
theorem nsigned_c (s : Int) (l : List Int) : ContractN Tryz.prog 220 [dI s, encInts l] (encB (sgnd s l)) := by
 have k1 := ntrim_c l
 have hres := Tryz.results220
 refine inN Tryz.func220 rfl Tryz.ntmps220 fun I => ?_
 by_cases h : (trimL l).length = 0
 · have h2 : trimL l = [] := List.eq_nil_of_length_eq_zero h
   rw [show sgnd s l = zB by unfold sgnd; rw [h2]; rfl]
   rw [h2] at k1
   refine aGo hres ?_
   rfl
 · have h2 : (((trimL l).length : Int) == 0) = false := by simpa using h
   rw [show sgnd s l = ⟨s, trimL l⟩ by unfold sgnd; rw [if_neg]; simpa using fun e => h (by rw [e]; rfl)]
   exact aGo (cj2 hres h2) trivial
theorem nchecked_c (x : BigD) : ContractN Tryz.prog 226 [dB true, encB x] (.tup [encB x, dI 0]) := by
 have hres := Tryz.results226
 refine inN Tryz.func226 rfl Tryz.ntmps226 fun I => ?_
 exact aGo hres trivial
abbrev encZ (a : Int) : D := encB ⟨a.sign, digs a.natAbs⟩
theorem nrightZ_c (a : Int) : ContractN Tryz.prog 185 [encZ a] (dB true) := by
 have := nright_c (ofZ a); rw [okB_ofZ] at this; exact this
theorem nsignedZ_c {s : Int} {n : Nat} {z : Int} (h : sgnd s (digs n) = ofZ z) : ContractN Tryz.prog 220 [dI s, encInts (digs n)] (encZ z) := by
 have := nsigned_c s (digs n); rw [h] at this; exact this
theorem nMul_c (a b : Int) (la : (szZ a : Int) ≤ 1099511627776) (lb : (szZ b : Int) ≤ 1099511627776) : ContractN Tryz.prog 231 [encZ a, encZ b] (.tup [encZ (a * b), dI 0]) := by
 obtain ⟨sb1, sb2⟩ := sign_mul_bounds a b
 have sbw : IntKind.i64.wrap (a.sign * b.sign) = a.sign * b.sign := wrap_in (by omega) (by omega)
 have k1 := nrightZ_c a
 have k2 := nrightZ_c b
 have k3 := ndmul_c (digs a.natAbs) (digs b.natAbs) (norm_digs _).1 (norm_digs _).1 (by unfold szZ at la; omega) (by unfold szZ at lb; omega)
 have k4 := nsignedZ_c (sgnd_mul a b)
 have k5 := nchecked_c ⟨(a * b).sign, digs (a * b).natAbs⟩
 have hres := Tryz.results231
 refine inN Tryz.func231 rfl Tryz.ntmps231 fun I => ?_
 exact aGo (cj2 hres sbw) trivial
theorem nNeg_c (a : Int) (la : (szZ a : Int) ≤ 4398046511104) : ContractN Tryz.prog 177 [encZ a] (encZ (-a)) := by
 obtain ⟨sb1, sb2⟩ := sign_bounds a
 have sbw : IntKind.i64.wrap (0 - a.sign) = -a.sign := by rw [wrap_in (by omega) (by omega)]; omega
 have k1 := nrightZ_c a
 have k3 := nclone_c (digs a.natAbs) (by unfold szZ at la; omega)
 have k4 := nsignedZ_c (sgnd_neg a)
 have hres := Tryz.results177
 refine inN Tryz.func177 rfl Tryz.ntmps177 fun I => ?_
 exact aGo (cj2 hres sbw) trivial
theorem nAdd_c (a b : Int) (la : (szZ a : Int) ≤ 4398046511104) (lb : (szZ b : Int) ≤ 4398046511104) : ContractN Tryz.prog 191 [encZ a, encZ b] (.tup [encZ (a + b), dI 0]) := by
 obtain ⟨sb1, sb2⟩ := sign_mul_bounds a b
 have sbw : IntKind.i64.wrap (a.sign * b.sign) = a.sign * b.sign := wrap_in (by omega) (by omega)
 have k1 := nrightZ_c a
 have k2 := nrightZ_c b
 have k3 := nor_c a.sign b.sign
 have k5 := nchecked_c ⟨(a + b).sign, digs (a + b).natAbs⟩
 have k6 := ncompare_c (digs a.natAbs) (digs b.natAbs) (norm_digs _) (norm_digs _)
 rw [val_digs, val_digs] at k6
 have hres := Tryz.results191
 refine inN Tryz.func191 rfl Tryz.ntmps191 fun I => ?_
 by_cases h : 0 ≤ a.sign * b.sign
 · have k7 := ndadd_c (digs a.natAbs) (digs b.natAbs) (norm_digs _).1 (norm_digs _).1 (by unfold szZ at la; omega) (by unfold szZ at lb; omega)
   rw [val_digs, val_digs] at k7
   have k8 := nsignedZ_c (sgnd_add h)
   have h' : a.sign * b.sign ≥ 0 := h
   exact aGo (cj3 hres sbw h') trivial
 · have h' : ¬ a.sign * b.sign ≥ 0 := h
   by_cases hlt : (a.natAbs : Int) < b.natAbs
   · have k7 := ndsub_c (digs b.natAbs) (digs a.natAbs) (norm_digs _).1 (norm_digs _).1 (digs_le (by omega)) (by rw [val_digs, val_digs]; omega) (by unfold szZ at lb; omega)
     rw [val_digs, val_digs, show ((b.natAbs : Int) - a.natAbs).toNat = b.natAbs - a.natAbs by omega] at k7
     have k8 := nsignedZ_c (sgnd_sub1 h hlt)
     have h2 : ((a.natAbs : Int) - b.natAbs).sign < 0 := by rw [Int.sign_eq_neg_one_of_neg (by omega)]; decide
     exact aGo (cj4 hres sbw h' h2) trivial
   · have k7 := ndsub_c (digs a.natAbs) (digs b.natAbs) (norm_digs _).1 (norm_digs _).1 (digs_le (by omega)) (by rw [val_digs, val_digs]; omega) (by unfold szZ at la; omega)
     rw [val_digs, val_digs, show ((a.natAbs : Int) - b.natAbs).toNat = a.natAbs - b.natAbs by omega] at k7
     have k8 := nsignedZ_c (sgnd_sub2 h hlt)
     have h2 : ¬ ((a.natAbs : Int) - b.natAbs).sign < 0 := by have := Int.sign_nonneg_iff.2 (show (0 : Int) ≤ (a.natAbs : Int) - b.natAbs by omega); omega
     exact aGo (cj4 hres sbw h' h2) trivial
theorem nGcd_c (a b : Int) (la : (szZ a : Int) ≤ 2199023255552) (lb : (szZ b : Int) ≤ 2199023255552) : ContractN Tryz.prog 186 [encZ a, encZ b] (.tup [encZ (Nat.gcd a.natAbs b.natAbs : Nat), dI 0]) := by
 have k1 := nrightZ_c a
 have k2 := nrightZ_c b
 have k3 := nclone_c (digs a.natAbs) (by unfold szZ at la; omega)
 have hres := Tryz.results186
 refine inN Tryz.func186 rfl Tryz.ntmps186 fun I => ?_
 refine aGo hres ?_
 repeat with_reducible intro K hK
 refine aLoopT (fun (p : Nat × Nat) => [(4, .lp 2 0 0 0), (6, encInts (digs p.1)), (7, encInts (digs p.2))]) (fun _ => [(2, ⟨30, 0, 2, [[dI 0, .nil]], 0, false⟩)]) 3 0 (fun p => Nat.gcd p.1 p.2 = Nat.gcd a.natAbs b.natAbs ∧ ((digs p.1).length : Int) ≤ 2199023255552 ∧ ((digs p.2).length : Int) ≤ 2199023255552) (fun p => p.2) (a.natAbs, b.natAbs) ⟨rfl, la, lb⟩ ?_ ?_
 · exact leGo hres
 · rintro ⟨X, Y⟩ ⟨hg, hX, hY⟩
   simp only at hg hX hY ⊢
   by_cases h : Y = 0
   · subst h
     rw [digs_zero, Nat.gcd_zero_right] at *
     subst hg
     have c3 := nclone_c (digs (Nat.gcd a.natAbs b.natAbs)) (by omega)
     have c4 := nsignedZ_c (sgnd_one (Nat.gcd a.natAbs b.natAbs))
     have c5 := nchecked_c ⟨((Nat.gcd a.natAbs b.natAbs : Nat) : Int).sign, digs ((Nat.gcd a.natAbs b.natAbs : Nat) : Int).natAbs⟩
     exact aGo hres trivial
   · have h1 : ((digs Y).length : Int) > 0 := by
       have : digs Y ≠ [] := fun e => h (digs_nil_iff.1 e)
       have := List.length_pos_iff.2 this
       omega
     have c3 := nddiv_c X Y hX (by omega)
     refine aGo (cj2 hres h1) ?_
     repeat with_reducible intro K hK
     refine loop_end (Y, X % Y) ⟨?_, hY, ?_⟩ ?_ ?_
     · rw [← hg, Nat.gcd_comm Y, ← Nat.gcd_rec, Nat.gcd_comm]
     · have := digs_le (Nat.le_of_lt (Nat.mod_lt X (by omega : Y > 0)))
       show ((digs (X % Y)).length : Int) ≤ _
       omega
     · exact Nat.mod_lt X (by omega)
     · exact leGo hres
theorem nDiv_c (a b c : Int) (hb : 0 < b) (hac : a = b * c) (la : (szZ a : Int) ≤ 2199023255552) : ContractN Tryz.prog 235 [encZ a, encZ b] (.tup [encZ c, encB zB, dI 0]) := by
 obtain ⟨sb1, sb2⟩ := sign_mul_bounds a b
 have sbw : IntKind.i64.wrap (a.sign * b.sign) = a.sign * b.sign := wrap_in (by omega) (by omega)
 have k1 := nrightZ_c a
 have k2 := nrightZ_c b
 have hb1 : (b.sign == 0) = false := by rw [Int.sign_eq_one_of_pos hb]; rfl
 have k3 := nddiv_c a.natAbs b.natAbs la (by omega)
 have hm : a.natAbs % b.natAbs = 0 := by rw [hac, Int.natAbs_mul]; exact Nat.mul_mod_right _ _
 rw [hm, digs_zero] at k3
 have k4 := nsignedZ_c (sgnd_div hb hac)
 have k5 := nsigned_c a.sign []
 rw [show sgnd a.sign [] = zB by rw [← digs_zero]; exact sgnd_nil _] at k5
 have hres := Tryz.results235
 refine inN Tryz.func235 rfl Tryz.ntmps235 fun I => ?_
 by_cases h : a.sign * b.sign < 0
 · exact aGo (cj4 hres sbw hb1 h) trivial
 · exact aGo (cj4 hres sbw hb1 h) trivial
theorem none_c (n : Nat) : ContractN Tryz.prog 187 [encZ n] (dB (decide ((n : Int) = 1))) :=
 cb1_val ⟨_, _, Tryz.func187, rfl, by kernel_rfl⟩ fun w v h => one_ok n (by omega) v w h
theorem nrightPQ_c (P Q : Int) (zP : (szZ P : Int) ≤ 549755813888) (zQ : (szZ Q : Int) ≤ 549755813888) : ContractN Tryz.prog 100 [.agg [dI P.sign, encInts (digs P.natAbs), dI Q.sign, encInts (digs Q.natAbs)]] (dB (okF ⟨ofZ P, ofZ Q⟩)) := by
 have k1 := nrightZ_c P
 have k2 := nrightZ_c Q
 have k3 := nGcd_c P Q (by omega) (by omega)
 have k4 := none_c (Nat.gcd P.natAbs Q.natAbs)
 rw [okF_parts]
 have hres := Tryz.results100
 refine inN Tryz.func100 rfl Tryz.ntmps100 fun I => ?_
 by_cases hs : Q.sign = 1
 · have hs1 : (Q.sign != 1) = false := by simp [hs]
   rw [show ((ofZ Q).s == 1) = true by simpa [ofZ] using hs, Bool.true_and]
   exact aGo (cj2 hres hs1) trivial
 · have hs1 : (Q.sign != 1) = true := by simp [hs]
   rw [show ((ofZ Q).s == 1) = false by simpa [ofZ] using hs, Bool.false_and]
   exact aGo (cj2 hres hs1) trivial
theorem fright_c (a : FracD) (za : (szF a : Int) ≤ 549755813888) : ContractN Tryz.prog 100 [encF a] (dB (okF a)) := by
 obtain ⟨p, q⟩ := a
 have k1 := nright_c p
 have k2 := nright_c q
 cases hp : okB p
 · rw [hp] at k1
   rw [show okF ⟨p, q⟩ = false by unfold okF; rw [hp]; rfl]
   have hres := Tryz.results100
   refine inN Tryz.func100 rfl Tryz.ntmps100 fun I => ?_
   exact aGo hres trivial
 cases hq : okB q
 · rw [hp] at k1
   rw [hq] at k2
   rw [show okF ⟨p, q⟩ = false by unfold okF; rw [hp, hq]; rfl]
   have hres := Tryz.results100
   refine inN Tryz.func100 rfl Tryz.ntmps100 fun I => ?_
   exact aGo hres trivial
 obtain ⟨P, rfl⟩ := okB_iff.1 hp
 obtain ⟨Q, rfl⟩ := okB_iff.1 hq
 unfold szF at za
 simp only [szB_ofZ] at za
 exact nrightPQ_c P Q (by omega) (by omega)
theorem fsign_c (a : FracD) (za : (szF a : Int) ≤ 549755813888) : ContractN Tryz.prog 101 [encF a] (dI (sgnD a)) := by
 have k1 := fright_c a za
 have hres := Tryz.results101
 refine inN Tryz.func101 rfl Tryz.ntmps101 fun I => ?_
 cases ha : okF a
 · rw [ha] at k1
   rw [show sgnD a = 0 by simp [sgnD, ha]]
   exact aGo hres trivial
 · rw [ha] at k1
   rw [show sgnD a = a.p.s by obtain ⟨r, rfl⟩ := okF_iff.1 ha; rw [sgnD_ofQ]; rfl]
   exact aGo hres trivial
theorem nequalB (a b : List Int) (la : (a.length : Int) ≤ 9223372036854775807) : ContractN Tryz.prog 221 [encInts a, encInts b] (dB (a == b)) := by
 have hres := Tryz.results221
 refine inN Tryz.func221 rfl Tryz.ntmps221 fun I => ?_
 by_cases hl : a.length = b.length
 rotate_left
 · have h0 : ((a.length : Int) != b.length) = true := by simp; omega
   refine aGo (cj2 hres h0) ?_
   exact bool_eq (by symm; simp; intro e; rw [e] at hl; exact hl rfl)
 have h0 : ((a.length : Int) != b.length) = false := by simp; omega
 refine aGo (cj2 hres h0) ?_
 repeat with_reducible intro K hK
 refine aLoopT (fun (k : Nat) => [(0, encInts a), (1, encInts b), (11, encInts a), (12, dI a.length), (13, dI k)]) (fun _ => []) 0 0 (fun k => k ≤ a.length ∧ a.take k = b.take k) (fun k => a.length - k) 0 ⟨by omega, rfl⟩ ?_ ?_
 · exact leGo hres
 rintro k ⟨hk, hd⟩
 have i0 : (0 : Int) ≤ k := by omega
 by_cases h1 : (k : Int) < a.length
 · have h2 : (k : Int) < b.length := by omega
   have hw := wrap1 k
   obtain ⟨x, hx⟩ := getE (l := a) (k := k) (by omega)
   obtain ⟨y, hy⟩ := getE (l := b) (k := k) (by omega)
   by_cases h3 : x = y
   · have h4 : (x != y) = false := by simp [h3]
     refine aGo (cj4 hres i0 h1 (cj4 h2 hx hy (cj2 hw h4))) ?_
     repeat with_reducible intro K hK
     exact loop_end (k + 1) ⟨by omega, take_eq_snoc hd hx hy h3⟩ (by omega) (leGo hres)
   · have h4 : (x != y) = true := by simp [h3]
     refine aGo (cj4 hres i0 h1 (cj4 h2 hx hy (cj2 hw h4))) ?_
     exact bool_eq (by symm; simp; intro e; rw [e, hy] at hx; exact h3 (by simpa using hx.symm))
 · obtain rfl : k = a.length := by omega
   refine aGo (cj2 hres h1) ?_
   rw [List.take_length, hl, List.take_length] at hd
   exact bool_eq (by simp [hd])
theorem nequal_c (a b : List Int) : ContractN Tryz.prog 221 [encInts a, encInts b] (dB (a == b)) := by
 refine ⟨⟨_, _, Tryz.func221, rfl, by kernel_rfl⟩, fun S w vs hf hvs => ?_⟩
 obtain ⟨v, u, rfl, h1, h2⟩ := reps2 hvs
 obtain ⟨A, ca, e, hla, hca⟩ := (ints_of_rep h1).shape
 unfold maxLen at hca
 exact (nequalB a b (by omega)).2 S w _ hf hvs
theorem nsame_c (a b : BigD) : ContractN Tryz.prog 176 [encB a, encB b] (dB (sameB a b)) := by
 have k1 := nequal_c a.d b.d
 have hres := Tryz.results176
 refine inN Tryz.func176 rfl Tryz.ntmps176 fun I => ?_
 have e : sameB a b = (a.s == b.s && (a.d == b.d)) := by unfold sameB; congr 1; rw [Bool.eq_iff_iff]; simp
 rw [e]
 cases h : a.s == b.s
 · exact aGo (cj2 hres h) trivial
 · exact aGo (cj2 hres h) trivial
theorem fsame_c (a b : FracD) : ContractN Tryz.prog 82 [encF a, encF b] (dB (sameF a b)) := by
 obtain ⟨p, q⟩ := a
 obtain ⟨r, t⟩ := b
 have k1 := nsame_c p r
 have k2 := nsame_c q t
 have hres := Tryz.results82
 refine inN Tryz.func82 rfl Tryz.ntmps82 fun I => ?_
 unfold sameF
 cases h : sameB p r
 · rw [h] at k1
   exact aGo hres trivial
 · rw [h] at k1
   exact aGo hres trivial
abbrev cZ (a : Int) : List D := [dI a.sign, encInts (digs a.natAbs)]
abbrev encQ (r : Rat) : D := .agg [dI r.num.sign, encInts (digs r.num.natAbs), dI (r.den : Int).sign, encInts (digs (r.den : Int).natAbs)]
theorem nfrightQ_c (a : Rat) (za : (szQ a : Int) ≤ 549755813888) : ContractN Tryz.prog 100 [encQ a] (dB true) := by
 have := fright_c (ofQ a) (by rw [szQ_ofQ]; exact za); rw [okF_ofQ] at this; exact this
theorem nNew_pos (p q : Int) (hq : 0 < q) (la : (szZ p : Int) ≤ 2199023255552) (lb : (szZ q : Int) ≤ 2199023255552) : ContractN Tryz.prog 192 [encZ p, encZ q] (.tup [encF (ofQ (Rat.divInt p q)), dI 0]) := by
 obtain ⟨c, f, hpc, hqf, hof, hg0⟩ := divInt_parts (p := p) hq
 have hlg := szZ_gcd (p := p) (q := q)
 have k1 := nrightZ_c p
 have k2 := nrightZ_c q
 have k3 := nGcd_c p q la lb
 have k4 := nDiv_c p (Nat.gcd p.natAbs q.natAbs : Nat) c hg0 hpc la
 have k5 := nDiv_c q (Nat.gcd p.natAbs q.natAbs : Nat) f hg0 hqf lb
 rw [hof]
 generalize Nat.gcd p.natAbs q.natAbs = G at *
 have hs : (q.sign == 0) = false := by rw [Int.sign_eq_one_of_pos hq]; rfl
 have hs2 : ¬ q.sign < 0 := by rw [Int.sign_eq_one_of_pos hq]; decide
 have hres := Tryz.results192
 refine inN Tryz.func192 rfl Tryz.ntmps192 fun I => ?_
 refine aGo (cj3 hres hs hs2) ?_
 rfl
theorem nNew_neg (p q : Int) (hq : q < 0) (la : (szZ p : Int) ≤ 2199023255552) (lb : (szZ q : Int) ≤ 2199023255552) : ContractN Tryz.prog 192 [encZ p, encZ q] (.tup [encF (ofQ (Rat.divInt p q)), dI 0]) := by
 have hof0 : Rat.divInt p q = Rat.divInt (-p) (-q) := (Rat.neg_divInt_neg p q).symm
 have lp : szZ (-p) = szZ p := by unfold szZ; rw [Int.natAbs_neg]
 have lq : szZ (-q) = szZ q := by unfold szZ; rw [Int.natAbs_neg]
 have m1 := nNeg_c p (by omega)
 have m2 := nNeg_c q (by omega)
 rw [hof0]
 have k1 := nrightZ_c p
 have k2 := nrightZ_c q
 have hs : (q.sign == 0) = false := by rw [Int.sign_eq_neg_one_of_neg hq]; rfl
 have hs2 : q.sign < 0 := by rw [Int.sign_eq_neg_one_of_neg hq]; decide
 have hq' : 0 < -q := by omega
 generalize hp1 : -p = p1 at *
 generalize hq1 : -q = q1 at *
 obtain ⟨c, f, hpc, hqf, hof, hg0⟩ := divInt_parts (p := p1) hq'
 have hlg := szZ_gcd (p := p1) (q := q1)
 have k3 := nGcd_c p1 q1 (by omega) (by omega)
 have k4 := nDiv_c p1 (Nat.gcd p1.natAbs q1.natAbs : Nat) c hg0 hpc (by omega)
 have k5 := nDiv_c q1 (Nat.gcd p1.natAbs q1.natAbs : Nat) f hg0 hqf (by omega)
 rw [hof]
 generalize Nat.gcd p1.natAbs q1.natAbs = G at *
 have hres := Tryz.results192
 refine inN Tryz.func192 rfl Tryz.ntmps192 fun I => ?_
 refine aGo (cj3 hres hs hs2) ?_
 rfl
theorem nNew_c (p q : Int) (hq : q ≠ 0) (la : (szZ p : Int) ≤ 2199023255552) (lb : (szZ q : Int) ≤ 2199023255552) : ContractN Tryz.prog 192 [encZ p, encZ q] (.tup [encF (ofQ (Rat.divInt p q)), dI 0]) := by
 rcases Int.lt_or_gt_of_ne hq with h | h
 · exact nNew_neg p q h la lb
 · exact nNew_pos p q h la lb
theorem nTimes_c (a b : Int) (la : (szZ a : Int) ≤ 1099511627776) (lb : (szZ b : Int) ≤ 1099511627776) : ContractN Tryz.prog 189 [encZ a, encZ b] (encZ (a * b)) := by
 have k1 := nMul_c a b la lb
 have hres := Tryz.results189
 refine inN Tryz.func189 rfl Tryz.ntmps189 fun I => ?_
 exact aGo hres trivial
theorem nSlim_c (a : Int) (la : (szZ a : Int) ≤ 4398046511104) : ContractN Tryz.prog 178 [encZ a] (encZ a) := by
 have lp : szZ (-a) = szZ a := by unfold szZ; rw [Int.natAbs_neg]
 have k1 := nNeg_c a la
 have k2 := nNeg_c (-a) (by omega)
 rw [Int.neg_neg] at k2
 have hres := Tryz.results178
 refine inN Tryz.func178 rfl Tryz.ntmps178 fun I => ?_
 exact aGo hres trivial
theorem nfMul_c (a b : Rat) (za : (szQ a : Int) ≤ 549755813888) (zb : (szQ b : Int) ≤ 549755813888) : ContractN Tryz.prog 112 [encQ a, encQ b] (.tup [encF (ofQ (a * b)), dI 0]) := by
 have zpa := szQ_parts a
 have zpb := szQ_parts b
 have k1 := nfrightQ_c a za
 have k2 := nfrightQ_c b zb
 have m1 := szZ_mul a.num b.num
 have m2 := szZ_mul (a.den : Int) b.den
 have k3 := nTimes_c a.num b.num (by omega) (by omega)
 have k4 := nTimes_c a.den b.den (by omega) (by omega)
 have k5 := nNew_c (a.num * b.num) (a.den * b.den) (Int.mul_ne_zero (den_ne a) (den_ne b)) (by omega) (by omega)
 rw [← mul_divInt] at k5
 have hres := Tryz.results112
 refine inN Tryz.func112 rfl Tryz.ntmps112 fun I => ?_
 exact aGo hres trivial
theorem nfAdd_c (a b : Rat) (za : (szQ a : Int) ≤ 549755813888) (zb : (szQ b : Int) ≤ 549755813888) : ContractN Tryz.prog 109 [encQ a, encQ b] (.tup [encF (ofQ (a + b)), dI 0]) := by
 have zpa := szQ_parts a
 have zpb := szQ_parts b
 have k1 := nfrightQ_c a za
 have k2 := nfrightQ_c b zb
 have m1 := szZ_mul a.num b.den
 have m2 := szZ_mul b.num a.den
 have m3 := szZ_mul (a.den : Int) b.den
 have m4 := szZ_add (a.num * b.den) (b.num * a.den)
 have k3 := nTimes_c a.num b.den (by omega) (by omega)
 have k4 := nTimes_c b.num a.den (by omega) (by omega)
 have k6 := nTimes_c a.den b.den (by omega) (by omega)
 have k7 := nAdd_c (a.num * b.den) (b.num * a.den) (by omega) (by omega)
 have k5 := nNew_c (a.num * b.den + b.num * a.den) (a.den * b.den) (Int.mul_ne_zero (den_ne a) (den_ne b)) (by omega) (by omega)
 rw [← add_divInt] at k5
 have hres := Tryz.results109
 refine inN Tryz.func109 rfl Tryz.ntmps109 fun I => ?_
 exact aGo hres trivial
theorem nfSub_c (a b : Rat) (za : (szQ a : Int) ≤ 549755813888) (zb : (szQ b : Int) ≤ 549755813888) : ContractN Tryz.prog 107 [encQ a, encQ b] (.tup [encF (ofQ (a - b)), dI 0]) := by
 have zpa := szQ_parts a
 have zpb := szQ_parts b
 have k1 := nfrightQ_c a (by omega)
 have k2 := nfrightQ_c b (by omega)
 have k3 := nNeg_c b.num (by omega)
 have e : szQ (-b) = szQ b := szQ_neg b
 have k4 := nfAdd_c a (-b) (by omega) (by omega)
 rw [show a + -b = a - b from (Rat.sub_eq_add_neg a b).symm] at k4
 unfold encQ at k4
 rw [Rat.neg_num, Rat.neg_den] at k4
 have hres := Tryz.results107
 refine inN Tryz.func107 rfl Tryz.ntmps107 fun I => ?_
 exact aGo hres trivial
theorem nfDiv_c (a b : Rat) (hb : b ≠ 0) (za : (szQ a : Int) ≤ 549755813888) (zb : (szQ b : Int) ≤ 549755813888) : ContractN Tryz.prog 244 [encQ a, encQ b] (.tup [encF (ofQ (a / b)), dI 0]) := by
 have zpa := szQ_parts a
 have zpb := szQ_parts b
 have k1 := nfrightQ_c a za
 have k2 := nfrightQ_c b zb
 have hn : b.num ≠ 0 := fun e => hb (Rat.num_eq_zero.1 e)
 have hs : (b.num.sign == 0) = false := by
  cases h : b.num.sign == 0
  · rfl
  · exact absurd (Int.sign_eq_zero_iff_zero.1 (by simpa using h)) hn
 have m1 := szZ_mul a.num b.den
 have m2 := szZ_mul (a.den : Int) b.num
 have k3 := nTimes_c a.num b.den (by omega) (by omega)
 have k4 := nTimes_c a.den b.num (by omega) (by omega)
 have k5 := nNew_c (a.num * b.den) (a.den * b.num) (Int.mul_ne_zero (den_ne a) hn) (by omega) (by omega)
 rw [← div_divInt] at k5
 have hres := Tryz.results244
 refine inN Tryz.func244 rfl Tryz.ntmps244 fun I => ?_
 exact aGo (cj2 hres hs) trivial
theorem nfNeg_c (a : Rat) (za : (szQ a : Int) ≤ 549755813888) : ContractN Tryz.prog 87 [encQ a] (encF (ofQ (-a))) := by
 have zpa := szQ_parts a
 have k1 := nfrightQ_c a za
 have k3 := nNeg_c a.num (by omega)
 have k4 := nSlim_c a.den (by omega)
 have e : encF (ofQ (-a)) = .agg [dI (-a.num).sign, encInts (digs (-a.num).natAbs), dI (a.den : Int).sign, encInts (digs (a.den : Int).natAbs)] := by
  show encQ (-a) = _
  unfold encQ; rw [Rat.neg_num, Rat.neg_den]
 rw [e]
 have hres := Tryz.results87
 refine inN Tryz.func87 rfl Tryz.ntmps87 fun I => ?_
 exact aGo hres trivial
theorem u64_in {n : Int} (h0 : 0 ≤ n) (h1 : n < 18446744073709551616) : IntKind.u64.wrap n = n := by
 simp only [IntKind.wrap, IntKind.bits, IntKind.signed]
 simp; omega
theorem nOfS_c (n : Nat) (g : Int) (hg : g = 1 ∨ (g = -1 ∧ 0 < n)) (h : (n : Int) ≤ 9223372036854775808) (h1 : g = 1 → (n : Int) ≤ 9223372036854775807) : ContractN Tryz.prog 174 [dI (g * n)] (encZ (g * n)) := by
 have h5 : (digs n).length ≤ 4 := length_digs_le (by simp only [bp]; omega)
 have k4 := nsignedZ_c (sgnd_digs (s := g) (n := n) (g * n) rfl (by rcases hg with h | h; exact .inl h; exact .inr (.inl h.1)))
 have hres := Tryz.results174
 refine inN Tryz.func174 rfl Tryz.ntmps174 fun I => ?_
 by_cases c2 : g * (n : Int) < 0
 rotate_left
 have eg : g = 1 := by rcases hg with rfl | ⟨rfl, h⟩ <;> omega
 have hu : IntKind.u64.wrap (g * (n : Int)) = n := by rw [u64_in (by omega) (by subst eg; omega)]; subst eg; omega
 refine aGo (cj3 hres c2 hu) ?_
 rotate_left
 have eg : g = -1 := by rcases hg with rfl | h <;> omega
 have hu : IntKind.u64.wrap (g * (n : Int)) = 18446744073709551616 - n := by subst eg; simp only [IntKind.wrap, IntKind.bits, IntKind.signed]; simp; omega
 have hu2 : IntKind.u64.wrap (0 - (18446744073709551616 - (n : Int))) = n := by simp only [IntKind.wrap, IntKind.bits, IntKind.signed]; simp; omega
 refine aGo (cj4 hres c2 hu hu2) ?_
 all_goals
  repeat with_reducible intro K hK
  refine aLe (le_row 5 3 1 rfl) ?_
  refine aLoopT (fun (p : Nat × List Int × Nat) => [(2, .lp 0 0 0 0), (3, dI g), (4, .v (.int .u64 p.1)), (5, .ls 1 p.2.2)]) (fun p => [(0, ⟨30, 0, 2, [[dI 0, .nil]], 0, false⟩), (1, ⟨3, p.2.2, 1, p.2.1.map (fun x => [dI x]), 0, false⟩)]) 2 0 (fun p => p.2.1 ++ digs p.1 = digs n ∧ p.1 ≤ n ∧ p.2.1.length + (digs p.1).length ≤ 4) (fun p => p.1) (n, [], 0) ⟨rfl, Nat.le_refl _, by simpa using h5⟩ ?_ ?_
  · exact leGo (cj2 hres eg)
  rintro ⟨k, l, ver⟩ ⟨hl, hk, h4⟩
  simp only at hl hk h4 ⊢
  have j1 : (l.map fun x => [dI x]).map (List.map datJ) = l.map fun x => [dI x] := by rw [List.map_map]; exact List.map_congr_left fun x _ => rfl
  by_cases h0 : k = 0
  · subst h0
    rw [digs_zero, List.append_nil] at hl
    subst hl
    have hc : ¬ ((0 : Nat) : Int) > 0 := by decide
    exact aGo (cj3 hres hc j1) trivial
  · have hc : (k : Int) > 0 := by omega
    have hd := digs_pos h0
    have ha : IntKind.u64.wrap ((BitVec.ofInt IntKind.u64.bits (k : Int) &&& BitVec.ofInt IntKind.u64.bits 1048575).toNat : Nat) = ((k % 1048576 : Nat) : Int) := (and_mask_u k).trans (by omega)
    have hcv : IntKind.i64.wrap ((k % 1048576 : Nat) : Int) = ((k % 1048576 : Nat) : Int) := wrap_in (by omega) (by omega)
    have hsh : (k : Int).fdiv (2 ^ min 20 IntKind.u64.bits) = ((k / 1048576 : Nat) : Int) := by
     show (k : Int).fdiv 1048576 = _
     rw [Int.fdiv_eq_ediv_of_nonneg _ (by decide)]; omega
    have h20 : (0 : Int) ≤ 20 := by decide
    refine aGo (cj4 hres hc ha (cj4 hcv hsh h20 trivial)) ?_
    repeat with_reducible intro K hK
    refine loop_end (k / 1048576, l ++ [((k % 1048576 : Nat) : Int)], ver + 1) ⟨?_, ?_, ?_⟩ (Nat.div_lt_self (by omega) (by decide)) ?_
    · rw [← hl, hd, List.append_assoc]; rfl
    · have := Nat.div_le_self k 1048576
      show k / 1048576 ≤ n
      omega
    · rw [hd] at h4
      simp only [List.length_append, List.length_cons, List.length_nil] at h4 ⊢
      omega
    · have ha2 := (congrArg IntKind.i64.wrap ha).trans hcv
      simp [IntKind.bits] at ha2
      refine le_head _ _ _ ?_ ?_ ?_ ?_ ?_ (.inl rfl) <;> simp [go_sem, okD, okDs, okBlk]
      · rw [Int.fdiv_eq_ediv_of_nonneg _ (by decide)]
      · exact ha2
      · intro _ h; rcases h with ⟨_, _, rfl⟩ | rfl <;> simp [okD, okDs]
theorem nOf_c (n : Int) (h1 : -9223372036854775808 ≤ n) (h2 : n ≤ 9223372036854775807) : ContractN Tryz.prog 174 [dI n] (encZ n) := by
 by_cases h : n < 0
 · have := nOfS_c n.natAbs (-1) (.inr ⟨rfl, by omega⟩) (by omega) (by omega)
   rwa [show -1 * (n.natAbs : Int) = n by omega] at this
 · have := nOfS_c n.natAbs 1 (.inl rfl) (by omega) (by omega)
   rwa [show 1 * (n.natAbs : Int) = n by omega] at this
theorem nInt_c (n : Int) (h1 : -9223372036854775808 ≤ n) (h2 : n ≤ 9223372036854775807) : ContractN Tryz.prog 80 [dI n] (encF (ofQ (n : Rat))) := by
 have k1 := nOf_c n h1 h2
 have k2 := nOf_c 1 (by decide) (by decide)
 rw [ofQ_int]
 have hres := Tryz.results80
 refine inN Tryz.func80 rfl Tryz.ntmps80 fun I => ?_
 refine aGo hres ?_
 rfl
theorem qzero_eq (n : Nat) (r : Rat) (h : ((n : Int) : Rat) = r) (hn : (n : Int) ≤ 9223372036854775807) : ContractN Tryz.prog 80 [dI n] (encF (ofQ r)) := h ▸ nInt_c n (by omega) hn
theorem nZ_c : ContractN Tryz.prog 80 [dI 0] (encF (ofQ 0)) := qzero_eq 0 0 rfl (by decide)
theorem nO_c : ContractN Tryz.prog 80 [dI 1] (encF (ofQ 1)) := qzero_eq 1 1 rfl (by decide)
theorem nmul_c (a b : Rat) (za : (szQ a : Int) ≤ 549755813888) (zb : (szQ b : Int) ≤ 549755813888) : ContractN Tryz.prog 112 [encF (ofQ a), encF (ofQ b)] (.tup [encF (ofQ (a * b)), dI 0]) := nfMul_c a b za zb
theorem nadd_c (a b : Rat) (za : (szQ a : Int) ≤ 549755813888) (zb : (szQ b : Int) ≤ 549755813888) : ContractN Tryz.prog 109 [encF (ofQ a), encF (ofQ b)] (.tup [encF (ofQ (a + b)), dI 0]) := nfAdd_c a b za zb
theorem nsub_c (a b : Rat) (za : (szQ a : Int) ≤ 549755813888) (zb : (szQ b : Int) ≤ 549755813888) : ContractN Tryz.prog 107 [encF (ofQ a), encF (ofQ b)] (.tup [encF (ofQ (a - b)), dI 0]) := nfSub_c a b za zb
theorem ndiv_c (a b : Rat) (hb : b ≠ 0) (za : (szQ a : Int) ≤ 549755813888) (zb : (szQ b : Int) ≤ 549755813888) : ContractN Tryz.prog 244 [encF (ofQ a), encF (ofQ b)] (.tup [encF (ofQ (a / b)), dI 0]) := nfDiv_c a b hb za zb
theorem nneg_c (a : Rat) (za : (szQ a : Int) ≤ 549755813888) : ContractN Tryz.prog 87 [encF (ofQ a)] (encF (ofQ (-a))) := nfNeg_c a za
theorem sgn_zero (b : Rat) : ((ofQ b).p.s == 0) = decide (b = 0) := by
 rw [Bool.eq_iff_iff, sign_num_iff, decide_eq_true_eq]
theorem szero_c (b : Rat) : ContractN Tryz.prog 211 [encF (ofQ b)] (dB (decide (b = 0))) := by
 rw [← sgn_zero]
 have hres := Tryz.results211
 refine inN Tryz.func211 rfl Tryz.ntmps211 fun I => ?_
 exact aGo hres trivial
theorem sover_c (a b : Rat) (hb : b ≠ 0) (za : (szQ a : Int) ≤ 549755813888) (zb : (szQ b : Int) ≤ 549755813888) : ContractN Tryz.prog 210 [encF (ofQ a), encF (ofQ b)] (encF (ofQ (a / b))) := by
 have k1 := ndiv_c a b hb za zb
 have hres := Tryz.results210
 refine inN Tryz.func210 rfl Tryz.ntmps210 fun I => ?_
 exact aGo hres trivial
theorem sless_c (a b c : Rat) (za : (szQ a : Int) ≤ 137438953472) (zb : (szQ b : Int) ≤ 137438953472) (zc : (szQ c : Int) ≤ 137438953472) : ContractN Tryz.prog 212 [encF (ofQ a), encF (ofQ b), encF (ofQ c)] (encF (ofQ (a - b * c))) := by
 have z1 := szQ_mul b c
 have k1 := szero_c b
 have k2 := szero_c c
 have k3 := nmul_c b c (by omega) (by omega)
 have k4 := nsub_c a (b * c) (by omega) (by omega)
 have hres := Tryz.results212
 refine inN Tryz.func212 rfl Tryz.ntmps212 fun I => ?_
 by_cases h1 : b = 0
 · rw [decide_eq_true h1] at k1
   subst h1
   rw [show a - 0 * c = a by grind]
   exact aGo hres trivial
 · rw [decide_eq_false h1] at k1
   by_cases h2 : c = 0
   · rw [decide_eq_true h2] at k2
     subst h2
     rw [show a - b * 0 = a by grind]
     exact aGo hres trivial
   · rw [decide_eq_false h2] at k2
     exact aGo hres trivial
theorem fmul_c (a b : FracD) (za : (szF a : Int) ≤ 549755813888) (zb : (szF b : Int) ≤ 549755813888) : Contract Tryz.prog 112 [encF a, encF b] (.tup [encF (mulD a b).1, dI (mulD a b).2]) := by
 have k1 := fright_c a za
 have k2 := fright_c b zb
 cases ha : okF a
 · rw [ha] at k1
   rw [show mulD a b = (zF, 1) by simp [mulD, ha]]
   have hres := Tryz.results112
   refine inC Tryz.func112 rfl Tryz.ntmps112 ?_
   refine aGo hres ?_
   rfl
 cases hb : okF b
 · rw [ha] at k1
   rw [hb] at k2
   rw [show mulD a b = (zF, 1) by simp [mulD, hb]]
   have hres := Tryz.results112
   refine inC Tryz.func112 rfl Tryz.ntmps112 ?_
   refine aGo hres ?_
   rfl
 obtain ⟨r, rfl⟩ := okF_iff.1 ha
 obtain ⟨t, rfl⟩ := okF_iff.1 hb
 rw [mulD_ofQ]
 exact (nmul_c r t za zb).all
theorem fadd_c (a b : FracD) (za : (szF a : Int) ≤ 549755813888) (zb : (szF b : Int) ≤ 549755813888) : Contract Tryz.prog 109 [encF a, encF b] (.tup [encF (addD a b).1, dI (addD a b).2]) := by
 have k1 := fright_c a za
 have k2 := fright_c b zb
 cases ha : okF a
 · rw [ha] at k1
   rw [show addD a b = (zF, 1) by simp [addD, ha]]
   have hres := Tryz.results109
   refine inC Tryz.func109 rfl Tryz.ntmps109 ?_
   refine aGo hres ?_
   rfl
 cases hb : okF b
 · rw [ha] at k1
   rw [hb] at k2
   rw [show addD a b = (zF, 1) by simp [addD, hb]]
   have hres := Tryz.results109
   refine inC Tryz.func109 rfl Tryz.ntmps109 ?_
   refine aGo hres ?_
   rfl
 obtain ⟨r, rfl⟩ := okF_iff.1 ha
 obtain ⟨t, rfl⟩ := okF_iff.1 hb
 rw [addD_ofQ]
 exact (nadd_c r t za zb).all
theorem fneg_c (a : FracD) (za : (szF a : Int) ≤ 549755813888) : Contract Tryz.prog 87 [encF a] (encF (negD a)) := by
 have k1 := fright_c a za
 cases ha : okF a
 · rw [ha] at k1
   rw [show negD a = zF by simp [negD, ha]]
   have hres := Tryz.results87
   refine inC Tryz.func87 rfl Tryz.ntmps87 ?_
   refine aGo hres ?_
   rfl
 obtain ⟨r, rfl⟩ := okF_iff.1 ha
 rw [negD_ofQ]
 exact (nneg_c r za).all
theorem ncmpI_c (x y : Int) : ContractN Tryz.prog 229 [dI x, dI y] (dI (x - y).sign) := by
 refine ⟨⟨_, _, Tryz.func229, rfl, by kernel_rfl⟩, fun S w vs hf hvs => ?_⟩
 obtain ⟨v, u, rfl, h1, h2⟩ := reps2 hvs
 rw [h1.inv_v, h2.inv_v]
 refine (cmp_any x y w).mono ?_
 rintro e w' ⟨rfl, rfl⟩
 exact ⟨_, rfl, Below.refl _ _, .v _⟩
theorem nCmp_c (a b : Int) : ContractN Tryz.prog 188 [encZ a, encZ b] (dI (a - b).sign) := by
 have k1 := nrightZ_c a
 have k2 := nrightZ_c b
 by_cases h : a.sign = b.sign
 · have k3 := ncompare_c (digs a.natAbs) (digs b.natAbs) (norm_digs _) (norm_digs _)
   rw [val_digs, val_digs] at k3
   have e := cmp_same h
   have h1 : (a.sign != b.sign) = false := by simp [h]
   have hw : IntKind.i64.wrap (a.sign * ((a.natAbs : Int) - b.natAbs).sign) = (a - b).sign := by
    rw [e]; exact wrap_in (by have := sign_bounds (a - b); omega) (by have := sign_bounds (a - b); omega)
   have hres := Tryz.results188
   refine inN Tryz.func188 rfl Tryz.ntmps188 fun I => ?_
   exact aGo (cj3 hres h1 hw) trivial
 · have e := (cmp_sign a b).resolve_right h
   have k3 := ncmpI_c a.sign b.sign
   rw [e] at k3
   have h1 : (a.sign != b.sign) = true := by simp [h]
   have hres := Tryz.results188
   refine inN Tryz.func188 rfl Tryz.ntmps188 fun I => ?_
   exact aGo (cj2 hres h1) trivial
theorem nfCmp_c (a b : Rat) (za : (szQ a : Int) ≤ 549755813888) (zb : (szQ b : Int) ≤ 549755813888) : ContractN Tryz.prog 102 [encQ a, encQ b] (dI (sgQ (a - b))) := by
 have zpa := szQ_parts a
 have zpb := szQ_parts b
 have k1 := nfrightQ_c a za
 have k2 := nfrightQ_c b zb
 have k3 := nTimes_c a.num b.den (by omega) (by omega)
 have k4 := nTimes_c b.num a.den (by omega) (by omega)
 have k5 := nCmp_c (a.num * b.den) (b.num * a.den)
 rw [← sgQ_sub] at k5
 have hres := Tryz.results102
 refine inN Tryz.func102 rfl Tryz.ntmps102 fun I => ?_
 exact aGo hres trivial
theorem fcompare_c (a b : FracD) (za : (szF a : Int) ≤ 549755813888) (zb : (szF b : Int) ≤ 549755813888) : ContractN Tryz.prog 102 [encF a, encF b] (dI (cmpD a b)) := by
 have k1 := fright_c a za
 have k2 := fright_c b zb
 cases ha : okF a
 · rw [ha] at k1
   rw [show cmpD a b = 0 by simp [cmpD, ha]]
   have hres := Tryz.results102
   refine inN Tryz.func102 rfl Tryz.ntmps102 fun I => ?_
   exact aGo hres trivial
 cases hb : okF b
 · rw [ha] at k1
   rw [hb] at k2
   rw [show cmpD a b = 0 by simp [cmpD, hb]]
   have hres := Tryz.results102
   refine inN Tryz.func102 rfl Tryz.ntmps102 fun I => ?_
   exact aGo hres trivial
 obtain ⟨r, rfl⟩ := okF_iff.1 ha
 obtain ⟨t, rfl⟩ := okF_iff.1 hb
 rw [cmpD_ofQ]
 exact nfCmp_c r t za zb
theorem fint_c (n : Int) (h1 : -9223372036854775808 ≤ n) (h2 : n ≤ 9223372036854775807) : Contract Tryz.prog 80 [dI n] (encF (ofQ (n : Rat))) := (nInt_c n h1 h2).all
theorem fof_c (p q : Int) (hq : q ≠ 0) (p1 : -9223372036854775808 ≤ p) (p2 : p ≤ 9223372036854775807) (q1 : -9223372036854775808 ≤ q) (q2 : q ≤ 9223372036854775807) : Contract Tryz.prog 175 [dI p, dI q] (.tup [encF (ofQ (Rat.divInt p q)), dI 0]) := by
 have k1 := nOf_c p p1 p2
 have k2 := nOf_c q q1 q2
 have z1 : szZ p ≤ 4 := szZ_le (by simp only [bp]; omega)
 have z2 : szZ q ≤ 4 := szZ_le (by simp only [bp]; omega)
 have k3 := nNew_c p q hq (by omega) (by omega)
 have hres := Tryz.results175
 refine inC Tryz.func175 rfl Tryz.ntmps175 ?_
 exact aGo hres trivial
end Go.Proofs.YtpkdhmnlpnijhaaGreat
