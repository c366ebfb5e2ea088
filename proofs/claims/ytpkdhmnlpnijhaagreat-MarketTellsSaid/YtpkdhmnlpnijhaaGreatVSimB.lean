/-
  The walk over data, memory known by letters: rules; zeros, take, least.
-/
import Derived.Test.YtpkdhmnlpnijhaaGreatVDualW
import Derived.Test.YtpkdhmnlpnijhaaGreatVNf
import Derived.Test.YtpkdhmnlpnijhaaGreatVSimA
namespace Go.Proofs.YtpkdhmnlpnijhaaGreat
set_option linter.unusedVariables false
set_option linter.unusedSimpArgs false
set_option linter.unusedSectionVars false
open Go Go.RowKit
set_option maxRecDepth 100000
set_option maxHeartbeats 16000000
section ifm
variable [Ifl]
def raceS (ops : Array Oper) (tr : List (List Nat × List Nat)) : Bool :=
 (List.range ops.size).all fun j => (List.range j).all fun i => (reachOf ops j).contains i || match tr[i]?, tr[j]? with
   | some x, some y => !meets x.2 y.1 && !meets x.1 y.2
   | _, _ => true
theorem race_of {ops : Array Oper} {tr : List (List Nat × List Nat)} (h : raceS ops tr = true) : raceB ops tr = true := by
 unfold raceS at h
 unfold raceB
 simp only [List.all_eq_true, List.mem_range] at h ⊢
 intro j hj i hi
 have := h j hj i hi
 rw [Bool.or_eq_true] at this
 split
 · rename_i x y hx hy
   rw [hx, hy] at this
   rw [Bool.or_eq_true]
   exact this.symm
 · rfl
theorem le_tmps {s : St} (l : List (Nat × D)) (ht : ∀ p ∈ l, s.t p.1 = p.2) : StLe s ⟨tabT l, s.m, s.nx, s.lo⟩ := by
 intro E B nn β a w hr
 refine ⟨β, hr.mem, fun k hk => ?_, hr.width, hr.defers, hr.le, hr.sle, hr.lo⟩
 rcases tabT_get l k with h1 | ⟨d, h1, h2⟩
 · simp only [h1]; exact .junk _
 · simp only [h2]
   have := hr.tmp k hk
   rw [ht _ h1] at this
   exact this
def Cl (m : Mem) (nx : Nat) : Prop := ∀ id b, m id = some b → id < nx ∧ okBlk (fun i => (m i).isSome) b
theorem MemOk.closed {E : Env} {β : Bet} {m : Mem} {nx : Nat} {w : World} (h : MemOk E β m nx w) : Cl m nx := by
 intro id b hb
 refine ⟨h.lt id b hb, fun e he => ?_⟩
 cases hbt : β id with
 | none => rw [h.non id b hb hbt] at he; cases he
 | some c =>
   obtain ⟨_, cs, _, _, h4⟩ := h.row id b c hb hbt
   obtain ⟨i, hi⟩ := List.getElem?_of_mem he
   have : ∀ l : List D, (∀ d ∈ l, okD (fun i => (m i).isSome) d = true) → okDs (fun i => (m i).isSome) l = true := by
    intro l
    induction l with
    | nil => intro _; rfl
    | cons d l ih => intro hl; simp only [okDs, Bool.and_eq_true]; exact ⟨hl d (by simp), ih fun x hx => hl x (by simp [hx])⟩
   refine this e fun d hd => ?_
   obtain ⟨j, hj⟩ := List.getElem?_of_mem hd
   obtain ⟨u, _, h5⟩ := h4 i j d (cellAt_some.2 ⟨e, hi, hj⟩)
   exact h5.names
theorem CallA.cl {P : Program} {f : FuncId} {ds : List D} {m : Mem} {nx : Nat} {K : D → Mem → Nat → Prop} (hb : bodied P f) (h : Cl m nx → CallA P f ds m nx K) : CallA P f ds m nx K :=
 ⟨hb, fun E β w vs hM hvs => (h hM.closed).2 E β w vs hM hvs⟩
def loopEndM {X : Type} (l : X → List (Nat × D)) (lo : Nat) (Pre : X → Mem → Nat → Prop) (μ : X → Nat) (x : X) (s : St) : Prop := ∃ y, Pre y s.m s.nx ∧ μ y < μ x ∧ s.lo = lo ∧ ∀ p ∈ l y, s.t p.1 = p.2
theorem aLoopM {P : Program} {n : Nat} {Q : Exit → St → Prop} {s : St} {c : Code} {X : Type} (l : X → List (Nat × D)) (lo : Nat) (Pre : X → Mem → Nat → Prop) (μ : X → Nat) (x0 : X) (h0 : Pre x0 s.m s.nx) (hlo : s.lo = lo) (ht : ∀ p ∈ l x0, s.t p.1 = p.2)
    (h : ∀ x m nx, Pre x m nx → AWP P n c (thenA (loopEndM l lo Pre μ x) Q) ⟨tabT (l x), m, nx, lo⟩) : AWP P n (.loop c) Q s := by
 subst hlo
 refine aLoop (X := X × Mem × Nat) (fun x => ⟨tabT (l x.1), x.2.1, x.2.2, s.lo⟩) (fun x => Pre x.1 x.2.1 x.2.2) (fun x => μ x.1) ⟨(x0, s.m, s.nx), h0, le_tmps _ ht⟩ ?_
 rintro ⟨x, m, nx⟩ hx
 intro E B β a w hr
 refine wp_mono (h x m nx hx E B β a w hr) ?_
 rintro e a' w' ⟨s', β', h1, h2⟩
 refine ⟨s', β', h1, ?_⟩
 cases e with
 | normal =>
   obtain ⟨y, h3, h4, h5, h6⟩ := h2
   refine ⟨(y, s'.m, s'.nx), h3, h4, ?_⟩
   have := le_tmps (s := s') (l y) h6
   rw [h5] at this
   exact this
 | _ => exact h2
theorem loop_endM {X : Type} {l : X → List (Nat × D)} {lo : Nat} {Pre : X → Mem → Nat → Prop} {μ : X → Nat} {x : X} {s : St} (y : X) (h1 : Pre y s.m s.nx) (h2 : μ y < μ x) (h3 : s.lo = lo) (h4 : ∀ p ∈ l y, s.t p.1 = p.2) : loopEndM l lo Pre μ x s := ⟨y, h1, h2, h3, h4⟩
end ifm
theorem useE {KE : List Ev → St → Prop} {A B : List Ev → Prop} {C : St → Prop} {tr : List Ev} {s : St} (h : ∀ tr s', A tr → B tr → C s' → KE tr s') (a : A tr) (b : B tr) (c : C s) : KE tr s := h tr s a b c
theorem aGoM {F Y X : Prop} (f : F) (y : Y) (h : F → Keep Y → X := by
    intro hf y
    repeat (first
     | (refine hI _ ?_; clear hI; clear KI)
     | (refine hK _ ?_; try clear hK; try clear K)
     | ((with_reducible apply useK); (with_reducible assumption))
     | (refine aSeq fun KI hI => ?_)
     | (refine aBlock ?_)
     | (refine aSkip ?_)
     | (refine aExit ?_)
     | (refine aRet ?_)
     | (refine aOps _ rfl (by kernel_rfl) ?_)
     | (refine aRunK _ rfl mixed (by kernel_rfl) (by kernel_rfl) fun KE hE => ?_)
     | (refine hE _ _ (race_of (by kernel_rfl)) (intsOk_no rfl) ?_; clear hE; clear KE)
     | ((with_reducible apply useE); (with_reducible assumption); exact race_of (by kernel_rfl); exact intsOk_no rfl)
     | (refine aCondT rfl ?hc ?_; case hc => simp only [go_sem, ↓reduceIte, beq_self_eq_true, bne_self_eq_false, hf])
     | (refine aCondF rfl ?hc ?_; case hc => simp only [go_sem, ↓reduceIte, beq_self_eq_true, bne_self_eq_false, hf])
     | ((with_reducible apply callT_ofN); (first | with_reducible assumption | assumption))
     | ((with_reducible apply callU_ofN); (first | with_reducible assumption | assumption); rfl)
     | (simp only [go_sem, ↓reduceIte, beq_self_eq_true, bne_self_eq_false, hf])
     | (refine And.intro ?ho ?_; (case ho => omega))
     | (clear hI; clear KI))
    repeat (first | (revert hE; revert KE) | (revert hI; revert KI))
    first | done | exact y.out) : X := h f ⟨y⟩
theorem aGoS {F Y X : Prop} (f : F) (y : Y) (h : F → Keep Y → X := by
    intro hf y
    repeat (first
     | (refine hI _ ?_; clear hI; clear KI)
     | (refine hK _ ?_; try clear hK; try clear K)
     | ((with_reducible apply useK); (with_reducible assumption))
     | (refine aSeq fun KI hI => ?_)
     | (refine aBlock ?_)
     | (refine aSkip ?_)
     | (refine aExit ?_)
     | (refine aRet ?_)
     | (refine aOps _ rfl (by kernel_rfl) ?_)
     | (refine aRunK _ rfl mixed (by kernel_rfl) (by kernel_rfl) fun KE hE => ?_)
     | (refine aCondT rfl ?hc ?_; case hc => simp only [go_sem, ↓reduceIte, beq_self_eq_true, bne_self_eq_false, hf])
     | (refine aCondF rfl ?hc ?_; case hc => simp only [go_sem, ↓reduceIte, beq_self_eq_true, bne_self_eq_false, hf])
     | ((with_reducible apply callT_ofN); (first | with_reducible assumption | assumption))
     | ((with_reducible apply callU_ofN); (first | with_reducible assumption | assumption); rfl)
     | (simp only [go_sem, ↓reduceIte, beq_self_eq_true, bne_self_eq_false, hf])
     | (refine And.intro ?ho ?_; (case ho => omega))
     | (clear hI; clear KI))
    repeat (first | (revert hE; revert KE) | (revert hI; revert KI))
    first | done | exact y.out) : X := h f ⟨y⟩
abbrev fB (n : Nat) (c : Nat → Rat) : Blk := ⟨32, 1, 4, ratL n c, 0, false⟩
def takeQ (n s : Nat) (a b : Nat → Rat) (i : Nat) : Nat → Rat := fun j => if j < i ∧ j ≠ s then a j - a s * b j else a j
theorem takeQ_skip {n s : Nat} (a b : Nat → Rat) : takeQ n s a b (s + 1) = takeQ n s a b s := by
 funext j; unfold takeQ
 by_cases h : j < s
 · rw [if_pos ⟨by omega, by omega⟩, if_pos ⟨h, by omega⟩]
 · rw [if_neg (by omega), if_neg (by omega)]
theorem takeQ_succ {n s i : Nat} (a b : Nat → Rat) (h : i ≠ s) : (ratL n (takeQ n s a b i)).set i (cF (ofQ (a i - a s * b i))) = ratL n (takeQ n s a b (i + 1)) := by
 rw [rat_set]
 refine rat_congr fun u _ => ?_
 unfold takeQ
 by_cases e : u = i
 · subst e; rw [if_pos rfl, if_pos ⟨by omega, h⟩]
 · rw [if_neg e]
   by_cases h2 : u < i ∧ u ≠ s
   · rw [if_pos h2, if_pos ⟨by omega, h2.2⟩]
   · rw [if_neg h2, if_neg (by omega)]
def takeF (s : Nat) (a b : Nat → Rat) : Nat → Rat := fun j => if j = s then 0 - a s * b s else a j - a s * b j
theorem takeF_set {n s : Nat} (a b : Nat → Rat) : (ratL n (takeQ n s a b n)).set s (cF (ofQ (0 - a s * b s))) = ratL n (takeF s a b) := by
 rw [rat_set]
 refine rat_congr fun u hu => ?_
 unfold takeQ takeF
 by_cases e : u = s
 · rw [if_pos e, if_pos e]
 · rw [if_neg e, if_neg e, if_pos ⟨hu, e⟩]
theorem take_a [Ifl] (n s A R : Nat) (a b : Nat → Rat) (m : Mem) (nx : Nat) (hn : (n : Int) ≤ 4096) (hs : s < n) (hAR : A ≠ R) (hA : m A = some (fB n a)) (hR : m R = some (fB n b))
    (za : ∀ j, j < n → (szQ (a j) : Int) ≤ 4294967296) (zb : ∀ j, j < n → (szQ (b j) : Int) ≤ 4294967296) :
    CallA Tryz.prog 213 [.ls A 1, .ls R 1, dI s] m nx fun d m' nx' => d = oneD [] ∧ nx ≤ nx' ∧ m' A = some (fB n (takeF s a b)) ∧ ∀ id, id < nx → id ≠ A → m' id = m id := by
 refine CallA.cl ⟨_, _, Tryz.func213, rfl, by kernel_rfl⟩ fun hcl => ?_
 have hres := Tryz.results213
 have lA := (hcl A _ hA).1
 have lR := (hcl R _ hR).1
 refine inA Tryz.func213 rfl Tryz.ntmps213 ?_
 have hRA := Ne.symm hAR
 have hs0 : (0 : Int) ≤ s := by omega
 have g1 := rat_get a hs
 have g2 := rat_get b hs
 have nA : A ≠ nx := by omega
 have nR : R ≠ nx := by omega
 have la := rat_len n a
 refine aGoM (cj4 hres hA hR (cj4 hAR hRA hs0 (cj4 g1 g2 la (cj2 nA nR)))) ?_
 repeat with_reducible intro K hK
 have q0 : takeQ n s a b 0 = a := by funext j; unfold takeQ; rw [if_neg (by omega)]
 refine aLoopM (fun (i : Nat) => [(0, .ls A 1), (1, .ls R 1), (2, dI s), (6, .lp nx 0 0 0), (13, dI n), (14, dI i)]) nx (fun i m1 nx1 => i ≤ n ∧ nx < nx1 ∧ m1 A = some (fB n (takeQ n s a b i)) ∧ m1 R = some (fB n b) ∧ m1 nx = some ⟨32, 0, 4, [cF (ofQ (a s))], 0, false⟩ ∧ ∀ id, id < nx → id ≠ A → m1 id = m id) (fun i => n - i) 0 ?_ ?_ ?_ ?_
 · rw [q0]
   simp only [upd_get, nA, nR, ↓reduceIte]
   exact ⟨Nat.zero_le _, Nat.lt_succ_self _, hA, hR, trivial, fun id h1 h2 => by rw [if_neg (by omega), if_neg (by omega)]⟩
 · rfl
 · simp [go_sem]
 · rintro i m1 nx1 ⟨hi, hnx, eA, eR, eF, hfr⟩
   obtain ⟨hw, i0⟩ := wrap2 i
   have nx1A : A ≠ nx1 := by omega
   have nx1R : R ≠ nx1 := by omega
   have nxnA : nx ≠ A := by omega
   have nxnR : nx ≠ R := by omega
   have nx1n : nx ≠ nx1 := by omega
   have la1 := rat_len n (takeQ n s a b i)
   by_cases h1 : (i : Int) < n
   · have hin : i < n := by omega
     have ga := rat_get (takeQ n s a b i) hin
     have gb := rat_get b hin
     have ei : takeQ n s a b i i = a i := by unfold takeQ; rw [if_neg (by omega)]
     by_cases h2 : i = s
     · subst h2
       have h2b : ((i : Int) != i) = false := by simp
       refine aGoM (cj4 hres eA eR (cj4 eF hAR hRA (cj4 i0 h1 h2b (cj2 hw la1)))) ?_
       repeat with_reducible intro K hK
       refine loop_endM (i + 1) ?_ (by omega) rfl (by simp [go_sem])
       rw [takeQ_skip]
       exact ⟨by omega, hnx, eA, eR, eF, hfr⟩
     · have h2b : ((i : Int) != s) = true := by simp; omega
       have k1 := sless_c (a i) (a s) (b i) (by have := za i hin; omega) (by have := za s hs; omega) (by have := zb i hin; omega)
       have es := takeQ_succ (n := n) a b h2
       refine aGoM (cj4 hres eA eR (cj4 eF hAR hRA (cj4 i0 h1 h2b (cj4 hw la1 ga (cj4 gb ei nxnA (cj3 nxnR Nat.zero_le es)))))) ?_
       repeat with_reducible intro K hK
       refine loop_endM (i + 1) ?_ (by omega) rfl (by simp [go_sem])
       simp only [upd_get, nxnA, hRA, ↓reduceIte]
       exact ⟨by omega, hnx, trivial, eR, eF, fun id h3 h4 => by rw [if_neg h4]; exact hfr id h3 h4⟩
   · obtain rfl : i = n := by omega
     have ga := rat_get (takeQ i s a b i) hs
     have k0 := nZ_c
     have zz := szQ_int 0 (by decide) (by decide)
     rw [show ((0 : Int) : Rat) = 0 from rfl] at zz
     have k1 := sless_c 0 (a s) (b s) (by omega) (by have := za s hs; omega) (by have := zb s hs; omega)
     have es := takeF_set (n := i) (s := s) a b
     refine aGoM (cj4 hres eA eR (cj4 eF hAR hRA (cj4 hs0 h1 g2 (cj4 hw la1 ga (cj3 nxnA nxnR (cj2 Nat.zero_le es)))))) ?_
     exact fun id h3 h4 => by rw [if_neg h4]; exact hfr id h3 h4
theorem zeros_a [Ifl] (n : Nat) (m : Mem) (nx : Nat) (hn : (n : Int) ≤ 4096) : CallA Tryz.prog 147 [dI n] m nx fun d m' nx' => d = .ls nx 1 ∧ nx < nx' ∧ m' nx = some (fB n fun _ => 0) ∧ ∀ id, id < nx → m' id = m id := by
 have hres := Tryz.results147
 refine inA Tryz.func147 rfl Tryz.ntmps147 ?_
 have n0 : (0 : Int) ≤ n := by omega
 have hrep : List.replicate n zc = fillL n 0 := (fill_zero n).symm
 have hl := fill_len n 0
 have n1 : 24 * (n : Int) ≤ 140737488355328 := by omega
 have n2 : (n : Int) ≤ 9007199254740992 := by omega
 have n3 : (n : Int) ≤ n := by omega
 refine aGoM (cj4 hres n0 hrep (cj4 hl n1 n2 (cj2 n3 trivial))) ?_
 repeat with_reducible intro K hK
 refine aLoopM (fun (i : Nat) => [(3, .ls nx 1), (8, dI n), (9, dI i)]) nx (fun i m1 nx1 => i ≤ n ∧ nx < nx1 ∧ m1 nx = some ⟨32, 1, 4, fillL n i, 0, false⟩ ∧ ∀ id, id < nx → m1 id = m id) (fun i => n - i) 0 ?_ ?_ ?_ ?_
 · simp only [upd_get, ↓reduceIte]
   exact ⟨Nat.zero_le _, Nat.lt_succ_self _, trivial, fun id h1 => by rw [if_neg (by omega)]⟩
 · rfl
 · simp [go_sem]
 · rintro i m1 nx1 ⟨hi, hnx, eN, hfr⟩
   obtain ⟨hw, i0⟩ := wrap2 i
   have hl1 := fill_len n i
   have k0 := nZ_c
   by_cases h1 : (i : Int) < n
   · have hg : (fillL n i)[i]? = some zc := by unfold fillL; rw [tab_get _ (by omega), if_neg (by omega)]
     have hset := fill_set n i
     refine aGoM (cj4 hres eN i0 (cj4 h1 hw hl1 (cj3 hg hset Nat.zero_le))) ?_
     repeat with_reducible intro K hK
     refine loop_endM (i + 1) ?_ (by omega) rfl (by simp [go_sem])
     simp only [upd_get, ↓reduceIte]
     exact ⟨by omega, hnx, trivial, fun id h3 => by rw [if_neg (by omega)]; exact hfr id h3⟩
   · obtain rfl : i = n := by omega
     rw [fill_all] at eN
     refine aGoM (cj4 hres eN h1 hw) ?_
     exact hfr
mutual
theorem okD_mono {p q : Nat → Bool} (h : ∀ i, p i = true → q i = true) : ∀ d : D, okD p d = true → okD q d = true
 | .v _, _ => rfl
 | .nil, _ => rfl
 | .agg l, ho => by simp only [okD] at ho ⊢; exact okDs_mono h l ho
 | .tup l, ho => by simp only [okD] at ho ⊢; exact okDs_mono h l ho
 | .sl _, _ => rfl
 | .ep _ _ _, _ => rfl
 | .ls id _, ho => h id ho
 | .lp id _ _ _, ho => h id ho
 | .clo _ l, ho => by simp only [okD] at ho ⊢; exact okDs_mono h l ho
 | .junk, _ => rfl
theorem okDs_mono {p q : Nat → Bool} (h : ∀ i, p i = true → q i = true) : ∀ l : List D, okDs p l = true → okDs q l = true
 | [], _ => rfl
 | d :: l, ho => by
   simp only [okDs, Bool.and_eq_true] at ho ⊢
   exact ⟨okD_mono h d ho.1, okDs_mono h l ho.2⟩
end
theorem okBlk_data {b : Blk} (hb : okBlk (fun _ => false) b) (k : Nat → Bool) : okBlk k b := fun e he => okDs_mono (fun _ h => by cases h) e (hb e he)
theorem ok_fB (n : Nat) (c : Nat → Rat) : okBlk (fun _ => false) (fB n c) := fun e he => by
 obtain ⟨v, _, rfl⟩ := List.mem_map.1 he; rfl
theorem Cl.upd {m : Mem} {nx id n' : Nat} {blk : Blk} (h : Cl m nx) (hb : okBlk (fun _ => false) blk) (hid : id < n') (hn : nx ≤ n') : Cl (upd m id (some blk)) n' := by
 intro i b hi
 by_cases e : i = id
 · subst e; rw [upd_same] at hi; cases hi; exact ⟨hid, okBlk_data hb _⟩
 · rw [upd_ne _ _ e] at hi
   refine ⟨by have := (h i b hi).1; omega, fun x hx => okDs_mono (fun j hj => ?_) x ((h i b hi).2 x hx)⟩
   by_cases e2 : j = id
   · subst e2; rw [upd_same]; rfl
   · rw [upd_ne _ _ e2]; exact hj
section
variable [Ifl] {P : Program} {f : FuncId} {ds : List D} {m : Mem} {nx : Nat}
theorem Cl.sub {m' : Mem} {n' : Nat} (h : Cl m n') (hs : ∀ id b, m id = some b → m' id = some b) : SubM m m' n' := ⟨fun id b hb => ⟨hs id b hb, (h id b hb).1⟩, fun id b hb => (h id b hb).2⟩
theorem CallA.made {ver : Nat} {blk : Blk} (hb : okBlk (fun _ => false) blk) (h : CallA P f ds m nx fun d m' nx' => d = .ls nx ver ∧ nx < nx' ∧ m' nx = some blk ∧ ∀ id, id < nx → m' id = m id) :
    CallA P f ds m nx fun d m' nx' => d = .ls nx ver ∧ m' = upd m nx (some blk) ∧ nx' = nx + 1 := by
 refine CallA.cl h.1 fun hcl => CallA.sub (h.mono ?_)
 rintro d m' nx' ⟨rfl, h1, h2, h3⟩
 refine ⟨_, _, (hcl.upd hb (Nat.lt_succ_self nx) (Nat.le_succ nx)).sub fun id b hi => ?_, ?_, fun id hi => ?_, rfl, rfl, rfl⟩
 · by_cases e : id = nx
   · subst e; rw [upd_same] at hi; rw [h2]; exact hi
   · rw [upd_ne _ _ e] at hi; rw [h3 id (hcl id b hi).1]; exact hi
 · simp only [okD, upd_same]; rfl
 · cases hm : m id with
   | none => rw [hm] at hi; cases hi
   | some b =>
     have := (hcl id b hm).1
     rw [upd_ne _ _ (by omega), h3 id this]
theorem CallA.kept {d0 : D} {A : Nat} {b0 blk : Blk} (hA : m A = some b0) (hd : okD (fun _ => false) d0 = true) (hb : okBlk (fun _ => false) blk) (h : CallA P f ds m nx fun d m' nx' => d = d0 ∧ nx ≤ nx' ∧ m' A = some blk ∧ ∀ id, id < nx → id ≠ A → m' id = m id) :
    CallA P f ds m nx fun d m' nx' => d = d0 ∧ m' = upd m A (some blk) ∧ nx' = nx := by
 refine CallA.cl h.1 fun hcl => CallA.sub (h.mono ?_)
 rintro d m' nx' ⟨rfl, h1, h2, h3⟩
 refine ⟨_, _, (hcl.upd hb (hcl A b0 hA).1 (Nat.le_refl nx)).sub fun id b hi => ?_, okD_mono (fun _ h => by cases h) d hd, fun id hi => ?_, rfl, rfl, rfl⟩
 · by_cases e : id = A
   · subst e; rw [upd_same] at hi; rw [h2]; exact hi
   · rw [upd_ne _ _ e] at hi; rw [h3 id (hcl id b hi).1 e]; exact hi
 · by_cases e : id = A
   · subst e; rw [upd_same, h2]
   · cases hm : m id with
     | none => rw [hm] at hi; cases hi
     | some b => rw [upd_ne _ _ e, h3 id (hcl id b hm).1 e]
end
theorem zeros_e [Ifl] (n : Nat) (m : Mem) (nx : Nat) (hn : (n : Int) ≤ 4096) (hm : m nx = none) : EffC Tryz.prog 147 [dI n] m nx ⟨.ls nx 1, [nx], [(nx, fB n fun _ => 0)], false⟩ (nx + 1) :=
 EffC.made hm (ok_fB n _) fun m1 NX => CallA.made (ok_fB n _) (zeros_a n m1 NX hn)
theorem take_e [Ifl] (n s A R : Nat) (a b : Nat → Rat) (m : Mem) (nx : Nat) (hn : (n : Int) ≤ 4096) (hs : s < n) (hAR : A ≠ R) (hA : m A = some (fB n a)) (hR : m R = some (fB n b)) (hl : A < nx)
    (za : ∀ j, j < n → (szQ (a j) : Int) ≤ 4294967296) (zb : ∀ j, j < n → (szQ (b j) : Int) ≤ 4294967296) :
    EffC Tryz.prog 213 [.ls A 1, .ls R 1, dI s] m nx ⟨oneD [], [A, R], [(A, fB n (takeF s a b))], false⟩ nx :=
 EffC.of ⟨_, _, Tryz.func213, rfl, by kernel_rfl⟩ (fun p hp => by simp only [List.mem_singleton] at hp; subst hp; exact ⟨by simp, hl⟩) fun m1 NX hN ht =>
  CallA.kept ((ht A (by simp)).trans hA) rfl (ok_fB n _) (take_a n s A R a b m1 NX hn hs hAR ((ht A (by simp)).trans hA) ((ht R (by simp)).trans hR) za zb)
def pick (f : Nat → Nat) (p : Nat → Bool) : Nat → Option Nat
 | 0 => none
 | i + 1 => if p i then (match pick f p i with
   | none => some i
   | some a => if f i < f a then some i else some a) else pick f p i
def oI : Option Nat → Int
 | none => -1
 | some a => a
theorem pick_none {f : Nat → Nat} {p : Nat → Bool} : ∀ {k : Nat}, pick f p k = none → ∀ i, i < k → p i = false
 | 0, _, _, h => absurd h (Nat.not_lt_zero _)
 | k + 1, h, i, hi => by
   unfold pick at h
   cases hp : p k
   · rw [hp] at h
     by_cases e : i = k
     · subst e; exact hp
     · exact pick_none (by simpa using h) i (by omega)
   · rw [hp] at h
     simp only [if_true] at h
     split at h
     · cases h
     · split at h <;> cases h
theorem pick_some {f : Nat → Nat} {p : Nat → Bool} : ∀ {k a : Nat}, pick f p k = some a → a < k ∧ p a = true ∧ ∀ i, i < k → p i = true → f a ≤ f i
 | 0, _, h => by cases h
 | k + 1, a, h => by
   unfold pick at h
   cases hp : p k
   · rw [hp] at h
     obtain ⟨h1, h2, h3⟩ := pick_some (k := k) (by simpa using h)
     exact ⟨by omega, h2, fun i hi hpi => by
      by_cases e : i = k
      · subst e; rw [hp] at hpi; cases hpi
      · exact h3 i (by omega) hpi⟩
   · rw [hp] at h
     simp only [if_true] at h
     split at h
     · rename_i hn
       cases h
       exact ⟨by omega, hp, fun i hi hpi => by
        by_cases e : i = k
        · subst e; exact Nat.le_refl _
        · rw [pick_none hn i (by omega)] at hpi; cases hpi⟩
     · rename_i b hb
       obtain ⟨h1, h2, h3⟩ := pick_some hb
       split at h
       · rename_i hlt
         cases h
         exact ⟨by omega, hp, fun i hi hpi => by
          by_cases e : i = k
          · subst e; exact Nat.le_refl _
          · have := h3 i (by omega) hpi; omega⟩
       · rename_i hlt
         cases h
         exact ⟨by omega, h2, fun i hi hpi => by
          by_cases e : i = k
          · subst e; omega
          · exact h3 i (by omega) hpi⟩
abbrev iB (T ver k : Nat) (f : Nat → Nat) : Blk := ⟨T, ver, 1, tabL k fun i => [dI (f i)], 0, false⟩
theorem pick_no {f : Nat → Nat} {p : Nat → Bool} {i : Nat} (h : p i = false) : pick f p (i + 1) = pick f p i := by rw [pick, if_neg (by rw [h]; simp)]
theorem pick_first {f : Nat → Nat} {p : Nat → Bool} {i : Nat} (h : p i = true) (hn : pick f p i = none) : pick f p (i + 1) = some i := by rw [pick, if_pos h, hn]
theorem pick_less {f : Nat → Nat} {p : Nat → Bool} {i a : Nat} (h : p i = true) (hn : pick f p i = some a) (hl : f i < f a) : pick f p (i + 1) = some i := by rw [pick, if_pos h, hn]; exact if_pos hl
theorem pick_stay {f : Nat → Nat} {p : Nat → Bool} {i a : Nat} (h : p i = true) (hn : pick f p i = some a) (hl : ¬ f i < f a) : pick f p (i + 1) = some a := by rw [pick, if_pos h, hn]; exact if_neg hl
theorem least_a [Ifl] (k : Nat) (f : Nat → Nat) (p : Nat → Bool) (V ver : Nat) (g : FuncId) (caps : List D) (m : Mem) (nx : Nat) (hk : (k : Int) ≤ 4096) (hV : m V = some (iB 3 ver k f)) (lV : V < nx)
    (hg : ∀ i, i < k → ∀ m1 nx1, nx ≤ nx1 → (∀ id, id < nx → m1 id = m id) → CallA Tryz.prog g (dI i :: caps) m1 nx1 fun d m' nx' => d = dB (p i) ∧ nx1 ≤ nx' ∧ ∀ id, id < nx1 → m' id = m1 id) :
    CallA Tryz.prog 149 [.ls V ver, .clo g caps] m nx fun d m' nx' => d = dI (oI (pick f p k)) ∧ nx ≤ nx' ∧ ∀ id, id < nx → m' id = m id := by
 have hres := Tryz.results149
 refine inA Tryz.func149 rfl Tryz.ntmps149 ?_
 have hl := tab_len k fun i => [dI (f i)]
 refine aGoM (cj3 hres hV hl) ?_
 repeat with_reducible intro K hK
 refine aLoopM (fun (i : Nat) => [(0, .ls V ver), (1, .clo g caps), (5, dI (oI (pick f p i))), (8, .ls V ver), (9, dI k), (10, dI i)]) nx (fun i m1 nx1 => i ≤ k ∧ nx ≤ nx1 ∧ ∀ id, id < nx → m1 id = m id) (fun i => k - i) 0 ?_ ?_ ?_ ?_
 · exact ⟨Nat.zero_le _, Nat.le_refl _, fun _ _ => rfl⟩
 · rfl
 · simp [go_sem, pick, oI]
 · rintro i m1 nx1 ⟨hi, hnx, hfr⟩
   obtain ⟨hw, i0⟩ := wrap2 i
   have eV := (hfr V lV).trans hV
   by_cases h1 : (i : Int) < k
   · have hin : i < k := by omega
     have ge := tab_get (fun i => [dI (f i)]) hin
     refine aGoM (cj4 hres eV i0 (cj4 h1 hw hl ge)) ?_
     repeat with_reducible intro K hK
     refine callT_eff (hg i hin m1 nx1 hnx hfr) ?_
     rintro d m2 nx2 ⟨rfl, hn2, hfr2⟩
     have hfr3 : ∀ id, id < nx → m2 id = m id := fun id hid => (hfr2 id (by omega)).trans (hfr id hid)
     have eV2 := (hfr3 V lV).trans hV
     cases hp : p i
     · have e1 := pick_no (f := f) hp
       refine aGoM (cj4 hres eV2 i0 (cj4 h1 hw hl ge)) ?_
       repeat with_reducible intro K hK
       refine loop_endM (i + 1) ⟨by omega, Nat.le_trans hnx hn2, hfr3⟩ (by omega) rfl (by simp [go_sem, e1])
     · cases ha : pick f p i with
       | none =>
         have e1 := pick_first hp ha
         have e0 : (-1 : Int) < 0 := by decide
         have o0 : oI none = -1 := rfl
         refine aGoM (cj4 hres eV2 i0 (cj4 h1 hw hl (cj3 ge e0 o0))) ?_
         repeat with_reducible intro K hK
         refine loop_endM (i + 1) ⟨by omega, Nat.le_trans hnx hn2, hfr3⟩ (by omega) rfl (by simp [go_sem, e1, oI])
       | some c =>
         have hc := (pick_some ha).1
         have gc := tab_get (fun i => [dI (f i)]) (show c < k by omega)
         have c0 : ¬ (c : Int) < 0 := by omega
         have c1 : (0 : Int) ≤ c := by omega
         have o1 : oI (some c) = c := rfl
         by_cases hlt : f i < f c
         · have e1 := pick_less hp ha hlt
           have hlt' : (f i : Int) < f c := by omega
           refine aGoM (cj4 hres eV2 i0 (cj4 h1 hw hl (cj4 ge c0 c1 (cj3 gc hlt' o1)))) ?_
           repeat with_reducible intro K hK
           refine loop_endM (i + 1) ⟨by omega, Nat.le_trans hnx hn2, hfr3⟩ (by omega) rfl (by simp [go_sem, e1, oI])
         · have e1 := pick_stay hp ha hlt
           have hlt' : ¬ (f i : Int) < f c := by omega
           refine aGoM (cj4 hres eV2 i0 (cj4 h1 hw hl (cj4 ge c0 c1 (cj3 gc hlt' o1)))) ?_
           repeat with_reducible intro K hK
           refine loop_endM (i + 1) ⟨by omega, Nat.le_trans hnx hn2, hfr3⟩ (by omega) rfl (by simp [go_sem, e1, oI, ha])
   · obtain rfl : i = k := by omega
     refine aGoM (cj4 hres eV h1 hw) ?_
     exact hfr
theorem ty_dp : tyOf Tryz.prog 86 = some ⟨0, 1, 8, some [.v (.pointer none)], 0, none, []⟩ := by kernel_rfl
structure Ids where
 p : Nat
 R : Nat
 G : Nat
 O : Nat
 Fr : Nat
 F : Nat
 A : Nat → Nat
 vR : Nat
 vO : Nat
 vFr : Nat
 vF : Nat
abbrev pB (I : Ids) (n : Nat) : Blk := ⟨152, 0, 6, [[dI n, .ls I.R I.vR, .ls I.G 1, .ls I.O I.vO, .ls I.Fr I.vFr, .ls I.F I.vF]], 0, false⟩
def rowsL (I : Ids) (m : Nat) (v : Nat → Rat) : List (List D) := tabL m fun k => cF (ofQ (v k)) ++ [.ls (I.A k) 1]
theorem rows_len (I : Ids) (m : Nat) (v : Nat → Rat) : (rowsL I m v).length = m := tab_len _ _
theorem rows_get (I : Ids) {m k : Nat} (v : Nat → Rat) (h : k < m) : (rowsL I m v)[k]? = some [dI (ofQ (v k)).p.s, encInts (ofQ (v k)).p.d, dI (ofQ (v k)).q.s, encInts (ofQ (v k)).q.d, .ls (I.A k) 1] := tab_get _ h
theorem rows_set {I : Ids} {m r : Nat} (v : Nat → Rat) (q : Rat) : (rowsL I m v).set r [dI (ofQ q).p.s, encInts (ofQ q).p.d, dI (ofQ q).q.s, encInts (ofQ q).q.d, .ls (I.A r) 1] = rowsL I m (fun k => if k = r then q else v k) := by
 unfold rowsL
 rw [tab_set]
 refine tab_congr fun u _ => ?_
 by_cases e : u = r
 · subst e; simp only [if_pos]; rfl
 · simp only [if_neg e]
theorem rows_congr {I : Ids} {m : Nat} {v w : Nat → Rat} (h : ∀ k, k < m → v k = w k) : rowsL I m v = rowsL I m w := tab_congr fun k hk => by rw [h k hk]
abbrev rB (I : Ids) (m : Nat) (v : Nat → Rat) : Blk := ⟨156, I.vR, 5, rowsL I m v, 0, false⟩
abbrev sB (ver m : Nat) (src : Nat → Nat × Bool) : Blk := ⟨185, ver, 2, tabL m fun i => [dI (src i).1, dB (src i).2], 0, false⟩
structure DicAt (m : Mem) (I : Ids) (d : Dic) (src : Nat → Nat × Bool) : Prop where
 hp : m I.p = some (pB I d.n)
 hR : m I.R = some (rB I d.m d.v)
 hG : m I.G = some (fB d.n d.g)
 hO : m I.O = some (iB 3 I.vO d.m d.own)
 hFr : m I.Fr = some (iB 3 I.vFr d.n d.free)
 hF : m I.F = some (sB I.vF d.m src)
 hA : ∀ k, k < d.m → m (I.A k) = some (fB d.n (d.a k))
structure Apart (I : Ids) (m : Nat) : Prop where
 pR : I.p ≠ I.R
 pG : I.p ≠ I.G
 pO : I.p ≠ I.O
 pFr : I.p ≠ I.Fr
 pF : I.p ≠ I.F
 RG : I.R ≠ I.G
 RO : I.R ≠ I.O
 RFr : I.R ≠ I.Fr
 RF : I.R ≠ I.F
 GO : I.G ≠ I.O
 GFr : I.G ≠ I.Fr
 GF : I.G ≠ I.F
 OFr : I.O ≠ I.Fr
 OF : I.O ≠ I.F
 FrF : I.Fr ≠ I.F
 Ap : ∀ k, k < m → I.A k ≠ I.p
 AR : ∀ k, k < m → I.A k ≠ I.R
 AG : ∀ k, k < m → I.A k ≠ I.G
 AO : ∀ k, k < m → I.A k ≠ I.O
 AFr : ∀ k, k < m → I.A k ≠ I.Fr
 AF : ∀ k, k < m → I.A k ≠ I.F
 AA : ∀ k l, k < m → l < m → k ≠ l → I.A k ≠ I.A l
def inD (I : Ids) (m : Nat) (id : Nat) : Prop := id = I.p ∨ id = I.R ∨ id = I.G ∨ id = I.O ∨ id = I.Fr ∨ id = I.F ∨ ∃ k, k < m ∧ id = I.A k
theorem DicAt.lt {m : Mem} {I : Ids} {d : Dic} {src : Nat → Nat × Bool} {nx : Nat} (h : DicAt m I d src) (hc : Cl m nx) {id : Nat} (hi : inD I d.m id) : id < nx := by
 rcases hi with rfl | rfl | rfl | rfl | rfl | rfl | ⟨k, hk, rfl⟩
 · exact (hc _ _ h.hp).1
 · exact (hc _ _ h.hR).1
 · exact (hc _ _ h.hG).1
 · exact (hc _ _ h.hO).1
 · exact (hc _ _ h.hFr).1
 · exact (hc _ _ h.hF).1
 · exact (hc _ _ (h.hA k hk)).1
theorem DicAt.keep {m m' : Mem} {I : Ids} {d : Dic} {src : Nat → Nat × Bool} (h : DicAt m I d src) (hf : ∀ id, inD I d.m id → m' id = m id) : DicAt m' I d src :=
 ⟨(hf _ (.inl rfl)).trans h.hp, (hf _ (.inr (.inl rfl))).trans h.hR, (hf _ (.inr (.inr (.inl rfl)))).trans h.hG, (hf _ (.inr (.inr (.inr (.inl rfl))))).trans h.hO, (hf _ (.inr (.inr (.inr (.inr (.inl rfl)))))).trans h.hFr,
   (hf _ (.inr (.inr (.inr (.inr (.inr (.inl rfl))))))).trans h.hF, fun k hk => (hf _ (.inr (.inr (.inr (.inr (.inr (.inr ⟨k, hk, rfl⟩))))))).trans (h.hA k hk)⟩
def neg' (r : Rat) : Bool := decide ((ofQ r).p.s < 0)
def pos' (r : Rat) : Bool := decide ((ofQ r).p.s > 0)
theorem neg_iff (r : Rat) : neg' r = true ↔ r < 0 := by unfold neg'; rw [decide_eq_true_eq, ofQ_num]; exact sgQ_lt
theorem pos_iff (r : Rat) : pos' r = true ↔ 0 < r := by unfold pos'; rw [decide_eq_true_eq, ofQ_num]; exact sgQ_gt
abbrev bxB (T id : Nat) : Blk := ⟨T, 0, 1, [[.lp id 0 0 0]], 0, false⟩
abbrev nB (n : Int) : Blk := ⟨3, 0, 1, [[dI n]], 0, false⟩
section
variable [Ifl] {I : Ids} {d : Dic} {src : Nat → Nat × Bool} {m : Mem} {nx bx : Nat}
theorem s1_a (h : DicAt m I d src) (hb : m bx = some (bxB 86 I.p)) {i : Nat} (hi : i < d.m) :
    CallA Tryz.prog 150 [dI i, .lp bx 0 0 0] m nx fun d' m' nx' => d' = dB (neg' (d.v i)) ∧ nx ≤ nx' ∧ ∀ id, id < nx → m' id = m id := by
 have hres := Tryz.results150
 refine inA Tryz.func150 rfl Tryz.ntmps150 ?_
 have g := rows_get I d.v hi
 have i0 : (0 : Int) ≤ i := by omega
 refine aGoM (cj4 hres h.hp h.hR (cj4 hb g i0 ty_dp)) ?_
 exact ⟨rfl, Nat.le_refl _⟩
theorem s2_a (h : DicAt m I d src) (hb : m bx = some (bxB 86 I.p)) {i : Nat} (hi : i < d.n) :
    CallA Tryz.prog 151 [dI i, .lp bx 0 0 0] m nx fun d' m' nx' => d' = dB (pos' (d.g i)) ∧ nx ≤ nx' ∧ ∀ id, id < nx → m' id = m id := by
 have hres := Tryz.results151
 refine inA Tryz.func151 rfl Tryz.ntmps151 ?_
 have g := rat_get d.g hi
 have i0 : (0 : Int) ≤ i := by omega
 refine aGoM (cj4 hres h.hp h.hG (cj4 hb g i0 ty_dp)) ?_
 exact ⟨rfl, Nat.le_refl _⟩
theorem s3_a (h : DicAt m I d src) (hb : m bx = some (bxB 86 I.p)) {r : Nat} {rx : Nat} (hr : r < d.m) (hrx : m rx = some (nB r)) {j : Nat} (hj : j < d.n) :
    CallA Tryz.prog 152 [dI j, .lp bx 0 0 0, .lp rx 0 0 0] m nx fun d' m' nx' => d' = dB (neg' (d.a r j)) ∧ nx ≤ nx' ∧ ∀ id, id < nx → m' id = m id := by
 have hres := Tryz.results152
 refine inA Tryz.func152 rfl Tryz.ntmps152 ?_
 have g := rows_get I d.v hr
 have g2 := rat_get (d.a r) hj
 have i0 : (0 : Int) ≤ r := by omega
 have j0 : (0 : Int) ≤ j := by omega
 have hA := h.hA r hr
 refine aGoM (cj4 hres h.hp h.hR (cj4 hb g i0 (cj4 ty_dp hrx g2 (cj2 j0 hA)))) ?_
 exact ⟨rfl, Nat.le_refl _⟩
theorem s4_a (h : DicAt m I d src) (hb : m bx = some (bxB 86 I.p)) {s : Nat} {sx : Nat} (hs : s < d.n) (hsx : m sx = some (nB s)) {i : Nat} (hi : i < d.m) :
    CallA Tryz.prog 153 [dI i, .lp bx 0 0 0, .lp sx 0 0 0] m nx fun d' m' nx' => d' = dB (pos' (d.a i s)) ∧ nx ≤ nx' ∧ ∀ id, id < nx → m' id = m id := by
 have hres := Tryz.results153
 refine inA Tryz.func153 rfl Tryz.ntmps153 ?_
 have g := rows_get I d.v hi
 have g2 := rat_get (d.a i) hs
 have i0 : (0 : Int) ≤ i := by omega
 have j0 : (0 : Int) ≤ s := by omega
 have hA := h.hA i hi
 refine aGoM (cj4 hres h.hp h.hR (cj4 hb g i0 (cj4 ty_dp hsx g2 (cj2 j0 hA)))) ?_
 exact ⟨rfl, Nat.le_refl _⟩
end
theorem race_map {ops : Array Oper} {tr : List (List Nat × List Nat)} (J : Nat → Nat) (k : Nat) (tr0 : List (List Nat × List Nat)) (h : tr = tr0.map fun x => (x.1.map J, x.2.map J)) (hJ : ∀ u v, u < k → v < k → J u = J v → u = v)
    (hb : tr0.all (fun x => x.1.all (fun i => decide (i < k)) && x.2.all (fun i => decide (i < k))) = true) (hr : raceB ops tr0 = true) : raceB ops tr = true := by
 have key : ∀ a b : List Nat, a.all (fun i => decide (i < k)) = true → b.all (fun i => decide (i < k)) = true → meets a b = false → meets (a.map J) (b.map J) = false := by
  intro a b ha hb hm
  cases hc : meets (a.map J) (b.map J)
  · rfl
  · unfold meets at hc
    obtain ⟨u, hu, hc⟩ := List.any_eq_true.1 hc
    obtain ⟨x, hx, rfl⟩ := List.mem_map.1 hu
    obtain ⟨y, hy, e⟩ := List.mem_map.1 (List.contains_iff_mem.1 hc)
    have e2 := hJ y x (by simpa using List.all_eq_true.1 hb y hy) (by simpa using List.all_eq_true.1 ha x hx) e
    subst e2
    have : meets a b = true := List.any_eq_true.2 ⟨y, hx, List.contains_iff_mem.2 hy⟩
    rw [hm] at this; cases this
 subst h
 unfold raceB at hr ⊢
 simp only [List.all_eq_true, List.mem_range] at hr ⊢
 intro j hj i hi
 have h1 := hr j hj i hi
 rw [List.getElem?_map, List.getElem?_map]
 cases hx : tr0[i]? with
 | none => rfl
 | some x =>
   cases hy : tr0[j]? with
   | none => rfl
   | some y =>
     rw [hx, hy] at h1
     have bx := List.all_eq_true.1 hb x (List.mem_of_getElem? hx)
     have by' := List.all_eq_true.1 hb y (List.mem_of_getElem? hy)
     rw [Bool.and_eq_true] at bx by'
     simp only [Option.map_some]
     rw [Bool.or_eq_true] at h1 ⊢
     rcases h1 with h1 | h1
     · left
       simp only [Bool.and_eq_true, Bool.not_eq_true'] at h1 ⊢
       exact ⟨key _ _ bx.2 by'.1 h1.1, key _ _ bx.1 by'.2 h1.2⟩
     · exact .inr h1
theorem race_list {ops : Array Oper} {tr : List (List Nat × List Nat)} (L : List Nat) (hL : L.Nodup) (tr0 : List (List Nat × List Nat)) (h : tr = tr0.map fun x => (x.1.map fun i => L.getD i 0, x.2.map fun i => L.getD i 0))
    (hb : tr0.all (fun x => x.1.all (fun i => decide (i < L.length)) && x.2.all (fun i => decide (i < L.length))) = true) (hr : raceB ops tr0 = true) : raceB ops tr = true := by
 refine race_map (fun i => L.getD i 0) L.length tr0 h (fun u v hu hv e => ?_) hb hr
 simp only [List.getD_eq_getElem?_getD, List.getElem?_eq_getElem hu, List.getElem?_eq_getElem hv, Option.getD_some] at e
 exact (List.getElem_inj hL).1 e
def sel3 (a b c : Nat) : Nat → Nat
 | 0 => a
 | 1 => b
 | _ => c
theorem sel3_inj {a b c : Nat} (h1 : a ≠ b) (h2 : a ≠ c) (h3 : b ≠ c) : ∀ u v, u < 3 → v < 3 → sel3 a b c u = sel3 a b c v → u = v
 | 0, 0, _, _, _ => rfl
 | 1, 1, _, _, _ => rfl
 | 2, 2, _, _, _ => rfl
 | 0, 1, _, _, h => absurd h h1
 | 1, 0, _, _, h => absurd h.symm h1
 | 0, 2, _, _, h => absurd h h2
 | 2, 0, _, _, h => absurd h.symm h2
 | 1, 2, _, _, h => absurd h h3
 | 2, 1, _, _, h => absurd h.symm h3
 | u + 3, _, h, _, _ => absurd h (by omega)
 | _, v + 3, _, h, _ => absurd h (by omega)
def swapTr : List (List Nat × List Nat) := [([],[]),([],[]),([],[]),([0],[]),([],[]),([],[]),([],[]),([],[]),([0],[]),([],[]),([],[]),([],[]),([],[]),([0],[]),([],[]),([2],[]),([2],[]),([],[]),([],[]),([],[]),([0],[]),([],[]),([1],[]),([1],[]),([1],[]),([1,1],[1]),([2],[]),([2,2],[2])]
section
variable {I : Ids} {d : Dic} {src : Nat → Nat × Bool} {m : Mem}
theorem DicAt.new (h : DicAt m I d src) {x : Nat} {b : Option Blk} (hx : ∀ id, inD I d.m id → id ≠ x) : DicAt (upd m x b) I d src := h.keep fun id hi => upd_ne _ _ (hx id hi)
theorem DicAt.setR (h : DicAt m I d src) (ap : Apart I d.m) (v : Nat → Rat) : DicAt (upd m I.R (some (rB I d.m v))) I { d with v := v } src :=
 ⟨by rw [upd_ne _ _ ap.pR]; exact h.hp, upd_same _ _ _, by rw [upd_ne _ _ ap.RG.symm]; exact h.hG, by rw [upd_ne _ _ ap.RO.symm]; exact h.hO, by rw [upd_ne _ _ ap.RFr.symm]; exact h.hFr, by rw [upd_ne _ _ ap.RF.symm]; exact h.hF,
   fun k hk => by rw [upd_ne _ _ (ap.AR k hk)]; exact h.hA k hk⟩
theorem DicAt.setA (h : DicAt m I d src) (ap : Apart I d.m) {r : Nat} (hr : r < d.m) (c : Nat → Rat) : DicAt (upd m (I.A r) (some (fB d.n c))) I { d with a := fun k => if k = r then c else d.a k } src := by
 refine ⟨by rw [upd_ne _ _ (ap.Ap r hr).symm]; exact h.hp, by rw [upd_ne _ _ (ap.AR r hr).symm]; exact h.hR, by rw [upd_ne _ _ (ap.AG r hr).symm]; exact h.hG, by rw [upd_ne _ _ (ap.AO r hr).symm]; exact h.hO, by rw [upd_ne _ _ (ap.AFr r hr).symm]; exact h.hFr, by rw [upd_ne _ _ (ap.AF r hr).symm]; exact h.hF,
  fun k hk => ?_⟩
 by_cases e : k = r
 · subst e; rw [upd_same]; simp
 · rw [upd_ne _ _ (ap.AA k r hk hr e)]; simp only [if_neg e]; exact h.hA k hk
theorem DicAt.setA2 (h : DicAt m I d src) (ap : Apart I d.m) {r : Nat} (hr : r < d.m) (c : Nat → Rat) {a' : Nat → Nat → Rat} (ha : ∀ k, a' k = if k = r then c else d.a k) : DicAt (upd m (I.A r) (some (fB d.n c))) I { d with a := a' } src := by
 have := h.setA ap hr c
 rwa [← show a' = _ from funext ha] at this
theorem DicAt.congr (h : DicAt m I d src) {v : Nat → Rat} {a : Nat → Nat → Rat} (hv : ∀ k, k < d.m → v k = d.v k) (ha : ∀ k j, k < d.m → j < d.n → a k j = d.a k j) : DicAt m I { d with v := v, a := a } src :=
 ⟨h.hp, by have := h.hR; unfold rB at this ⊢; rwa [← rows_congr hv] at this, h.hG, h.hO, h.hFr, h.hF, fun k hk => by have := h.hA k hk; unfold fB at this ⊢; rwa [← rat_congr (ha k · hk)] at this⟩
theorem DicAt.setG (h : DicAt m I d src) (ap : Apart I d.m) (c : Nat → Rat) : DicAt (upd m I.G (some (fB d.n c))) I { d with g := c } src :=
 ⟨by rw [upd_ne _ _ ap.pG]; exact h.hp, by rw [upd_ne _ _ ap.RG]; exact h.hR, upd_same _ _ _, by rw [upd_ne _ _ ap.GO.symm]; exact h.hO, by rw [upd_ne _ _ ap.GFr.symm]; exact h.hFr, by rw [upd_ne _ _ ap.GF.symm]; exact h.hF,
   fun k hk => by rw [upd_ne _ _ (ap.AG k hk)]; exact h.hA k hk⟩
theorem DicAt.setO (h : DicAt m I d src) (ap : Apart I d.m) (f : Nat → Nat) : DicAt (upd m I.O (some (iB 3 I.vO d.m f))) I { d with own := f } src :=
 ⟨by rw [upd_ne _ _ ap.pO]; exact h.hp, by rw [upd_ne _ _ ap.RO]; exact h.hR, by rw [upd_ne _ _ ap.GO]; exact h.hG, upd_same _ _ _, by rw [upd_ne _ _ ap.OFr.symm]; exact h.hFr, by rw [upd_ne _ _ ap.OF.symm]; exact h.hF,
   fun k hk => by rw [upd_ne _ _ (ap.AO k hk)]; exact h.hA k hk⟩
theorem DicAt.setFr (h : DicAt m I d src) (ap : Apart I d.m) (f : Nat → Nat) : DicAt (upd m I.Fr (some (iB 3 I.vFr d.n f))) I { d with free := f } src :=
 ⟨by rw [upd_ne _ _ ap.pFr]; exact h.hp, by rw [upd_ne _ _ ap.RFr]; exact h.hR, by rw [upd_ne _ _ ap.GFr]; exact h.hG, by rw [upd_ne _ _ ap.OFr]; exact h.hO, upd_same _ _ _, by rw [upd_ne _ _ ap.FrF.symm]; exact h.hF,
   fun k hk => by rw [upd_ne _ _ (ap.AFr k hk)]; exact h.hA k hk⟩
end
def rowK (s : Nat) (a : Nat → Rat) (i : Nat) : Nat → Rat := fun j => if j < i ∧ j ≠ s then a j / a s else a j
theorem rowK_zero (s : Nat) (a : Nat → Rat) : rowK s a 0 = a := by funext j; unfold rowK; rw [if_neg (by omega)]
theorem rowK_same {s i : Nat} {a : Nat → Rat} (h : i = s ∨ a i = 0) : rowK s a (i + 1) = rowK s a i := by
 funext j; unfold rowK
 by_cases e : j = i
 · subst e
   rcases h with h | h
   · rw [if_neg (by omega), if_neg (by omega)]
   · rw [h]
     by_cases e2 : j = s
     · rw [if_neg (by omega), if_neg (by omega)]
     · rw [if_pos ⟨by omega, e2⟩, if_neg (by omega)]; grind
 · by_cases e2 : j < i ∧ j ≠ s
   · rw [if_pos ⟨by omega, e2.2⟩, if_pos e2]
   · rw [if_neg (by omega), if_neg e2]
theorem rowK_set {n s i : Nat} (a : Nat → Rat) (h : i ≠ s) : (ratL n (rowK s a i)).set i (cF (ofQ (a i / a s))) = ratL n (rowK s a (i + 1)) := by
 rw [rat_set]
 refine rat_congr fun u _ => ?_
 unfold rowK
 by_cases e : u = i
 · subst e; rw [if_pos rfl, if_pos ⟨by omega, h⟩]
 · rw [if_neg e]
   by_cases h2 : u < i ∧ u ≠ s
   · rw [if_pos h2, if_pos ⟨by omega, h2.2⟩]
   · rw [if_neg h2, if_neg (by omega)]
theorem rowK_end {d : Dic} {r s : Nat} : (ratL d.n (rowK s (d.a r) d.n)).set s (cF (ofQ (1 / d.a r s))) = ratL d.n ((d.ex r s).a r) := by
 rw [rat_set]
 refine rat_congr fun u hu => ?_
 unfold rowK
 simp only [Dic.ex, if_pos]
 by_cases e : u = s
 · rw [if_pos e, if_pos e]
 · rw [if_neg e, if_neg e, if_pos ⟨hu, e⟩]
theorem takeF_eq {d : Dic} {r s i j : Nat} (h : i ≠ r) : takeF s (d.a i) ((d.ex r s).a r) j = (d.ex r s).a i j := by
 unfold takeF
 simp only [Dic.ex, if_pos, if_neg h]
 by_cases e : j = s
 · rw [if_pos e, if_pos e]
 · rw [if_neg e, if_neg e, if_neg e]
theorem ex_zero {d : Dic} {r s i : Nat} (h : i ≠ r) (h0 : d.a i s = 0) : (d.ex r s).v i = d.v i ∧ ∀ j, (d.ex r s).a i j = d.a i j := by
 simp only [Dic.ex, if_neg h, h0]
 refine ⟨by grind, fun j => ?_⟩
 by_cases e : j = s
 · subst e; rw [if_pos rfl, h0]; grind
 · rw [if_neg e]; grind
theorem ex_v {d : Dic} {r s i : Nat} (h : i ≠ r) : (d.ex r s).v i = d.v i - d.a i s * (d.ex r s).v r := by simp only [Dic.ex, if_neg h, if_pos]
theorem upto {i k : Nat} (r : Nat) (h : k ≠ i) : (k < i + 1 ∨ k = r) ↔ (k < i ∨ k = r) := by omega
theorem takeG_eq {d : Dic} {r s : Nat} : takeF s d.g ((d.ex r s).a r) = (d.ex r s).g := by
 funext j
 unfold takeF
 simp only [Dic.ex, if_pos]
 by_cases e : j = s
 · rw [if_pos e, if_pos e]
 · rw [if_neg e, if_neg e, if_neg e]
theorem exg_zero {d : Dic} {r s : Nat} (h0 : d.g s = 0) : (d.ex r s).g = d.g := by
 funext j
 simp only [Dic.ex, h0]
 by_cases e : j = s
 · subst e; rw [if_pos rfl, h0]; grind
 · rw [if_neg e]; grind
theorem ints_set {k r : Nat} (f : Nat → Nat) (x : Nat) : (tabL k fun i => [dI (f i)]).set r [dI x] = tabL k fun i => [dI ((Dic.up f r x) i : Nat)] := by
 rw [tab_set]
 refine tab_congr fun u _ => ?_
 unfold Dic.up
 by_cases e : u = r
 · rw [if_pos e, if_pos e]
 · rw [if_neg e, if_neg e]
theorem swap_end {I : Ids} {d : Dic} {src : Nat → Nat × Bool} {m : Mem} {r s : Nat} (h : DicAt m I { d with v := (d.ex r s).v, a := (d.ex r s).a, g := (d.ex r s).g } src) (ap : Apart I d.m) :
    DicAt (upd (upd m I.O (some (iB 3 I.vO d.m (Dic.up d.own r (d.free s))))) I.Fr (some (iB 3 I.vFr d.n (Dic.up d.free s (d.own r))))) I (d.ex r s) src := by
 have := (h.setO ap (Dic.up d.own r (d.free s))).setFr ap (Dic.up d.free s (d.own r))
 exact ⟨this.hp, this.hR, this.hG, this.hO, this.hFr, this.hF, this.hA⟩
theorem szFn : Dic.SizeFn szQ := ⟨by decide +kernel, by decide +kernel, szQ_sub, szQ_mul, fun _ _ h => szQ_div h⟩
theorem exchange_a [Ifl] {I : Ids} {d : Dic} {src : Nat → Nat × Bool} {m : Mem} {nx r s : Nat} (h : DicAt m I d src) (ap : Apart I d.m) (hr : r < d.m) (hs : s < d.n) (hp : d.a r s ≠ 0) (hm : (d.m : Int) ≤ 4096) (hn : (d.n : Int) ≤ 4096)
    {B : Nat} (hB1 : 1 ≤ B) (hB : (B : Int) ≤ 536870912) (sz : d.Sized szQ B) :
    CallA Tryz.prog 154 [.lp I.p 0 0 0, dI r, dI s] m nx fun d' m' nx' => d' = oneD [] ∧ nx ≤ nx' ∧ DicAt m' I (d.ex r s) src ∧ ∀ id, id < nx → ¬ inD I d.m id → m' id = m id := by
 refine CallA.cl ⟨_, _, Tryz.func154, rfl, by kernel_rfl⟩ fun hcl => ?_
 have hres := Tryz.results154
 refine inA Tryz.func154 rfl Tryz.ntmps154 ?_
 have lt : ∀ id, inD I d.m id → id < nx := fun id hi => h.lt hcl hi
 have lp : I.p < nx := lt _ (.inl rfl)
 have lR : I.R < nx := lt _ (.inr (.inl rfl))
 have lA : I.A r < nx := lt _ (.inr (.inr (.inr (.inr (.inr (.inr ⟨r, hr, rfl⟩))))))
 have n1 : I.p ≠ nx := by omega
 have n2 : I.R ≠ nx := by omega
 have n3 : I.A r ≠ nx := by omega
 have n4 : nx ≠ I.R := by omega
 have n5 : nx ≠ I.A r := by omega
 have e1 := ap.pR
 have e2 := ap.AR r hr
 have e3 := ap.Ap r hr
 have e4 := (ap.Ap r hr).symm
 have e5 := (ap.AR r hr).symm
 have r0 : (0 : Int) ≤ r := by omega
 have s0 : (0 : Int) ≤ s := by omega
 have zp := sz.a r s hr hs
 have zv := sz.v r hr
 have gr := rows_get I d.v hr
 have ga := rat_get (d.a r) hs
 have k1 := sover_c (d.v r) (d.a r s) hp (by omega) (by omega)
 have es := rows_set (I := I) (m := d.m) (r := r) d.v (d.v r / d.a r s)
 have hAr := h.hA r hr
 have la := rat_len d.n (d.a r)
 have gr2 := rows_get I (fun k => if k = r then d.v r / d.a r s else d.v k) hr
 refine aGoM (cj4 hres h.hp h.hR (cj4 hAr n1 n2 (cj4 n3 n4 n5 (cj4 e1 e2 e3 (cj4 r0 s0 gr (cj4 ga es Nat.zero_le (cj2 la gr2))))))) ?_
 repeat with_reducible intro K hK
 have hD0 : DicAt (upd (upd (upd m nx (some ⟨32, 0, 4, [[dI 0, .nil, dI 0, .nil]], 0, false⟩)) nx (some ⟨32, 0, 4, [cF (ofQ (d.a r s))], 0, false⟩)) I.R (some (rB I d.m fun k => if k = r then d.v r / d.a r s else d.v k))) I { d with v := fun k => if k = r then d.v r / d.a r s else d.v k } src :=
  ((h.new fun id hi => by have := lt id hi; omega).new fun id hi => by have := lt id hi; omega).setR ap _
 refine aLoopM (fun (i : Nat) => [(0, .lp I.p 0 0 0), (1, dI r), (2, dI s), (6, .lp I.R I.vR r 0), (7, .lp nx 0 0 0), (37, dI d.n), (38, dI i)]) nx
  (fun i m1 nx1 => i ≤ d.n ∧ nx < nx1 ∧ DicAt m1 I { d with v := fun k => if k = r then d.v r / d.a r s else d.v k, a := fun k => if k = r then rowK s (d.a r) i else d.a k } src ∧ m1 nx = some ⟨32, 0, 4, [cF (ofQ (d.a r s))], 0, false⟩ ∧ ∀ id, id < nx → ¬ inD I d.m id → m1 id = m id) (fun i => d.n - i) 0 ?_ ?_ ?_ ?_
 · refine ⟨Nat.zero_le _, Nat.lt_succ_self _, ?_, ?_, fun id h1 h2 => ?_⟩
   · rw [rowK_zero, show (fun k => if k = r then d.a r else d.a k) = d.a by funext k; by_cases e : k = r <;> simp [e]]
     exact hD0
   · exact (upd_ne _ _ n4).trans (upd_same _ _ _)
   · exact (upd_ne _ _ (fun e => h2 (.inr (.inl e)))).trans ((upd_ne _ _ (by omega)).trans (upd_ne _ _ (by omega)))
 · rfl
 · simp [go_sem]
 · rintro i m1 nx1 ⟨hi, hnx, hD, hP, hfr⟩
   have hA1 := hD.hA r hr
   have hp1 := hD.hp
   have hR1 := hD.hR
   simp only [if_pos] at hA1 hp1 hR1
   obtain ⟨hw, i0⟩ := wrap2 i
   by_cases h1 : (i : Int) < d.n
   · have hin : i < d.n := by omega
     have gi := rat_get (rowK s (d.a r) i) hin
     have ei : rowK s (d.a r) i i = d.a r i := by unfold rowK; rw [if_neg (by omega)]
     have zi := sz.a r i hr hin
     have k2 := szero_c (d.a r i)
     have li := rat_len d.n (rowK s (d.a r) i)
     by_cases h2 : i = s
     · subst h2
       have h2b : ((i : Int) != i) = false := by simp
       refine aGoM (cj4 hres hA1 hp1 (cj4 hR1 hP i0 (cj4 h1 h2b hw li))) ?_
       repeat with_reducible intro K hK
       refine loop_endM (i + 1) ⟨by omega, hnx, ?_, hP, hfr⟩ (by omega) rfl (by simp [go_sem])
       rw [rowK_same (.inl rfl)]; exact hD
     · have h2b : ((i : Int) != s) = true := by simp; omega
       by_cases h3 : d.a r i = 0
       · rw [decide_eq_true h3] at k2
         refine aGoM (cj4 hres hA1 hp1 (cj4 hR1 hP i0 (cj4 h1 h2b hw (cj4 li gi ei gr2)))) ?_
         repeat with_reducible intro K hK
         refine loop_endM (i + 1) ⟨by omega, hnx, ?_, hP, hfr⟩ (by omega) rfl (by simp [go_sem])
         rw [rowK_same (.inr h3)]; exact hD
       · rw [decide_eq_false h3] at k2
         have k3 := sover_c (d.a r i) (d.a r s) hp (by omega) (by omega)
         have es2 := rowK_set (n := d.n) (d.a r) h2
         refine aGoM (cj4 hres hA1 hp1 (cj4 hR1 hP i0 (cj4 h1 h2b hw (cj4 li gi ei (cj4 gr2 n5 r0 (cj4 es2 Nat.zero_le e2 n3)))))) ?_
         repeat with_reducible intro K hK
         refine loop_endM (i + 1) ⟨by omega, hnx, ?_, ?_, ?_⟩ (by omega) rfl (by simp [go_sem])
         · exact hD.setA2 ap hr (rowK s (d.a r) (i + 1)) fun k => by by_cases e : k = r <;> simp [e]
         · exact (upd_ne _ _ n5).trans hP
         · intro id g1 g2
           exact (upd_ne _ _ (fun e => g2 (.inr (.inr (.inr (.inr (.inr (.inr ⟨r, hr, e⟩)))))))).trans (hfr id g1 g2)
   · obtain rfl : i = d.n := by omega
     have li := rat_len d.n (rowK s (d.a r) d.n)
     have gi := rat_get (rowK s (d.a r) d.n) hs
     have z1 := szQ_int 1 (by decide) (by decide)
     rw [show ((1 : Int) : Rat) = 1 from rfl] at z1
     have k2 := nO_c
     have k3 := sover_c 1 (d.a r s) hp (by omega) (by omega)
     have es3 := rowK_end (d := d) (r := r) (s := s)
     have lr := rows_len I d.m (fun k => if k = r then d.v r / d.a r s else d.v k)
     refine aGoM (cj4 hres hA1 hp1 (cj4 hR1 hP s0 (cj4 h1 li gi (cj4 gr2 n5 r0 (cj4 es3 Nat.zero_le e2 (cj4 n3 e3 lr (cj2 e4 e5))))))) ?_
     repeat with_reducible intro K hK
     have hD1 : DicAt (upd m1 (I.A r) (some (fB d.n ((d.ex r s).a r)))) I { d with v := fun k => if k < 0 ∨ k = r then (d.ex r s).v k else d.v k, a := fun k => if k < 0 ∨ k = r then (d.ex r s).a k else d.a k } src := by
      refine (hD.setA2 ap hr ((d.ex r s).a r) (a' := fun k => if k < 0 ∨ k = r then (d.ex r s).a k else d.a k) fun k => ?_).congr (fun k _ => ?_) fun _ _ _ _ => rfl
      · by_cases e : k = r <;> simp [e]
      · by_cases e : k = r
        · subst e; simp [Dic.ex]
        · simp [e]
     have zx := Dic.ex_sized szFn hr hs hp sz hB1
     refine aLoopM (fun (i : Nat) => [(0, .lp I.p 0 0 0), (1, dI r), (2, dI s), (6, .lp I.R I.vR r 0), (84, dI d.m), (85, dI i)]) nx
      (fun i m2 nx2 => i ≤ d.m ∧ nx ≤ nx2 ∧ DicAt m2 I { d with v := fun k => if k < i ∨ k = r then (d.ex r s).v k else d.v k, a := fun k => if k < i ∨ k = r then (d.ex r s).a k else d.a k } src ∧ ∀ id, id < nx → ¬ inD I d.m id → m2 id = m id) (fun i => d.m - i) 0 ?_ ?_ ?_ ?_
     · exact ⟨Nat.zero_le _, Nat.le_of_lt hnx, hD1, fun id g1 g2 => (upd_ne _ _ (fun e => g2 (.inr (.inr (.inr (.inr (.inr (.inr ⟨r, hr, e⟩)))))))).trans (hfr id g1 g2)⟩
     · rfl
     · simp [go_sem]
     · rintro i m2 nx2 ⟨hi2, hnx2, hE, hfr2⟩
       have hA1 := hE.hA r hr
       have hp1 := hE.hp
       have hR1 := hE.hR
       simp only [or_true, if_pos] at hA1 hp1 hR1
       obtain ⟨hw, i0⟩ := wrap2 i
       by_cases h2 : (i : Int) < d.m
       · have him : i < d.m := by omega
         have lr2 := rows_len I d.m (fun k => if k < i ∨ k = r then (d.ex r s).v k else d.v k)
         have gi := rows_get I (fun k => if k < i ∨ k = r then (d.ex r s).v k else d.v k) him
         by_cases h3 : i = r
         · subst h3
           have h3b : ((i : Int) != i) = false := by simp
           refine aGoM (cj4 hres hp1 hR1 (cj4 i0 h2 h3b (cj4 hw lr2 gi s0))) ?_
           repeat with_reducible intro K hK
           have e : ∀ k, (k < i + 1 ∨ k = i) ↔ (k < i ∨ k = i) := fun k => by omega
           exact loop_endM (i + 1) ⟨by omega, hnx2, hE.congr (fun k _ => by simp only [e]) (fun k j _ _ => by simp only [e]), hfr2⟩ (by omega) rfl (by simp [go_sem])
         · have h3b : ((i : Int) != r) = true := by simp; omega
           have ei : (if i < i ∨ i = r then (d.ex r s).v i else d.v i) = d.v i := if_neg (by omega)
           simp only [ei] at gi
           have gr3 := rows_get I (fun k => if k < i ∨ k = r then (d.ex r s).v k else d.v k) hr
           have er : (if r < i ∨ r = r then (d.ex r s).v r else d.v r) = (d.ex r s).v r := if_pos (.inr rfl)
           simp only [er] at gr3
           have hAi : m2 (I.A i) = some (fB d.n (d.a i)) := (hE.hA i him).trans (by simp only [if_neg (show ¬ (i < i ∨ i = r) by omega)])
           have gai := rat_get (d.a i) hs
           have k2 := szero_c (d.a i s)
           have lai := rat_len d.n (d.a i)
           have zi := sz.a i s him hs
           by_cases h4 : d.a i s = 0
           · rw [decide_eq_true h4] at k2
             refine aGoM (cj4 hres hp1 hR1 (cj4 i0 h2 h3b (cj4 hw lr2 gi (cj4 s0 hAi gai lai)))) ?_
             repeat with_reducible intro K hK
             obtain ⟨z1, z2⟩ := ex_zero (s := s) h3 h4
             refine loop_endM (i + 1) ⟨by omega, hnx2, hE.congr (fun k _ => ?_) (fun k j _ _ => ?_), hfr2⟩ (by omega) rfl (by simp [go_sem])
             · by_cases e : k = i
               · subst e; simp only [z1, ite_self]
               · simp only [upto r e]
             · by_cases e : k = i
               · subst e
                 by_cases e2 : k < k + 1 ∨ k = r
                 · rw [if_pos e2, z2]; show d.a k j = (if k < k ∨ k = r then (d.ex r s).a k else d.a k) j; rw [if_neg (by omega)]
                 · omega
               · simp only [upto r e]
           · rw [decide_eq_false h4] at k2
             have zvi := sz.v i him
             have zvr := zx.v r hr
             have k3 := sless_c (d.v i) (d.a i s) ((d.ex r s).v r) (by omega) (by omega) (by omega)
             rw [← ex_v h3] at k3
             obtain ⟨V, hV⟩ : ∃ V : Nat → Rat, V = fun k => if k = i then (d.ex r s).v i else if k < i ∨ k = r then (d.ex r s).v k else d.v k := ⟨_, rfl⟩
             have es4 := rows_set (I := I) (m := d.m) (r := i) (fun k => if k < i ∨ k = r then (d.ex r s).v k else d.v k) ((d.ex r s).v i)
             rw [← hV] at es4
             have gi5 := rows_get I V him
             have gr5 := rows_get I V hr
             have eA : I.A i ≠ I.A r := ap.AA i r him hr h3
             have eAr := eA.symm
             have eAR := ap.AR i him
             have eARs := eAR.symm
             refine aGoM (cj4 hres hp1 hR1 (cj4 i0 h2 h3b (cj4 hw lr2 gi (cj4 s0 hAi gai (cj4 lai gr3 r0 (cj4 es4 Nat.zero_le hA1 (cj4 eAR eARs e2 (cj3 e5 gi5 gr5)))))))) ?_
             repeat with_reducible intro K hK
             repeat with_reducible intro K hK
             have lAi := lt _ (.inr (.inr (.inr (.inr (.inr (.inr ⟨i, him, rfl⟩))))))
             refine callU_eff (take_e d.n s (I.A i) (I.A r) (d.a i) ((d.ex r s).a r) _ _ hn hs eA ((upd_ne _ _ eAR).trans hAi) ((upd_ne _ _ e2).trans hA1) (by omega) (fun j hj => by have := sz.a i j him hj; omega) (fun j hj => by have := zx.a r j hr hj; omega)) ?_
             refine aGoM (cj3 hres h2 hw) ?_
             repeat with_reducible intro K hK
             refine loop_endM (i + 1) ⟨by omega, hnx2, ?_, ?_⟩ (by omega) rfl (by simp [go_sem])
             · refine ((hE.setR ap V).setA2 ap him (takeF s (d.a i) ((d.ex r s).a r)) (a' := fun k => if k = i then takeF s (d.a i) ((d.ex r s).a r) else if k < i ∨ k = r then (d.ex r s).a k else d.a k) fun k => rfl).congr (fun k _ => ?_) (fun k j _ _ => ?_)
               · by_cases e : k = i
                 · subst e; simp [hV]
                 · simp only [upto r e, if_neg e, hV]
               · by_cases e : k = i
                 · subst e; simp only [if_pos, takeF_eq h3]; rw [if_pos (by omega)]
                 · simp only [upto r e, if_neg e]
             · intro id g1 g2
               exact (upd_ne _ _ (fun e => g2 (.inr (.inr (.inr (.inr (.inr (.inr ⟨i, him, e⟩)))))))).trans ((upd_ne _ _ (fun e => g2 (.inr (.inl e)))).trans (hfr2 id g1 g2))
       · obtain rfl : i = d.m := by omega
         have hE' : DicAt m2 I { d with v := (d.ex r s).v, a := (d.ex r s).a } src := hE.congr (fun k hk => by simp [hk]) (fun k j hk _ => by simp [hk])
         have hA2 : m2 (I.A r) = some (fB d.n ((d.ex r s).a r)) := hE'.hA r hr
         have hR2 : m2 I.R = some (rB I d.m (d.ex r s).v) := hE'.hR
         have hp2 : m2 I.p = some (pB I d.n) := hE'.hp
         have hG2 : m2 I.G = some (fB d.n d.g) := hE'.hG
         have hO2 : m2 I.O = some (iB 3 I.vO d.m d.own) := hE'.hO
         have hF2 : m2 I.Fr = some (iB 3 I.vFr d.n d.free) := hE'.hFr
         have gg := rat_get d.g hs
         have k2 := szero_c (d.g s)
         have zg := sz.g s hs
         have go := tab_get (fun i => [dI (d.own i)]) hr
         have gf := tab_get (fun i => [dI (d.free i)]) hs
         have so := ints_set (k := d.m) (r := r) d.own (d.free s)
         have sf := ints_set (k := d.n) (r := s) d.free (d.own r)
         have gr5 := rows_get I (d.ex r s).v hr
         have u1 := ap.pO
         have u2 := ap.pFr
         have u3 := ap.OFr
         have u4 := ap.OFr.symm
         by_cases h4 : d.g s = 0
         · rw [decide_eq_true h4] at k2
           refine aGoM (cj4 hres hp2 hG2 (cj4 gg s0 hO2 (cj4 hF2 go gf (cj4 so sf u1 (cj4 u2 u3 u4 (cj3 r0 h2 Nat.zero_le)))))) ?_
           repeat with_reducible intro K hK
           refine ⟨Nat.lt_of_lt_of_le (lt _ (.inr (.inr (.inr (.inl rfl))))) hnx2, Nat.lt_of_lt_of_le (lt _ (.inr (.inr (.inr (.inr (.inl rfl)))))) hnx2, ?_⟩
           with_reducible apply useE
           with_reducible assumption
           exact race_map (sel3 I.p I.O I.Fr) 3 swapTr rfl (sel3_inj u1 u2 u3) (by decide) (by kernel_rfl)
           exact intsOk_no rfl
           refine aGoM hres ?_
           refine ⟨swap_end (by rw [exg_zero h4]; exact hE') ap, fun id g1 g2 => ?_⟩
           rw [if_neg (fun e => g2 (.inr (.inr (.inr (.inr (.inl e)))))), if_neg (fun e => g2 (.inr (.inr (.inr (.inl e)))))]
           exact hfr2 id g1 g2
         · rw [decide_eq_false h4] at k2
           have v1 := ap.pG
           have v2 := ap.RG
           have v3 := ap.AG r hr
           have v4 := v3.symm
           have v5 := ap.GO.symm
           have v6 := ap.GFr.symm
           refine aGoM (cj4 hres hp2 hG2 (cj4 gg s0 hO2 (cj4 hF2 go gf (cj4 hR2 hA2 gr5 (cj4 u2 u3 u4 (cj4 r0 h2 Nat.zero_le (cj4 v1 v2 v3 v4))))))) ?_
           repeat with_reducible intro K hK
           refine callU_eff (take_e d.n s I.G (I.A r) d.g ((d.ex r s).a r) _ _ hn hs v4 hG2 hA2 (Nat.lt_of_lt_of_le (lt _ (.inr (.inr (.inl rfl)))) hnx2) (fun j hj => by have := sz.g j hj; omega) (fun j hj => by have := zx.a r j hr hj; omega)) ?_
           rw [takeG_eq]
           refine aGoM (cj4 hres hp2 hG2 (cj4 gg s0 hO2 (cj4 hF2 go gf (cj4 so sf u1 (cj4 u2 u3 u4 (cj4 r0 h2 Nat.zero_le (cj4 v1 v5 v6 trivial))))))) ?_
           repeat with_reducible intro K hK
           refine ⟨Nat.lt_of_lt_of_le (lt _ (.inr (.inr (.inr (.inl rfl))))) hnx2, Nat.lt_of_lt_of_le (lt _ (.inr (.inr (.inr (.inr (.inl rfl)))))) hnx2, ?_⟩
           with_reducible apply useE
           with_reducible assumption
           exact race_map (sel3 I.p I.O I.Fr) 3 swapTr rfl (sel3_inj u1 u2 u3) (by decide) (by kernel_rfl)
           exact intsOk_no rfl
           refine aGoM hres ?_
           refine ⟨swap_end (hE'.setG ap (d.ex r s).g) ap, fun id g1 g2 => ?_⟩
           rw [if_neg (fun e => g2 (.inr (.inr (.inr (.inr (.inl e)))))), if_neg (fun e => g2 (.inr (.inr (.inr (.inl e))))), if_neg (fun e => g2 (.inr (.inr (.inl e))))]
           exact hfr2 id g1 g2
inductive Out where
 | best
 | row (r : Nat)
 | col (s : Nat)
 | ex (r s : Nat)
def rowNext (d : Dic) (r : Nat) : Out := match pick d.free (fun j => neg' (d.a r j)) d.n with
 | none => .row r
 | some s => .ex r s
def colNext (d : Dic) (s : Nat) : Out := match pick d.own (fun i => pos' (d.a i s)) d.m with
 | none => .col s
 | some r => .ex r s
def next (d : Dic) : Out := match pick d.own (fun i => neg' (d.v i)) d.m, pick d.free (fun j => pos' (d.g j)) d.n with
 | none, none => .best
 | some r, none => rowNext d r
 | some r, some s => if d.own r < d.free s then rowNext d r else colNext d s
 | none, some s => colNext d s
theorem not_pos {p : Rat → Bool} {q : Rat → Prop} (h : ∀ r, p r = true ↔ q r) {r : Rat} (hp : p r = false) : ¬ q r := fun hq => by rw [(h r).2 hq] at hp; cases hp
theorem next_row {d : Dic} {r s : Nat} (hr : pick d.own (fun i => neg' (d.v i)) d.m = some r) (hg : ∀ j, j < d.n → 0 < d.g j → d.own r < d.free j) (h : rowNext d r = .ex r s) : d.Step r s := by
 unfold rowNext at h
 split at h
 · cases h
 · rename_i s' hs
   cases h
   obtain ⟨h1, h2, h3⟩ := pick_some hr
   obtain ⟨g1, g2, g3⟩ := pick_some hs
   exact .inl ⟨h1, g1, (neg_iff _).1 h2, fun i hi hv => h3 i hi ((neg_iff _).2 hv), hg, (neg_iff _).1 g2, fun j hj ha => g3 j hj ((neg_iff _).2 ha)⟩
theorem next_col {d : Dic} {r s : Nat} (hs : pick d.free (fun j => pos' (d.g j)) d.n = some s) (hv : ∀ i, i < d.m → d.v i < 0 → d.free s < d.own i) (h : colNext d s = .ex r s) : d.Step r s := by
 unfold colNext at h
 split at h
 · cases h
 · rename_i r' hr
   cases h
   obtain ⟨h1, h2, h3⟩ := pick_some hr
   obtain ⟨g1, g2, g3⟩ := pick_some hs
   exact .inr ⟨h1, g1, (pos_iff _).1 g2, fun j hj hg => g3 j hj ((pos_iff _).2 hg), hv, (pos_iff _).1 h2, fun i hi ha => h3 i hi ((pos_iff _).2 ha)⟩
theorem rowNext_ex {d : Dic} {r r' s : Nat} (h : rowNext d r = .ex r' s) : r' = r := by
 unfold rowNext at h; split at h <;> cases h; rfl
theorem colNext_ex {d : Dic} {s r s' : Nat} (h : colNext d s = .ex r s') : s' = s := by
 unfold colNext at h; split at h <;> cases h; rfl
theorem next_step {d : Dic} (hP : d.Part) {r s : Nat} (h : next d = .ex r s) : d.Step r s := by
 unfold next at h
 split at h
 · cases h
 · rename_i r0 hr hs
   obtain rfl := rowNext_ex h
   exact next_row hr (fun j hj hg => absurd hg (not_pos pos_iff (pick_none hs j hj))) h
 · rename_i r0 s0 hr hs
   split at h
   · rename_i hlt
     obtain rfl := rowNext_ex h
     exact next_row hr (fun j hj hg => Nat.lt_of_lt_of_le hlt ((pick_some hs).2.2 j hj ((pos_iff _).2 hg))) h
   · rename_i hlt
     obtain rfl := colNext_ex h
     refine next_col hs (fun i hi hv => ?_) h
     have h1 := (pick_some hr).2.2 i hi ((neg_iff _).2 hv)
     have h2 := hP.apart i s hi (pick_some hs).1
     omega
 · rename_i s0 hr hs
   obtain rfl := colNext_ex h
   exact next_col hs (fun i hi hv => absurd hv (not_pos neg_iff (pick_none hr i hi))) h
def iter (d : Dic) : Dic := match next d with
 | .ex r s => d.ex r s
 | _ => d
def ended (d : Dic) : Prop := ∀ r s, next d ≠ .ex r s
def iters : Nat → Dic → Dic
 | 0, d => d
 | k + 1, d => iters k (iter d)
theorem iter_ex {d : Dic} {r s : Nat} (h : next d = .ex r s) : iter d = d.ex r s := by unfold iter; rw [h]
theorem iter_ended {d : Dic} (h : ended d) : iter d = d := by
 unfold iter; split
 · rename_i r s hn; exact absurd hn (h r s)
 · rfl
theorem iters_ended {d : Dic} (h : ended d) : ∀ k, iters k d = d
 | 0 => rfl
 | k + 1 => by rw [iters, iter_ended h, iters_ended h k]
theorem iters_snoc (d : Dic) : ∀ k, iters (k + 1) d = iter (iters k d)
 | 0 => rfl
 | k + 1 => by rw [iters, iters_snoc (iter d) k]; rfl
theorem not_ended {d : Dic} (h : ¬ ended d) : ∃ r s, next d = .ex r s := by
 unfold ended at h
 exact Classical.byContradiction fun hn => h fun r s e => hn ⟨r, s, e⟩
theorem iter_part {d : Dic} (h : d.Part) : (iter d).Part := by
 unfold iter; split
 · rename_i r s hn; have := next_step h hn; exact Dic.ex_part h this.hr this.hs
 · exact h
theorem iters_part {d : Dic} (h : d.Part) : ∀ k, (iters k d).Part
 | 0 => h
 | k + 1 => by rw [iters_snoc]; exact iter_part (iters_part h k)
theorem ends_some {d : Dic} (h : d.Part) : ∃ k, ended (iters k d) := by
 refine Classical.byContradiction fun hn => ?_
 have hno : ∀ k, ∃ r s, next (iters k d) = .ex r s := fun k => not_ended fun he => hn ⟨k, he⟩
 have run : Dic.Run (2 ^ (d.n + d.m)) (fun k => iters k d) (fun k => Classical.choose (hno k)) (fun k => Classical.choose (Classical.choose_spec (hno k))) := by
  refine ⟨h, fun k _ => ?_, fun k _ => ?_⟩
  · exact next_step (iters_part h k) (Classical.choose_spec (Classical.choose_spec (hno k)))
  · show iters (k + 1) d = _
    rw [iters_snoc]
    exact iter_ex (Classical.choose_spec (Classical.choose_spec (hno k)))
 have := run.short
 simp only [iters] at this
 omega
noncomputable def left (d : Dic) : Nat := leastN fun k => ended (iters k d)
noncomputable def final (d : Dic) : Dic := iters (left d) d
theorem left_step {d : Dic} (h : d.Part) {r s : Nat} (hn : next d = .ex r s) : left (d.ex r s) < left d := by
 have h1 := (leastN_spec (ends_some h)).1
 have h2 := leastN_spec (ends_some (d := d.ex r s) (by rw [← iter_ex hn]; exact iter_part h))
 unfold left
 cases hk : leastN fun k => ended (iters k d) with
 | zero => rw [hk] at h1; exact absurd hn (h1 r s)
 | succ k =>
   rw [hk, iters, iter_ex hn] at h1
   have := h2.2 k h1
   omega
theorem final_ended {d : Dic} (h : d.Part) : ended (final d) := (leastN_spec (ends_some h)).1
theorem final_step {d : Dic} (h : d.Part) {r s : Nat} (hn : next d = .ex r s) : final (d.ex r s) = final d := by
 have hP : (d.ex r s).Part := by rw [← iter_ex hn]; exact iter_part h
 have h1 := left_step h hn
 have h2 := final_ended hP
 have h3 := final_ended h
 unfold final at h2 h3 ⊢
 have e1 : left d = (left d - 1) + 1 := by omega
 rw [e1, iters, iter_ex hn] at h3 ⊢
 have h4 := (leastN_spec (ends_some hP)).2 (left d - 1) h3
 have h5 : left (d.ex r s) ≤ left d - 1 := h4
 have : ∀ j k, j ≤ k → ended (iters j (d.ex r s)) → iters k (d.ex r s) = iters j (d.ex r s) := by
  intro j k hjk he
  induction k with
  | zero => obtain rfl : j = 0 := by omega
            rfl
  | succ k ih =>
    by_cases e : j = k + 1
    · subst e; rfl
    · rw [iters_snoc, ih (by omega), iter_ended he]
 exact (this _ _ h5 h2).symm
theorem final_self {d : Dic} (h : d.Part) (he : ended d) : final d = d := iters_ended he _
theorem iters_same {d : Dic} (h : d.Part) : ∀ k, Dic.Same d (iters k d)
 | 0 => Dic.Same.refl d
 | k + 1 => by
   rw [iters_snoc]
   refine (iters_same h k).trans ?_
   unfold iter; split
   · rename_i r s hn
     have := next_step (iters_part h k) hn
     exact Dic.ex_same this.hr this.hs this.ne
   · exact Dic.Same.refl _
theorem final_part {d : Dic} (h : d.Part) : (final d).Part := iters_part h _
theorem final_same {d : Dic} (h : d.Part) : Dic.Same d (final d) := iters_same h _
set_option maxHeartbeats 32000000
def encOut : Out → D
 | .best => .tup [dI (-1), dI (-1)]
 | .row r => .tup [dI r, dI (-1)]
 | .col s => .tup [dI (-1), dI s]
 | .ex _ _ => .junk
theorem search_a [Ifl] {I : Ids} {d0 : Dic} {src : Nat → Nat × Bool} {m : Mem} {nx : Nat} (h : DicAt m I d0 src) (ap : Apart I d0.m) (hf : d0.First) (hm : (d0.m : Int) ≤ 4096) (hn : (d0.n : Int) ≤ 4096)
    {B t : Nat} (hB1 : 1 ≤ B) (hB : (Dic.grow B t : Int) ≤ 536870912) (ht : d0.n ≤ t ∨ d0.m ≤ t) (sz : d0.Sized szQ B) :
    CallA Tryz.prog 63 [.lp I.p 0 0 0] m nx fun d' m' nx' => d' = encOut (next (final d0)) ∧ nx ≤ nx' ∧ DicAt m' I (final d0) src ∧ ∀ id, id < nx → ¬ inD I d0.m id → m' id = m id := by
 refine CallA.cl ⟨_, _, Tryz.func63, rfl, by kernel_rfl⟩ fun hcl => ?_
 have hres := Tryz.results63
 refine inA Tryz.func63 rfl Tryz.ntmps63 ?_
 have lt : ∀ id, inD I d0.m id → id < nx := fun id hi => h.lt hcl hi
 refine aGoM (cj2 hres ty_dp) ?_
 repeat with_reducible intro K hK
 refine aLoopM (fun (_ : Dic) => [(1, .lp nx 0 0 0)]) nx (fun E m1 nx1 => E.Part ∧ Dic.Same d0 E ∧ final E = final d0 ∧ DicAt m1 I E src ∧ m1 nx = some (bxB 86 I.p) ∧ nx < nx1 ∧ ∀ id, id < nx → ¬ inD I d0.m id → m1 id = m id) left d0 ?_ ?_ ?_ ?_
 · exact ⟨hf.part, Dic.Same.refl _, rfl, h.new fun id hi => by have := lt id hi; omega, upd_same _ _ _, Nat.lt_succ_self _, fun id h1 _ => upd_ne _ _ (by omega)⟩
 · rfl
 · simp [go_sem]
 · rintro E m1 nx1 ⟨hP, hS, hfin, hD, hbx, hnx, hfr⟩
   have eM := hS.m
   have eN := hS.n
   have lt1 : ∀ id, inD I E.m id → id < nx1 := fun id hi => by rw [← eM] at hi; have := lt id hi; omega
   have hp := hD.hp
   have hO := hD.hO
   have hF := hD.hFr
   have lO := lt1 _ (.inr (.inr (.inr (.inl rfl))))
   have lF := lt1 _ (.inr (.inr (.inr (.inr (.inl rfl)))))
   refine aGoM (cj4 hres ty_dp hp (cj2 hO hbx)) ?_
   repeat with_reducible intro K hK
   refine callT_eff (least_a E.m E.own (fun i => neg' (E.v i)) I.O I.vO _ [.lp nx 0 0 0] _ _ (by omega) hO lO fun i hi m' nx' hn' hf' => s1_a (hD.keep fun id hid => hf' id (lt1 id hid)) ((hf' nx hnx).trans hbx) hi) ?_
   rintro _ m2 nx2 ⟨rfl, hn2, hf2⟩
   have hD2 : DicAt m2 I E src := hD.keep fun id hid => hf2 id (lt1 id hid)
   have hbx2 := (hf2 nx hnx).trans hbx
   obtain ⟨pr, hpr⟩ : ∃ pr, pick E.own (fun i => neg' (E.v i)) E.m = pr := ⟨_, rfl⟩
   rw [hpr]
   have q1 : nx ≠ nx2 := by omega
   have q2 : I.p ≠ nx2 := by have := lt1 _ (.inl rfl); omega
   have q3 : I.Fr ≠ nx2 := by omega
   have ne2 : ∀ id, inD I E.m id → id ≠ nx2 := fun id hid => by have := lt1 id hid; omega
   refine aGoM (cj4 hres ty_dp hD2.hp (cj4 hD2.hFr hbx2 q1 (cj2 q2 q3))) ?_
   repeat with_reducible intro K hK
   have hD2' := (hD2.new (x := nx2) (b := some (nB 0)) ne2).new (x := nx2) (b := some (nB (oI pr))) ne2
   refine callT_eff (least_a E.n E.free (fun j => pos' (E.g j)) I.Fr I.vFr _ [.lp nx 0 0 0] _ _ (by omega) hD2'.hFr (by omega) fun i hi m' nx' hn' hf' => s2_a (hD2'.keep fun id hid => hf' id (by have := lt1 id hid; omega)) ((hf' nx (by omega)).trans ((upd_ne _ _ q1).trans ((upd_ne _ _ q1).trans hbx2))) hi) ?_
   rintro _ m3 nx3 ⟨rfl, hn3, hf3⟩
   have hD3 : DicAt m3 I E src := hD2'.keep fun id hid => hf3 id (by have := lt1 id hid; omega)
   have hbx3 : m3 nx = some (bxB 86 I.p) := (hf3 nx (by omega)).trans ((upd_ne _ _ q1).trans ((upd_ne _ _ q1).trans hbx2))
   have hr3 : m3 nx2 = some (nB (oI pr)) := (hf3 nx2 (by omega)).trans (upd_same _ _ _)
   have hfr3 : ∀ id, id < nx → ¬ inD I d0.m id → m3 id = m id := fun id h1 h2 => (hf3 id (by omega)).trans ((upd_ne _ _ (by omega)).trans ((upd_ne _ _ (by omega)).trans ((hf2 id (by omega)).trans (hfr id h1 h2))))
   obtain ⟨ps, hps⟩ : ∃ ps, pick E.free (fun j => pos' (E.g j)) E.n = ps := ⟨_, rfl⟩
   rw [hps]
   have r1 : nx ≠ nx3 := by omega
   have r2 : nx2 ≠ nx3 := by omega
   have r3 : I.p ≠ nx3 := by have := lt1 _ (.inl rfl); omega
   have r4 : I.O ≠ nx3 := by omega
   have r5 : I.Fr ≠ nx3 := by omega
   have r6 : nx3 ≠ nx := by omega
   have r7 : nx3 ≠ nx2 := by omega
   have r8 : nx2 ≠ nx := by omega
   have ne3 : ∀ id, inD I E.m id → id ≠ nx3 := fun id hid => by have := lt1 id hid; omega
   have hp3 := hD3.hp
   have hO3 := hD3.hO
   have hF3 := hD3.hFr
   have oN : oI none = -1 := rfl
   have oS : ∀ a, oI (some a) = a := fun _ => rfl
   have lO3 : I.O < nx3 := by omega
   have lF3 : I.Fr < nx3 := by omega
   have f0 := cj4 hres ty_dp hp3 (cj4 hO3 hF3 hbx3 (cj4 hr3 r1 r2 (cj4 r3 r4 r5 (cj3 r6 r7 r8))))
   cases pr with
   | none =>
     cases ps with
     | none =>
       have hnext : next E = .best := by unfold next; rw [hpr, hps]
       have hend : ended E := fun r s e => by rw [hnext] at e; cases e
       have hfE : final d0 = E := hfin.symm.trans (final_self hP hend)
       have z1 : (-1 : Int) < 0 := by decide
       refine aGoM (cj3 f0 oN z1) ?_
       rw [hfE, hnext]
       refine ⟨rfl, by omega, (hD3.new ne3).new ne3, fun id h1 h2 => ?_⟩
       rw [if_neg (by omega), if_neg (by omega)]
       exact hfr3 id h1 h2
     | some s =>
       have z0 : (-1 : Int) < 0 := by decide
       have z2 : ¬ (-1 : Int) ≥ 0 := by decide
       have z3 : ¬ (s : Int) < 0 := by omega
       refine aGoM (cj4 f0 oN oS (cj3 z0 z2 z3)) ?_
       repeat with_reducible intro K hK
       have hsn := (pick_some hps).1
       have hD4 := (hD3.new (x := nx3) (b := some (nB 0)) ne3).new (x := nx3) (b := some (nB s)) ne3
       refine callT_eff (least_a E.m E.own (fun i => pos' (E.a i s)) I.O I.vO _ [.lp nx 0 0 0, .lp nx3 0 0 0] _ _ (by omega) hD4.hO (by omega) fun i hi m' nx' hn' hf' => s4_a (hD4.keep fun id hid => hf' id (by have := lt1 id hid; omega)) ((hf' nx (by omega)).trans ((upd_ne _ _ r1).trans ((upd_ne _ _ r1).trans hbx3))) hsn ((hf' nx3 (by omega)).trans (upd_same _ _ _)) hi) ?_
       rintro _ m4 nx4 ⟨rfl, hn4, hf4⟩
       have hD4' : DicAt m4 I E src := hD4.keep fun id hid => hf4 id (by have := lt1 id hid; omega)
       have hbx4 : m4 nx = some (bxB 86 I.p) := (hf4 nx (by omega)).trans ((upd_ne _ _ r1).trans ((upd_ne _ _ r1).trans hbx3))
       have hr4 : m4 nx2 = some (nB (-1)) := (hf4 nx2 (by omega)).trans ((upd_ne _ _ r2).trans ((upd_ne _ _ r2).trans hr3))
       have hs4 : m4 nx3 = some (nB s) := (hf4 nx3 (by omega)).trans (upd_same _ _ _)
       have hfr4 : ∀ id, id < nx → ¬ inD I d0.m id → m4 id = m id := fun id h1 h2 => (hf4 id (by omega)).trans ((upd_ne _ _ (by omega)).trans ((upd_ne _ _ (by omega)).trans (hfr3 id h1 h2)))
       obtain ⟨pq, hpq⟩ : ∃ pq, pick E.own (fun i => pos' (E.a i s)) E.m = pq := ⟨_, rfl⟩
       rw [hpq]
       have hD5 := hD4'.new (x := nx2) (b := some (nB (oI pq))) ne2
       have hbx5 : (upd m4 nx2 (some (nB (oI pq)))) nx = some (bxB 86 I.p) := (upd_ne _ _ q1).trans hbx4
       have hfr5 : ∀ id, id < nx → ¬ inD I d0.m id → (upd m4 nx2 (some (nB (oI pq)))) id = m id := fun id h1 h2 => (upd_ne _ _ (by omega)).trans (hfr4 id h1 h2)
       have hcol : next E = colNext E s := by unfold next; rw [hpr, hps]
       cases pq with
       | none =>
         have hnext : next E = .col s := by rw [hcol]; unfold colNext; rw [hpq]
         have hend : ended E := fun r s e => by rw [hnext] at e; cases e
         have hfE : final d0 = E := hfin.symm.trans (final_self hP hend)
         have z1 : (-1 : Int) < 0 := by decide
         refine aGoM (cj4 hres hs4 hr4 (cj4 oN z1 r2 (cj2 r7 oS))) ?_
         rw [hfE, hnext]
         refine ⟨rfl, by omega, hD5, fun id h1 h2 => ?_⟩
         rw [if_neg (by omega)]
         exact hfr4 id h1 h2
       | some r =>
         have hnext : next E = .ex r s := by rw [hcol]; unfold colNext; rw [hpq]
         have z1 : ¬ (r : Int) < 0 := by omega
         refine aGoM (cj4 hres hs4 hr4 (cj4 oS z1 r2 (cj4 r7 hbx4 ty_dp (cj2 q1 r8)))) ?_
         repeat with_reducible intro K hK
         have hst := next_step hP hnext
         have zE := Dic.small szFn hf hB1 sz hP hS (t := t) (by omega)
         refine callT_eff (exchange_a hD5 (eM ▸ ap) hst.hr hst.hs hst.ne (by omega) (by omega) (Dic.grow_pos hB1 t) hB zE) ?_
         rintro _ m6 nx6 ⟨rfl, hn6, hD6, hf6⟩
         refine aGoM (cj2 hres ty_dp) ?_
         repeat with_reducible intro K hK
         have hnin : ∀ id, nx ≤ id → ¬ inD I E.m id := fun id h1 h2 => by have := lt id (by rw [eM]; exact h2); omega
         refine loop_endM (E.ex r s) ⟨Dic.ex_part hP hst.hr hst.hs, hS.trans (Dic.ex_same hst.hr hst.hs hst.ne), (final_step hP hnext).trans hfin, hD6, ?_, ?_, fun id h1 h2 => ?_⟩ (left_step hP hnext) rfl (by simp [go_sem])
         · exact (hf6 nx (by omega) (hnin nx (Nat.le_refl _))).trans hbx5
         · show nx < nx6; omega
         · exact (hf6 id (by omega) (by rw [← eM]; exact h2)).trans (hfr5 id h1 h2)
   | some r =>
     have hrm := (pick_some hpr).1
     have go := tab_get (fun i => [dI (E.own i)]) hrm
     have z0 : ¬ (r : Int) < 0 := by omega
     have z1 : (r : Int) ≥ 0 := by omega
     have z4 : (0 : Int) ≤ r := by omega
     cases ps with
     | none =>
       have z5 : (-1 : Int) < 0 := by decide
       refine aGoM (cj4 f0 oN oS (cj4 z0 z1 z4 z5)) ?_
       repeat with_reducible intro K hK
       have hrm := (pick_some hpr).1
       have hD4 := (hD3.new (x := nx3) (b := some (nB 0)) ne3).new (x := nx3) (b := some (nB (-1))) ne3
       refine callT_eff (least_a E.n E.free (fun j => neg' (E.a r j)) I.Fr I.vFr _ [.lp nx 0 0 0, .lp nx2 0 0 0] _ _ (by omega) hD4.hFr (by omega) fun i hi m' nx' hn' hf' => s3_a (hD4.keep fun id hid => hf' id (by have := lt1 id hid; omega)) ((hf' nx (by omega)).trans ((upd_ne _ _ r1).trans ((upd_ne _ _ r1).trans hbx3))) hrm ((hf' nx2 (by omega)).trans ((upd_ne _ _ r2).trans ((upd_ne _ _ r2).trans hr3))) hi) ?_
       rintro _ m4 nx4 ⟨rfl, hn4, hf4⟩
       have hD4' : DicAt m4 I E src := hD4.keep fun id hid => hf4 id (by have := lt1 id hid; omega)
       have hbx4 : m4 nx = some (bxB 86 I.p) := (hf4 nx (by omega)).trans ((upd_ne _ _ r1).trans ((upd_ne _ _ r1).trans hbx3))
       have hr4 : m4 nx2 = some (nB r) := (hf4 nx2 (by omega)).trans ((upd_ne _ _ r2).trans ((upd_ne _ _ r2).trans hr3))
       have hs4 : m4 nx3 = some (nB (-1)) := (hf4 nx3 (by omega)).trans (upd_same _ _ _)
       have hfr4 : ∀ id, id < nx → ¬ inD I d0.m id → m4 id = m id := fun id h1 h2 => (hf4 id (by omega)).trans ((upd_ne _ _ (by omega)).trans ((upd_ne _ _ (by omega)).trans (hfr3 id h1 h2)))
       obtain ⟨pq, hpq⟩ : ∃ pq, pick E.free (fun j => neg' (E.a r j)) E.n = pq := ⟨_, rfl⟩
       rw [hpq]
       have hD5 := hD4'.new (x := nx3) (b := some (nB (oI pq))) ne3
       have hbx5 : (upd m4 nx3 (some (nB (oI pq)))) nx = some (bxB 86 I.p) := (upd_ne _ _ r1).trans hbx4
       have hfr5 : ∀ id, id < nx → ¬ inD I d0.m id → (upd m4 nx3 (some (nB (oI pq)))) id = m id := fun id h1 h2 => (upd_ne _ _ (by omega)).trans (hfr4 id h1 h2)
       have hrow : next E = rowNext E r := by unfold next; rw [hpr, hps]
       cases pq with
       | none =>
         have hnext : next E = .row r := by rw [hrow]; unfold rowNext; rw [hpq]
         have hend : ended E := fun r s e => by rw [hnext] at e; cases e
         have hfE : final d0 = E := hfin.symm.trans (final_self hP hend)
         have z1 : (-1 : Int) < 0 := by decide
         refine aGoM (cj4 hres hs4 hr4 (cj4 oN z1 r2 (cj2 r7 oS))) ?_
         rw [hfE, hnext]
         refine ⟨rfl, by omega, hD5, fun id h1 h2 => ?_⟩
         rw [if_neg (by omega)]
         exact hfr4 id h1 h2
       | some s =>
         have hnext : next E = .ex r s := by rw [hrow]; unfold rowNext; rw [hpq]
         have z1 : ¬ (s : Int) < 0 := by omega
         refine aGoM (cj4 hres hs4 hr4 (cj4 oS z1 r2 (cj4 r7 hbx4 ty_dp (cj2 r1 r6)))) ?_
         repeat with_reducible intro K hK
         have hst := next_step hP hnext
         have zE := Dic.small szFn hf hB1 sz hP hS (t := t) (by omega)
         refine callT_eff (exchange_a hD5 (eM ▸ ap) hst.hr hst.hs hst.ne (by omega) (by omega) (Dic.grow_pos hB1 t) hB zE) ?_
         rintro _ m6 nx6 ⟨rfl, hn6, hD6, hf6⟩
         refine aGoM (cj2 hres ty_dp) ?_
         repeat with_reducible intro K hK
         have hnin : ∀ id, nx ≤ id → ¬ inD I E.m id := fun id h1 h2 => by have := lt id (by rw [eM]; exact h2); omega
         refine loop_endM (E.ex r s) ⟨Dic.ex_part hP hst.hr hst.hs, hS.trans (Dic.ex_same hst.hr hst.hs hst.ne), (final_step hP hnext).trans hfin, hD6, ?_, ?_, fun id h1 h2 => ?_⟩ (left_step hP hnext) rfl (by simp [go_sem])
         · exact (hf6 nx (by omega) (hnin nx (Nat.le_refl _))).trans hbx5
         · show nx < nx6; omega
         · exact (hf6 id (by omega) (by rw [← eM]; exact h2)).trans (hfr5 id h1 h2)
     | some s =>
       have hsn := (pick_some hps).1
       have gf := tab_get (fun i => [dI (E.free i)]) hsn
       have z2 : ¬ (s : Int) < 0 := by omega
       have z3 : (0 : Int) ≤ s := by omega
       by_cases hlt : E.own r < E.free s
       · have hlt' : (E.own r : Int) < E.free s := by omega
         refine aGoM (cj4 f0 oS go (cj4 z0 z1 z4 (cj4 gf z2 z3 hlt'))) ?_
         repeat with_reducible intro K hK
         have hrm := (pick_some hpr).1
         have hD4 := (hD3.new (x := nx3) (b := some (nB 0)) ne3).new (x := nx3) (b := some (nB s)) ne3
         refine callT_eff (least_a E.n E.free (fun j => neg' (E.a r j)) I.Fr I.vFr _ [.lp nx 0 0 0, .lp nx2 0 0 0] _ _ (by omega) hD4.hFr (by omega) fun i hi m' nx' hn' hf' => s3_a (hD4.keep fun id hid => hf' id (by have := lt1 id hid; omega)) ((hf' nx (by omega)).trans ((upd_ne _ _ r1).trans ((upd_ne _ _ r1).trans hbx3))) hrm ((hf' nx2 (by omega)).trans ((upd_ne _ _ r2).trans ((upd_ne _ _ r2).trans hr3))) hi) ?_
         rintro _ m4 nx4 ⟨rfl, hn4, hf4⟩
         have hD4' : DicAt m4 I E src := hD4.keep fun id hid => hf4 id (by have := lt1 id hid; omega)
         have hbx4 : m4 nx = some (bxB 86 I.p) := (hf4 nx (by omega)).trans ((upd_ne _ _ r1).trans ((upd_ne _ _ r1).trans hbx3))
         have hr4 : m4 nx2 = some (nB r) := (hf4 nx2 (by omega)).trans ((upd_ne _ _ r2).trans ((upd_ne _ _ r2).trans hr3))
         have hs4 : m4 nx3 = some (nB s) := (hf4 nx3 (by omega)).trans (upd_same _ _ _)
         have hfr4 : ∀ id, id < nx → ¬ inD I d0.m id → m4 id = m id := fun id h1 h2 => (hf4 id (by omega)).trans ((upd_ne _ _ (by omega)).trans ((upd_ne _ _ (by omega)).trans (hfr3 id h1 h2)))
         obtain ⟨pq, hpq⟩ : ∃ pq, pick E.free (fun j => neg' (E.a r j)) E.n = pq := ⟨_, rfl⟩
         rw [hpq]
         have hD5 := hD4'.new (x := nx3) (b := some (nB (oI pq))) ne3
         have hbx5 : (upd m4 nx3 (some (nB (oI pq)))) nx = some (bxB 86 I.p) := (upd_ne _ _ r1).trans hbx4
         have hfr5 : ∀ id, id < nx → ¬ inD I d0.m id → (upd m4 nx3 (some (nB (oI pq)))) id = m id := fun id h1 h2 => (upd_ne _ _ (by omega)).trans (hfr4 id h1 h2)
         have hrow : next E = rowNext E r := by unfold next; rw [hpr, hps]; exact if_pos hlt
         cases pq with
         | none =>
           have hnext : next E = .row r := by rw [hrow]; unfold rowNext; rw [hpq]
           have hend : ended E := fun r s e => by rw [hnext] at e; cases e
           have hfE : final d0 = E := hfin.symm.trans (final_self hP hend)
           have z1 : (-1 : Int) < 0 := by decide
           refine aGoM (cj4 hres hs4 hr4 (cj4 oN z1 r2 (cj2 r7 oS))) ?_
           rw [hfE, hnext]
           refine ⟨rfl, by omega, hD5, fun id h1 h2 => ?_⟩
           rw [if_neg (by omega)]
           exact hfr4 id h1 h2
         | some s' =>
           have hnext : next E = .ex r s' := by rw [hrow]; unfold rowNext; rw [hpq]
           have z1 : ¬ (s' : Int) < 0 := by omega
           refine aGoM (cj4 hres hs4 hr4 (cj4 oS z1 r2 (cj4 r7 hbx4 ty_dp (cj2 r1 r6)))) ?_
           repeat with_reducible intro K hK
           have hst := next_step hP hnext
           have zE := Dic.small szFn hf hB1 sz hP hS (t := t) (by omega)
           refine callT_eff (exchange_a hD5 (eM ▸ ap) hst.hr hst.hs hst.ne (by omega) (by omega) (Dic.grow_pos hB1 t) hB zE) ?_
           rintro _ m6 nx6 ⟨rfl, hn6, hD6, hf6⟩
           refine aGoM (cj2 hres ty_dp) ?_
           repeat with_reducible intro K hK
           have hnin : ∀ id, nx ≤ id → ¬ inD I E.m id := fun id h1 h2 => by have := lt id (by rw [eM]; exact h2); omega
           refine loop_endM (E.ex r s') ⟨Dic.ex_part hP hst.hr hst.hs, hS.trans (Dic.ex_same hst.hr hst.hs hst.ne), (final_step hP hnext).trans hfin, hD6, ?_, ?_, fun id h1 h2 => ?_⟩ (left_step hP hnext) rfl (by simp [go_sem])
           · exact (hf6 nx (by omega) (hnin nx (Nat.le_refl _))).trans hbx5
           · show nx < nx6; omega
           · exact (hf6 id (by omega) (by rw [← eM]; exact h2)).trans (hfr5 id h1 h2)
       · have hlt' : ¬ (E.own r : Int) < E.free s := by omega
         refine aGoM (cj4 f0 oS go (cj4 z0 z1 z4 (cj4 gf z2 z3 hlt'))) ?_
         repeat with_reducible intro K hK
         have hsn := (pick_some hps).1
         have hD4 := (hD3.new (x := nx3) (b := some (nB 0)) ne3).new (x := nx3) (b := some (nB s)) ne3
         refine callT_eff (least_a E.m E.own (fun i => pos' (E.a i s)) I.O I.vO _ [.lp nx 0 0 0, .lp nx3 0 0 0] _ _ (by omega) hD4.hO (by omega) fun i hi m' nx' hn' hf' => s4_a (hD4.keep fun id hid => hf' id (by have := lt1 id hid; omega)) ((hf' nx (by omega)).trans ((upd_ne _ _ r1).trans ((upd_ne _ _ r1).trans hbx3))) hsn ((hf' nx3 (by omega)).trans (upd_same _ _ _)) hi) ?_
         rintro _ m4 nx4 ⟨rfl, hn4, hf4⟩
         have hD4' : DicAt m4 I E src := hD4.keep fun id hid => hf4 id (by have := lt1 id hid; omega)
         have hbx4 : m4 nx = some (bxB 86 I.p) := (hf4 nx (by omega)).trans ((upd_ne _ _ r1).trans ((upd_ne _ _ r1).trans hbx3))
         have hr4 : m4 nx2 = some (nB r) := (hf4 nx2 (by omega)).trans ((upd_ne _ _ r2).trans ((upd_ne _ _ r2).trans hr3))
         have hs4 : m4 nx3 = some (nB s) := (hf4 nx3 (by omega)).trans (upd_same _ _ _)
         have hfr4 : ∀ id, id < nx → ¬ inD I d0.m id → m4 id = m id := fun id h1 h2 => (hf4 id (by omega)).trans ((upd_ne _ _ (by omega)).trans ((upd_ne _ _ (by omega)).trans (hfr3 id h1 h2)))
         obtain ⟨pq, hpq⟩ : ∃ pq, pick E.own (fun i => pos' (E.a i s)) E.m = pq := ⟨_, rfl⟩
         rw [hpq]
         have hD5 := hD4'.new (x := nx2) (b := some (nB (oI pq))) ne2
         have hbx5 : (upd m4 nx2 (some (nB (oI pq)))) nx = some (bxB 86 I.p) := (upd_ne _ _ q1).trans hbx4
         have hfr5 : ∀ id, id < nx → ¬ inD I d0.m id → (upd m4 nx2 (some (nB (oI pq)))) id = m id := fun id h1 h2 => (upd_ne _ _ (by omega)).trans (hfr4 id h1 h2)
         have hcol : next E = colNext E s := by unfold next; rw [hpr, hps]; exact if_neg hlt
         cases pq with
         | none =>
           have hnext : next E = .col s := by rw [hcol]; unfold colNext; rw [hpq]
           have hend : ended E := fun r s e => by rw [hnext] at e; cases e
           have hfE : final d0 = E := hfin.symm.trans (final_self hP hend)
           have z1 : (-1 : Int) < 0 := by decide
           refine aGoM (cj4 hres hs4 hr4 (cj4 oN z1 r2 (cj2 r7 oS))) ?_
           rw [hfE, hnext]
           refine ⟨rfl, by omega, hD5, fun id h1 h2 => ?_⟩
           rw [if_neg (by omega)]
           exact hfr4 id h1 h2
         | some r' =>
           have hnext : next E = .ex r' s := by rw [hcol]; unfold colNext; rw [hpq]
           have z1 : ¬ (r' : Int) < 0 := by omega
           refine aGoM (cj4 hres hs4 hr4 (cj4 oS z1 r2 (cj4 r7 hbx4 ty_dp (cj2 q1 r8)))) ?_
           repeat with_reducible intro K hK
           have hst := next_step hP hnext
           have zE := Dic.small szFn hf hB1 sz hP hS (t := t) (by omega)
           refine callT_eff (exchange_a hD5 (eM ▸ ap) hst.hr hst.hs hst.ne (by omega) (by omega) (Dic.grow_pos hB1 t) hB zE) ?_
           rintro _ m6 nx6 ⟨rfl, hn6, hD6, hf6⟩
           refine aGoM (cj2 hres ty_dp) ?_
           repeat with_reducible intro K hK
           have hnin : ∀ id, nx ≤ id → ¬ inD I E.m id := fun id h1 h2 => by have := lt id (by rw [eM]; exact h2); omega
           refine loop_endM (E.ex r' s) ⟨Dic.ex_part hP hst.hr hst.hs, hS.trans (Dic.ex_same hst.hr hst.hs hst.ne), (final_step hP hnext).trans hfin, hD6, ?_, ?_, fun id h1 h2 => ?_⟩ (left_step hP hnext) rfl (by simp [go_sem])
           · exact (hf6 nx (by omega) (hnin nx (Nat.le_refl _))).trans hbx5
           · show nx < nx6; omega
           · exact (hf6 id (by omega) (by rw [← eM]; exact h2)).trans (hfr5 id h1 h2)
section
variable [Ifl]
theorem mem_recell {E : Env} {β : Bet} {m : Mem} {nx : Nat} {w : World} (hM : MemOk E β m nx w) {id : Nat} {b : Blk} {es' : List (List D)} (hb : m id = some b) (hl : es'.length = b.es.length)
    (hw : ∀ (i : Nat) (e' : List D), es'[i]? = some e' → ∃ e, b.es[i]? = some e ∧ e'.length = e.length)
    (hc : ∀ (i j : Nat) (d' : D), cellAt es' i j = some d' → ∃ d, cellAt b.es i j = some d ∧ ∀ u, Rep β m (safe E β m) w u d → Rep β m (safe E β m) w u d') :
    MemOk E β (upd m id (some { b with es := es' })) nx w ∧ MemLe β m w β (upd m id (some { b with es := es' })) w ∧ SafeLe (safe E β m) w (safe E β (upd m id (some { b with es := es' }))) w := by
 have hm : MemLe β m w β (upd m id (some { b with es := es' })) w := by
  refine ⟨fun x y hx => ?_, fun _ _ h => h⟩
  by_cases e : x = id
  · subst e
    rw [hb] at hx; cases hx
    exact ⟨_, upd_same _ _ _, Nat.le_refl _, fun _ => ⟨rfl, hl, rfl⟩⟩
  · exact ⟨y, by rw [upd_ne _ _ e]; exact hx, Nat.le_refl _, fun _ => ⟨rfl, rfl, rfl⟩⟩
 have hget : ∀ x y, upd m id (some { b with es := es' }) x = some y → ∃ z, m x = some z ∧ y.T = z.T ∧ y.k = z.k ∧ y.es.length = z.es.length ∧ y.fz = z.fz ∧ y.dead = z.dead ∧ (y.es = z.es ∨ (z = b ∧ y.es = es')) := by
  intro x y hx
  by_cases e : x = id
  · subst e; rw [upd_same] at hx; cases hx; exact ⟨b, hb, rfl, rfl, hl, rfl, rfl, .inr ⟨rfl, rfl⟩⟩
  · rw [upd_ne _ _ e] at hx; exact ⟨y, hx, rfl, rfl, rfl, rfl, rfl, .inl rfl⟩
 have hs : SafeLe (safe E β m) w (safe E β (upd m id (some { b with es := es' }))) w := by
  intro c o u h1 h2
  refine ⟨⟨h1.1, fun x y hx hy => ?_⟩, h2⟩
  obtain ⟨z, hz, e1, e2, e3, e4, e5, _⟩ := hget x y hx
  rw [e4, e2, e5]
  exact h1.2 x z hz hy
 refine ⟨⟨hM.below, ?_, ?_, ?_, ?_, ?_, ?_⟩, hm, hs⟩
 · intro x y hx
   obtain ⟨z, hz, _⟩ := hget x y hx
   exact hM.lt x z hz
 · intro x y hx
   obtain ⟨z, hz, e1, e2, e3, e4, _⟩ := hget x y hx
   rw [e3, e4]; exact hM.fz x z hz
 · intro x y hx i e he
   obtain ⟨z, hz, e1, e2, e3, e4, e5, e6⟩ := hget x y hx
   rw [e2]
   rcases e6 with e6 | ⟨rfl, e6⟩
   · rw [e6] at he; exact hM.wid x z hz i e he
   · rw [e6] at he
     obtain ⟨e0, h0, hlen⟩ := hw i e he
     rw [hlen]; exact hM.wid x z hz i e0 h0
 · intro x y hx hbx
   obtain ⟨z, hz, e1, e2, e3, _⟩ := hget x y hx
   have := hM.non x z hz hbx
   rw [this] at e3
   exact List.eq_nil_of_length_eq_zero e3
 · intro x y c hx hbx
   obtain ⟨z, hz, e1, e2, e3, e4, e5, e6⟩ := hget x y hx
   obtain ⟨h3, cs', h4, h5, h6⟩ := hM.row x z c hz hbx
   rw [e1, e2, e3]
   refine ⟨h3, cs', h4, h5, fun i j d hd => ?_⟩
   rcases e6 with e6 | ⟨rfl, e6⟩
   · rw [e6] at hd
     obtain ⟨u, h7, h8⟩ := h6 i j d hd
     exact ⟨u, h7, h8.mono hm hs⟩
   · rw [e6] at hd
     obtain ⟨d0, h7, h70⟩ := hc i j d hd
     obtain ⟨u, h8, h9⟩ := h6 i j d0 h7
     exact ⟨u, h8, (h70 u h9).mono hm hs⟩
 · intro x1 x2 y1 y2 c h1 h2 h3 h4
   obtain ⟨z1, hz1, _⟩ := hget x1 y1 h1
   obtain ⟨z2, hz2, _⟩ := hget x2 y2 h2
   exact hM.inj x1 x2 z1 z2 c hz1 hz2 h3 h4
theorem le_rowIn {s : St} (id i j T kk : Nat) {b : Blk} {e : List D} (hb : s.m id = some b) (he : b.es[i]? = some e) (hj : e[j]? = some .nil) :
    StLe s ⟨s.t, upd (upd s.m s.nx (some ⟨T, 0, kk, [], 0, false⟩)) id (some { b with es := b.es.set i (e.set j (.ls s.nx 0)) }), s.nx + 1, s.lo⟩ := by
 intro E B nn β a w h
 obtain ⟨h1, h2, h3⟩ := mem_nowhere (id := s.nx) (h.mem.mono_nx (Nat.le_succ _)) (Nat.lt_succ_self _) ⟨T, 0, kk, [], 0, false⟩ rfl rfl (.inl h.mem.none)
 have hne : id ≠ s.nx := by have := h.mem.lt id b hb; omega
 obtain ⟨g1, g2, g3⟩ := mem_recell (id := id) (b := b) (es' := b.es.set i (e.set j (.ls s.nx 0))) h1 (by rw [upd_ne _ _ hne]; exact hb) (by simp) (fun i' e' hi' => by
  rw [List.getElem?_set] at hi'
  split at hi'
  · rename_i hii
    subst hii
    split at hi'
    · cases hi'; exact ⟨e, he, by simp⟩
    · cases hi'
  · exact ⟨e', hi', rfl⟩) (fun i' j' d' hd' => by
  obtain ⟨e', he', hj'⟩ := cellAt_some.1 hd'
  rw [List.getElem?_set] at he'
  split at he'
  · rename_i hii
    subst hii
    split at he'
    · cases he'
      rw [List.getElem?_set] at hj'
      split at hj'
      · rename_i hjj
        subst hjj
        split at hj'
        · cases hj'
          refine ⟨.nil, cellAt_some.2 ⟨e, he, hj⟩, fun u hu => ?_⟩
          rw [hu.inv_nil]
          exact .ls _ _ _ _ _ ⟨T, 0, kk, [], 0, false⟩ (upd_same _ _ _) (Nat.le_refl _) (fun _ _ => rfl) fun _ => ⟨rfl, Nat.le_refl _, Nat.zero_le _, .inl ⟨upd_same _ _ _, rfl, rfl⟩⟩
        · cases hj'
      · exact ⟨d', cellAt_some.2 ⟨e, he, hj'⟩, fun _ hu => hu⟩
    · cases he'
  · exact ⟨d', cellAt_some.2 ⟨e', he', hj'⟩, fun _ hu => hu⟩)
 exact ⟨_, g1, fun k hk => ((h.tmp k hk).mono h2 h3).mono g2 g3, h.width, h.defers, (h.le.trans h2).trans g2, (h.sle.trans h3).trans g3, h.lo⟩
end
end Go.Proofs.YtpkdhmnlpnijhaaGreat
