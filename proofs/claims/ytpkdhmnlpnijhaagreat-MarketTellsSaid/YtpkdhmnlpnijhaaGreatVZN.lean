/-
  The walk over data: a drawn region whose last operation waits for all others: it may be a call whose effect is known only by a law.
-/
import Derived.Test.YtpkdhmnlpnijhaaGreatVNf
import Derived.Test.YtpkdhmnlpnijhaaGreatVLib
import Derived.Test.YtpkdhmnlpnijhaaGreatVDigits
import Derived.Test.YtpkdhmnlpnijhaaGreatVRefA
import Derived.Test.YtpkdhmnlpnijhaaGreatVRefB
import Derived.Test.YtpkdhmnlpnijhaaGreatVZI
namespace Go.Proofs.YtpkdhmnlpnijhaaGreat
set_option linter.unusedVariables false
set_option linter.unusedSimpArgs false
set_option linter.unusedSectionVars false
open Go Go.RowKit
section ifl
variable [Ifl]
def lastB (ops : Array Oper) (l : List Oper) (o : Oper) : Bool :=
 o.guard.isNone && (List.range l.length).all (fun j => (reachOf ops l.length).contains j) && l.all fun p => match p.guard with
  | none => true
  | some (g, _) => decide (g < l.length)
def lastQ (P : Program) (o : Oper) (Q : Exit → Act → World → Prop) (e : Exit) (a : Act) (w : World) : Prop := (e = .normal ∧ o.wp P a w (Q .normal) Q) ∨ (e ≠ .normal ∧ Q e a w)
theorem lastQ_out {P : Program} {o : Oper} {Q : Exit → Act → World → Prop} {e : Exit} {a : Act} {w : World} (h : lastQ P o Q e a w) (he : e ≠ .normal) : Q e a w := by
 rcases h with ⟨h, _⟩ | ⟨_, h⟩
 · exact absurd h he
 · exact h
theorem lastQ_let {P : Program} {o : Oper} {Q : Exit → Act → World → Prop} (h : LetsOut (lastQ P o Q)) : LetsOut Q := by
 obtain ⟨a, w, h⟩ := h
 exact ⟨a, w, lastQ_out h (by intro e; cases e)⟩
theorem wp_lastQ {P : Program} {o p : Oper} {Q : Exit → Act → World → Prop} {K K' : Act → World → Prop} {a : Act} {w : World} (h : ∀ a w, K a w → K' a w) (hh : p.wp P a w K (lastQ P o Q)) : p.wp P a w K' Q := by
 unfold Oper.wp at *
 generalize (execOp a.eval p).run P w = r at *
 cases r with
 | ok n w' =>
   cases n <;> simp only [Oper.upon] at hh ⊢ <;>
    first
     | exact h _ _ hh
     | exact Calls.mono hh (fun e w'' he => by
         cases e <;> first
          | exact h _ _ he
          | exact lastQ_out he (by intro e; cases e)
          | exact lastQ_let he)
     | exact Rows.mono hh (fun _ _ he => h _ _ he)
 | halt x w' =>
   cases x <;> simp only [Oper.upon] at hh ⊢ <;> first
    | exact lastQ_out hh (by intro e; cases e)
    | exact hh
section
variable {P : Program} {l : List Oper} {o : Oper}
theorem snoc_get {i : Nat} (h : i < l.length) : ((l ++ [o]).toArray)[i]? = (l.toArray)[i]? := by
 simp only [List.getElem?_toArray]
 exact List.getElem?_append_left h
theorem snoc_last : ((l ++ [o]).toArray)[l.length]? = some o := by simp
theorem push_get {listed : Array Bool} {i : Nat} (h : i < listed.size) : (listed.push false)[i]? = listed[i]? := by
 rw [Array.getElem?_push, if_neg (by omega)]
theorem push_getD {listed : Array Bool} {i : Nat} {d : Bool} (h : i < listed.size) : (listed.push false).getD i d = listed.getD i d := by
 rw [Array.getD_eq_getD_getElem?, Array.getD_eq_getD_getElem?, push_get h]
theorem ready_nil {ops : Array Oper} {listed : Array Bool} (ok : DrawOk ops) (hs : listed.size = ops.size) (h : Region.ready .any ops listed = []) : ∀ i, i < ops.size → listed[i]? = some true := by
 intro i
 induction i using Nat.strongRecOn with
 | ind i ih =>
   intro hi
   cases hl : listed.getD i true with
   | true => exact (getD_iff (by omega)).1 hl
   | false =>
     exfalso
     have : i ∈ Region.ready .any ops listed := by
      refine mem_ready.2 ⟨hl, ops[i], Array.getElem?_eq_getElem hi, fun e he hb => ?_⟩
      have hlt := ok.back i _ (Array.getElem?_eq_getElem hi) e he hb
      exact (getD_iff (by omega)).2 (ih e.on hlt (by omega))
     rw [h] at this
     cases this
theorem ready_all {ops : Array Oper} {listed : Array Bool} (hs : listed.size = ops.size) (h : ∀ i, i < ops.size → listed[i]? = some true) : Region.ready .any ops listed = [] := by
 apply List.eq_nil_iff_forall_not_mem.2
 intro i hi
 obtain ⟨h1, p, hp, _⟩ := mem_ready.1 hi
 have hio := (Array.getElem?_eq_some_iff.1 hp).1
 have := (getD_iff (d := true) (show i < listed.size by omega)).2 (h i hio)
 rw [this] at h1
 cases h1
theorem any_last {Q : Exit → Act → World → Prop} (okA : DrawOk l.toArray) (okB : DrawOk (l ++ [o]).toArray) (hl : lastB (l ++ [o]).toArray l o = true) :
    ∀ (fuel : Nat) (listed : Array Bool) (a : Act) (w : World), listed.size = l.length → (∀ (i : Nat) (p : Oper), (l.toArray)[i]? = some p → listed[i]? = some true → ∀ e ∈ p.after, Region.binds .any e = true → listed[e.on]? = some true) →
     wpAny P .any l.toArray (lastQ P o Q) fuel listed a w → wpAny P .any (l ++ [o]).toArray Q (fuel + 1) (listed.push false) a w := by
 simp only [lastB, Bool.and_eq_true, List.all_eq_true, List.mem_range, List.contains_iff_mem] at hl
 obtain ⟨⟨hg, hreach⟩, hgs⟩ := hl
 have hgn : o.guard = none := by simpa using hg
 have szA : l.toArray.size = l.length := by simp
 have szB : (l ++ [o]).toArray.size = l.length + 1 := by simp
 have noB : ∀ (listed : Array Bool), listed.size = l.length → Region.ready .any (l ++ [o]).toArray (listed.push false) ≠ [] := by
  intro listed hs h
  have := ready_nil okB (by simp; omega) h l.length (by omega)
  rw [Array.getElem?_push, if_pos (by omega)] at this
  cases this
 -- the last operation, when all others are carried out
 have lastOp : ∀ (fuel : Nat) (listed : Array Bool) (a : Act) (w : World), listed.size = l.length → (∀ i, i < l.length → listed[i]? = some true) → lastQ P o Q .normal a w → wpOp P (l ++ [o]).toArray Q l.length (wpAny P .any (l ++ [o]).toArray Q fuel ((listed.push false).setIfInBounds l.length true)) a w := by
  intro fuel listed a w hs hall hq
  unfold wpOp
  rw [snoc_last]
  simp only [Region.wanted, hgn, if_true]
  left
  rcases hq with ⟨_, hq⟩ | ⟨hq, _⟩
  · refine Oper.wp_mono (fun a' w' h => ?_) hq
    have hr : Region.ready .any (l ++ [o]).toArray ((listed.push false).setIfInBounds l.length true) = [] := by
     refine ready_all (by simp; omega) fun i hi => ?_
     by_cases e : i = l.length
     · subst e
       rw [Array.getElem?_setIfInBounds_self]
       simp; omega
     · rw [Array.getElem?_setIfInBounds_ne (by omega), push_get (by omega)]
       exact hall i (by omega)
    cases fuel with
    | zero => exact ⟨hr, h⟩
    | succ f => exact ⟨fun _ => h, fun i hi => by rw [hr] at hi; cases hi⟩
  · exact absurd rfl hq
 intro fuel
 induction fuel with
 | zero =>
   intro listed a w hs hc hA
   refine ⟨fun h => absurd h (noB listed hs), fun i hi => ?_⟩
   obtain ⟨hrA, hq⟩ := hA
   have hall := ready_nil okA (by omega) hrA
   obtain ⟨hun, p, hp, hdep⟩ := mem_ready.1 hi
   have hip := (Array.getElem?_eq_some_iff.1 hp).1
   by_cases e : i = l.length
   · subst e
     exact lastOp 0 listed a w hs (fun i hi => hall i (by omega)) hq
   · exfalso
     have := (getD_iff (d := true) (show i < listed.size by omega)).2 (hall i (by omega))
     rw [push_getD (by omega), this] at hun
     cases hun
 | succ fuel ih =>
   intro listed a w hs hc hA
   refine ⟨fun h => absurd h (noB listed hs), fun i hi => ?_⟩
   obtain ⟨hqA, hopA⟩ := hA
   obtain ⟨hun, p, hp, hdep⟩ := mem_ready.1 hi
   have hip := (Array.getElem?_eq_some_iff.1 hp).1
   have hdep' : ∀ e ∈ p.after, Region.binds .any e = true → e.on < i ∧ listed[e.on]? = some true := by
    intro e he hb
    have hlt := okB.back i p hp e he hb
    have h1 := hdep e he hb
    rw [push_getD (by omega)] at h1
    exact ⟨hlt, (getD_iff (by omega)).1 h1⟩
   by_cases hie : i = l.length
   · subst hie
     rw [snoc_last] at hp
     cases hp
     have hall : ∀ j, j < l.length → listed[j]? = some true := by
      intro j hj
      have h1 := reach_listed (ops := (l ++ [o]).toArray) (listed := listed.push false) (fun k q hk hq e he hb => ?_) snoc_last (fun e he hb => ?_) j (hreach j hj)
      · rwa [push_get (by omega)] at h1
      · have hkl : k < l.length := by
          rcases Nat.lt_or_ge k l.length with h | h
          · exact h
          · have hk2 := (Array.getElem?_eq_some_iff.1 hk).1
            obtain rfl : k = l.length := by omega
            rw [Array.getElem?_push, if_pos (by omega)] at hq
            cases hq
        rw [snoc_get hkl] at hk
        rw [push_get (by omega)] at hq
        have hlt := okA.back k q hk e he hb
        rw [push_get (by omega)]
        exact hc k q hk hq e he hb
      · have h2 := hdep' e he hb
        rw [push_get (by omega)]
        exact h2.2
     exact lastOp (fuel + 1) listed a w hs hall (hqA (ready_all (by omega) fun i hi => hall i (by omega)))
   · have hil : i < l.length := by omega
     rw [snoc_get hil] at hp
     have hrA : i ∈ Region.ready .any l.toArray listed := by
      refine mem_ready.2 ⟨by rw [← push_getD (by omega)]; exact hun, p, hp, fun e he hb => (getD_iff (by have := hdep' e he hb; omega)).2 (hdep' e he hb).2⟩
     have h1 := hopA i hrA
     have hset : (listed.push false).setIfInBounds i true = (listed.setIfInBounds i true).push false := by
      apply Array.ext_getElem?
      intro j
      by_cases hj : j = i
      · subst hj
        have h1 : ((listed.push false).setIfInBounds j true)[j]? = some true := by
         rw [Array.getElem?_setIfInBounds_self, if_pos (by simp; omega)]
        have h2 : ((listed.setIfInBounds j true).push false)[j]? = some true := by
         rw [push_get (by simp; omega), Array.getElem?_setIfInBounds_self, if_pos (by omega)]
        rw [h1, h2]
      · rw [Array.getElem?_setIfInBounds_ne (Ne.symm hj), Array.getElem?_push, Array.getElem?_push, Array.getElem?_setIfInBounds_ne (Ne.symm hj)]
        simp
     have hK : ∀ a' w', wpAny P .any l.toArray (lastQ P o Q) fuel (listed.setIfInBounds i true) a' w' → wpAny P .any (l ++ [o]).toArray Q (fuel + 1) ((listed.push false).setIfInBounds i true) a' w' := by
      intro a' w' h
      rw [hset]
      refine ih _ _ _ (by simpa using hs) (fun k q hk hq e he hb => ?_) h
      by_cases hki : k = i
      · subst hki
        rw [hp] at hk; cases hk
        have h2 := hdep' e he hb
        rw [Array.getElem?_setIfInBounds_ne (by omega)]
        exact h2.2
      · rw [Array.getElem?_setIfInBounds_ne (by omega)] at hq
        have h2 := hc k q hk hq e he hb
        by_cases hei : e.on = i
        · rw [hei, Array.getElem?_setIfInBounds_self]; simp; omega
        · rw [Array.getElem?_setIfInBounds_ne (by omega)]; exact h2
     have hw : Region.wanted p (yielded (l ++ [o]).toArray a.tmps) = Region.wanted p (yielded l.toArray a.tmps) := by
      unfold Region.wanted
      cases hpg : p.guard with
      | none => rfl
      | some g =>
        obtain ⟨g, b⟩ := g
        have hgl := hgs p (by rw [List.getElem?_toArray] at hp; exact List.mem_of_getElem? hp)
        rw [hpg] at hgl
        simp only [decide_eq_true_eq] at hgl
        simp only [yielded, snoc_get hgl]
     unfold wpOp at h1 ⊢
     rw [hp] at h1
     rw [snoc_get hil, hp]
     simp only [hw] at h1 ⊢
     split
     · rename_i hww
       rw [if_pos hww] at h1
       exact h1.imp (wp_lastQ hK) fun h => ⟨h.1, lastQ_let h.2⟩
     · rename_i hww
       rw [if_neg hww] at h1
       exact hK _ _ h1
end
section
variable {P : Program} {n : Nat} {Q : Exit → St → Prop} {s : St}
theorem aDrawLast {id : Nat} {l : List Oper} {o : Oper} (hm : P.follows .mixedOrders = true) (hd : drawB l.toArray = true) (hdB : drawB (l ++ [o]).toArray = true) (hf : (l ++ [o]).toArray.all (fitsOp n) = true) (hL : lastB (l ++ [o]).toArray l o = true)
    (h : runD P l.toArray l s [] fun tr s' => raceB l.toArray (tr.map fun e => (e.touch, ids e.wr)) = true ∧ intsOk l.toArray s.m tr ∧ opA P o s' (Q .normal)) : AWP P n (.region id (l ++ [o]).toArray true) Q s := by
 intro E B β a w hr
 obtain ⟨evs, st, g1, g2, g3, g4, g5, g6⟩ := runD_list l s [] h
 simp only [List.nil_append] at g4 g5
 have hsz : l.toArray.size = l.length := by simp
 have hfA : l.toArray.all (fitsOp n) = true ∧ fitsOp n o = true := by
  simp only [List.all_toArray, List.all_append, List.all_cons, List.all_nil, Bool.and_true, Bool.and_eq_true] at hf ⊢
  simpa using hf
 have T : Text P n l.toArray evs st := by
  refine ⟨drawB_ok hd, hfA.1, by rw [hsz]; exact g2, fun i o ev ho he => g3 i o ev (by simpa using ho) he, ?_, g4, ?_⟩
  · rw [g1]
    intro id hid
    cases hq : s.m id with
    | none => rfl
    | some b => exact absurd (hr.mem.lt id b hq) (by omega)
  · rw [g1]; exact g5
 have hmix : mixM (st 0).m evs (Array.replicate l.toArray.size false).toList = s.m := by
  have := T.memAt 0 (Nat.zero_le _)
  rw [show (Array.replicate l.toArray.size false).toList = (List.range l.toArray.size).map fun j => decide (j < 0) by simp [List.map_const'], ← this, g1]
 refine wp_region_any hm ?_
 have hdr : Below w.heap.size w { w with drawn := w.drawn + 1 } := (Below.refl _ _).drew
 obtain ⟨q1, q2, q3⟩ := mem_grown hr.mem hdr
 have hnx : s.nx ≤ (st l.toArray.size).nx := by have := T.nx l.toArray.size 0 (by omega); rw [g1, Nat.zero_add] at this; exact this
 have hpush : (Array.replicate (l ++ [o]).toArray.size false) = (Array.replicate l.length false).push false := by
  rw [show (l ++ [o]).toArray.size = l.length + 1 by simp, Array.replicate_succ]
 rw [hpush, show (l ++ [o]).toArray.size = l.length + 1 by simp]
 refine any_last (drawB_ok hd) (drawB_ok hdB) hL l.length (Array.replicate l.length false) a _ (by simp) ?_ ?_
 · intro i o _ hl
   rw [Array.getElem?_replicate] at hl
   split at hl
   · simp at hl
   · cases hl
 rw [← hsz]
 refine draw_run (B := B) (E := E) T (fun β' a' w' h1 => ?_) _ _ β a _ ⟨by simp, ?_, ?_, ?_, ?_, ?_, ?_, hr.width, hr.defers, by rw [g1]; exact hr.lo⟩ ?_
 · rw [hsz] at h1
   exact .inl ⟨rfl, opA_wp hfA.2 h1 g6 fun s' β2 a2 w2 h2 h3 => ⟨s', β2, h2, h3⟩⟩
 · intro i o _ hl
   rw [Array.getElem?_replicate] at hl
   split at hl
   · simp at hl
   · cases hl
 · rw [hmix]; exact q1.mono_nx hnx
 · rw [hmix]; exact hr.le.trans q2
 · rw [hmix]; exact hr.sle.trans q3
 · intro i o ev t _ hl
   rw [Array.getElem?_replicate] at hl
   split at hl
   · simp at hl
   · cases hl
 · intro t ht _
   rw [hmix, g1]
   exact (hr.tmp t ht).mono q2 q3
 · simp [List.countP_replicate]
theorem snoc_of {L : List Oper} {k : Nat} (hk : L.length = k + 1) {o : Oper} (ho : L[k]? = some o) : L.take k ++ [o] = L := by
 have hlt : k < L.length := by omega
 rw [List.getElem?_eq_getElem hlt] at ho
 cases ho
 rw [List.take_append_getElem]
 exact List.take_of_length_le (by omega)
theorem aRunLast {id k : Nat} {L : List Oper} {o : Oper} (hk : L.length = k + 1) (ho : L[k]? = some o) (ds : List (Option Tmp)) (hds : (L.take k).map (·.dst) = ds) (hm : P.follows .mixedOrders = true) (hd : drawB (L.take k).toArray = true) (hdB : drawB L.toArray = true) (hf : L.toArray.all (fitsOp n) = true) (hL : lastB L.toArray (L.take k) o = true)
    (h : ∀ KE : List Ev → St → Prop, (∀ tr s', raceB (L.take k).toArray (tr.map fun e => (e.touch, ids e.wr)) = true → intsOk (L.take k).toArray s.m tr → opsL P [o.dst] [strip o] s' (Q .normal) → KE tr s') → runL P ds ((L.take k).map strip) s [] KE) : AWP P n (.region id L.toArray true) Q s := by
 have e := snoc_of hk ho
 generalize L.take k = A at *
 subst e
 refine aDrawLast hm hd hdB hf hL ?_
 subst hds
 refine runL_runD (ops := A.toArray) A s [] (h _ fun tr s' h1 h2 h3 => ⟨h1, h2, ?_⟩)
 have h4 := opsL_opsA (ops := #[o]) [o] s' h3
 simp only [lastB, Bool.and_eq_true] at hL
 have hg : o.guard = none := by simpa using hL.1.1
 unfold opsA guardD at h4
 rw [hg] at h4
 exact h4.1 rfl
end
end ifl
set_option maxRecDepth 100000
def guessLow (lb : Nat) : Nat := lb - min 2 lb
def guessN (la lb : Nat) : Nat := if la - min 3 la < guessLow lb then la - guessLow lb else min 3 la
def guessDiv (B b lb : Nat) : Nat := b / B ^ guessLow lb + (if guessLow lb > 0 then 1 else 0)
def guessQ (B a b la lb : Nat) : Nat := max 1 (a / B ^ (la - guessN la lb) / guessDiv B b lb)
def guessV (B a b la lb : Nat) : Nat := guessQ B a b la lb * B ^ (la - guessN la lb - guessLow lb)
section
variable {B a b la lb : Nat} (hB : 2 ≤ B) (ha : B ^ (la - 1) ≤ a) (hla : 1 ≤ la) (hlb : 1 ≤ lb) (hb : b < B ^ lb) (hb0 : 0 < b) (hab : b ≤ a) (hl : lb ≤ la)
theorem guess_n (hl : lb ≤ la) : guessLow lb ≤ la - guessN la lb ∧ guessN la lb ≤ la := by unfold guessN guessLow; split <;> omega
include hB in
theorem guess_pos : 1 ≤ guessV B a b la lb := by
 unfold guessV
 have h1 : 1 ≤ guessQ B a b la lb := by unfold guessQ; omega
 have h2 : 1 ≤ B ^ (la - guessN la lb - guessLow lb) := Nat.pow_pos (by omega)
 exact Nat.mul_pos h1 h2
include hB hb in
theorem guess_div : b ≤ guessDiv B b lb * B ^ guessLow lb ∧ guessDiv B b lb ≤ B ^ 2 := by
 have hp : 0 < B ^ guessLow lb := Nat.pow_pos (by omega)
 have hlt : b / B ^ guessLow lb < B ^ (lb - guessLow lb) := by
  rw [Nat.div_lt_iff_lt_mul hp, ← Nat.pow_add, show lb - guessLow lb + guessLow lb = lb by unfold guessLow; omega]; exact hb
 have hle : B ^ (lb - guessLow lb) ≤ B ^ 2 := Nat.pow_le_pow_right (by omega) (by unfold guessLow; omega)
 unfold guessDiv
 by_cases h : guessLow lb > 0
 · rw [if_pos h]
   refine ⟨?_, by omega⟩
   have := Nat.div_add_mod b (B ^ guessLow lb)
   have h2 := Nat.mod_lt b hp
   rw [Nat.add_mul, Nat.one_mul, Nat.mul_comm]
   omega
 · rw [if_neg h]
   have h0 : guessLow lb = 0 := by omega
   refine ⟨?_, by omega⟩
   rw [h0, Nat.pow_zero, Nat.div_one, Nat.add_zero, Nat.mul_one]; exact Nat.le_refl _
include hB ha hb hb0 hab hl in
theorem guess_le : guessV B a b la lb * b ≤ a := by
 obtain ⟨g1, g2⟩ := guess_div (b := b) hB hb
 obtain ⟨n1, n2⟩ := guess_n (la := la) hl
 have hz : la - guessN la lb - guessLow lb + guessLow lb = la - guessN la lb := by omega
 unfold guessV guessQ
 by_cases h1 : 1 ≤ a / B ^ (la - guessN la lb) / guessDiv B b lb
 · rw [Nat.max_eq_right h1]
   have e1 : a / B ^ (la - guessN la lb) / guessDiv B b lb * guessDiv B b lb ≤ a / B ^ (la - guessN la lb) := Nat.div_mul_le_self _ _
   have e2 : a / B ^ (la - guessN la lb) * B ^ (la - guessN la lb) ≤ a := Nat.div_mul_le_self _ _
   generalize a / B ^ (la - guessN la lb) = t at *
   generalize t / guessDiv B b lb = q at *
   calc q * B ^ (la - guessN la lb - guessLow lb) * b
       ≤ q * B ^ (la - guessN la lb - guessLow lb) * (guessDiv B b lb * B ^ guessLow lb) := Nat.mul_le_mul_left _ g1
    _ = q * guessDiv B b lb * (B ^ (la - guessN la lb - guessLow lb) * B ^ guessLow lb) := by
        rw [Nat.mul_assoc, Nat.mul_assoc, Nat.mul_left_comm (B ^ (la - guessN la lb - guessLow lb))]
    _ = q * guessDiv B b lb * B ^ (la - guessN la lb) := by rw [← Nat.pow_add, hz]
    _ ≤ t * B ^ (la - guessN la lb) := Nat.mul_le_mul_right _ e1
    _ ≤ a := e2
 · rw [Nat.max_eq_left (by omega), Nat.one_mul]
   by_cases hz0 : la - guessN la lb - guessLow lb = 0
   · rw [hz0, Nat.pow_zero, Nat.one_mul]; exact hab
   · exfalso
     have hn : guessN la lb = 3 ∧ 4 ≤ la := by unfold guessN guessLow at hz0 ⊢; split at hz0 <;> (try split) <;> omega
     refine h1 ?_
     rw [hn.1]
     have hp : 0 < B ^ (la - 3) := Nat.pow_pos (by omega)
     have ht : B ^ 2 ≤ a / B ^ (la - 3) := by
      rw [Nat.le_div_iff_mul_le hp, ← Nat.pow_add, show 2 + (la - 3) = la - 1 by omega]; exact ha
     have hd : 0 < guessDiv B b lb := by
      by_cases h : 0 < guessDiv B b lb
      · exact h
      · rw [show guessDiv B b lb = 0 by omega, Nat.zero_mul] at g1
        omega
     rw [Nat.le_div_iff_mul_le hd]
     omega
end
theorem bp_pow : ∀ k, bp k = ((1048576 ^ k : Nat) : Int)
 | 0 => rfl
 | k + 1 => by
   have ih := bp_pow k
   have e : bp (k + 1) = 1048576 * bp k := rfl
   rw [e, ih, Nat.pow_succ, Int.natCast_mul]
   exact Int.mul_comm _ _
theorem val_drop_div {l : List Int} (h : Dig l) {k : Nat} (hk : k ≤ l.length) : val (l.drop k) = val l / bp k := by
 have e := val_take_drop l hk
 have h1 := dig_nonneg (dig_take h k)
 have h2 := val_lt (dig_take h k)
 rw [List.length_take, Nat.min_eq_left hk] at h2
 have hp := bp_pos k
 rw [e, Int.add_mul_ediv_left _ _ (by omega), Int.ediv_eq_zero_of_lt h1 h2]
 omega
def topN (a n : Nat) : Nat := a / 1048576 ^ ((digs a).length - n)
theorem top_val (a n : Nat) : (topN a n : Int) = val ((digs a).drop ((digs a).length - n)) := by
 rw [val_drop_div (norm_digs a).1 (Nat.sub_le _ _), val_digs, bp_pow]
 rfl
theorem top_zero (a : Nat) : topN a 0 = 0 := by
 have h := top_val a 0
 rw [Nat.sub_zero, List.drop_length] at h
 exact Int.natCast_eq_zero.1 h
theorem top_step {a n : Nat} (h : n < (digs a).length) {x : Int} (hx : (digs a)[(digs a).length - 1 - n]? = some x) : (topN a n : Int) * 1048576 + x = (topN a (n + 1) : Nat) := by
 rw [top_val, top_val]
 have e := val_drop_get hx
 rw [show (digs a).length - (n + 1) = (digs a).length - 1 - n by omega, show (digs a).length - n = (digs a).length - 1 - n + 1 by omega]
 rw [e]; omega
theorem top_lt {a n : Nat} (h : n ≤ (digs a).length) : (topN a n : Int) < bp n := by
 have e := val_lt (dig_drop (norm_digs a).1 ((digs a).length - n))
 rw [List.length_drop, show (digs a).length - ((digs a).length - n) = n by omega] at e
 rw [top_val]; exact e
theorem top_small {a n : Nat} (h : n ≤ (digs a).length) (h3 : n ≤ 3) : (topN a n : Int) < 1152921504606846976 := Int.lt_of_lt_of_le (top_lt h) (by
 have := bp_le h3
 have e : bp 3 = 1152921504606846976 := by decide +kernel
 omega)
theorem top_small2 {a n : Nat} (h : n ≤ (digs a).length) (h3 : n ≤ 2) : (topN a n : Int) < 1099511627776 := Int.lt_of_lt_of_le (top_lt h) (by
 have := bp_le h3
 have e : bp 2 = 1099511627776 := by decide +kernel
 omega)
theorem digs_shift {q : Nat} (hq : 0 < q) : ∀ z, digs (q * 1048576 ^ z) = List.replicate z 0 ++ digs q
 | 0 => by simp
 | z + 1 => by
   have hp : 0 < q * 1048576 ^ z := Nat.mul_pos hq (Nat.pow_pos (by decide))
   have e : q * 1048576 ^ (z + 1) = q * 1048576 ^ z * 1048576 := by rw [Nat.pow_succ, Nat.mul_assoc]
   rw [e, digs_pos (by omega), Nat.mul_mod_left, Nat.mul_div_cancel _ (by decide), digs_shift hq z]
   rfl
section
variable {a b : Nat} (hb : 0 < b) (hab : b ≤ a)
abbrev gN (a b : Nat) : Nat := guessN (digs a).length (digs b).length
abbrev gL (b : Nat) : Nat := guessLow (digs b).length
def gD (b : Nat) : Nat := topN b (min 2 (digs b).length) + (if gL b > 0 then 1 else 0)
def gQ (a b : Nat) : Nat := max 1 (topN a (gN a b) / gD b)
def gV (a b : Nat) : Nat := gQ a b * 1048576 ^ ((digs a).length - gN a b - gL b)
theorem gD_eq (b : Nat) : gD b = guessDiv 1048576 b (digs b).length := by unfold gD guessDiv topN gL guessLow; rfl
theorem gV_eq (a b : Nat) : gV a b = guessV 1048576 a b (digs a).length (digs b).length := by
 unfold gV guessV gQ guessQ
 rw [gD_eq]; rfl
theorem digs_len_pos {n : Nat} (h : 0 < n) : 1 ≤ (digs n).length := by
 have : digs n ≠ [] := fun e => by have := digs_nil_iff.1 e; omega
 exact List.length_pos_iff.2 this
theorem digs_low {n : Nat} (h : 0 < n) : 1048576 ^ ((digs n).length - 1) ≤ n := by
 have e := getLast_pos (norm_digs n) (fun e => by have := digs_nil_iff.1 e; omega)
 rw [val_digs, bp_pow] at e
 exact Int.ofNat_le.1 e
theorem digs_high (n : Nat) : n < 1048576 ^ (digs n).length := by
 have e := lt_length_digs n
 rw [bp_pow] at e
 exact Int.ofNat_lt.1 e
include hb hab in
theorem gV_le : gV a b * b ≤ a := by
 rw [gV_eq]
 exact guess_le (by decide) (digs_low (by omega)) (digs_high b) hb hab (digs_le hab)
theorem gV_pos : 1 ≤ gV a b := by rw [gV_eq]; exact guess_pos (by decide)
theorem gQ_pos : 1 ≤ gQ a b := by unfold gQ; omega
theorem gV_digs : digs (gV a b) = List.replicate ((digs a).length - gN a b - gL b) 0 ++ digs (gQ a b) := digs_shift gQ_pos _
end
set_option maxHeartbeats 16000000
theorem pMul_c (a b : Int) (la : (szZ a : Int) ≤ 1099511627776) (lb : (szZ b : Int) ≤ 1099511627776) : ContractN Tryz.prog 194 [encZ a, encZ b] (.tup [encZ (a * b), dI 0]) := rmul_c a b la lb
theorem pAdd_c (a b : Int) (la : (szZ a : Int) ≤ 1099511627776) (lb : (szZ b : Int) ≤ 1099511627776) : ContractN Tryz.prog 219 [encZ a, encZ b] (.tup [encZ (a + b), dI 0]) := radd_c a b la lb
theorem pSub_c (a b : Int) (la : (szZ a : Int) ≤ 1099511627776) (lb : (szZ b : Int) ≤ 1099511627776) : ContractN Tryz.prog 225 [encZ a, encZ b] (.tup [encZ (a - b), dI 0]) := rsub_c a b la lb
theorem pNeg_c (a : Int) (la : (szZ a : Int) ≤ 1099511627776) : ContractN Tryz.prog 161 [encZ a] (encZ (-a)) := rneg_c a la
theorem pGcd_c (a b : Int) (la : (szZ a : Int) ≤ 549755813888) (lb : (szZ b : Int) ≤ 549755813888) : ContractN Tryz.prog 182 [encZ a, encZ b] (.tup [encZ (Nat.gcd a.natAbs b.natAbs : Nat), dI 0]) := rgcd_c a b la lb
theorem pCmp_c (a b : Int) (la : (szZ a : Int) ≤ 1099511627776) (lb : (szZ b : Int) ≤ 1099511627776) : ContractN Tryz.prog 183 [encZ a, encZ b] (dI (a - b).sign) := (rcompare_c a b la lb).toN rfl
theorem pOf_c (n : Int) (h1 : 0 ≤ n) (h2 : n ≤ 9223372036854775807) : ContractN Tryz.prog 158 [dI n] (encZ n) := rofi_c n (by omega) h2
theorem pNew_c (p q : Int) (hq : q ≠ 0) (lp : (szZ p : Int) ≤ 549755813888) (lq : (szZ q : Int) ≤ 549755813888) : ContractN Tryz.prog 195 [encZ p, encZ q] (.tup [encF (ofQ (Rat.divInt p q)), dI 0]) := rnew_c p q hq lp lq
theorem zmul_c (a b : Int) (la : (szZ a : Int) ≤ 1099511627776) (lb : (szZ b : Int) ≤ 1099511627776) : ContractN Tryz.prog 173 [encZ a, encZ b] (encZ (a * b)) := by
 have k1 := pMul_c a b la lb
 have hres := Tryz.results173
 refine inN Tryz.func173 rfl Tryz.ntmps173 fun I => ?_
 exact aGo hres trivial
theorem zsub_c (a b : Int) (la : (szZ a : Int) ≤ 1099511627776) (lb : (szZ b : Int) ≤ 1099511627776) : ContractN Tryz.prog 248 [encZ a, encZ b] (encZ (a - b)) := by
 have k1 := pSub_c a b la lb
 have hres := Tryz.results248
 refine inN Tryz.func248 rfl Tryz.ntmps248 fun I => ?_
 exact aGo hres trivial
theorem zadd_c (a b : Int) (la : (szZ a : Int) ≤ 1099511627776) (lb : (szZ b : Int) ≤ 1099511627776) : ContractN Tryz.prog 247 [encZ a, encZ b] (encZ (a + b)) := by
 have k1 := pAdd_c a b la lb
 have hres := Tryz.results247
 refine inN Tryz.func247 rfl Tryz.ntmps247 fun I => ?_
 exact aGo hres trivial
theorem zwhole_c (n : Int) (h1 : 0 ≤ n) (h2 : n ≤ 9223372036854775807) : ContractN Tryz.prog 170 [dI n] (encF (ofQ (n : Rat))) := by
 have k1 := rof_c n 1 (by decide) (by omega) h2 (by decide) (by decide)
 rw [divInt_one] at k1
 have hres := Tryz.results170
 refine inN Tryz.func170 rfl Tryz.ntmps170 fun I => ?_
 exact aGo hres trivial
theorem zratio_c (p q : Int) (hq : q ≠ 0) (lp : (szZ p : Int) ≤ 549755813888) (lq : (szZ q : Int) ≤ 549755813888) : ContractN Tryz.prog 171 [encZ p, encZ q] (encF (ofQ (Rat.divInt p q))) := by
 have k1 := pNew_c p q hq lp lq
 have hres := Tryz.results171
 refine inN Tryz.func171 rfl Tryz.ntmps171 fun I => ?_
 exact aGo hres trivial
theorem top_c (a n : Nat) (h3 : n ≤ 3) (hn : n ≤ (digs a).length) (hl : ((digs a).length : Int) ≤ 1099511627776) : ContractN Tryz.prog 259 [encInts (digs a), dI n] (dI (topN a n)) := by
 have hres := Tryz.results259
 refine inN Tryz.func259 rfl Tryz.ntmps259 fun I => ?_
 refine aGo hres ?_
 repeat with_reducible intro K hK
 refine aLoopT (fun (i : Nat) => [(0, encInts (digs a)), (1, dI n), (5, dI (topN a i)), (6, dI i)]) (fun _ => []) 0 0 (fun i => i ≤ n) (fun i => n - i) 0 (Nat.zero_le _) ?_ ?_
 · have e := top_zero a
   exact leGo (cj2 hres e)
 · intro i hi
   obtain ⟨hw, i0⟩ := wrap2 i
   by_cases h1 : (i : Int) < n
   · obtain ⟨x, hx⟩ : ∃ x, (digs a)[(digs a).length - 1 - i]? = some x := ⟨_, List.getElem?_eq_getElem (by omega)⟩
     have hx0 := dig_get (norm_digs a).1 hx
     have e := top_step (a := a) (n := i) (by omega) hx
     have hs := top_small (a := a) (n := i + 1) (by omega) (by omega)
     have t0 : (0 : Int) ≤ topN a i := by omega
     have hm : IntKind.i64.wrap ((topN a i : Int) * 1048576) = (topN a i : Int) * 1048576 := wrap_in (by omega) (by omega)
     have ha : IntKind.i64.wrap ((topN a i : Int) * 1048576 + x) = (topN a (i + 1) : Nat) := (wrap_in (by omega) (by omega)).trans e
     have w1 : IntKind.i64.wrap (((digs a).length : Int) - 1) = ((digs a).length : Int) - 1 := wrap_in (by omega) (by omega)
     have w2 : IntKind.i64.wrap (((digs a).length : Int) - 1 - i) = ((digs a).length : Int) - 1 - i := wrap_in (by omega) (by omega)
     have w3 : (((digs a).length : Int) - 1 - i).toNat = (digs a).length - 1 - i := by omega
     have w4 : 0 ≤ ((digs a).length : Int) - 1 - i := by omega
     refine aGo (cj4 hres h1 hw (cj4 hm ha w1 (cj4 w2 w3 w4 hx))) ?_
     repeat with_reducible intro K hK
     exact loop_end (i + 1) (by omega) (by omega) (leGo hw)
   · obtain rfl : i = n := by omega
     exact aGo (cj2 hres h1) trivial
def nsg (n : Nat) : Int := (n : Int).sign
abbrev cN (n : Nat) : List D := [dI (nsg n), encInts (digs n)]
abbrev eN (n : Nat) : D := .agg (cN n)
theorem nsg_pos {n : Nat} (h : 0 < n) : nsg n = 1 := Int.sign_eq_one_of_pos (by omega)
theorem nsg_bounds (n : Nat) : 0 ≤ nsg n ∧ nsg n ≤ 1 := by
 unfold nsg
 cases n with
 | zero => decide
 | succ k => rw [Int.sign_eq_one_of_pos (by omega)]; decide
theorem szZ_nat (n : Nat) : szZ (n : Int) = (digs n).length := rfl
theorem fz_rep0 (all : Bool) (m : Mem) (k z : Nat) : (List.replicate z [dI 0]).map (List.map (fzT all m (k + 1))) = List.replicate z [dI 0] := by
 rw [List.map_replicate]; rfl
theorem fz_ints (all : Bool) (m : Mem) (k : Nat) (l : List Int) : (l.map fun x => [dI x]).map (List.map (fzT all m (k + 1))) = l.map fun x => [dI x] := by
 rw [List.map_map]; exact List.map_congr_left fun x _ => rfl
theorem gV_enc (a b : Nat) : (List.replicate ((digs a).length - gN a b - gL b) [dI 0]) ++ (digs (gQ a b)).map (fun x => [dI x]) = (digs (gV a b)).map fun x => [dI x] := by
 rw [gV_digs, List.map_append, List.map_replicate]
set_option maxHeartbeats 32000000 in
theorem guess_c (a b : Nat) (hb : 0 < b) (hab : b ≤ a) (hl : ((digs a).length : Int) ≤ 1000000) : ContractN Tryz.prog 246 [eN a, eN b] (eN (gV a b)) := by
 have hres := Tryz.results246
 have p1 := digs_len_pos (show 0 < a by omega)
 have p2 := digs_len_pos hb
 have p3 := digs_le hab
 have q1 : gN a b ≤ 3 ∧ gN a b ≤ (digs a).length ∧ gL b ≤ (digs a).length - gN a b := by unfold gN gL guessN guessLow; split <;> omega
 obtain ⟨q1, q2, q3⟩ := q1
 have dpos : 0 < gD b := by
  have := (guess_div (B := 1048576) (b := b) (lb := (digs b).length) (by decide) (digs_high b)).1
  rw [← gD_eq] at this
  rcases Nat.eq_zero_or_pos (gD b) with h | h
  · rw [h, Nat.zero_mul] at this; omega
  · exact h
 have k1 := top_c b (min 2 (digs b).length) (by omega) (by omega) (by omega)
 have k2 := top_c a (gN a b) q1 q2 (by omega)
 have s1 := top_small q2 q1
 have s2 := top_small2 (a := b) (n := min 2 (digs b).length) (by omega) (by omega)
 have s3 : (gQ a b : Int) ≤ 1152921504606846976 := by
  have : gQ a b ≤ topN a (gN a b) + 1 := by
   have := Nat.div_le_self (topN a (gN a b)) (gD b)
   unfold gQ; omega
  omega
 have k3 : ContractN Tryz.prog 158 [dI (gQ a b)] (eN (gQ a b)) := pOf_c (gQ a b) (by omega) (by omega)
 have hm2 : (if ((digs b).length : Int) < 2 then ((digs b).length : Int) else 2) = ((min 2 (digs b).length : Nat) : Int) := by split <;> omega
 have wl : IntKind.i64.wrap (((digs b).length : Int) - ((min 2 (digs b).length : Nat) : Int)) = (gL b : Nat) := (wrap_in (by omega) (by omega)).trans (by unfold gL guessLow; omega)
 have eq : (topN a (gN a b) : Int).tdiv (gD b : Nat) = ((topN a (gN a b) / gD b : Nat) : Int) := (Int.ofNat_tdiv _ _).symm
 have hq : IntKind.i64.wrap ((topN a (gN a b) : Int).tdiv (gD b : Nat)) = ((topN a (gN a b) / gD b : Nat) : Int) := by
  rw [eq]
  have := Nat.div_le_self (topN a (gN a b)) (gD b)
  generalize topN a (gN a b) / gD b = q at this ⊢
  exact wrap_in (by omega) (by omega)
 have hmx : (if ((topN a (gN a b) / gD b : Nat) : Int) > 1 then ((topN a (gN a b) / gD b : Nat) : Int) else 1) = (gQ a b : Nat) := by unfold gQ; split <;> omega
 have d0 : (gD b : Int) ≠ 0 := by omega
 have w7 : IntKind.i64.wrap (((digs a).length : Int) - (gN a b : Nat)) = (((digs a).length - gN a b : Nat) : Int) := (wrap_in (by omega) (by omega)).trans (by omega)
 have w8 : IntKind.i64.wrap ((((digs a).length - gN a b : Nat) : Int) - (gL b : Nat)) = (((digs a).length - gN a b - gL b : Nat) : Int) := (wrap_in (by omega) (by omega)).trans (by omega)
 have z0 : (0 : Int) ≤ (((digs a).length - gN a b - gL b : Nat) : Int) := by omega
 refine inN Tryz.func246 rfl Tryz.ntmps246 fun I => ?_
 have hz := List.length_replicate (n := (digs a).length - gN a b - gL b) (a := [dI 0])
 have lq : (digs (gQ a b)).length ≤ 4 := length_digs_le (by simp only [bp]; omega)
 have he := gV_enc a b
 have sg := nsg_pos (gV_pos (a := a) (b := b))
 have hn3 : ∀ n : Nat, n = (digs (gQ a b)).length → True := fun _ _ => trivial
 by_cases c1 : (((digs a).length - min 3 (digs a).length : Nat) : Int) < (gL b : Nat)
 · have hm3 : (if ((digs a).length : Int) < 3 then ((digs a).length : Int) else 3) = ((min 3 (digs a).length : Nat) : Int) := by split <;> omega
   have wa : IntKind.i64.wrap (((digs a).length : Int) - ((min 3 (digs a).length : Nat) : Int)) = (((digs a).length - min 3 (digs a).length : Nat) : Int) := (wrap_in (by omega) (by omega)).trans (by omega)
   have w5 : IntKind.i64.wrap (((digs a).length : Int) - (gL b : Nat)) = (gN a b : Nat) := (wrap_in (by omega) (by omega)).trans (by unfold gN guessN at *; rw [if_pos (by unfold gL at *; omega)]; unfold gL at *; omega)
   by_cases c2 : (gL b : Int) > 0
   · have w6 : IntKind.i64.wrap ((topN b (min 2 (digs b).length) : Int) + 1) = (gD b : Nat) := (wrap_in (by omega) (by omega)).trans (by unfold gD; rw [if_pos (by omega)]; omega)
     refine aGo (cj4 hres hm3 hm2 (cj4 wl wa c1 (cj4 w5 c2 w6 (cj4 hq hmx d0 (cj4 w7 w8 z0 hz))))) ?_
     simp only [fzT, List.map_append, fz_rep0, fz_ints, he, List.map_cons, List.map_nil]
     show D.agg [dI 1, _] = D.agg [dI (nsg (gV a b)), _]
     rw [sg]
   · have w6 : (topN b (min 2 (digs b).length) : Int) = (gD b : Nat) := by unfold gD; rw [if_neg (by omega)]; rfl
     refine aGo (cj4 hres hm3 hm2 (cj4 wl wa c1 (cj4 w5 c2 w6 (cj4 hq hmx d0 (cj4 w7 w8 z0 hz))))) ?_
     simp only [fzT, List.map_append, fz_rep0, fz_ints, he, List.map_cons, List.map_nil]
     show D.agg [dI 1, _] = D.agg [dI (nsg (gV a b)), _]
     rw [sg]
 · have eL : gL b = guessLow (digs b).length := rfl
   have en : gN a b = min 3 (digs a).length := by unfold gN guessN; rw [if_neg (by omega)]
   have hm3 : (if ((digs a).length : Int) < 3 then ((digs a).length : Int) else 3) = (gN a b : Nat) := by rw [en]; split <;> omega
   have wa : True := trivial
   rw [← en] at c1
   by_cases c2 : (gL b : Int) > 0
   · have w6 : IntKind.i64.wrap ((topN b (min 2 (digs b).length) : Int) + 1) = (gD b : Nat) := (wrap_in (by omega) (by omega)).trans (by unfold gD; rw [if_pos (by omega)]; omega)
     refine aGo (cj4 hres hm3 hm2 (cj4 wl wa c1 (cj4 c2 w6 hq (cj3 hmx d0 (cj4 w7 w8 z0 hz))))) ?_
     simp only [fzT, List.map_append, fz_rep0, fz_ints, he, List.map_cons, List.map_nil]
     show D.agg [dI 1, _] = D.agg [dI (nsg (gV a b)), _]
     rw [sg]
   · have w6 : (topN b (min 2 (digs b).length) : Int) = (gD b : Nat) := by unfold gD; rw [if_neg (by omega)]; rfl
     refine aGo (cj4 hres hm3 hm2 (cj4 wl wa c1 (cj4 c2 w6 hq (cj3 hmx d0 (cj4 w7 w8 z0 hz))))) ?_
     simp only [fzT, List.map_append, fz_rep0, fz_ints, he, List.map_cons, List.map_nil]
     show D.agg [dI 1, _] = D.agg [dI (nsg (gV a b)), _]
     rw [sg]
theorem sign_nat_mul {a b c : Int} (hb : 0 < b) (h : a = b * c) : a.sign = c.sign := by rw [h, Int.sign_mul, Int.sign_eq_one_of_pos hb, Int.one_mul]
theorem nsg_mul_sign (c : Int) : nsg c.natAbs * c.sign = c.sign := by
 rcases Int.lt_trichotomy c 0 with h | h | h
 · rw [nsg_pos (by omega), Int.one_mul]
 · subst h; rfl
 · rw [nsg_pos (by omega), Int.one_mul]
theorem sign_sq (a : Int) : a.sign * a.sign = nsg a.natAbs := by
 rcases Int.lt_trichotomy a 0 with h | h | h
 · rw [nsg_pos (by omega), Int.sign_eq_neg_one_of_neg h]; rfl
 · subst h; rfl
 · rw [nsg_pos (by omega), Int.sign_eq_one_of_pos h]; rfl
theorem exactN_c (a : Int) (b : Nat) (c : Int) (hb : 0 < b) (hd : a = b * c) (la : (szZ a : Int) ≤ 1000000) (lb : ((digs b).length : Int) ≤ 1000000) : ContractN Tryz.prog 216 [encZ a, eN b] (encZ c) := by
 have hres := Tryz.results216
 have hab : a.natAbs = b * c.natAbs := by rw [hd, Int.natAbs_mul]; rfl
 have sb := sign_bounds a
 have w1 : IntKind.i64.wrap (a.sign * a.sign) = nsg a.natAbs := by
  have := nsg_bounds a.natAbs
  rw [sign_sq]; exact wrap_in (by omega) (by omega)
 have hl : ((digs a.natAbs).length : Int) ≤ 1000000 := la
 refine inN Tryz.func216 rfl Tryz.ntmps216 fun I => ?_
 refine aGo (cj2 hres w1) ?_
 repeat with_reducible intro K hK
 refine aLe (le_cells 4 8 rfl) ?_
 refine aLoopT (fun (_ : Nat × Nat) => [(2, .lp 0 0 0 0), (3, .lp 1 0 0 0), (4, .lp 2 0 0 0), (5, .lp 3 0 0 0), (6, .lp 4 0 0 0)]) (fun p => [(0, ⟨30, 0, 2, [cZ a], 0, false⟩), (1, ⟨30, 0, 2, [cN b], 0, false⟩), (2, ⟨30, 0, 2, [[dI 0, .nil]], 0, false⟩), (3, ⟨30, 0, 2, [cN p.1], 0, false⟩), (4, ⟨30, 0, 2, [cN p.2], 0, false⟩)]) 5 0
  (fun p => p.2 * b + p.1 = a.natAbs) (fun p => p.1) (a.natAbs, 0) (by simp) ?_ ?_
 · have e0 : nsg 0 = 0 := rfl
   exact leGo (cj3 hres e0 digs_zero)
 · rintro ⟨r, o⟩ hi
   simp only at hi ⊢
   have hr : r ≤ a.natAbs := by omega
   have ho : o ≤ a.natAbs := by have : o ≤ o * b := Nat.le_mul_of_pos_right _ hb; omega
   have lr : (digs r).length ≤ (digs a.natAbs).length := digs_le hr
   have lo : (digs o).length ≤ (digs a.natAbs).length := digs_le ho
   by_cases h1 : b ≤ r
   · have lb2 : (digs b).length ≤ (digs a.natAbs).length := digs_le (by omega)
     have hg := gV_le hb h1
     have hp := gV_pos (a := r) (b := b)
     have k1 : ContractN Tryz.prog 183 [eN r, eN b] (dI ((r : Int) - b).sign) := pCmp_c r b (by rw [szZ_nat]; omega) (by rw [szZ_nat]; omega)
     have c1 : ((r : Int) - b).sign ≥ 0 := by
      rcases Int.lt_or_eq_of_le (show (0 : Int) ≤ r - b by omega) with h | h
      · rw [Int.sign_eq_one_of_pos h]; decide
      · rw [← h]; decide
     have k2 := guess_c r b hb h1 (by omega)
     have lg : (digs (gV r b)).length ≤ (digs r).length := digs_le (Nat.le_trans (Nat.le_mul_of_pos_right _ hb) hg)
     have lgb : (digs (gV r b * b)).length ≤ (digs r).length := digs_le hg
     have k3 : ContractN Tryz.prog 247 [eN o, eN (gV r b)] (eN (o + gV r b)) := by
      have := zadd_c o (gV r b) (by rw [szZ_nat]; omega) (by rw [szZ_nat]; omega)
      rw [← Int.natCast_add] at this; exact this
     have k4 : ContractN Tryz.prog 173 [eN (gV r b), eN b] (eN (gV r b * b)) := by
      have := zmul_c (gV r b) b (by rw [szZ_nat]; omega) (by rw [szZ_nat]; omega)
      rw [← Int.natCast_mul] at this; exact this
     have k5 : ContractN Tryz.prog 248 [eN r, eN (gV r b * b)] (eN (r - gV r b * b)) := by
      have := zsub_c r (gV r b * b : Nat) (by rw [szZ_nat]; omega) (by rw [szZ_nat]; omega)
      rw [← Int.ofNat_sub hg] at this; exact this
     refine aGo (cj2 hres c1) ?_
     repeat with_reducible intro K hK
     refine loop_end (r - gV r b * b, o + gV r b) ?_ ?_ (leGo trivial)
     · show (o + gV r b) * b + (r - gV r b * b) = a.natAbs
       rw [Nat.add_mul]; omega
     · show r - gV r b * b < r
       have : 0 < gV r b * b := Nat.mul_pos hp hb
       omega
   · have k1 : ContractN Tryz.prog 183 [eN r, eN b] (dI ((r : Int) - b).sign) := pCmp_c r b (by rw [szZ_nat]; omega) (by rw [szZ_nat]; omega)
     have c1 : ¬ ((r : Int) - b).sign ≥ 0 := by
      rw [Int.sign_eq_neg_one_of_neg (by omega)]; decide
     have hr0 : r = 0 := by
      have h2 : b ∣ r := by
       have h3 : b ∣ o * b + r := by rw [hi, hab]; exact Nat.dvd_mul_right _ _
       exact (Nat.dvd_add_right (Nat.dvd_mul_left _ _)).1 h3
      exact Nat.eq_zero_of_dvd_of_lt h2 (by omega)
     have hoc : o = c.natAbs := by
      subst hr0
      rw [Nat.add_zero, hab, Nat.mul_comm] at hi
      exact Nat.eq_of_mul_eq_mul_left hb hi
     subst hoc
     have sc : a.sign = c.sign := sign_nat_mul (by omega) hd
     have w2 : IntKind.i64.wrap (nsg c.natAbs * a.sign) = c.sign := by
      have := sign_bounds c
      rw [sc, nsg_mul_sign]; exact wrap_in (by omega) (by omega)
     exact aGo (cj3 hres c1 w2) trivial
theorem exact_c (a D : Int) (hD : 0 < D) (hd : D ∣ a) (la : (szZ a : Int) ≤ 1000000) (lD : (szZ D : Int) ≤ 1000000) : ContractN Tryz.prog 216 [encZ a, encZ D] (encZ (a / D)) := by
 obtain ⟨c, rfl⟩ := hd
 obtain ⟨n, rfl⟩ := Int.eq_ofNat_of_zero_le (show 0 ≤ D by omega)
 rw [Int.mul_ediv_cancel_left _ (by omega)]
 exact exactN_c _ n c (by omega) rfl la lD
abbrev cQ (q : Rat) : List D := [dI q.num.sign, encInts (digs q.num.natAbs), dI (nsg q.den), encInts (digs q.den)]
abbrev eQ (q : Rat) : D := .agg (cQ q)
theorem common_c (n : Nat) (q : Rat) (hn : 0 < n) (ln : ((digs n).length : Int) ≤ 400000) (lq : (szQ q : Int) ≤ 400000) : ContractN Tryz.prog 160 [eN n, eQ q] (eN (lcQ n q)) := by
 have hres := Tryz.results160
 have hq := szQ_eq q
 have k1 : ContractN Tryz.prog 182 [eN n, eN q.den] (.tup [eN (Nat.gcd n q.den), dI 0]) := pGcd_c n q.den (by rw [szZ_nat]; omega) (by omega)
 have hg := Nat.gcd_dvd_left n q.den
 have g0 := Nat.gcd_pos_of_pos_left q.den hn
 have k2 : ContractN Tryz.prog 216 [eN n, eN (Nat.gcd n q.den)] (eN (n / Nat.gcd n q.den)) :=
  exactN_c n (Nat.gcd n q.den) (n / Nat.gcd n q.den : Nat) g0 (by rw [← Int.natCast_mul, Nat.mul_div_cancel' hg]) (by rw [szZ_nat]; omega) (by have := digs_le (Nat.le_of_dvd hn hg); omega)
 have ld : (digs (n / Nat.gcd n q.den)).length ≤ (digs n).length := digs_le (Nat.div_le_self _ _)
 have k3 : ContractN Tryz.prog 173 [eN (n / Nat.gcd n q.den), eN q.den] (eN (lcQ n q)) := by
  have := zmul_c (n / Nat.gcd n q.den : Nat) q.den (by rw [szZ_nat]; omega) (by omega)
  rw [← Int.natCast_mul] at this; exact this
 refine inN Tryz.func160 rfl Tryz.ntmps160 fun I => ?_
 exact aGo hres trivial
theorem times_c (n : Nat) (q : Rat) (hn : q.den ∣ n) (ln : ((digs n).length : Int) ≤ 400000) (lq : (szQ q : Int) ≤ 400000) : ContractN Tryz.prog 162 [eN n, eQ q] (encZ (zmul n q)) := by
 have hres := Tryz.results162
 have hq := szQ_eq q
 have k2 : ContractN Tryz.prog 216 [eN n, eN q.den] (eN (n / q.den)) :=
  exactN_c n q.den (n / q.den : Nat) q.den_pos (by rw [← Int.natCast_mul, Nat.mul_div_cancel' hn]) (by rw [szZ_nat]; omega) (by have := szZ_nat q.den; omega)
 have ld : (digs (n / q.den)).length ≤ (digs n).length := digs_le (Nat.div_le_self _ _)
 have k3 : ContractN Tryz.prog 173 [eN (n / q.den), encZ q.num] (encZ (zmul n q)) := zmul_c (n / q.den : Nat) q.num (by rw [szZ_nat]; omega) (by omega)
 refine inN Tryz.func162 rfl Tryz.ntmps162 fun I => ?_
 exact aGo hres trivial
end Go.Proofs.YtpkdhmnlpnijhaaGreat
