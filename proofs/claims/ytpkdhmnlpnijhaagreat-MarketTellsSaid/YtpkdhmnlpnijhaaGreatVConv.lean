/-
  The walk over data: the rules ax they are used.
-/
import Derived.Test.YtpkdhmnlpnijhaaGreatVDataB
import Derived.Test.YtpkdhmnlpnijhaaGreatRows
import Derived.Test.YtpkdhmnlpnijhaaGreatVDigits
import Derived.Test.YtpkdhmnlpnijhaaGreatVFrac
namespace Go.Proofs.YtpkdhmnlpnijhaaGreat
set_option linter.unusedVariables false
set_option linter.unusedSimpArgs false
set_option linter.unusedSectionVars false
open Go Go.RowKit
section ifl
variable [Ifl]
def gOf (d : D) (k : Nat) (want : Bool) : Option (Nat × Bool) :=
 match d with
 | .v (.bool b) => some (k, b)
 | .v (.tuple _) => some (k, !want)
 | _ => none
theorem gOf_bool (b : Bool) (k : Nat) (want : Bool) : gOf (.v (.bool b)) k want = some (k, b) := rfl
theorem gOf_undef (k : Nat) (want : Bool) : gOf (.v undef) k want = some (k, !want) := rfl
def guardL (ds : List (Option Tmp)) (g : Nat × Bool) (t : Nat → D) : Option (Nat × Bool) :=
 match ds[g.1]? with
 | some (some k) => gOf (t k) k g.2
 | _ => none
structure SOp where
 dst : Option Tmp
 op : Op
 guard : Option (Nat × Bool)
def strip (o : Oper) : SOp := ⟨o.dst, o.op, o.guard⟩
def opS (P : Program) (o : SOp) (s : St) (K : St → Prop) : Prop :=
 match opF P o.op s.t s.m s.nx with
 | some r => r.ok ∧ (r.new = [] ∨ r.new = [s.nx]) ∧ K { s with t := putT s.t o.dst r.d, m := ov s.m r.wr, nx := s.nx + r.new.length }
 | none => match callD o.op s.t with
   | some (f, ds) => CallA P f ds s.m s.nx fun d m' nx' => K { s with t := putT s.t o.dst d, m := m', nx := nx' }
   | none => False
def opE (P : Program) (o : SOp) (s : St) (K : Ev → St → Prop) : Prop :=
 match opF P o.op s.t s.m s.nx with
 | some r => r.ok ∧ (r.new = [] ∨ r.new = [s.nx]) ∧ r.wr.all (fun p => decide (p.1 < s.nx + r.new.length)) = true ∧
     K ⟨r.d, r.rd ++ r.new ++ r.wr.map (·.1), r.wr, false⟩ { s with t := putT s.t o.dst r.d, m := ov s.m r.wr, nx := s.nx + r.new.length }
 | none => match callD o.op s.t with
   | some (f, ds) => CallQ P f ds s.m s.nx fun ev n' => K ev { s with t := putT s.t o.dst ev.d, m := ov s.m ev.wr, nx := n' }
   | none => False
def opsL (P : Program) (ds : List (Option Tmp)) : List SOp → St → (St → Prop) → Prop
 | [], s, K => K s
 | o :: rest, s, K => match o.guard with
   | none => opS P o s fun s' => opsL P ds rest s' K
   | some g => match guardL ds g s.t with
     | some p => match p.2, g.2 with
       | true, true | false, false => opS P o s fun s' => opsL P ds rest s' K
       | true, false | false, true => opsL P ds rest { s with t := putT s.t o.dst (.v undef) } K
     | none => False
def runL (P : Program) (ds : List (Option Tmp)) : List SOp → St → List Ev → (List Ev → St → Prop) → Prop
 | [], s, tr, K => K tr s
 | o :: rest, s, tr, K => match o.guard with
   | none => opE P o s fun ev s' => runL P ds rest s' (tr ++ [ev]) K
   | some g => match guardL ds g s.t with
     | some p => match p.2, g.2 with
       | true, true | false, false => opE P o s fun ev s' => runL P ds rest s' (tr ++ [ev]) K
       | true, false | false, true => runL P ds rest { s with t := putT s.t o.dst (.v undef) } (tr ++ [⟨.v undef, [], [], false⟩]) K
     | none => False
theorem guardL_eq {ops : Array Oper} {o : Oper} {t : Nat → D} {g : Nat × Bool} (hg : o.guard = some g) {p : Nat × Bool} (h : guardL (ops.toList.map (·.dst)) g t = some p) : guardD ops o t = some (p.2 == g.2) := by
 unfold guardL at h
 unfold guardD
 rw [hg]
 obtain ⟨j, want⟩ := g
 simp only [List.getElem?_map, Array.getElem?_toList] at h
 cases hq : ops[j]? with
 | none => rw [hq] at h; cases h
 | some q =>
   rw [hq] at h
   simp only [Option.map_some] at h
   cases hd : q.dst with
   | none => rw [hd] at h; cases h
   | some k =>
     rw [hd] at h
     simp only [gOf] at h
     split at h
     · rename_i b hb
       simp only [Option.some.injEq] at h
       subst h
       simp [hq, hd, hb]
     · rename_i u hb
       simp only [Option.some.injEq] at h
       subst h
       simp [hq, hd, hb]
     · cases h
theorem opA_mono {P : Program} {o : Oper} {s : St} {K K' : St → Prop} (h : ∀ s, K s → K' s) (hA : opA P o s K) : opA P o s K' := by
 unfold opA at hA ⊢
 split at hA
 · exact ⟨hA.1, hA.2.1, h _ hA.2.2⟩
 · split at hA
   · rename_i f ds hc
     refine ⟨hA.1, fun E β w vs h1 h2 => (hA.2 E β w vs h1 h2).mono ?_⟩
     rintro e w' ⟨v, d, m', nx', h3, h4, h5⟩
     exact ⟨v, d, m', nx', h3, h4, h _ h5⟩
   · exact hA.elim
theorem opsL_opsA {P : Program} {ops : Array Oper} {K : St → Prop} : ∀ (l : List Oper) (s : St), opsL P (ops.toList.map (·.dst)) (l.map strip) s K → opsA P ops l s K
 | [], s, h => h
 | o :: rest, s, h => by
   rw [List.map_cons] at h
   unfold opsL at h
   unfold opsA
   simp only [strip] at h
   split at h
   · rename_i hg
     have : guardD ops o s.t = some true := by unfold guardD; rw [hg]
     rw [this]
     exact ⟨fun _ => opA_mono (fun s' h' => opsL_opsA rest s' h') h, fun e => by cases e⟩
   · rename_i g hg
     split at h
     · rename_i p hp
       have h1 := guardL_eq hg hp
       rw [h1]
       obtain ⟨k, b⟩ := p
       obtain ⟨j, want⟩ := g
       simp only at h ⊢
       cases b <;> cases want <;> simp only [beq_self_eq_true] at h ⊢
       · exact ⟨fun _ => opA_mono (fun s' h' => opsL_opsA rest s' h') h, fun e => by cases e⟩
       · exact ⟨fun e => (by cases e), fun _ => opsL_opsA rest _ h⟩
       · exact ⟨fun e => (by cases e), fun _ => opsL_opsA rest _ h⟩
       · exact ⟨fun _ => opA_mono (fun s' h' => opsL_opsA rest s' h') h, fun e => by cases e⟩
     · exact h.elim
theorem opD_mono {P : Program} {o : Oper} {s : St} {K K' : Ev → St → Prop} (h : ∀ e s, K e s → K' e s) (hA : opE P (strip o) s K) : opD P o s K' := by
 unfold opE at hA
 unfold opD
 simp only [strip] at hA
 split at hA
 · rename_i r hr; rw [hr]; exact ⟨hA.1, hA.2.1, hA.2.2.1, h _ _ hA.2.2.2⟩
 · rename_i hr
   rw [hr]
   split at hA
   · rename_i f ds hc
     rw [hc]
     rcases hA with ⟨d, b, h1, h2, h3⟩ | ⟨ev, n', h1, h3⟩
     · exact .inl ⟨d, b, h1, h2, h _ _ h3⟩
     · exact .inr ⟨ev, n', h1, h _ _ h3⟩
   · exact hA.elim
theorem runL_runD {P : Program} {ops : Array Oper} {K : List Ev → St → Prop} : ∀ (l : List Oper) (s : St) (tr : List Ev), runL P (ops.toList.map (·.dst)) (l.map strip) s tr K → runD P ops l s tr K
 | [], s, tr, h => h
 | o :: rest, s, tr, h => by
   rw [List.map_cons] at h
   unfold runL at h
   unfold runD
   simp only [show (strip o).guard = o.guard from rfl, show (strip o).dst = o.dst from rfl] at h
   split at h
   · rename_i hg
     have : guardD ops o s.t = some true := by unfold guardD; rw [hg]
     rw [this]
     exact ⟨fun _ => opD_mono (fun ev s' h' => runL_runD rest s' _ h') h, fun e => by cases e⟩
   · rename_i g hg
     split at h
     · rename_i p hp
       have h1 := guardL_eq hg hp
       rw [h1]
       obtain ⟨k, b⟩ := p
       obtain ⟨j, want⟩ := g
       simp only at h ⊢
       cases b <;> cases want <;> simp only [beq_self_eq_true] at h ⊢
       · exact ⟨fun _ => opD_mono (fun ev s' h' => runL_runD rest s' _ h') h, fun e => by cases e⟩
       · exact ⟨fun e => (by cases e), fun _ => runL_runD rest _ _ h⟩
       · exact ⟨fun e => (by cases e), fun _ => runL_runD rest _ _ h⟩
       · exact ⟨fun _ => opD_mono (fun ev s' h' => runL_runD rest s' _ h') h, fun e => by cases e⟩
     · exact h.elim
section
variable {P : Program} {n : Nat} {Q : Exit → St → Prop} {s : St}
theorem aOps {id : Nat} {l : List Oper} (ds : List (Option Tmp)) (hds : l.map (·.dst) = ds) (hf : l.toArray.all (fitsOp n) = true) (h : opsL P ds (l.map strip) s (Q .normal)) : AWP P n (.region id l.toArray false) Q s :=
 aRegion hf (opsL_opsA (ops := l.toArray) l s (by subst hds; exact h))
theorem aRun {id : Nat} {l : List Oper} (ds : List (Option Tmp)) (hds : l.map (·.dst) = ds) (hm : P.follows .mixedOrders = true) (hd : drawB l.toArray = true) (hf : l.toArray.all (fitsOp n) = true)
    (h : runL P ds (l.map strip) s [] fun tr s' => raceB l.toArray (tr.map fun e => (e.touch, ids e.wr)) = true ∧ intsOk l.toArray s.m tr ∧ Q .normal s') : AWP P n (.region id l.toArray true) Q s :=
 aDraw hm hd hf (runL_runD (ops := l.toArray) l s [] (by subst hds; exact h))
end
theorem upd_get {α : Type} (f : Nat → α) (k : Nat) (x : α) (j : Nat) : upd f k x j = if j = k then x else f j := rfl
section
variable (P : Program) (ds : List (Option Tmp)) (K : St → Prop) (KE : List Ev → St → Prop) (t : Nat → D) (m : Mem) (nx lo : Nat) (rest : List SOp) (dst : Option Tmp) (op : Op) (tr : List Ev)
def stepR (x : Option Res) (o : SOp) (rest : List SOp) (s : St) (K : St → Prop) : Prop :=
 match x with
 | some r => r.ok ∧ (r.new = [] ∨ r.new = [s.nx]) ∧ opsL P ds rest { s with t := putT s.t o.dst r.d, m := ov s.m r.wr, nx := s.nx + r.new.length } K
 | none => match callD o.op s.t with
   | some (f, ds') => CallA P f ds' s.m s.nx fun d m' nx' => opsL P ds rest { s with t := putT s.t o.dst d, m := m', nx := nx' } K
   | none => False
def gSel (x : Option (Nat × Bool)) (want : Bool) (o : SOp) (rest : List SOp) (s : St) (K : St → Prop) : Prop :=
 match x with
 | some p => match p.2, want with
   | true, true | false, false => stepR P ds (opF P o.op s.t s.m s.nx) o rest s K
   | true, false | false, true => opsL P ds rest { s with t := putT s.t o.dst (.v undef) } K
 | none => False
def callS (x : Option (FuncId × List D)) (dst : Option Tmp) (rest : List SOp) (s : St) (K : St → Prop) : Prop :=
 match x with
 | some (f, ds') => CallA P f ds' s.m s.nx fun d m' nx' => opsL P ds rest { s with t := putT s.t dst d, m := m', nx := nx' } K
 | none => False
theorem opsL_nil (s : St) : opsL P ds [] s K = K s := rfl
theorem opsL_go : opsL P ds (⟨dst, op, none⟩ :: rest) ⟨t, m, nx, lo⟩ K = stepR P ds (opF P op t m nx) ⟨dst, op, none⟩ rest ⟨t, m, nx, lo⟩ K := by
 unfold opsL stepR opS
 rfl
theorem opsL_guard (j : Nat) (want : Bool) : opsL P ds (⟨dst, op, some (j, want)⟩ :: rest) ⟨t, m, nx, lo⟩ K = gSel P ds (guardL ds (j, want) t) want ⟨dst, op, some (j, want)⟩ rest ⟨t, m, nx, lo⟩ K := by
 rw [opsL]
 unfold gSel stepR
 simp only
 cases guardL ds (j, want) t with
 | none => rfl
 | some p => obtain ⟨k, b⟩ := p; cases b <;> cases want <;> rfl
theorem gSel_tt (k : Nat) (o : SOp) : gSel P ds (some (k, true)) true o rest ⟨t, m, nx, lo⟩ K = stepR P ds (opF P o.op t m nx) o rest ⟨t, m, nx, lo⟩ K := rfl
theorem gSel_ff (k : Nat) (o : SOp) : gSel P ds (some (k, false)) false o rest ⟨t, m, nx, lo⟩ K = stepR P ds (opF P o.op t m nx) o rest ⟨t, m, nx, lo⟩ K := rfl
theorem gSel_tf (k : Nat) (o : SOp) : gSel P ds (some (k, true)) false o rest ⟨t, m, nx, lo⟩ K = opsL P ds rest ⟨putT t o.dst (.v undef), m, nx, lo⟩ K := rfl
theorem gSel_ft (k : Nat) (o : SOp) : gSel P ds (some (k, false)) true o rest ⟨t, m, nx, lo⟩ K = opsL P ds rest ⟨putT t o.dst (.v undef), m, nx, lo⟩ K := rfl
theorem stepR_some (ok : Prop) (d : D) (r : List Nat) (wr : List (Nat × Blk)) (new : List Nat) (o : SOp) : stepR P ds (some ⟨ok, d, r, wr, new⟩) o rest ⟨t, m, nx, lo⟩ K = (ok ∧ (new = [] ∨ new = [nx]) ∧ opsL P ds rest ⟨putT t o.dst d, ov m wr, nx + new.length, lo⟩ K) := rfl
theorem stepR_none (o : SOp) : stepR P ds none o rest ⟨t, m, nx, lo⟩ K = callS P ds (callD o.op t) o.dst rest ⟨t, m, nx, lo⟩ K := rfl
def stepE (x : Option Res) (o : SOp) (rest : List SOp) (s : St) (tr : List Ev) (K : List Ev → St → Prop) : Prop :=
 match x with
 | some r => r.ok ∧ (r.new = [] ∨ r.new = [s.nx]) ∧ r.wr.all (fun p => decide (p.1 < s.nx + r.new.length)) = true ∧
     runL P ds rest { s with t := putT s.t o.dst r.d, m := ov s.m r.wr, nx := s.nx + r.new.length } (tr ++ [⟨r.d, r.rd ++ r.new ++ r.wr.map (·.1), r.wr, false⟩]) K
 | none => match callD o.op s.t with
   | some (f, ds') => CallQ P f ds' s.m s.nx fun ev n' => runL P ds rest { s with t := putT s.t o.dst ev.d, m := ov s.m ev.wr, nx := n' } (tr ++ [ev]) K
   | none => False
def gSelE (x : Option (Nat × Bool)) (want : Bool) (o : SOp) (rest : List SOp) (s : St) (tr : List Ev) (K : List Ev → St → Prop) : Prop :=
 match x with
 | some p => match p.2, want with
   | true, true | false, false => stepE P ds (opF P o.op s.t s.m s.nx) o rest s tr K
   | true, false | false, true => runL P ds rest { s with t := putT s.t o.dst (.v undef) } (tr ++ [⟨.v undef, [], [], false⟩]) K
 | none => False
def callE (x : Option (FuncId × List D)) (dst : Option Tmp) (rest : List SOp) (s : St) (tr : List Ev) (K : List Ev → St → Prop) : Prop :=
 match x with
 | some (f, ds') => CallQ P f ds' s.m s.nx fun ev n' => runL P ds rest { s with t := putT s.t dst ev.d, m := ov s.m ev.wr, nx := n' } (tr ++ [ev]) K
 | none => False
theorem runL_nil (s : St) : runL P ds [] s tr KE = KE tr s := rfl
theorem runL_go : runL P ds (⟨dst, op, none⟩ :: rest) ⟨t, m, nx, lo⟩ tr KE = stepE P ds (opF P op t m nx) ⟨dst, op, none⟩ rest ⟨t, m, nx, lo⟩ tr KE := by
 rw [runL]; rfl
theorem runL_guard (j : Nat) (want : Bool) : runL P ds (⟨dst, op, some (j, want)⟩ :: rest) ⟨t, m, nx, lo⟩ tr KE = gSelE P ds (guardL ds (j, want) t) want ⟨dst, op, some (j, want)⟩ rest ⟨t, m, nx, lo⟩ tr KE := by
 rw [runL]
 unfold gSelE stepE
 simp only
 cases guardL ds (j, want) t with
 | none => rfl
 | some p => obtain ⟨k, b⟩ := p; cases b <;> cases want <;> rfl
theorem gSelE_tt (k : Nat) (o : SOp) : gSelE P ds (some (k, true)) true o rest ⟨t, m, nx, lo⟩ tr KE = stepE P ds (opF P o.op t m nx) o rest ⟨t, m, nx, lo⟩ tr KE := rfl
theorem gSelE_ff (k : Nat) (o : SOp) : gSelE P ds (some (k, false)) false o rest ⟨t, m, nx, lo⟩ tr KE = stepE P ds (opF P o.op t m nx) o rest ⟨t, m, nx, lo⟩ tr KE := rfl
theorem gSelE_tf (k : Nat) (o : SOp) : gSelE P ds (some (k, true)) false o rest ⟨t, m, nx, lo⟩ tr KE = runL P ds rest ⟨putT t o.dst (.v undef), m, nx, lo⟩ (tr ++ [⟨.v undef, [], [], false⟩]) KE := rfl
theorem gSelE_ft (k : Nat) (o : SOp) : gSelE P ds (some (k, false)) true o rest ⟨t, m, nx, lo⟩ tr KE = runL P ds rest ⟨putT t o.dst (.v undef), m, nx, lo⟩ (tr ++ [⟨.v undef, [], [], false⟩]) KE := rfl
theorem stepE_some (ok : Prop) (d : D) (r : List Nat) (wr : List (Nat × Blk)) (new : List Nat) (o : SOp) : stepE P ds (some ⟨ok, d, r, wr, new⟩) o rest ⟨t, m, nx, lo⟩ tr KE =
 (ok ∧ (new = [] ∨ new = [nx]) ∧ wr.all (fun p => decide (p.1 < nx + new.length)) = true ∧ runL P ds rest ⟨putT t o.dst d, ov m wr, nx + new.length, lo⟩ (tr ++ [⟨d, r ++ new ++ wr.map (·.1), wr, false⟩]) KE) := rfl
theorem stepE_none (o : SOp) : stepE P ds none o rest ⟨t, m, nx, lo⟩ tr KE = callE P ds (callD o.op t) o.dst rest ⟨t, m, nx, lo⟩ tr KE := rfl
end
section
variable {P : Program} {ds : List (Option Tmp)} {K : St → Prop} {KE : List Ev → St → Prop} {t : Nat → D} {m : Mem} {nx lo : Nat} {rest : List SOp} {dst : Option Tmp} {tr : List Ev} {f : FuncId} {ax ax' : List D} {d : D}
theorem wrap_in {n : Int} (h1 : -9223372036854775808 ≤ n) (h2 : n ≤ 9223372036854775807) : IntKind.i64.wrap n = n := by rw [IntKind.wrap_i64]; omega
def intsDeadX (S : List Nat) (m : Mem) : Prop := Ifl.i = true ∧ ∀ id b, S.contains id = false → m id = some b → b.T = 3 → b.dead = true
theorem intsDead_X {m : Mem} (h : intsDeadX [] m) : intsDead m := ⟨h.1, fun id b hb hT => h.2 id b rfl hb hT⟩
theorem intsDeadX_nil (S : List Nat) : @intsDeadX Ifl.on S noM := ⟨rfl, fun _ _ _ h => by cases h⟩
theorem intsDeadX_upd {S : List Nat} {m : Mem} {id T ver k fz : Nat} {es : List (List D)} {dead : Bool} (hb : (S.contains id || !(T == 3 && !dead)) = true) (h : intsDeadX (id :: S) m) : intsDeadX S (upd m id (some ⟨T, ver, k, es, fz, dead⟩)) := by
 refine ⟨h.1, fun i b hS hi hT => ?_⟩
 by_cases e : i = id
 · subst e
   rw [upd_same] at hi
   simp only [Option.some.injEq] at hi
   subst hi
   rw [hS, Bool.false_or, Bool.not_eq_true'] at hb
   simp only at hT
   subst hT
   simpa using hb
 · rw [upd_ne _ _ e] at hi
   refine h.2 i b ?_ hi hT
   rw [List.contains_cons, hS, Bool.or_false]
   simpa using e
theorem intsDead_nil : @intsDead Ifl.on noM := ⟨rfl, fun _ _ h => by cases h⟩
theorem intsDead_updB {id T ver k fz : Nat} {es : List (List D)} {dead : Bool} (hb : (T == 3 && !dead) = false) (h : intsDead m) : intsDead (upd m id (some ⟨T, ver, k, es, fz, dead⟩)) := by
 refine ⟨h.1, fun i b hi hT => ?_⟩
 unfold upd at hi
 split at hi
 · cases hi
   have hT' : T = 3 := hT
   subst hT'
   cases dead
   · cases hb
   · rfl
 · exact h.2 i b hi hT
end
end ifl
section ifl
variable [Ifl]
section
variable {P : Program} {n : Nat} {Q : Exit → St → Prop} {s : St}
theorem aCondT {c : Operand} {x y : Code} (hf : fitsO n c = true) (hc : rd s.t c = .v (.bool true)) (h : AWP P n x Q s) : AWP P n (.cond c x y) Q s := aCond hf hc (fun _ => h) (fun e => by cases e)
theorem aCondF {c : Operand} {x y : Code} (hf : fitsO n c = true) (hc : rd s.t c = .v (.bool false)) (h : AWP P n y Q s) : AWP P n (.cond c x y) Q s := aCond hf hc (fun e => by cases e) (fun _ => h)
end
def callT (P : Program) (ds : List (Option Tmp)) (f : FuncId) (ax : List D) (kw : List (Nat × Blk)) (m' : Mem) (x : List D) (dst : Option Tmp) (rest : List SOp) (s : St) (K : St → Prop) : Prop :=
 kw = killW (refsL ax) s.m → m' = ov s.m kw → x = argDs m' ax → callS P ds (some (f, ax)) dst rest s K
theorem callS_some (P : Program) (ds : List (Option Tmp)) (f : FuncId) (ax : List D) (dst : Option Tmp) (rest : List SOp) (t : Nat → D) (m : Mem) (nx lo : Nat) (K : St → Prop) :
    callS P ds (some (f, ax)) dst rest ⟨t, m, nx, lo⟩ K = callT P ds f ax (killW (refsL ax) m) (ov m (killW (refsL ax) m)) (argDs (ov m (killW (refsL ax) m)) ax) dst rest ⟨t, m, nx, lo⟩ K :=
 propext ⟨fun h _ _ _ => h, fun h => h rfl rfl rfl⟩
def callU (P : Program) (ds : List (Option Tmp)) (f : FuncId) (ax : List D) (rf : List Nat) (kw : List (Nat × Blk)) (m' : Mem) (x : List D) (dst : Option Tmp) (rest : List SOp) (s : St) (tr : List Ev) (K : List Ev → St → Prop) : Prop :=
 rf = refsL ax → kw = killW rf s.m → m' = ov s.m kw → x = argDs m' ax → callE P ds (some (f, ax)) dst rest s tr K
theorem callE_some (P : Program) (ds : List (Option Tmp)) (f : FuncId) (ax : List D) (dst : Option Tmp) (rest : List SOp) (t : Nat → D) (m : Mem) (nx lo : Nat) (tr : List Ev) (K : List Ev → St → Prop) :
    callE P ds (some (f, ax)) dst rest ⟨t, m, nx, lo⟩ tr K = callU P ds f ax (refsL ax) (killW (refsL ax) m) (ov m (killW (refsL ax) m)) (argDs (ov m (killW (refsL ax) m)) ax) dst rest ⟨t, m, nx, lo⟩ tr K :=
 propext ⟨fun h _ _ _ _ => h, fun h => h rfl rfl rfl rfl⟩
section
variable {P : Program} {ds : List (Option Tmp)} {K : St → Prop} {KE : List Ev → St → Prop} {t : Nat → D} {m m' : Mem} {nx lo : Nat} {rest : List SOp} {dst : Option Tmp} {tr : List Ev} {f : FuncId} {ax ax' : List D} {d : D} {kw : List (Nat × Blk)} {rf : List Nat}
theorem callT_of (h : Contract P f ax' d) (k : opsL P ds rest ⟨putT t dst d, m', nx, lo⟩ K) (hi : intsDead m') : callT P ds f ax kw m' ax' dst rest ⟨t, m, nx, lo⟩ K := by
 rintro rfl rfl rfl
 exact CallA.of h hi k
theorem callT_ofN (h : ContractN P f ax' d) (k : opsL P ds rest ⟨putT t dst d, m', nx, lo⟩ K) : callT P ds f ax kw m' ax' dst rest ⟨t, m, nx, lo⟩ K := by
 rintro rfl rfl rfl
 exact CallA.ofN h k
theorem callU_of (h : Contract P f ax' d) (hw : kw.all (fun p => decide (p.1 < nx)) = true) (k : runL P ds rest ⟨putT t dst d, m', nx, lo⟩ (tr ++ [⟨d, rf ++ kw.map (·.1), kw, true⟩]) KE) : callU P ds f ax rf kw m' ax' dst rest ⟨t, m, nx, lo⟩ tr KE := by
 rintro rfl rfl rfl rfl
 exact .inl ⟨d, true, .inl ⟨rfl, h⟩, hw, k⟩
theorem callU_ofN (h : ContractN P f ax' d) (hw : kw.all (fun p => decide (p.1 < nx)) = true) (k : runL P ds rest ⟨putT t dst d, m', nx, lo⟩ (tr ++ [⟨d, rf ++ kw.map (·.1), kw, false⟩]) KE) : callU P ds f ax rf kw m' ax' dst rest ⟨t, m, nx, lo⟩ tr KE := by
 rintro rfl rfl rfl rfl
 exact .inl ⟨d, false, .inr h, hw, k⟩
theorem callU_eff {ev : Ev} {n' : Nat} {x : List D} (h : EffC P f ax m nx ev n') (k : runL P ds rest ⟨putT t dst ev.d, ov m ev.wr, n', lo⟩ (tr ++ [ev]) KE) : callU P ds f ax rf kw m' x dst rest ⟨t, m, nx, lo⟩ tr KE := by
 rintro rfl rfl rfl rfl
 exact .inr ⟨ev, n', h, k⟩
theorem callT_eff {x : List D} {K' : D → Mem → Nat → Prop} (h : CallA P f ax m nx K') (k : ∀ d m' nx', K' d m' nx' → opsL P ds rest ⟨putT t dst d, m', nx', lo⟩ K) : callT P ds f ax kw m' x dst rest ⟨t, m, nx, lo⟩ K := by
 rintro rfl rfl rfl
 exact h.mono k
theorem callT_in {x : List D} {fn : Func} {c : Code} (hf : P.funcs[f]? = some fn) (hb : fn.body = some c) (hnm : (fn.name == "runtime.NumGoroutine") = false)
    (hn : decide (ax.length ≤ fn.ntmps) = true) (hres : fn.results.toList.all (fitsR fn.ntmps) = true) (h : AWP P fn.ntmps c (endA P fn fun d m' nx' => opsL P ds rest ⟨putT t dst d, m', nx', lo⟩ K) ⟨initT ax, m, nx, nx⟩) : callT P ds f ax kw m' x dst rest ⟨t, m, nx, lo⟩ K :=
 fun _ _ _ => CallA.inline hf hb hnm hn hres h
end
theorem aRunK {P : Program} {n : Nat} {Q : Exit → St → Prop} {s : St} {id : Nat} {l : List Oper} (ds : List (Option Tmp)) (hds : l.map (·.dst) = ds) (hm : P.follows .mixedOrders = true) (hd : drawB l.toArray = true) (hf : l.toArray.all (fitsOp n) = true)
    (h : ∀ KE : List Ev → St → Prop, (∀ tr s', raceB l.toArray (tr.map fun e => (e.touch, ids e.wr)) = true → intsOk l.toArray s.m tr → Q .normal s' → KE tr s') → runL P ds (l.map strip) s [] KE) : AWP P n (.region id l.toArray true) Q s :=
 aRun ds hds hm hd hf (h _ fun _ _ h1 h2 h3 => ⟨h1, h2, h3⟩)
theorem intsOk_no {ops : Array Oper} {m : Mem} {tr : List Ev} (h : tr.any (·.ints) = false) : intsOk ops m tr := fun e => by rw [h] at e; cases e
theorem intsOk_yes {ops : Array Oper} {m : Mem} {tr : List Ev} (h : intsDead m) (h2 : ∀ ev ∈ tr, ∀ p ∈ ev.wr, p.2.T = 3 → p.2.dead = true) : intsOk ops m tr := fun _ => ⟨h, .inl h2⟩
def lastW (id : Nat) : List (Nat × Blk) → Option Blk
 | [] => none
 | p :: l => match lastW id l with
   | some b => some b
   | none => if p.1 = id then some p.2 else none
theorem ov_last (id : Nat) : ∀ (l : List (Nat × Blk)) (m : Mem), ov m l id = match lastW id l with | some b => some b | none => m id
 | [], _ => rfl
 | p :: l, m => by
   simp only [ov, lastW]
   rw [ov_last id l]
   cases lastW id l with
   | some b => rfl
   | none =>
     simp only
     by_cases e : p.1 = id
     · rw [if_pos e, ← e, upd_same]
     · rw [if_neg e, upd_ne _ _ (Ne.symm e)]
theorem lastW_mem {id : Nat} {b : Blk} : ∀ {l : List (Nat × Blk)}, lastW id l = some b → ∃ p ∈ l, p.1 = id
 | [], h => by cases h
 | p :: l, h => by
   simp only [lastW] at h
   cases hl : lastW id l with
   | some c => obtain ⟨q, h1, h2⟩ := lastW_mem hl; exact ⟨q, by simp [h1], h2⟩
   | none =>
     rw [hl] at h
     simp only at h
     split at h
     · rename_i e; exact ⟨p, by simp, e⟩
     · cases h
theorem ov_append : ∀ (l k : List (Nat × Blk)) (m : Mem), ov m (l ++ k) = ov (ov m l) k
 | [], _, _ => rfl
 | _ :: l, k, m => ov_append l k _
theorem mix_text : ∀ (tr : List Ev) (m : Mem) (i : Nat), mixM m tr ((List.range tr.length).map fun j => decide (j < i)) = ov m ((tr.take i).flatMap (·.wr))
 | [], _, i => by cases i <;> rfl
 | e :: tr, m, 0 => by
   have h := mix_text tr m 0
   simp only [List.take_zero, List.flatMap_nil, ov, Nat.not_lt_zero, decide_false] at h ⊢
   rw [List.length_cons, List.range_succ_eq_map, List.map_cons, List.map_map]
   simp only [mixM, Bool.false_eq_true, if_false]
   exact h
 | e :: tr, m, i + 1 => by
   have h := mix_text tr (ov m e.wr) i
   rw [List.length_cons, List.range_succ_eq_map, List.map_cons, List.map_map, List.take_succ_cons, List.flatMap_cons, ov_append]
   simp only [mixM, Nat.zero_lt_succ, decide_true, if_true]
   rw [← h]
   congr 1
   refine List.map_congr_left fun j _ => ?_
   simp only [Function.comp, Nat.succ_eq_add_one, Nat.add_lt_add_iff_right]
def intTextB (tr : List Ev) : Bool := (List.range tr.length).all fun i => match tr[i]? with
 | none => true
 | some ev => !ev.ints || ((tr.take (i + 1)).flatMap (·.wr)).all fun p => match lastW p.1 ((tr.take (i + 1)).flatMap (·.wr)) with
   | some b => (b.T != 3) || b.dead
   | none => true
theorem intsOk_ord {ops : Array Oper} {m : Mem} {tr : List Ev} (h : intsDead m) (h1 : intRaceB ops tr = true) (h2 : intTextB tr = true) : intsOk ops m tr := by
 refine fun _ => ⟨h, .inr ⟨h1, fun i ev hi hin => ⟨h.1, fun id b hb hT => ?_⟩⟩⟩
 have e : ov (mixM m tr ((List.range tr.length).map fun j => decide (j < i))) ev.wr = ov m ((tr.take (i + 1)).flatMap (·.wr)) := by
  rw [mix_text, ← ov_append, List.take_add_one, hi, List.flatMap_append]
  simp
 rw [e, ov_last] at hb
 unfold intTextB at h2
 simp only [List.all_eq_true, List.mem_range] at h2
 have h3 := h2 i (List.getElem?_eq_some_iff.1 hi).1
 simp only [hi, hin, Bool.not_true, Bool.false_or, List.all_eq_true] at h3
 cases hl : lastW id ((tr.take (i + 1)).flatMap (·.wr)) with
 | none => rw [hl] at hb; exact h.2 id b hb hT
 | some c =>
   rw [hl] at hb
   simp only [Option.some.injEq] at hb
   subst hb
   obtain ⟨p, hp, rfl⟩ := lastW_mem hl
   have h4 := h3 p hp
   rw [hl] at h4
   simp only [hT, bne_self_eq_false, Bool.false_or] at h4
   exact h4
def loopEnd {X : Type} (l : X → List (Nat × D)) (bl : X → List (Nat × Blk)) (nx lo : Nat) (Pre : X → Prop) (μ : X → Nat) (x : X) (s : St) : Prop := ∃ y, Pre y ∧ μ y < μ x ∧ StLe s ⟨tabT (l y), tabM (bl y), nx, lo⟩
theorem loop_end {X : Type} {l : X → List (Nat × D)} {bl : X → List (Nat × Blk)} {nx lo : Nat} {Pre : X → Prop} {μ : X → Nat} {x : X} {s : St} (y : X) (h1 : Pre y) (h2 : μ y < μ x) (h3 : StLe s ⟨tabT (l y), tabM (bl y), nx, lo⟩) : loopEnd l bl nx lo Pre μ x s := ⟨y, h1, h2, h3⟩
theorem aLoopT {P : Program} {n : Nat} {Q : Exit → St → Prop} {s : St} {c : Code} {X : Type} (l : X → List (Nat × D)) (bl : X → List (Nat × Blk)) (nx lo : Nat) (Pre : X → Prop) (μ : X → Nat) (x0 : X) (h0 : Pre x0) (hle : StLe s ⟨tabT (l x0), tabM (bl x0), nx, lo⟩)
    (h : ∀ x, Pre x → AWP P n c (thenA (loopEnd l bl nx lo Pre μ x) Q) ⟨tabT (l x), tabM (bl x), nx, lo⟩) : AWP P n (.loop c) Q s :=
 aLoop (fun x => ⟨tabT (l x), tabM (bl x), nx, lo⟩) Pre μ ⟨x0, h0, hle⟩ h
def endR (K : D → Mem → Nat → Prop) (x : Option (List D)) (m : Mem) (nx : Nat) : Prop := ∃ ds, x = some ds ∧ K (oneD ds) m nx
theorem endR_some (K : D → Mem → Nat → Prop) (ds : List D) (m : Mem) (nx : Nat) : endR K (some ds) m nx = K (oneD ds) m nx := by
 unfold endR
 apply propext
 constructor
 · rintro ⟨ds', h, hk⟩; cases h; exact hk
 · intro h; exact ⟨ds, rfl, h⟩
theorem endA_ret (P : Program) (fn : Func) (K : D → Mem → Nat → Prop) (s : St) : endA P fn K .ret s = endR K (resDs P s fn.results.toList) s.m s.nx := rfl
theorem endA_normal (P : Program) (fn : Func) (K : D → Mem → Nat → Prop) (s : St) : endA P fn K .normal s = endR K (resDs P s fn.results.toList) s.m s.nx := rfl
theorem oneD_one (d : D) : oneD [d] = d := rfl
theorem oneD_two (d e : D) : oneD [d, e] = .tup [d, e] := rfl
theorem oneD_three (d e f : D) : oneD [d, e, f] = .tup [d, e, f] := rfl
theorem oneD_four (d e f g : D) : oneD [d, e, f, g] = .tup [d, e, f, g] := rfl
end ifl
theorem ty_3 : tyOf Tryz.prog 3 = some ⟨5, 1, 8, some [.v (.int .i64 0)], 0, some .i64, []⟩ := by kernel_rfl
theorem ty_4 : tyOf Tryz.prog 4 = some ⟨6, 1, 1, some [.v (.bool false)], 0, none, []⟩ := by kernel_rfl
theorem ty_22 : tyOf Tryz.prog 22 = some ⟨2, 1, 24, some [.nil], 61, none, []⟩ := by kernel_rfl
theorem ty_24 : tyOf Tryz.prog 24 = some ⟨1, 2, 32, some [.v (.int .i64 0), .nil], 0, none, [(0, 1, false), (1, 1, false)]⟩ := by kernel_rfl
theorem ty_25 : tyOf Tryz.prog 25 = some ⟨2, 1, 24, some [.nil], 107, none, []⟩ := by kernel_rfl
theorem ty_28 : tyOf Tryz.prog 28 = some ⟨2, 1, 24, some [.nil], 3, none, []⟩ := by kernel_rfl
theorem ty_30 : tyOf Tryz.prog 30 = some ⟨1, 2, 32, some [.v (.int .i64 0), .nil], 0, none, [(0, 1, false), (1, 1, false)]⟩ := by kernel_rfl
theorem ty_32 : tyOf Tryz.prog 32 = some ⟨1, 4, 64, some [.v (.int .i64 0), .nil, .v (.int .i64 0), .nil], 0, none, [(0, 2, true), (2, 2, true)]⟩ := by kernel_rfl
theorem ty_33 : tyOf Tryz.prog 33 = some ⟨2, 1, 24, some [.nil], 32, none, []⟩ := by kernel_rfl
theorem ty_35 : tyOf Tryz.prog 35 = some ⟨1, 8, 144, some [.v (.int .i64 0), .v (.int .i64 0), .nil, .v (.int .i64 0), .nil, .nil, .nil, .nil], 0, none, [(0, 1, false), (1, 4, true), (5, 1, false), (6, 1, false), (7, 1, false)]⟩ := by kernel_rfl
theorem ty_42 : tyOf Tryz.prog 42 = some ⟨2, 1, 24, some [.nil], 102, none, []⟩ := by kernel_rfl
theorem ty_44 : tyOf Tryz.prog 44 = some ⟨1, 6, 112, some [.nil, .nil, .v (.int .i64 0), .nil, .v (.int .i64 0), .nil], 0, none, [(0, 1, false), (1, 1, false), (2, 4, true)]⟩ := by kernel_rfl
theorem ty_61 : tyOf Tryz.prog 61 = some ⟨1, 6, 96, some [.nil, .v (.int .i64 0), .v (.int .i64 0), .nil, .v (.int .i64 0), .nil], 0, none, [(0, 1, false), (1, 1, false), (2, 4, true)]⟩ := by kernel_rfl
theorem ty_102 : tyOf Tryz.prog 102 = some ⟨1, 2, 32, some [.nil, .v (.int .i64 0)], 0, none, [(0, 1, false), (1, 1, false)]⟩ := by kernel_rfl
theorem ty_107 : tyOf Tryz.prog 107 = some ⟨1, 5, 72, some [.v (.int .i64 0), .v (.int .i64 0), .nil, .v (.int .i64 0), .nil], 0, none, [(0, 1, false), (1, 4, true)]⟩ := by kernel_rfl
theorem ty_149 : tyOf Tryz.prog 149 = some ⟨2, 1, 24, some [.nil], 156, none, []⟩ := by kernel_rfl
theorem ty_150 : tyOf Tryz.prog 150 = some ⟨2, 1, 24, some [.nil], 185, none, []⟩ := by kernel_rfl
theorem ty_152 : tyOf Tryz.prog 152 = some ⟨1, 6, 128, some [.v (.int .i64 0), .nil, .nil, .nil, .nil, .nil], 0, none, [(0, 1, false), (1, 1, false), (2, 1, false), (3, 1, false), (4, 1, false), (5, 1, false)]⟩ := by kernel_rfl
theorem ty_156 : tyOf Tryz.prog 156 = some ⟨1, 5, 88, some [.v (.int .i64 0), .nil, .v (.int .i64 0), .nil, .nil], 0, none, [(0, 4, true), (4, 1, false)]⟩ := by kernel_rfl
theorem ty_161 : tyOf Tryz.prog 161 = some ⟨2, 1, 24, some [.nil], 30, none, []⟩ := by kernel_rfl
theorem ty_162 : tyOf Tryz.prog 162 = some ⟨2, 1, 24, some [.nil], 161, none, []⟩ := by kernel_rfl
theorem ty_164 : tyOf Tryz.prog 164 = some ⟨1, 12, 256, some [.nil, .nil, .nil, .v (.int .i64 0), .nil, .nil, .nil, .nil, .nil, .nil, .v (.int .i64 0), .nil], 0, none, [(0, 1, false), (1, 1, false), (2, 1, false), (3, 2, true), (5, 1, false), (6, 1, false), (7, 1, false), (8, 1, false), (9, 1, false), (10, 2, true)]⟩ := by kernel_rfl
theorem ty_185 : tyOf Tryz.prog 185 = some ⟨1, 2, 16, some [.v (.int .i64 0), .v (.bool false)], 0, none, [(0, 1, false), (1, 1, false)]⟩ := by kernel_rfl
theorem ty_192 : tyOf Tryz.prog 192 = some ⟨5, 1, 8, some [.v (.int .u64 0)], 0, some .u64, []⟩ := by kernel_rfl
theorem mixed : Tryz.prog.follows .mixedOrders = true := by kernel_rfl
section ifl
variable [Ifl]
theorem cj2 {A B : Prop} (a : A) (b : B) : A ∧ B := ⟨a, b⟩
theorem cj3 {A B C : Prop} (a : A) (b : B) (c : C) : A ∧ B ∧ C := ⟨a, b, c⟩
theorem cj4 {A B C D : Prop} (a : A) (b : B) (c : C) (d : D) : A ∧ B ∧ C ∧ D := ⟨a, b, c, d⟩
theorem intsOk_all {ops : Array Oper} {m : Mem} {tr : List Ev} (h : intsDead m) (h2 : (tr.all fun e => e.wr.all fun p => (p.2.T != 3) || p.2.dead) = true) : intsOk ops m tr := by
 refine intsOk_yes h fun ev hev p hp hT => ?_
 have h3 := List.all_eq_true.1 (List.all_eq_true.1 h2 ev hev) p hp
 rw [hT] at h3
 simpa using h3
theorem useK {K A : St → Prop} {s : St} (h : ∀ s, A s → K s) (a : A s) : K s := h s a
structure Keep (Y : Prop) : Prop where
 out : Y
theorem aGo {F Y X : Prop} (f : F) (y : Y) (h : F → Keep Y → X := by
    intro hf y
    repeat (first
     | (refine hI _ ?_; clear hI; clear KI)
     | (refine hK _ ?_; try clear hK; try clear K)
     | ((with_reducible apply useK); (with_reducible assumption))
     | (refine aSeq fun KI hI => ?_)
     | (refine aBlock ?_)
     | (refine aSkip ?_)
     | (refine aExit ?_)
     | (refine aRet ?_)
     | (refine aOps _ rfl (by kernel_rfl) ?_)
     | (refine aRunK _ rfl mixed (by kernel_rfl) (by kernel_rfl) fun KE hE => ?_)
     | (refine hE _ _ (by kernel_rfl) (intsOk_no rfl) ?_; clear hE; clear KE)
     | (refine hE _ _ (by kernel_rfl) (intsOk_all (by (first | ((repeat (refine intsDead_updB rfl ?_)); exact intsDead_nil) | (refine intsDead_X ?_; (repeat (refine intsDeadX_upd rfl ?_)); exact intsDeadX_nil _))) rfl) ?_; clear hE; clear KE)
     | (refine hE _ _ (by kernel_rfl) (intsOk_ord (by (first | ((repeat (refine intsDead_updB rfl ?_)); exact intsDead_nil) | (refine intsDead_X ?_; (repeat (refine intsDeadX_upd rfl ?_)); exact intsDeadX_nil _))) (by kernel_rfl) rfl) ?_; clear hE; clear KE)
     | (refine aCondT rfl ?hc ?_; case hc => simp only [go_sem, ↓reduceIte, beq_self_eq_true, bne_self_eq_false, hf])
     | (refine aCondF rfl ?hc ?_; case hc => simp only [go_sem, ↓reduceIte, beq_self_eq_true, bne_self_eq_false, hf])
     | ((with_reducible apply callT_of); (first | with_reducible assumption | assumption); rotate_left; (first | ((repeat (refine intsDead_updB rfl ?_)); exact intsDead_nil) | (refine intsDead_X ?_; (repeat (refine intsDeadX_upd rfl ?_)); exact intsDeadX_nil _)))
     | ((with_reducible apply callT_ofN); (first | with_reducible assumption | assumption))
     | ((with_reducible apply callU_of); (first | with_reducible assumption | assumption); rfl)
     | ((with_reducible apply callU_ofN); (first | with_reducible assumption | assumption); rfl)
     | (simp only [go_sem, ↓reduceIte, beq_self_eq_true, bne_self_eq_false, hf])
     | (refine And.intro ?ho ?_; (case ho => omega))
     | (clear hI; clear KI))
    repeat (first | (revert hE; revert KE) | (revert hI; revert KI))
    first | done | exact y.out) : X := h f ⟨y⟩
theorem leGo {F X : Prop} (f : F) (h : F → X := by
    intro hf
    refine le_head _ _ _ ?_ ?_ ?_ ?_ ?_ (.inl rfl) <;> simp [go_sem, okD, okDs, okBlk, hf] <;>
    (first | (intros; subst_vars; simp [okD, okDs]; done) | (intro _ h; rcases h with ⟨_, _, rfl⟩ | rfl <;> simp [okD, okDs]; done) | (intros; rename_i h; rcases h with ⟨_, _, rfl⟩ | rfl <;> simp [okD, okDs]))) : X := h f
end ifl
instance iflOn : Ifl := Ifl.on
abbrev dI (n : Int) : D := .v (.int .i64 n)
abbrev dB (b : Bool) : D := .v (.bool b)
abbrev encInts (l : List Int) : D := .sl (l.map fun x => [dI x])
abbrev cB (x : BigD) : List D := [dI x.s, encInts x.d]
abbrev encB (x : BigD) : D := .agg (cB x)
abbrev cF (f : FracD) : List D := [dI f.p.s, encInts f.p.d, dI f.q.s, encInts f.q.d]
abbrev encF (f : FracD) : D := .agg (cF f)
theorem bool_eq {a b : Bool} (h : a = b) : D.v (.bool a) = dB b := by rw [h]
section
variable {S : Nat → Nat → Prop} {w : World} {v : Value} {l : List Int}
theorem ints_of_rep (h : Rep noB noM S w v (encInts l)) : IntsAt w v l := by
 obtain ⟨a, cap, rfl, h1, h2, h3⟩ := h.inv_sl
 rw [List.length_map] at h2 ⊢
 refine ⟨a, cap, rfl, h2, h1, ?_⟩
 rcases h3 with h3 | ⟨b, off, k, rfl, h4, h5⟩
 · exact .inl (by simpa using congrArg List.length h3)
 · by_cases h0 : l.length = 0
   · exact .inl h0
   · refine .inr ⟨b, off, rfl, ?_, fun i x hi => ?_⟩
     · obtain ⟨x, hx⟩ : ∃ x, l[0]? = some x := ⟨_, List.getElem?_eq_getElem (by omega)⟩
       obtain ⟨u, _, hc, _⟩ := h5 0 0 (dI x) (cellAt_some.2 ⟨[dI x], by simp [hx], rfl⟩)
       exact lt_cell hc
     · have hk : k = 1 := by rw [← h4 i [dI x] (by simp [hi])]; rfl
       subst hk
       refine ⟨[I x], rfl, rfl, fun j u hu => ?_⟩
       cases j with
       | zero =>
         simp at hu
         subst hu
         obtain ⟨u, _, hc, hr⟩ := h5 i 0 (dI x) (cellAt_some.2 ⟨[dI x], by simp [hi], rfl⟩)
         rw [hc, hr.inv_v]
       | succ j => simp at hu
theorem rep_of_ints (h : IntsAt w v l) (hS : ∀ b o, v.ownBlock = some b → S b o) : Rep noB noM S w v (encInts l) := by
 obtain ⟨a, cap, rfl, h1, h2, h3⟩ := h
 have e : (l.map fun x => [dI x]).length = l.length := by simp
 rcases h3 with h3 | ⟨b, off, rfl, h4, h5⟩
 · have : l = [] := List.eq_nil_of_length_eq_zero h3
   subst this
   exact .sl0 _ _ h2
 · show Rep noB noM S w _ (.sl (l.map fun x => [dI x]))
   rw [← e]
   refine rep_sl (k := 1) ⟨fun i e he => ?_, fun i j d hd => ?_⟩ (by simpa using h1) h2
   · rw [List.getElem?_map] at he
     cases hq : l[i]? with
     | none => rw [hq] at he; cases he
     | some x => rw [hq] at he; simp at he; subst he; rfl
   · obtain ⟨e, he, hj⟩ := cellAt_some.1 hd
     rw [List.getElem?_map] at he
     cases hq : l[i]? with
     | none => rw [hq] at he; cases he
     | some x =>
       rw [hq] at he
       simp at he
       subst he
       cases j with
       | zero =>
         simp at hj
         subst hj
         obtain ⟨cs, hr, _, hc⟩ := h5 i x hq
         have := hc 0 (I x) (by rw [hr]; rfl)
         exact ⟨I x, hS b _ rfl, this, .v _⟩
       | succ j => simp at hj
theorem rep_of_owns {B : Nat} (h : Owns w B v l) (hf : ∀ b o, B ≤ b → S b o) : Rep noB noM S w v (encInts l) := by
 refine rep_of_ints h.ints fun b o hb => hf b o ?_
 rcases h.2 with ⟨rfl, _⟩ | ⟨g, cap, cur, rfl, hg, _⟩
 · cases hb
 · simp [Value.ownBlock] at hb; omega
theorem reps1 {d : D} {vs : List Value} (h : Reps noB noM S w vs [d]) : ∃ v, vs = [v] ∧ Rep noB noM S w v d := by
 match vs, h with
 | [v], h => exact ⟨v, rfl, h.2 0 v d rfl rfl⟩
 | [], h => exact absurd h.1 (by simp)
 | _ :: _ :: _, h => exact absurd h.1 (by simp)
theorem reps2 {d e : D} {vs : List Value} (h : Reps noB noM S w vs [d, e]) : ∃ v u, vs = [v, u] ∧ Rep noB noM S w v d ∧ Rep noB noM S w u e := by
 match vs, h with
 | [v, u], h => exact ⟨v, u, rfl, h.2 0 v d rfl rfl, h.2 1 u e rfl rfl⟩
 | [], h => exact absurd h.1 (by simp)
 | [_], h => exact absurd h.1 (by simp)
 | _ :: _ :: _ :: _, h => exact absurd h.1 (by simp)
theorem bigV_of_rep {x : BigD} (h : Rep noB noM S w v (encB x)) : BigV w v x := by
 obtain ⟨vs, rfl, h1, h2⟩ := h.inv_agg
 obtain ⟨a, d, rfl, h3, h4⟩ := reps2 ⟨h1, h2⟩
 exact ⟨d, by rw [h3.inv_v], ints_of_rep h4⟩
end
section
variable {f : FuncId} {P : Program}
theorem c2_digs {a b r : List Int} (hb : bodied P f) (h : ∀ w v u, IntsAt w v a → IntsAt w u b → Calls P f #[v, u] w (RetDigs w r)) : ContractN P f [encInts a, encInts b] (encInts r) := by
 refine ⟨hb, fun S w vs hf hvs => ?_⟩
 obtain ⟨v, u, rfl, h1, h2⟩ := reps2 hvs
 refine (h w v u (ints_of_rep h1) (ints_of_rep h2)).mono ?_
 rintro e w' ⟨x, rfl, h3, h4⟩
 exact ⟨_, rfl, h4, rep_of_owns h3 hf⟩
theorem c1_digs {a r : List Int} (hb : bodied P f) (h : ∀ w v, IntsAt w v a → Calls P f #[v] w (RetDigs w r)) : ContractN P f [encInts a] (encInts r) := by
 refine ⟨hb, fun S w vs hf hvs => ?_⟩
 obtain ⟨v, rfl, h1⟩ := reps1 hvs
 refine (h w v (ints_of_rep h1)).mono ?_
 rintro e w' ⟨x, rfl, h3, h4⟩
 exact ⟨_, rfl, h4, rep_of_owns h3 hf⟩
end
attribute [go_sem] opsL_nil opsL_go opsL_guard gSel_tt gSel_ff gSel_tf gSel_ft stepR_some stepR_none callS_some callE_some runL_nil runL_go runL_guard gSelE_tt gSelE_ff gSelE_tf gSelE_ft stepE_some stepE_none opF callD rd constD putT upd_get guardL gOf_bool gOf_undef fieldAddrF fieldF loadF storeF indexAddrF indexF sliceF strSliceF bound buildF fillF buildSliceF elemsF allocF makeSliceF lenF elemsOf appendF minmaxF convertF boxF ldE blkAt spliceE D.cells? D.isCell Res.pure ov TyI.agg binD unD boolD initT thenA inBlockA argD argDs refsD refsL killW datJ datJs endA_ret endA_normal endR_some oneD_one oneD_two oneD_three oneD_four resDs resD fzT Value.oneCell' strip tabT tabM
attribute [go_sem] List.map Nat.reduceEqDiff Nat.reduceBEq List.getElem?_cons_zero List.getElem?_cons_succ List.getElem?_nil Option.getD_some Option.getD_none true_and and_true true_or or_true false_or or_false and_self Nat.add_zero Nat.zero_add List.length_nil List.length_cons forall_const ite_true ite_false Bool.or_self Bool.false_eq_true Option.map_some Option.map_none beq_self_eq_true Nat.reduceAdd Nat.reduceSub Nat.reduceMul reduceCtorEq List.getElem?_toArray Bool.not_true Bool.not_false decide_eq_true_eq decide_true decide_false Nat.reduceLeDiff Nat.reduceLT Bool.or_false Bool.or_true Bool.and_true Bool.and_false Bool.false_and Bool.true_and Bool.true_beq Bool.false_beq beq_true beq_false Bool.not_eq_true List.drop_succ_cons List.take_succ_cons List.drop_zero List.take_zero List.length_map List.getElem?_map List.length_append List.all_cons List.all_nil List.append_nil List.nil_append List.cons_append List.set_cons_zero List.set_cons_succ Int.toNat_natCast Int.toNat_zero Option.isSome_some Option.isSome_none Array.size_empty ByteArray.size_empty Int.reduceToNat Int.reduceAdd Int.reduceSub Int.reduceLT Int.reduceLE Int.reduceEq Int.reduceNe Int.reduceBEq Int.reduceNeg List.forall_mem_cons List.not_mem_nil false_implies List.forall_mem_map implies_true Nat.reduceBNe Int.cast_ofNat_Int Int.reduceMul Int.reduceGE Int.reduceGT wrap_in ty_3 ty_4 ty_22 ty_24 ty_25 ty_28 ty_30 ty_32 ty_33 ty_35 ty_42 ty_44 ty_61 ty_102 ty_107 ty_149 ty_150 ty_152 ty_156 ty_161 ty_162 ty_164 ty_185 ty_192
section
variable {P : Program} {f : FuncId} {fn : Func} {c : Code} {ds : List D} {d : D} {n : Nat}
theorem inC (hf : P.funcs[f]? = some fn) (hb : fn.body = some c) (hn : fn.ntmps = n) (h : @AWP Ifl.on P n c (endA P fn fun d' m' _ => fzT true m' 8 d' = d) ⟨initT ds, noM, 0, 0⟩)
    (h1 : (fn.name == "runtime.NumGoroutine") = false := by kernel_rfl) (h2 : decide (ds.length ≤ fn.ntmps) = true := by kernel_rfl) (h3 : fn.results.toList.all (fitsR fn.ntmps) = true := by kernel_rfl) : Contract P f ds d := by
 subst hn
 exact Contract.ofA (CallA.inline hf hb h1 h2 h3 h)
theorem inN (hf : P.funcs[f]? = some fn) (hb : fn.body = some c) (hn : fn.ntmps = n) (h : ∀ I : Ifl, @AWP I P n c (endA P fn fun d' m' _ => fzT true m' 8 d' = d) ⟨initT ds, noM, 0, 0⟩)
    (h1 : (fn.name == "runtime.NumGoroutine") = false := by kernel_rfl) (h2 : decide (ds.length ≤ fn.ntmps) = true := by kernel_rfl) (h3 : fn.results.toList.all (fitsR fn.ntmps) = true := by kernel_rfl) : ContractN P f ds d := by
 subst hn
 exact ContractN.ofA fun I => CallA.inline hf hb h1 h2 h3 (h I)
theorem inA [Ifl] {m : Mem} {nx : Nat} {K : D → Mem → Nat → Prop} (hf : P.funcs[f]? = some fn) (hb : fn.body = some c) (hn : fn.ntmps = n) (h : AWP P n c (endA P fn K) ⟨initT ds, m, nx, nx⟩)
    (h1 : (fn.name == "runtime.NumGoroutine") = false := by kernel_rfl) (h2 : decide (ds.length ≤ fn.ntmps) = true := by kernel_rfl) (h3 : fn.results.toList.all (fitsR fn.ntmps) = true := by kernel_rfl) : CallA P f ds m nx K := by
 subst hn
 exact CallA.inline hf hb h1 h2 h3 h
end
theorem getE {α : Type} {l : List α} {k : Nat} (h : k < l.length) : ∃ e, l[k]? = some e := ⟨_, List.getElem?_eq_getElem h⟩
theorem wrap1 (i : Nat) (h : (i : Int) < 9223372036854775807 := by omega) : IntKind.i64.wrap ((i : Int) + 1) = (i : Int) + 1 := wrap_in (by omega) (by omega)
theorem wrap2 (i : Nat) (h : (i : Int) < 9223372036854775807 := by omega) : IntKind.i64.wrap ((i : Int) + 1) = (i : Int) + 1 ∧ (0 : Int) ≤ i := ⟨wrap1 i h, by omega⟩
end Go.Proofs.YtpkdhmnlpnijhaaGreat
