/-
  An operation, met in the code, does what opF says; and opF looks at the blocks that it names alone.
-/
import Derived.Test.YtiincpioidnciaaGreatVDataA
import Derived.Lib.SliceRun
import Derived.Laws.StructEq
import Derived.Laws.Pointers
import Derived.Test.YtiincpioidnciaaGreatVLib
import Derived.RangeFuncOwn
import Derived.RangeFuncCalls
namespace Go.Proofs.YtiincpioidnciaaGreat
set_option linter.unusedVariables false
set_option linter.unusedSimpArgs false
set_option linter.unusedSectionVars false
open Go Go.RowKit
section ifl
variable [Ifl]
section
variable {P:Program} {E:Env} {β:Bet} {m:Mem} {nx:Nat} {w:World} {S:Nat→Nat→Prop}
end
end ifl
section ifl
variable [Ifl]
mutual
def toD:D→Option D
 | .v x=>some (.v x)
 | .nil=>some (.sl [])
 | .agg l=>match toDs l with
   | some l=>some (.agg l)
   | none=>none
 | .tup l=>match toDs l with
   | some l=>some (.tup l)
   | none=>none
 | .sl es=>some (.sl es)
 | .cl es=>some (.sl es)
 | .ep es i o=>some (.ep es i o)
 | .clo f l=>match toDs l with
   | some l=>some (.clo f l)
   | none=>none
 | .ls _ _=>none
 | .lp _ _ _ _=>none
 | .junk=>some .junk
def toDs:List D→Option (List D)
 | []=>some []
 | d ::l=>match toD d,toDs l with
   | some d,some l=>some (d ::l)
   | _,_=>none
end
section
variable {β:Bet} {m:Mem} {S:Nat→Nat→Prop} {w:World}
theorem ZaQ{x:Value}(h:x = .slice none 0 0):Rep β m S w x (.sl []):=by subst h;exact .sl0 _ _ (Yb0 _)
theorem Rep.sl_no{x:Value}{es:List (List D)}(h:Rep β m S w x (.sl es)):Rep noB noM S w x (.sl es):=by
 cases h with
 | sl0 a cap hc=>exact .sl0 a cap hc
 | sl b off cap k es val h1 h2 h3 h4 h5=>exact .sl b off cap k es val h1 h2 h3 h4 h5
theorem Rep.ep_no{x:Value}{es:List (List D)}{i o:Nat}(h:Rep β m S w x (.ep es i o)):Rep noB noM S w x (.ep es i o):=by
 cases h with
 | ep b off k i o es val h3 h4 h5=>exact .ep b off k i o es val h3 h4 h5
mutual
theorem Zfa:∀ (d d':D)(x:Value),toD d=some d'→Rep β m S w x d→Rep noB noM S w x d'
 | .v y,d',x,h,hr=>by simp only[toD,Ya1]at h;subst h;rw[hr.inv_v];exact .v _
 | .nil,d',x,h,hr=>by simp only[toD,Ya1]at h;subst h;exact ZaQ hr.inv_nil
 | .agg l,d',x,h,hr=>by
   simp only[toD]at h
   cases hl:toDs l with
   | none=>rw[hl]at h;cases h
   | some l' =>
     rw[hl]at h
     simp only[Ya1]at h
     subst h
     obtain⟨vs,rfl,h1,h2⟩:=hr.inv_agg
     exact(ZaZ l l' vs hl ⟨h1,h2⟩).rep_agg
 | .tup l,d',x,h,hr=>by
   simp only[toD]at h
   cases hl:toDs l with
   | none=>rw[hl]at h;cases h
   | some l' =>
     rw[hl]at h
     simp only[Ya1]at h
     subst h
     obtain⟨vs,rfl,h1,h2⟩:=hr.inv_tup
     exact(ZaZ l l' vs hl ⟨h1,h2⟩).rep_tup
 | .sl es,d',x,h,hr=>by simp only[toD,Ya1]at h;subst h;exact hr.sl_no
 | .cl es,d',x,h,hr=>by simp only[toD,Ya1]at h;subst h;exact hr.inv_cl.choose_spec.2
 | .ep es i o,d',x,h,hr=>by simp only[toD,Ya1]at h;subst h;exact hr.ep_no
 | .clo f l,d',x,h,hr=>by
   simp only[toD]at h
   cases hl:toDs l with
   | none=>rw[hl]at h;cases h
   | some l' =>
     rw[hl]at h
     simp only[Ya1]at h
     subst h
     obtain⟨vs,rfl,h1,h2⟩:=hr.inv_clo
     have:=ZaZ l l' vs hl ⟨h1,h2⟩
     exact .clo f vs l' this.1 this.2
 | .ls _ _,d',x,h,hr=>by simp[toD]at h
 | .lp _ _ _ _,d',x,h,hr=>by simp[toD]at h
 | .junk,d',x,h,hr=>by simp only[toD,Ya1]at h;subst h;exact .junk _
theorem ZaZ:∀ (l l':List D)(vs:List Value),toDs l=some l'→Reps β m S w vs l→Reps noB noM S w vs l'
 | [],l',vs,h,hr=>by
   simp only[toDs,Ya1]at h
   subst h
   obtain rfl:vs=[]:=Ya9 hr.1
   exact Reps.nil
 | d ::l,l',vs,h,hr=>by
   simp only[toDs]at h
   split at h
   ·rename_i d' l'' hd hl
    simp only[Ya1]at h
    subst h
    match vs,hr with
    | [],hr=>exact absurd hr.1 (by simp)
    | v ::vs,hr =>
      exact Reps.cons (Zfa d d' v hd (hr.2 0 v d rfl rfl)) (ZaZ l l'' vs hl ⟨by simpa using hr.1,fun i y e hy he=>hr.2 (i+1) y e (by simpa using hy) (by simpa using he)⟩)
   ·cases h
end
end
mutual
def datJ:D→D
 | .v x=>.v x
 | .nil=>.sl []
 | .agg l=>.agg (Zdj l)
 | .tup l=>.tup (Zdj l)
 | .sl es=>.sl es
 | .cl es=>.sl es
 | .ep es i o=>.ep es i o
 | .clo f l=>.clo f (Zdj l)
 | .ls _ _=>.junk
 | .lp _ _ _ _=>.junk
 | .junk=>.junk
def Zdj:List D→List D
 | []=>[]
 | d ::l=>datJ d ::Zdj l
end
mutual
def Zcb:D→List Nat
 | .ls id _=>[id]
 | .lp id _ _ _=>[id]
 | .agg l=>Zap l
 | .clo _ l=>Zap l
 | .tup l=>Zap l
 | _=>[]
def Zap:List D→List Nat
 | []=>[]
 | d ::l=>Zcb d++Zap l
end
def Zaz:List Nat→Mem→List (Nat×Blk)
 | [],_=>[]
 | id ::l,m=>match m id with
   | some b=>(id,{b with dead:=true}) ::Zaz l (upd m id (some {b with dead:=true}))
   | none=>Zaz l m
mutual
def argD(m:Mem):D→D
 | .v x=>.v x
 | .nil=>.sl []
 | .agg l=>.agg (ZaE m l)
 | .tup l=>.tup (ZaE m l)
 | .sl es=>.sl es
 | .cl es=>.sl es
 | .ep es i o=>.ep es i o
 | .clo f l=>.clo f (ZaE m l)
 | .ls id ver=>match Zas m id ver with
   | some b=>if b.dead=true then .sl (b.es.map (List.map datJ))else .junk
   | none=>.junk
 | .lp id ver i o=>match Zas m id ver with
   | some b=>if b.dead=true then .ep (b.es.map (List.map datJ)) i o else .junk
   | none=>.junk
 | .junk=>.junk
def ZaE(m:Mem):List D→List D
 | []=>[]
 | d ::l=>argD m d ::ZaE m l
end
section
variable {β:Bet} {m:Mem} {S:Nat→Nat→Prop} {w:World}
mutual
theorem ZcN:∀ (d:D)(x:Value),Rep β m S w x d→Rep noB noM S w x (datJ d)
 | .v y,x,h=>by rw[h.inv_v];exact .v _
 | .nil,x,h=>ZaQ h.inv_nil
 | .agg l,x,h=>by
   obtain⟨vs,rfl,h1,h2⟩:=h.inv_agg
   exact(ZaT l vs ⟨h1,h2⟩).rep_agg
 | .tup l,x,h=>by
   obtain⟨vs,rfl,h1,h2⟩:=h.inv_tup
   exact(ZaT l vs ⟨h1,h2⟩).rep_tup
 | .sl es,x,h=>h.sl_no
 | .cl es,x,h=>h.inv_cl.choose_spec.2
 | .ep es i o,x,h=>h.ep_no
 | .clo f l,x,h=>by
   obtain⟨vs,rfl,h1,h2⟩:=h.inv_clo
   have:=ZaT l vs ⟨h1,h2⟩
   exact .clo f vs _ this.1 this.2
 | .ls _ _,x,_=>.junk _
 | .lp _ _ _ _,x,_=>.junk _
 | .junk,x,_=>.junk _
theorem ZaT:∀ (l:List D)(vs:List Value),Reps β m S w vs l→Reps noB noM S w vs (Zdj l)
 | [],vs,h=>by
   obtain rfl:vs=[]:=Ya9 h.1
   exact Reps.nil
 | d ::l,vs,h=>by
   match vs,h with
   | [],h=>exact absurd h.1 (by simp)
   | v ::vs,h=>exact Reps.cons (ZcN d v (h.2 0 v d rfl rfl)) (ZaT l vs ⟨by simpa using h.1,fun i y e hy he=>h.2 (i+1) y e (by simpa using hy) (by simpa using he)⟩)
end
end
theorem ZaU{f:D→D}{es:List (List D)}{i j:Nat}{d:D}(h:cellAt (es.map (List.map f)) i j=some d):∃ d',cellAt es i j=some d'∧d=f d':=by
 obtain⟨e,he,hj⟩:=Zaf.1 h
 rw[Yb8]at he
 cases hq:es[i]? with
 | none=>rw[hq]at he;cases he
 | some e' =>
   rw[hq]at he
   simp only[Yd0,Ya1]at he
   subst he
   rw[Yb8]at hj
   cases hr:e'[j]? with
   | none=>rw[hr]at hj;cases hj
   | some d' =>
     rw[hr]at hj
     simp only[Yd0,Ya1]at hj
     exact⟨d',Zaf.2 ⟨e',hq,hr⟩,hj.symm⟩
section
variable {E:Env} {β:Bet} {m:Mem} {nx:Nat} {w:World}
theorem ZcC(hM:Zag E β m nx w){id:Nat}{b:Blk}{B:Nat}(h1:m id=some b)(hd:b.dead=true)(h2:β id=some B)(o:Nat):safe E β m B o:=by
 refine⟨E.fresh B o (hM.row id b B h1 h2).1,fun id' b' h3 h4=>?_⟩
 have:=hM.inj id id' b b' B h1 h3 h2 h4
 subst this
 rw[h1]at h3;cases h3
 exact .inr hd
theorem Zdy(hM:Zag E β m nx w){id:Nat}{b:Blk}{B:Nat}{cs:Array Value}(h1:m id=some b)(hd:b.dead=true)(h2:β id=some B)(h3:w.heap[B]? =some (.cells cs b.T (0,0)))
 (h4:∀ (i j:Nat)(d:D),cellAt b.es i j=some d→∃ u,cs[i*b.k+j]? =some u∧Rep β m (safe E β m) w u d):ZeO (safe E β m) w B 0 b.k (b.es.map (List.map datJ)):=by
 refine⟨fun i e he=>?_,fun i j d hd'=>?_⟩
 ·rw[Yb8]at he
  cases hq:b.es[i]? with
  | none=>rw[hq]at he;cases he
  | some e' =>
    rw[hq]at he
    simp only[Yd0,Ya1]at he
    rw[← he,Yc0]
    exact hM.wid id b h1 i e' hq
 ·obtain⟨d',g1,rfl⟩:=ZaU hd'
  obtain⟨u,g2,g3⟩:=h4 i j d' g1
  exact⟨u,ZcC hM h1 hd h2 _,by rw[Nat.zero_add,Zb5 h3];exact g2,ZcN d' u g3⟩
mutual
theorem ZeL(hM:Zag E β m nx w):∀ (d:D)(x:Value),Rep β m (safe E β m) w x d→Rep noB noM (safe E β m) w x (argD m d)
 | .v y,x,h=>by rw[h.inv_v];exact .v _
 | .nil,x,h=>ZaQ h.inv_nil
 | .agg l,x,h=>by
   obtain⟨vs,rfl,h1,h2⟩:=h.inv_agg
   exact(Zau hM l vs ⟨h1,h2⟩).rep_agg
 | .tup l,x,h=>by
   obtain⟨vs,rfl,h1,h2⟩:=h.inv_tup
   exact(Zau hM l vs ⟨h1,h2⟩).rep_tup
 | .sl es,x,h=>h.sl_no
 | .cl es,x,h=>h.inv_cl.choose_spec.2
 | .ep es i o,x,h=>h.ep_no
 | .clo f l,x,h=>by
   obtain⟨vs,rfl,h1,h2⟩:=h.inv_clo
   have:=Zau hM l vs ⟨h1,h2⟩
   exact .clo f vs _ this.1 this.2
 | .ls id ver,x,h=>by
   simp only[argD]
   cases hb:Zas m id ver with
   | none=>exact .junk _
   | some b =>
     simp only
     split
     ·rename_i hd
      obtain⟨a,cap,rfl,g1,g2,g3⟩:=Zga hM h hb
      rcases g3 with⟨_,_,_,he⟩|⟨B,cs,q1,rfl,q2,q3,q4⟩
      ·rw[he];exact .sl0 _ _ g2
      ·have:=ZeR (β:=noB) (m:=noM) (cap:=cap) (Zdy hM (Zan hb).1 hd q1 q2 q4) (by simpa using g1) g2
       simpa using this
     ·exact .junk _
 | .lp id ver i o,x,h=>by
   simp only[argD]
   cases hb:Zas m id ver with
   | none=>exact .junk _
   | some b =>
     simp only
     split
     ·rename_i hd
      obtain⟨B,cs,q1,rfl,q2,q3,q4⟩:=Zfo hM h hb
      have:=ZeS (β:=noB) (m:=noM) (Zdy hM (Zan hb).1 hd q1 q2 q4) i o
      rw[Nat.zero_add]at this
      exact this
     ·exact .junk _
 | .junk,x,_=>.junk _
theorem Zau(hM:Zag E β m nx w):∀ (l:List D)(vs:List Value),Reps β m (safe E β m) w vs l→Reps noB noM (safe E β m) w vs (ZaE m l)
 | [],vs,h=>by
   obtain rfl:vs=[]:=Ya9 h.1
   exact Reps.nil
 | d ::l,vs,h=>by
   match vs,h with
   | [],h=>exact absurd h.1 (by simp)
   | v ::vs,h=>exact Reps.cons (ZeL hM d v (h.2 0 v d rfl rfl)) (Zau hM l vs ⟨by simpa using h.1,fun i y e hy he=>h.2 (i+1) y e (by simpa using hy) (by simpa using he)⟩)
end
theorem Zb1:∀ (l:List Nat)(m:Mem),Zag E β m nx w→Zag E β (ov m (Zaz l m)) nx w∧Zah β m w β (ov m (Zaz l m)) w∧Zac (safe E β m) w (safe E β (ov m (Zaz l m))) w
 | [],m,h=>⟨h,Zah.refl _ _ _,Zac.refl _ _⟩
 | id ::l,m,h=>by
   simp only[Zaz]
   cases hb:m id with
   | none=>exact Zb1 l m h
   | some b =>
     obtain⟨h1,h2,h3⟩:=ZcJ h hb
     obtain⟨h4,h5,h6⟩:=Zb1 l _ h1
     exact⟨h4,h2.trans h5,h3.trans h6⟩
end
mutual
theorem Zdn{m m':Mem}:∀ d:D,(∀ id∈Zcb d,m' id=m id)→argD m' d=argD m d
 | .v _,_=>rfl
 | .nil,_=>rfl
 | .agg l,h=>by simp only[argD];rw[ZaD l (by simpa[Zcb]using h)]
 | .tup l,h=>by simp only[argD];rw[ZaD l (by simpa[Zcb]using h)]
 | .sl _,_=>rfl
 | .cl _,_=>rfl
 | .ep _ _ _,_=>rfl
 | .clo f l,h=>by simp only[argD];rw[ZaD l (by simpa[Zcb]using h)]
 | .ls id ver,h=>by simp only[argD];rw[show Zas m' id ver=Zas m id ver by unfold Zas;rw[h id (by simp[Zcb])]]
 | .lp id ver i o,h=>by simp only[argD];rw[show Zas m' id ver=Zas m id ver by unfold Zas;rw[h id (by simp[Zcb])]]
 | .junk,_=>rfl
theorem ZaD{m m':Mem}:∀ l:List D,(∀ id∈Zap l,m' id=m id)→ZaE m' l=ZaE m l
 | [],_=>rfl
 | d ::l,h=>by
   simp only[ZaE]
   rw[Zdn d fun i hi=>h i (by simp[Zap,hi]),ZaD l fun i hi=>h i (by simp[Zap,hi])]
end
def ZbO (P : Program) (f : FuncId) : Prop := ∃ fn c, P.funcs[f]? = some fn ∧ fn.body = some c ∧ (fn.name == "runtime.NumGoroutine") = false
def Zcy(S:Nat→Nat→Prop)(w:World):Prop:=∀ b cs fr o,w.heap[b]? =some (.cells cs 3 fr)→S b o
def CRet(S:Nat→Nat→Prop)(w:World)(d:D)(e:Ending)(w':World):Prop:=∃ v,e = .returned v∧Below w.heap.size w w'∧Rep noB noM S w' v d
def Zat(P:Program)(f:FuncId)(ds:List D)(d:D):Prop:=ZbO P f ∧
 ∀ S w (vs:List Value),(∀ b o,w.heap.size≤b→S b o)→Zcy S w→Reps noB noM S w vs ds→Calls P f vs.toArray w (CRet S w d)
def ZaR(m:Mem):Prop:=Ifl.i=true∧∀ id b,m id=some b→b.T=3→b.dead=true
def Zaj(P:Program)(f:FuncId)(ds:List D)(m:Mem)(nx:Nat)(K:D→Mem→Nat→Prop):Prop:=ZbO P f ∧
 ∀ E β w (vs:List Value),Zag E β m nx w→Reps β m (safe E β m) w vs ds →
  Calls P f vs.toArray w fun e w'=>∃ v d m' nx',e = .returned v∧ZaX E β m nx' w m' v d w'∧K d m' nx'
section
variable {P:Program} {E:Env} {β:Bet} {m:Mem} {nx:Nat} {w:World}
theorem ZbF(hM:Zag E β m nx w):∀ b o,w.heap.size≤b→safe E β m b o:=by
 intro b o hb
 refine⟨E.fresh b o (Yc7 hM.below.size hb),fun id blk h1 h2=>?_⟩
 obtain⟨_,cs,h4,_⟩:=hM.row id blk b h1 h2
 have:=(Ya5.1 h4).1
 omega
theorem Zdw(hM:Zag E β m nx w)(hi:ZaR m):Zcy (safe E β m) w:=by
 intro b cs fr o hb
 refine⟨?_,fun id blk h1 h2=>?_⟩
 ·rcases Nat.lt_or_ge b E.w0.heap.size with h|h
  ·exact E.ints hi.1 b cs fr o (by rw[← hM.below.block b h];exact hb)
  ·exact E.fresh b o h
 ·obtain⟨_,cs',h4,_⟩:=hM.row id blk b h1 h2
  rw[hb]at h4
  simp only[Ya1,Obj.cells.injEq]at h4
  exact .inr (hi.2 id blk h1 h4.2.1.symm)
def Zbq(m:Mem)(ds:List D):Mem:=ov m (Zaz (Zap ds) m)
theorem Zat.after{f:FuncId}{ds:List D}{d:D}(h:Zat P f (ZaE (Zbq m ds) ds) d)(hi:ZaR (Zbq m ds))(hM:Zag E β m nx w){vs:List Value}(hvs:Reps β m (safe E β m) w vs ds) :
 Calls P f vs.toArray w fun e w'=>∃ v,e = .returned v∧ZaX E β m nx w (Zbq m ds) v d w':=by
 obtain⟨k1,k2,k3⟩:=Zb1 (Zap ds) m hM
 refine(h.2 (safe E β (Zbq m ds)) w vs (ZbF k1) (Zdw k1 hi) (Zau k1 ds vs (hvs.mono k2 k3))).mono ?_
 rintro e w' ⟨v,rfl,hb,hr⟩
 obtain⟨h1,h2,h3⟩:=Zcd k1 hb
 exact⟨v,rfl,β,h1,k2.trans h2,k3.trans h3,hr.lift⟩
def Zal(P:Program)(f:FuncId)(ds:List D)(d:D):Prop:=ZbO P f ∧
 ∀ S w (vs:List Value),(∀ b o,w.heap.size≤b→S b o)→Reps noB noM S w vs ds→Calls P f vs.toArray w (CRet S w d)
theorem Zal.all{f:FuncId}{ds:List D}{d:D}(h:Zal P f ds d):Zat P f ds d:=⟨h.1,fun S w vs h1 _ h2=>h.2 S w vs h1 h2⟩
theorem Zal.after{f:FuncId}{ds:List D}{d:D}(h:Zal P f (ZaE (Zbq m ds) ds) d)(hM:Zag E β m nx w){vs:List Value}(hvs:Reps β m (safe E β m) w vs ds) :
 Calls P f vs.toArray w fun e w'=>∃ v,e = .returned v∧ZaX E β m nx w (Zbq m ds) v d w':=by
 obtain⟨k1,k2,k3⟩:=Zb1 (Zap ds) m hM
 refine(h.2 (safe E β (Zbq m ds)) w vs (ZbF k1) (Zau k1 ds vs (hvs.mono k2 k3))).mono ?_
 rintro e w' ⟨v,rfl,hb,hr⟩
 obtain⟨h1,h2,h3⟩:=Zcd k1 hb
 exact⟨v,rfl,β,h1,k2.trans h2,k3.trans h3,hr.lift⟩
end
theorem Zaj.mono{P:Program}{f:FuncId}{ds:List D}{m:Mem}{nx:Nat}{K K':D→Mem→Nat→Prop}(h:Zaj P f ds m nx K)(k:∀ d m' nx',K d m' nx'→K' d m' nx'):Zaj P f ds m nx K':=by
 refine⟨h.1,fun E β w vs hM hvs=>(h.2 E β w vs hM hvs).mono ?_⟩
 rintro e w' ⟨v,d,m',nx',rfl,ha,hK⟩
 exact⟨v,d,m',nx',rfl,ha,k _ _ _ hK⟩
structure St where
 t:Nat→D
 m:Mem
 nx:Nat
 lo:Nat
def putT(t:Nat→D)(dst:Option Tmp)(d:D):Nat→D :=
 match dst with
 | none=>t
 | some k=>upd t k d
structure Base where
 β:Bet
 m:Mem
 w:World
def ZaF(b0:Nat):List Deferred→World→Prop
 | [],_=>True
 | d ::ds,w=>(∃ D,d={target:=.collected D,args:=#[]}∧(b0≤D∧Ifl.r=true)∧w.heap[D]? =some (.deferred (some [])))∧(∀ e∈ds,e≠d)∧ZaF b0 ds w
theorem ZaF.mono{b0:Nat}{w w':World}(h:∀ D:Nat,b0≤D→w.heap[D]? =some (.deferred (some []))→w'.heap[D]? =some (.deferred (some []))):∀ {ds:List Deferred},ZaF b0 ds w→ZaF b0 ds w'
 | [],_=>trivial
 | _ ::_,⟨⟨D,h1,h2,h3⟩,h4,h5⟩=>⟨⟨D,h1,h2,h D h2.1 h3⟩,h4,ZaF.mono h h5⟩
theorem ZaF.nil{b0:Nat}{w:World}(hr:Ifl.r=false):∀ {ds:List Deferred},ZaF b0 ds w→ds=[]
 | [],_=>rfl
 | _ ::_,⟨⟨_,_,h2,_⟩,_,_⟩=>absurd h2.2 (by rw[hr];intro e;cases e)
theorem ZaF.le{b0:Nat}{β m w β' m' w'}{ds:List Deferred}(h:ZaF b0 ds w)(hm:Zah β m w β' m' w'):ZaF b0 ds w':=h.mono fun D _ hD=>(hm.cap D (.inr (.deferred (some []))) ⟨fun _ _ _ e=>(by cases e),hD⟩).2
theorem Zc8(a:Act)(dst:Option Tmp)(v:Value):(a.put dst v).defers=a.defers:=by cases dst<;>rfl
structure RelA (E:Env) (B:Base) (n:Nat) (β:Bet) (s:St) (a:Act) (w:World):Prop where
 mem:Zag E β s.m s.nx w
 tmp:∀ k,k<n→Rep β s.m (safe E β s.m) w (a.eval (.tmp k)) (s.t k)
 width:a.tmps.size=n
 defers:ZaF B.w.heap.size a.defers w
 le:Zah B.β B.m B.w β s.m w
 sle:Zac (safe E B.β B.m) B.w (safe E β s.m) w
 lo:∀ id x,B.m id=some x→id<s.lo
theorem eval_put{a:Act}{d:Option Tmp}{v:Value}{k:Tmp}(hk:k<a.tmps.size):(a.put d v).eval (.tmp k)=if d=some k then v else a.eval (.tmp k):=by
 by_cases h:d=some k
 ·subst h
  rw[if_pos rfl]
  exact Zb3 hk
 ·rw[if_neg h];exact Zcv h
section
variable {P:Program} {E:Env} {B:Base} {n:Nat} {β:Bet} {s:St} {a:Act} {w:World}
theorem RelA.put(h:RelA E B n β s a w){dst:Option Tmp}{m':Mem}{nx':Nat}{v:Value}{d:D}{w':World}(ha:ZaX E β s.m nx' w m' v d w') :
 ∃ β',RelA E B n β' {s with t:=putT s.t dst d,m:=m',nx:=nx'} (a.put dst v) w':=by
 obtain⟨β',h1,h2,h3,h4⟩:=ha
 refine⟨β',⟨h1,fun k hk=>?_,?_,?_,h.le.trans h2,h.sle.trans h3,h.lo⟩⟩
 ·rw[eval_put (by rw[h.width];exact hk)]
  cases dst with
  | none=>rw[if_neg (by simp)];exact(h.tmp k hk).mono h2 h3
  | some j =>
    by_cases e:j=k
    ·subst e;rw[if_pos rfl];simp only[putT,Zaa];exact h4
    ·rw[if_neg (by simpa using e)]
     simp only[putT,Zab _ _ (Ne.symm e)]
     exact(h.tmp k hk).mono h2 h3
 ·cases dst<;>simp[Act.put,h.width]
 ·rw[Zc8];exact h.defers.le h2
end
def StLe(s s':St):Prop:=∀ E B n β a w,RelA E B n β s a w→∃ β',RelA E B n β' s' a w
theorem StLe.refl(s:St):StLe s s:=fun _ _ _ β _ _ h=>⟨β,h⟩
theorem StLe.trans{a b c:St}(h:StLe a b)(k:StLe b c):StLe a c:=fun E B n β x w hr=>let ⟨β1,h1⟩:=h E B n β x w hr;k E B n β1 x w h1
def Zgd(ops:Array Oper)(o:Oper)(t:Nat→D):Option Bool :=
 match o.guard with
 | none=>some true
 | some (j,want)=>match (ops[j]?).bind (·.dst)with
   | none=>none
   | some k=>match t k with
     | .v (.bool b)=>some (b==want)
     | .v (.tuple _)=>some false
     | _=>none
def Zb6(o:Op)(t:Nat→D):Option (FuncId×List D) :=
 match o with
 | .call {callee:=.value f,args,argTypes:=_}=>match rd t f with
   | .clo g caps=>some (g,args.toList.map (rd t)++caps)
   | _=>none
 | _=>none
def fitsO(n:Nat):Operand→Bool
 | .tmp k=>decide (k<n)
 | _=>true
def Zgf(n:Nat)(o:Oper):Bool:=(match o.dst with|some k=>decide (k<n)|none=>true)&&o.op.operands.all (fitsO n)
section
variable {P:Program} {E:Env} {B:Base} {n:Nat} {β:Bet} {s:St} {a:Act} {w:World}
end
end ifl
section ifl
variable [Ifl]
structure Ev where
 d:D
 touch:List Nat
 wr:List (Nat×Blk)
 ints:Bool
def EffC(P:Program)(f:FuncId)(ds:List D)(m:Mem)(nx:Nat)(ev:Ev)(n':Nat):Prop:=ZbO P f∧ev.ints=false∧nx≤n'∧(∀ p∈ev.wr,p.1∈ev.touch∧p.1<n') ∧
 ∀ E β m1 NX w (vs:List Value),n'≤NX→Zag E β m1 NX w→(∀ id∈ev.touch,m1 id=m id)→Reps β m1 (safe E β m1) w vs ds→Calls P f vs.toArray w fun e w'=>∃ v,e = .returned v∧ZaX E β m1 NX w (ov m1 ev.wr) v ev.d w'
def ZfK(P:Program)(f:FuncId)(ds:List D)(m:Mem)(nx:Nat)(K:Ev→Nat→Prop):Prop :=
 (∃ d b,((b=true∧Zat P f (ZaE (Zbq m ds) ds) d)∨Zal P f (ZaE (Zbq m ds) ds) d)∧(Zaz (Zap ds) m).all (fun p=>decide (p.1<nx))=true∧K ⟨d,Zap ds++(Zaz (Zap ds) m).map (·.1),Zaz (Zap ds) m,b⟩ nx) ∨
 ∃ ev n',EffC P f ds m nx ev n'∧K ev n'
end ifl
section ifl
variable [Ifl]
def ZfD(P:Program)(ops:Array Oper)(s:St)(o:Oper)(ev:Ev)(s':St):Prop :=
 ∃ g,Zgd ops o s.t=some g∧s'.t=putT s.t o.dst ev.d∧s'.m=ov s.m ev.wr∧s.nx≤s'.nx∧s'.lo=s.lo∧(∀ p∈ev.wr,p.1∈ev.touch∧p.1<s'.nx) ∧
  ((g=true∧((∃ r,opF P o.op s.t s.m s.nx=some r∧r.ok∧(r.new=[]∨r.new=[s.nx])∧s'.nx=s.nx+r.new.length∧ev=⟨r.d,r.rd++r.new++r.wr.map (·.1),r.wr,false⟩) ∨
    (∃ f ds d b,Zb6 o.op s.t=some (f,ds)∧((b=true∧Zat P f (ZaE (Zbq s.m ds) ds) d)∨Zal P f (ZaE (Zbq s.m ds) ds) d)∧ev=⟨d,Zap ds++(Zaz (Zap ds) s.m).map (·.1),Zaz (Zap ds) s.m,b⟩) ∨
    (∃ f ds,Zb6 o.op s.t=some (f,ds)∧EffC P f ds s.m s.nx ev s'.nx))) ∨
   (g=false∧ev=⟨.v undef,[],[],false⟩))
def ZfG(s:St):Prop:=∀ id,s.nx≤id→s.m id=none
theorem Zfg{m:Mem}{wr:List (Nat×Blk)}{id:Nat}(h:m id=none)(hw:∀ p∈wr,p.1≠id):ov m wr id=none:=by
 induction wr generalizing m with
 | nil=>exact h
 | cons p l ih =>
   refine ih ?_ fun q hq=>hw q (by simp[hq])
   rw[Zab _ _ (Ne.symm (hw p (by simp)))]
   exact h
theorem ZfD.fresh{P:Program}{ops:Array Oper}{s s':St}{o:Oper}{ev:Ev}(h:ZfD P ops s o ev s')(hf:ZfG s):ZfG s':=by
 obtain⟨g,_,_,h3,h4,_,h5,_⟩:=h
 intro id hid
 rw[h3]
 exact Zfg (hf id (by omega)) fun p hp e=>by have:=(h5 p hp).2;omega
section
variable {P:Program} {E:Env} {β:Bet} {w:World}
end
def Zbn(ops:Array Oper)(i:Nat):List Nat :=
 match ops[i]? with
 | some o=>ZeT ops o i []
 | none=>[]
def Zf9(a b:List Nat):Bool:=a.any b.contains
def raceB(ops:Array Oper)(tr:List (List Nat×List Nat)):Bool :=
 (List.range ops.size).all fun j=>(List.range j).all fun i=>match tr[i]?,tr[j]? with
   | some x,some y=>(!Zf9 x.2 y.1 && !Zf9 x.1 y.2)||(Zbn ops j).contains i
   | _,_=>true
structure Zgt (ops:Array Oper):Prop where
 noSel:∀ (i:Nat)(o:Oper) cs b,ops[i]? =some o→o.op ≠ .select cs b
 back:∀ (i:Nat)(o:Oper),ops[i]? =some o→∀ e∈o.after,Region.binds .any e=true→e.on<i
 once:∀ (i j:Nat)(o p:Oper) t,ops[i]? =some o→ops[j]? =some p→o.dst=some t→p.dst=some t→i=j
 reads:∀ (i j:Nat)(o p:Oper) t,ops[i]? =some o→ops[j]? =some p→p.dst=some t→t∈o.looksAt ops→(j<i∧j∈Zbn ops i)∨(i<j∧i∈Zbn ops j)∨i=j
def mixM(m:Mem):List Ev→List Bool→Mem
 | ev ::evs,b ::bs=>mixM (if b=true then ov m ev.wr else m) evs bs
 | _,_=>m
def ids(l:List (Nat×Blk)):List Nat:=l.map (·.1)
end ifl
section ifl
variable [Ifl]
def Zgc(evs:List Ev):List Nat:=evs.flatMap fun e=>e.wr.filterMap fun p=>if p.2.T==3 then some p.1 else none
def Zew(ops:Array Oper)(evs:List Ev):Bool :=
 (List.range evs.length).all fun i=>match evs[i]? with
   | none=>true
   | some ev=> !ev.ints||(List.range evs.length).all fun j=>match evs[j]? with
     | none=>true
     | some e=>j==i||(e.wr.all fun p=> !(Zgc evs).contains p.1)||(decide (j<i)&&(Zbn ops i).contains j)||(decide (i<j)&&(Zbn ops j).contains i)
def ZdN(ops:Array Oper)(m:Mem)(tr:List Ev):Prop:=tr.any (·.ints)=true→ZaR m∧((∀ ev∈tr,∀ p∈ev.wr,p.2.T=3→p.2.dead=true) ∨
 (Zew ops tr=true∧∀ (i:Nat)(ev:Ev),tr[i]? =some ev→ev.ints=true→ZaR (ov (mixM m tr ((List.range tr.length).map fun j=>decide (j<i))) ev.wr)))
structure Text (P:Program) (n:Nat) (ops:Array Oper) (evs:List Ev) (st:Nat→St):Prop where
 ok:Zgt ops
 fits:ops.all (Zgf n)=true
 len:evs.length=ops.size
 step:∀ (i:Nat)(o:Oper)(ev:Ev),ops[i]? =some o→evs[i]? =some ev→ZfD P ops (st i) o ev (st (i+1))
 fresh:ZfG (st 0)
 race:raceB ops (evs.map fun e=>(e.touch,ids e.wr))=true
 ints:ZdN ops (st 0).m evs
section
variable {P:Program} {n:Nat} {ops:Array Oper} {evs:List Ev} {st:Nat→St}
theorem Text.get(h:Text P n ops evs st){i:Nat}(hi:i<ops.size):∃ o ev,ops[i]? =some o∧evs[i]? =some ev :=
 ⟨ops[i],evs[i]'(by rw[h.len];exact hi),Yb5 hi,Ya0 (by rw[h.len];exact hi)⟩
theorem Text.nx(h:Text P n ops evs st):∀ k i,i+k≤ops.size→(st i).nx≤(st (i+k)).nx
 | 0,i,_=>Ya4 _
 | k+1,i,hi=>by
   obtain⟨o,ev,h1,h2⟩:=h.get (show i+k<ops.size by omega)
   obtain⟨g,_,_,_,h4,_⟩:=h.step (i+k) o ev h1 h2
   exact Yc7 (h.nx k i (by omega)) h4
theorem Text.lo(h:Text P n ops evs st):∀ i,i≤ops.size→(st i).lo=(st 0).lo
 | 0,_=>rfl
 | i+1,hi=>by
   obtain⟨o,ev,h1,h2⟩:=h.get (show i<ops.size by omega)
   obtain⟨g,_,_,_,_,h5,_⟩:=h.step i o ev h1 h2
   rw[h5];exact h.lo i (by omega)
structure DrawInv (P:Program) (E:Env) (B:Base) (n:Nat) (ops:Array Oper) (evs:List Ev) (st:Nat→St) (β:Bet) (listed:Array Bool) (a:Act) (w:World):Prop where
 size:listed.size=ops.size
 closed:∀ (i:Nat)(o:Oper),ops[i]? =some o→listed[i]? =some true→∀ e∈o.after,Region.binds .any e=true→listed[e.on]? =some true
 mem:Zag E β (mixM (st 0).m evs listed.toList) (st ops.size).nx w
 le:Zah B.β B.m B.w β (mixM (st 0).m evs listed.toList) w
 sle:Zac (safe E B.β B.m) B.w (safe E β (mixM (st 0).m evs listed.toList)) w
 vals:∀ (i:Nat)(o:Oper)(ev:Ev) t,ops[i]? =some o→listed[i]? =some true→o.dst=some t→evs[i]? =some ev→Rep β (mixM (st 0).m evs listed.toList) (safe E β (mixM (st 0).m evs listed.toList)) w (a.eval (.tmp t)) ev.d
 rest:∀ t,t<n→(∀ (i:Nat)(o:Oper),ops[i]? =some o→listed[i]? =some true→o.dst≠some t)→Rep β (mixM (st 0).m evs listed.toList) (safe E β (mixM (st 0).m evs listed.toList)) w (a.eval (.tmp t)) ((st 0).t t)
 width:a.tmps.size=n
 defers:ZaF B.w.heap.size a.defers w
 lo:∀ id x,B.m id=some x→id<(st 0).lo
end
end ifl
section ifl
variable [Ifl]
def AWP(P:Program)(n:Nat)(c:Code)(Q:Exit→St→Prop)(s:St):Prop :=
 ∀ E B β a w,RelA E B n β s a w→c.wp P (fun e a' w'=>∃ s' β',RelA E B n β' s' a' w'∧Q e s') a w
def thenA(K:St→Prop)(Q:Exit→St→Prop):Exit→St→Prop
 | .normal,s=>K s
 | e,s=>Q e s
def Zey(id:Nat)(Q:Exit→St→Prop):Exit→St→Prop
 | .exit id',s=>if id'=id then Q .normal s else Q (.exit id') s
 | e,s=>Q e s
section
variable {P:Program} {n:Nat} {Q:Exit→St→Prop} {s:St}
theorem aLe{c:Code}{s':St}(h:StLe s s')(k:AWP P n c Q s'):AWP P n c Q s:=by
 intro E B β a w hr
 obtain⟨β',hr'⟩:=h E B n β a w hr
 exact k E B β' a w hr'
theorem Zev{p:Nat→Prop}(h:∃ n,p n):∃ n,p n∧∀ k,k<n→¬ p k:=by
 obtain⟨n,hn⟩:=h
 induction n using Nat.strongRecOn with
 | ind n ih =>
   by_cases hk:∃ k,k<n∧p k
   ·obtain⟨k,h1,h2⟩:=hk;exact ih k h1 h2
   ·exact⟨n,hn,fun k h1 h2=>hk ⟨k,h1,h2⟩⟩
open Classical in
noncomputable def Zgb (p:Nat→Prop):Nat:=if h:∃ n,p n then Classical.choose (Zev h)else 0
end
def Zb2(ds:List D):Nat→D:=fun k=>(ds[k]?).getD (.v undef)
def resD(P:Program)(s:St):ResultVar→Option D
 | .tmp k=>some (s.t k)
 | .cell k T=>match tyOf P T with
   | some ty=>(Zdg ty (s.t k) s.m).map (·.d)
   | none=>none
def Zbd(P:Program)(s:St):List ResultVar→Option (List D)
 | []=>some []
 | r ::l=>match resD P s r,Zbd P s l with
   | some d,some ds=>some (d ::ds)
   | _,_=>none
def oneD:List D→D
 | [d]=>d
 | ds=>.tup ds
def endA(P:Program)(fn:Func)(K:D→Mem→Nat→Prop):Exit→St→Prop
 | .normal,s=>∃ ds,Zbd P s fn.results.toList=some ds∧K (oneD ds) s.m s.nx
 | .ret,s=>∃ ds,Zbd P s fn.results.toList=some ds∧K (oneD ds) s.m s.nx
 | _,_=>False
def Zbt(n:Nat):ResultVar→Bool
 | .tmp k=>decide (k<n)
 | .cell k _=>decide (k<n)
section
variable {P:Program} {E:Env} {B:Base} {n:Nat} {β:Bet} {s:St} {a:Act} {w:World}
def resS(tmps:Array Value):ResultVar→Sem Value
 | .tmp t=>pure (tmps.getD t undef)
 | .cell k T=>do loadVar T (← asAddr (tmps.getD k undef))
theorem Zc7(fn:Func)(tmps:Array Value):results fn tmps=(do let vs←fn.results.mapM (resS tmps);pure (if h:vs.size=1 then vs[0]else .tuple vs)):=by
 unfold results
 congr 1
theorem Zff(hr:RelA E B n β s a w){r:ResultVar}{d:D}(hf:Zbt n r=true)(h:resD P s r=some d) :
 ∃ v,(resS a.tmps r).run P w = .ok v w∧Rep β s.m (safe E β s.m) w v d:=by
 cases r with
 | tmp k =>
   simp only[resD,Ya1]at h
   subst h
   exact⟨_,rfl,hr.tmp k (by simpa[Zbt]using hf)⟩
 | cell k T =>
   simp only[resD]at h
   split at h
   ·rename_i ty hty
    cases hl:Zdg ty (s.t k) s.m with
    | none=>rw[hl]at h;cases h
    | some r =>
      rw[hl]at h
      simp only[Yd0,Ya1]at h
      subst h
      have hk:=hr.tmp k (by simpa[Zbt]using hf)
      -- the load leaves the world
      have key:∃ v,(Instr.loadAt T (a.eval (.tmp k))).run P w = .ok v w∧Rep β s.m (safe E β s.m) w v r.d:=by
       unfold Zdg at hl
       split at hl
       ·rename_i es i off hx
        rw[hx]at hk
        cases hq:ldE es i off ty with
        | none=>rw[hq]at hl;cases hl
        | some q =>
          rw[hq]at hl;simp only[Yd0,Ya1]at hl;subst hl
          obtain⟨b,base,k',hv,g1,g2⟩:=hk.inv_ep
          obtain⟨u,hr',hu⟩:=ZeY (P:=P) hty g1 (fun i j d hd=>let ⟨u,_,h4,h5⟩:=g2 i j d hd;⟨u,h4,h5.lift⟩) hq
          exact⟨u,by rw[hv];simpa[Instr.loadAt,Instr.sureAddr]using hr',hu⟩
       ·rename_i id ver i off hx
        rw[hx]at hk
        split at hl
        ·rename_i b hb
         cases hq:ldE b.es i off ty with
         | none=>rw[hq]at hl;cases hl
         | some q =>
           rw[hq]at hl;simp only[Yd0,Ya1]at hl;subst hl
           obtain⟨B',cs,g1,hv,g2,g3,g4⟩:=Zfo hr.mem hk hb
           obtain⟨u,hr',hu⟩:=ZeY (P:=P) (b:=B') (base:=0) hty (hr.mem.wid id b (Zan hb).1) (fun i j d hd=>by
            obtain⟨u,h4,h5⟩:=g4 i j d hd
            exact⟨u,by rw[Nat.zero_add,Zb5 g2];exact h4,h5⟩) hq
           rw[Nat.zero_add]at hr'
           exact⟨u,by rw[hv];simpa[Instr.loadAt,Instr.sureAddr]using hr',hu⟩
        ·cases hl
       ·cases hl
      obtain⟨v,h1,h2⟩:=key
      refine⟨v,?_,h2⟩
      have hp:∃ ad,a.eval (.tmp k) = .pointer (some ad):=by
       unfold Zdg at hl
       split at hl
       ·rename_i es i off hx
        rw[hx]at hk
        obtain⟨b,base,k',hv,_⟩:=hk.inv_ep
        exact⟨_,hv⟩
       ·rename_i id ver i off hx
        rw[hx]at hk
        obtain⟨b,p,blk,hv,_⟩:=hk.inv_lp
        exact⟨_,hv⟩
       ·cases hl
      obtain⟨ad,hp⟩:=hp
      have hp':a.tmps.getD k undef = .pointer (some ad):=hp
      rw[hp]at h1
      simp only[resS,hp',asAddr,Sem.run_bind,Sem.run_pure,Result.andThen_ok]
      simpa[Instr.loadAt,Instr.sureAddr]using h1
   ·cases h
theorem ZcD(hr:RelA E B n β s a w):∀ (l:List ResultVar)(ds:List D),l.all (Zbt n)=true→Zbd P s l=some ds →
 ∃ vs,(l.mapM (resS a.tmps)).run P w = .ok vs w∧Reps β s.m (safe E β s.m) w vs ds
 | [],ds,_,h=>by simp only[Zbd,Ya1]at h;subst h;exact⟨[],by simp,Reps.nil⟩
 | r ::l,ds,hf,h=>by
   simp only[Zbd]at h
   rw[List.all_cons,Ya2]at hf
   split at h
   ·rename_i d ds' hd hds
    simp only[Ya1]at h
    subst h
    obtain⟨v,h1,h2⟩:=Zff (P:=P) hr hf.1 hd
    obtain⟨vs,h3,h4⟩:=ZcD hr l ds' hf.2 hds
    refine⟨v ::vs,?_,Reps.cons h2 h4⟩
    simp only[List.mapM_cons,Sem.run_bind,h1,Result.andThen_ok,h3,Sem.run_pure]
   ·cases h
theorem ZbH(hr:RelA E B n β s a w){fn:Func}{ds:List D}(hf:fn.results.toList.all (Zbt n)=true)(h:Zbd P s fn.results.toList=some ds) :
 ∃ v,(results fn a.tmps).run P w = .ok v w∧Rep β s.m (safe E β s.m) w v (oneD ds):=by
 obtain⟨vs,h1,h2⟩:=ZcD (P:=P) hr _ ds hf h
 have h3:(results fn a.tmps).run P w = .ok (if h:vs.toArray.size=1 then vs.toArray[0]else .tuple vs.toArray) w:=by
  rw[Zc7,Array.mapM_eq_mapM_toList]
  simp[h1]
 refine⟨_,h3,?_⟩
 match ds,h2 with
 | [],h2 =>
   obtain rfl:vs=[]:=Ya9 h2.1
   exact h2.rep_tup
 | [d],h2 =>
   match vs,h2 with
   | [v],h2=>exact h2.2 0 v d rfl rfl
 | d ::e ::ds,h2 =>
   have:vs.length=ds.length+2:=h2.1
   rw[dif_neg (by simp;omega)]
   exact h2.rep_tup
def Zeh:List Deferred→World→World
 | [],w=>w
 | d ::ds,w=>match d.target with
   | .collected D=>Zeh ds (w.putObj D (.deferred none))
   | _=>Zeh ds w
theorem ZaF.put{b0 D:Nat}{w:World}:∀ {ds:List Deferred},ZaF b0 ds w→(∀ e∈ds,e≠{target:=.collected D,args:=#[]})→ZaF b0 ds (w.putObj D (.deferred none))
 | [],_,_=>trivial
 | d ::ds,⟨⟨D',h1,h2,h3⟩,h4,h5⟩,h=>by
   refine⟨⟨D',h1,h2,?_⟩,h4,ZaF.put h5 fun e he=>h e (Yb6 _ he)⟩
   rw[World.putObj_heap_other (fun e=>h d Yb7 (by rw[h1,e]))]
   exact h3
theorem RelA.shut1(hB:E.w0.heap.size≤B.w.heap.size)(h:RelA E B n β s a w){D:Nat}(hD:B.w.heap.size≤D)(hd:w.heap[D]? =some (.deferred (some []))){ds:List Deferred}(hds:ZaF B.w.heap.size ds (w.putObj D (.deferred none))) :
 RelA E B n β s {a with defers:=ds} (w.putObj D (.deferred none)):=by
 have hcells:∀ (b:Nat)(o:Obj),w.heap[b]? =some o→o.isCells=true→(w.putObj D (.deferred none)).heap[b]? =some o:=fun b o hb ho=>by
  rw[World.putObj_heap_other (fun e=>by subst e;rw[hd]at hb;cases hb;cases ho)]
  exact hb
 have hc:∀ b k,ZaA w b k→ZaA (w.putObj D (.deferred none)) b k:=fun b k ⟨cs,T,fr,h1,h2⟩=>⟨cs,T,fr,hcells b _ h1 rfl,h2⟩
 have hcell:∀ b o u,w.cell? ⟨b,o,none⟩=some u→(w.putObj D (.deferred none)).cell? ⟨b,o,none⟩=some u:=fun b o u hu=>by
  by_cases e:b=D
  ·subst e
   simp[World.cell?,hd]at hu
  ·rw[World.cell?_of_block (w:=w) (a:=⟨b,o,none⟩) (World.putObj_heap_other e)]
   exact hu
 have hs:Zac (safe E β s.m) w (safe E β s.m) (w.putObj D (.deferred none)):=fun b o u h1 h2=>⟨h1,hcell b o u h2⟩
 have hm0:ZcW β s.m w β s.m (w.putObj D (.deferred none)):=⟨fun _ x hx=>⟨x,hx,Ya4 _,fun _=>⟨rfl,rfl,rfl⟩⟩,hc⟩
 have hM:=h.mem
 refine⟨⟨?_,hM.lt,hM.fz,hM.wid,hM.non,fun id blk b h1 h2=>?_,hM.inj⟩,fun k hk=>(h.tmp k hk).mono0 hm0 hs,h.width,hds,⟨h.le.blk,fun b k hk=>?_⟩,h.sle.trans hs,h.lo⟩
 ·exact hM.below.trans ((Below.refl E.w0.heap.size w).grown (grownBy_putObj' w D _) (by have:=(Ya5.1 hd).1;have:=hM.below.size;omega) (fun k e=>by cases e;omega))
 ·obtain⟨h3,cs,h4,h5,h6⟩:=hM.row id blk b h1 h2
  refine⟨h3,cs,hcells b _ h4 rfl,h5,fun i j d hd'=>?_⟩
  obtain⟨u,h7,h8⟩:=h6 i j d hd'
  exact⟨u,h7,h8.mono0 hm0 hs⟩
 ·have hlt:b<B.w.heap.size:=by
   cases k with
   | inl k=>obtain⟨cs,T,fr,h1,_⟩:=hk;exact(Ya5.1 h1).1
   | inr o=>exact(Ya5.1 hk.2).1
  have hb:(w.putObj D (.deferred none)).heap[b]? =w.heap[b]?:=World.putObj_heap_other (by omega)
  have:=h.le.cap b k hk
  cases k with
  | inl k=>exact hc b k this
  | inr o=>exact⟨this.1,by rw[hb];exact this.2⟩
theorem RelA.shut(hB:E.w0.heap.size≤B.w.heap.size):∀ (ds:List Deferred) {a:Act} {w:World},RelA E B n β s {a with defers:=ds} w→RelA E B n β s {a with defers:=[]} (Zeh ds w)
 | [],a,w,h=>h
 | d ::ds,a,w,h=>by
   obtain⟨⟨D,rfl,h1,h2⟩,h3,h4⟩:=h.defers
   exact RelA.shut hB ds (a:=a) (RelA.shut1 hB h h1.1 h2 (ds:=ds) (h4.put fun e he=>h3 e he))
theorem Zbb{P:Program}{fn:Func}{tmps:Array Value}{R:Ending→World→Prop}{b0:Nat}:∀ (ds:List Deferred)(w:World),ZaF b0 ds w→LeavesInM Fence.wide 0 P fn tmps R [] .returning (Zeh ds w)→LeavesInM Fence.wide 0 P fn tmps R ds .returning w
 | [],_,_,h=>h
 | d ::ds,w,⟨⟨D,h1,h2,h3⟩,h4,h5⟩,h=>by
   subst h1
   refine⟨by simp,.inl ⟨D,_,rfl,run_takeDeferred h3,?_⟩⟩
   exact Zbb ds _ (h5.put fun e he=>h4 e he) h
theorem Zaj.inline {f : FuncId} {fn : Func} {c : Code} {ds : List D} {m : Mem} {nx : Nat} {K : D → Mem → Nat → Prop} (hf : P.funcs[f]? = some fn) (hb : fn.body = some c) (hnm : (fn.name == "runtime.NumGoroutine") = false)
 (hn:decide (ds.length≤fn.ntmps)=true) (Zr:fn.results.toList.all (Zbt fn.ntmps)=true) (h:AWP P fn.ntmps c (endA P fn K) ⟨Zb2 ds,m,nx,nx⟩):Zaj P f ds m nx K:=by
 refine⟨⟨fn,c,hf,hb,hnm⟩,fun E β w vs hM hvs=>?_⟩
 have hn:=of_decide_eq_true hn
 have hvl:vs.length=ds.length:=hvs.1
 refine(callsIn_wide (n:=0)).1 (callsIn_of_wp_marks hf hb trivial (wpIn_wide.2 (wp_mono (h E ⟨β,m,w⟩ β _ w ⟨hM,fun k hk=>?_,?_,trivial,Zah.refl _ _ _,Zac.refl _ _,hM.lt⟩) ?_)))
 ·simp only[Act.eval,Zb2]
  by_cases hkv:k<vs.length
  ·have e:(vs.toArray++Array.replicate (fn.ntmps-vs.toArray.size) undef).getD k undef=vs[k]:=by
    rw[Array.getD_eq_getD_getElem?,Array.getElem?_append_left (by simpa using hkv)]
    simp[hkv]
   rw[e,Ya0 (by omega),Option.getD_some]
   exact hvs.2 k _ _ (Ya0 hkv) (Ya0 (by omega))
  ·have e:(vs.toArray++Array.replicate (fn.ntmps-vs.toArray.size) undef).getD k undef=undef:=by
    rw[Array.getD_eq_getD_getElem?,Array.getElem?_append_right (by simp;omega)]
    rw[Array.getElem?_replicate]
    split<;>rfl
   rw[e,List.getElem?_eq_none (by omega),Option.getD_none]
   exact .v _
 ·simp;omega
 ·rintro e a' w' ⟨s',β',h1,h2⟩
  have done:∀ (hh:∃ ds,Zbd P s' fn.results.toList=some ds∧K (oneD ds) s'.m s'.nx),LeavesInM Fence.wide 0 P fn a'.tmps (fun e w''=>∃ v d m' nx',e = .returned v∧ZaX E β m nx' w m' v d w''∧K d m' nx') a'.defers .returning w':=by
   rintro⟨ds',g1,g2⟩
   refine Zbb a'.defers w' h1.defers ?_
   have h1:=RelA.shut (n:=fn.ntmps) (s:=s') hM.below.size a'.defers (a:=a') h1
   obtain⟨v,g3,g4⟩:=ZbH (P:=P) h1 Zr g1
   exact⟨v,g3,v,_,_,_,rfl,⟨β',h1.mem,h1.le,h1.sle,g4⟩,g2⟩
  cases e with
  | normal=>exact done h2
  | ret=>exact done h2
  | _=>exact h2.elim
end
end ifl
section ifl
variable [Ifl]
def fzT(all:Bool)(m:Mem):Nat→D→D
 | 0,_=>.junk
 | _+1,.v x=>.v x
 | _+1,.nil=>.sl []
 | n+1,.agg l=>.agg (l.map (fzT all m n))
 | n+1,.tup l=>.tup (l.map (fzT all m n))
 | _+1,.sl es=>.sl es
 | _+1,.cl es=>.sl es
 | _+1,.ep es i o=>.ep es i o
 | n+1,.ls id ver=>match Zas m id ver with
   | some b=>if (all||b.dead)=true then .sl (b.es.map (List.map (fzT all m n)))else .junk
   | none=>.junk
 | n+1,.lp id ver i o=>match Zas m id ver with
   | some b=>if (all||b.dead)=true then .ep (b.es.map (List.map (fzT all m n))) i o else .junk
   | none=>.junk
 | n+1,.clo f l=>.clo f (l.map (fzT all m n))
 | _+1,.junk=>.junk
section
variable {E:Env} {β:Bet} {m:Mem} {nx:Nat} {w:World}
theorem Ze1{all:Bool}{SS:Nat→Nat→Prop}(hM:Zag E β m nx w)(hS:∀ b o,safe E β m b o→SS b o)(hB:∀ id b B o,m id=some b→(all||b.dead)=true→β id=some B→SS B o) :
 ∀ (n:Nat)(d:D)(x:Value),Rep β m (safe E β m) w x d→Rep noB noM SS w x (fzT all m n d):=by
 intro n
 induction n with
 | zero=>intro d x _;exact .junk _
 | succ n ih =>
   have hSL:Zac (safe E β m) w SS w:=fun b o u h1 h2=>⟨hS b o h1,h2⟩
   have hl:∀ (vs:List Value)(l:List D),vs.length=l.length→(∀ (i:Nat)(y:Value)(d:D),vs[i]? =some y→l[i]? =some d→Rep β m (safe E β m) w y d)→Reps noB noM SS w vs (l.map (fzT all m n)):=by
    intro vs l h1 h2
    refine⟨by simp[h1],fun i y d hy hd=>?_⟩
    rw[Yb8]at hd
    cases hq:l[i]? with
    | none=>rw[hq]at hd;cases hd
    | some e =>
      rw[hq]at hd
      simp only[Yd0,Ya1]at hd
      subst hd
      exact ih e y (h2 i y e hy hq)
   intro d x h
   cases d with
   | v y=>rw[h.inv_v];exact .v _
   | nil=>exact ZaQ h.inv_nil
   | agg l =>
     obtain⟨vs,rfl,h1,h2⟩:=h.inv_agg
     exact(hl vs l h1 h2).rep_agg
   | tup l =>
     obtain⟨vs,rfl,h1,h2⟩:=h.inv_tup
     exact(hl vs l h1 h2).rep_tup
   | sl es=>exact h.sl_no.mono (Zah.refl _ _ _) hSL
   | cl es=>exact h.inv_cl.choose_spec.2.mono (Zah.refl _ _ _) hSL
   | ep es i o=>exact h.ep_no.mono (Zah.refl _ _ _) hSL
   | ls id ver =>
     simp only[fzT]
     cases hb:Zas m id ver with
     | none=>exact .junk _
     | some b =>
       simp only
       split
       ·rename_i hd
        obtain⟨a,cap,rfl,g1,g2,g3⟩:=Zga hM h hb
        rcases g3 with⟨_,_,_,he⟩|⟨B,cs,q1,rfl,q2,q3,q4⟩
        ·rw[he];exact .sl0 _ _ g2
        ·have:=ZeR (β:=noB) (m:=noM) (S:=SS) (w:=w) (b:=B) (off:=0) (k:=b.k) (cap:=cap) (es:=b.es.map (List.map (fzT all m n))) ⟨fun i e he=>?_,fun i j d hd'=>?_⟩ (by simpa using g1) g2
         ·simpa using this
         ·rw[Yb8]at he
          cases hq:b.es[i]? with
          | none=>rw[hq]at he;cases he
          | some e' =>
            rw[hq]at he
            simp only[Yd0,Ya1]at he
            subst he
            rw[Yc0]
            exact hM.wid id b (Zan hb).1 i e' hq
         ·obtain⟨d',h1,rfl⟩:=ZaU hd'
          obtain⟨u,h2,h3⟩:=q4 i j d' h1
          exact⟨u,hB id b B _ (Zan hb).1 hd q1,by rw[Nat.zero_add,Zb5 q2];exact h2,ih d' u h3⟩
       ·exact .junk _
   | lp id ver i o =>
     simp only[fzT]
     cases hb:Zas m id ver with
     | none=>exact .junk _
     | some b =>
       simp only
       split
       ·rename_i hd
        obtain⟨B,cs,q1,rfl,q2,q3,q4⟩:=Zfo hM h hb
        have:=ZeS (β:=noB) (m:=noM) (S:=SS) (w:=w) (b:=B) (off:=0) (k:=b.k) (es:=b.es.map (List.map (fzT all m n))) ⟨fun i e he=>?_,fun i j d hd'=>?_⟩ i o
        ·rw[Nat.zero_add]at this;exact this
        ·rw[Yb8]at he
         cases hq:b.es[i]? with
         | none=>rw[hq]at he;cases he
         | some e' =>
           rw[hq]at he
           simp only[Yd0,Ya1]at he
           subst he
           rw[Yc0]
           exact hM.wid id b (Zan hb).1 i e' hq
        ·obtain⟨d',h1,rfl⟩:=ZaU hd'
         obtain⟨u,h2,h3⟩:=q4 i j d' h1
         exact⟨u,hB id b B _ (Zan hb).1 hd q1,by rw[Nat.zero_add,Zb5 q2];exact h2,ih d' u h3⟩
       ·exact .junk _
   | clo f l =>
     obtain⟨vs,rfl,h1,h2⟩:=h.inv_clo
     have:=hl vs l h1 h2
     exact .clo f vs _ this.1 this.2
   | junk=>exact .junk _
theorem Zfu(hM:Zag E β m nx w)(n:Nat){d:D}{x:Value}(h:Rep β m (safe E β m) w x d):Rep β m (safe E β m) w x (fzT false m n d) :=
 (Ze1 (all:=false) hM (fun _ _ h=>h) (fun id b B o h1 h2 h3=>ZcC hM h1 (by simpa using h2) h3 o) n d x h).lift
end
theorem Zaj.toC{P:Program}{f:FuncId}{ds:List D}{d:D}(h:Zaj P f ds noM 0 fun d' m' _=>fzT true m' 8 d'=d)(S:Nat→Nat→Prop)(w:World)(vs:List Value)(hf:∀ b o,w.heap.size≤b→S b o)(hi:Ifl.i=true→Zcy S w)(hvs:Reps noB noM S w vs ds):Calls P f vs.toArray w (CRet S w d):=by
 have hE:Zag ⟨S,w,hf,hi⟩ noB noM 0 w:=⟨Below.refl _ _,(fun _ _ h=>by cases h),(fun _ _ h=>by cases h),(fun _ _ h=>by cases h),(fun _ _ h=>by cases h),(fun _ _ _ h=>by cases h),(fun _ _ _ _ _ h=>by cases h)⟩
 have hs:Zac S w (safe ⟨S,w,hf,hi⟩ noB noM) w:=fun b o u h1 h2=>⟨⟨h1,fun _ _ h=>by cases h⟩,h2⟩
 refine(h.2 ⟨S,w,hf,hi⟩ noB w vs hE (hvs.mono (Zah.refl _ _ _) hs)).mono ?_
 rintro e w' ⟨v,d',m',nx',rfl,⟨β',h1,h2,h3,h4⟩,rfl⟩
 refine⟨v,rfl,h1.below,?_⟩
 exact Ze1 (all:=true) h1 (fun b o h=>h.1) (fun id b B o g1 _ g2=>hf B o (h1.row id b B g1 g2).1) 8 d' v h4
theorem Zat.ofA{P:Program}{f:FuncId}{ds:List D}{d:D}(h:@Zaj Ifl.on P f ds noM 0 fun d' m' _=>fzT true m' 8 d'=d):Zat P f ds d :=
 ⟨h.1,fun S w vs hf hi hvs=>@Zaj.toC Ifl.on _ _ _ _ h S w vs hf (fun _=>hi) hvs⟩
theorem Zal.ofA{P:Program}{f:FuncId}{ds:List D}{d:D}(h:∀ I:Ifl,@Zaj I P f ds noM 0 fun d' m' _=>fzT true m' 8 d'=d):Zal P f ds d :=
 ⟨(h Ifl.off).1,fun S w vs hf hvs=>@Zaj.toC Ifl.off _ _ _ _ (h Ifl.off) S w vs hf (fun e=>by cases e) hvs⟩
mutual
def ZaL:D→Bool
 | .v _=>true
 | .agg l=>Zbk l
 | .tup l=>Zbk l
 | .junk=>true
 | _=>false
def Zbk:List D→Bool
 | []=>true
 | d ::l=>ZaL d&&Zbk l
end
section
variable {β:Bet} {m:Mem} {S S':Nat→Nat→Prop} {w:World}
mutual
theorem Zc2:∀ (d:D)(x:Value),ZaL d=true→Rep β m S w x d→Rep β m S' w x d
 | .v y,x,_,h=>by rw[h.inv_v];exact .v _
 | .agg l,x,hs,h=>by
   obtain⟨vs,rfl,h1,h2⟩:=h.inv_agg
   exact(ZaK l vs (by simpa[ZaL]using hs) ⟨h1,h2⟩).rep_agg
 | .tup l,x,hs,h=>by
   obtain⟨vs,rfl,h1,h2⟩:=h.inv_tup
   exact(ZaK l vs (by simpa[ZaL]using hs) ⟨h1,h2⟩).rep_tup
 | .junk,x,_,_=>.junk _
 | .nil,_,h,_=>by simp[ZaL]at h
 | .sl _,_,h,_=>by simp[ZaL]at h
 | .cl _,_,h,_=>by simp[ZaL]at h
 | .ep _ _ _,_,h,_=>by simp[ZaL]at h
 | .ls _ _,_,h,_=>by simp[ZaL]at h
 | .lp _ _ _ _,_,h,_=>by simp[ZaL]at h
 | .clo _ _,_,h,_=>by simp[ZaL]at h
theorem ZaK:∀ (l:List D)(vs:List Value),Zbk l=true→Reps β m S w vs l→Reps β m S' w vs l
 | [],vs,_,h=>by
   obtain rfl:vs=[]:=Ya9 h.1
   exact Reps.nil
 | d ::l,vs,hs,h=>by
   simp only[Zbk,Ya2]at hs
   match vs,h with
   | [],h=>exact absurd h.1 (by simp)
   | v ::vs,h =>
     exact Reps.cons (Zc2 d v hs.1 (h.2 0 v d rfl rfl)) (ZaK l vs hs.2 ⟨by simpa using h.1,fun i y e hy he=>h.2 (i+1) y e (by simpa using hy) (by simpa using he)⟩)
end
end
theorem le_kill{s:St}(id:Nat){b:Blk}(hb:s.m id=some b):StLe s {s with m:=upd s.m id (some {b with dead:=true})}:=by
 intro E B nn β a w h
 obtain⟨h1,h2,h3⟩:=ZcJ h.mem hb
 exact⟨β,h1,fun j hj=>(h.tmp j hj).mono h2 h3,h.width,h.defers,h.le.trans h2,h.sle.trans h3,h.lo⟩
theorem le_row{s:St}(k:Nat)(T:TypeId)(kk:Nat)(hk:s.t k = .nil):StLe s {s with t:=upd s.t k (.ls s.nx 0),m:=upd s.m s.nx (some ⟨T,0,kk,[],0,false⟩),nx:=s.nx+1}:=by
 intro E B nn β a w h
 obtain⟨h1,h2,h3⟩:=Zbp (id:=s.nx) (h.mem.mono_nx (Nat.le_succ _)) (Nat.lt_succ_self _) ⟨T,0,kk,[],0,false⟩ rfl rfl (.inl h.mem.none)
 refine⟨_,h1,fun j hj=>?_,h.width,h.defers,h.le.trans h2,h.sle.trans h3,h.lo⟩
 by_cases e:j=k
 ·subst e
  simp only[Zaa]
  have:=h.tmp j hj
  rw[hk]at this
  rw[this.inv_nil]
  exact .ls _ _ _ _ _ ⟨T,0,kk,[],0,false⟩ (Zaa _ _ _) (Ya4 _) (fun _ _=>rfl) fun _=>⟨rfl,Ya4 _,Yb0 _,.inl ⟨Zaa _ _ _,rfl,rfl⟩⟩
 ·simp only[Zab _ _ e];exact(h.tmp j hj).mono h2 h3
theorem le_cells{s:St}(id:Nat)(n:Nat){b:Blk}(hb:s.m id=some b):StLe s {s with m:=upd s.m id (some {b with es:=b.es.map (List.map (fzT false s.m n))})}:=by
 intro E B nn β a w h
 have hM:=h.mem
 have hm:Zah β s.m w β (upd s.m id (some {b with es:=b.es.map (List.map (fzT false s.m n))})) w:=by
  refine⟨fun x y hx=>?_,fun _ _ h=>h⟩
  by_cases e:x=id
  ·subst e
   rw[hb]at hx;cases hx
   exact⟨_,Zaa _ _ _,Ya4 _,fun _=>⟨rfl,by simp,rfl⟩⟩
  ·exact⟨y,by rw[Zab _ _ e];exact hx,Ya4 _,fun _=>⟨rfl,rfl,rfl⟩⟩
 have hget:∀ x y,upd s.m id (some {b with es:=b.es.map (List.map (fzT false s.m n))}) x=some y→∃ z,s.m x=some z∧y.T=z.T∧y.k=z.k∧y.es.length=z.es.length∧y.fz=z.fz∧y.dead=z.dead∧(y.es=z.es∨y.es=z.es.map (List.map (fzT false s.m n))):=by
  intro x y hx
  by_cases e:x=id
  ·subst e;rw[Zaa]at hx;cases hx;exact⟨b,hb,rfl,rfl,by simp,rfl,rfl,.inr rfl⟩
  ·rw[Zab _ _ e]at hx;exact⟨y,hx,rfl,rfl,rfl,rfl,rfl,.inl rfl⟩
 have hs:Zac (safe E β s.m) w (safe E β (upd s.m id (some {b with es:=b.es.map (List.map (fzT false s.m n))}))) w:=by
  intro c o u h1 h2
  refine⟨⟨h1.1,fun x y hx hy=>?_⟩,h2⟩
  obtain⟨z,hz,e1,e2,e3,e4,e5,_⟩:=hget x y hx
  rw[e4,e2,e5]
  exact h1.2 x z hz hy
 refine⟨β,⟨hM.below,?_,?_,?_,?_,?_,?_⟩,fun j hj=>(h.tmp j hj).mono hm hs,h.width,h.defers,h.le.trans hm,h.sle.trans hs,h.lo⟩
 ·intro x y hx
  obtain⟨z,hz,_⟩:=hget x y hx
  exact hM.lt x z hz
 ·intro x y hx
  obtain⟨z,hz,e1,e2,e3,e4,_⟩:=hget x y hx
  rw[e3,e4];exact hM.fz x z hz
 ·intro x y hx i e he
  obtain⟨z,hz,e1,e2,e3,e4,e5,e6⟩:=hget x y hx
  rw[e2]
  rcases e6 with e6|e6
  ·rw[e6]at he;exact hM.wid x z hz i e he
  ·rw[e6,Yb8]at he
   cases hq:z.es[i]? with
   | none=>rw[hq]at he;cases he
   | some e' =>
     rw[hq]at he
     simp only[Yd0,Ya1]at he
     rw[← he,Yc0];exact hM.wid x z hz i e' hq
 ·intro x y hx hbx
  obtain⟨z,hz,e1,e2,e3,_⟩:=hget x y hx
  have:=hM.non x z hz hbx
  rw[this]at e3
  exact Ya9 e3
 ·intro x y c hx hbx
  obtain⟨z,hz,e1,e2,e3,e4,e5,e6⟩:=hget x y hx
  obtain⟨h3,cs',h4,h5,h6⟩:=hM.row x z c hz hbx
  rw[e1,e2,e3]
  refine⟨h3,cs',h4,h5,fun i j d hd=>?_⟩
  rcases e6 with e6|e6
  ·rw[e6]at hd
   obtain⟨u,h7,h8⟩:=h6 i j d hd
   exact⟨u,h7,h8.mono hm hs⟩
  ·rw[e6]at hd
   obtain⟨d',h7,rfl⟩:=ZaU hd
   obtain⟨u,h8,h9⟩:=h6 i j d' h7
   exact⟨u,h8,(Zfu hM n h9).mono hm hs⟩
 ·intro x1 x2 y1 y2 c h1 h2 h3 h4
  obtain⟨z1,hz1,_⟩:=hget x1 y1 h1
  obtain⟨z2,hz2,_⟩:=hget x2 y2 h2
  exact hM.inj x1 x2 z1 z2 c hz1 hz2 h3 h4
mutual
def okD(keep:Nat→Bool):D→Bool
 | .ls id _=>keep id
 | .lp id _ _ _=>keep id
 | .agg l=>okDs keep l
 | .tup l=>okDs keep l
 | .clo _ l=>okDs keep l
 | _=>true
def okDs(keep:Nat→Bool):List D→Bool
 | []=>true
 | d ::l=>okD keep d&&okDs keep l
end
section
variable {β:Bet} {m m':Mem} {S S':Nat→Nat→Prop} {w:World} {keep:Nat→Bool}
mutual
theorem ZcF(hm:∀ id,keep id=true→m' id=m id)(hs:Zac S w S' w):∀ (d:D)(x:Value),okD keep d=true→Rep β m S w x d→Rep β m' S' w x d
 | .v y,x,_,h=>by rw[h.inv_v];exact .v _
 | .nil,x,_,h=>by rw[h.inv_nil];exact .nil
 | .agg l,x,ho,h=>by
   obtain⟨vs,rfl,h1,h2⟩:=h.inv_agg
   exact(ZbY hm hs l vs (by simpa[okD]using ho) ⟨h1,h2⟩).rep_agg
 | .tup l,x,ho,h=>by
   obtain⟨vs,rfl,h1,h2⟩:=h.inv_tup
   exact(ZbY hm hs l vs (by simpa[okD]using ho) ⟨h1,h2⟩).rep_tup
 | .sl es,x,_,h=>(h.sl_no.mono (Zah.refl _ _ _) hs).lift
 | .cl es,x,_,h=>by obtain⟨a,rfl,h1⟩:=h.inv_cl;exact .cl a es (h1.mono (Zah.refl _ _ _) hs)
 | .ep es i o,x,_,h=>(h.ep_no.mono (Zah.refl _ _ _) hs).lift
 | .ls id ver,x,ho,h=>by
   obtain⟨a,n,cap,blk,rfl,h1,h2,hx,h3⟩:=h.inv_lsx
   exact .ls a n cap id ver blk ((hm id (by simpa[okD]using ho)).trans h1) h2 hx h3
 | .lp id ver i o,x,ho,h=>by
   obtain⟨b,p,blk,rfl,h1,h2,h3⟩:=h.inv_lp
   exact .lp b p id ver i o blk ((hm id (by simpa[okD]using ho)).trans h1) h2 h3
 | .clo f l,x,ho,h=>by
   obtain⟨vs,rfl,h1,h2⟩:=h.inv_clo
   have:=ZbY hm hs l vs (by simpa[okD]using ho) ⟨h1,h2⟩
   exact .clo f vs l this.1 this.2
 | .junk,x,_,_=>.junk _
theorem ZbY(hm:∀ id,keep id=true→m' id=m id)(hs:Zac S w S' w):∀ (l:List D)(vs:List Value),okDs keep l=true→Reps β m S w vs l→Reps β m' S' w vs l
 | [],vs,_,h=>by
   obtain rfl:vs=[]:=Ya9 h.1
   exact Reps.nil
 | d ::l,vs,ho,h=>by
   simp only[okDs,Ya2]at ho
   match vs,h with
   | [],h=>exact absurd h.1 (by simp)
   | v ::vs,h =>
     exact Reps.cons (ZcF hm hs d v ho.1 (h.2 0 v d rfl rfl)) (ZbY hm hs l vs ho.2 ⟨by simpa using h.1,fun i y e hy he=>h.2 (i+1) y e (by simpa using hy) (by simpa using he)⟩)
end
end
def tabT:List (Nat×D)→Nat→D
 | []=>fun _=>.junk
 | p ::l=>upd (tabT l) p.1 p.2
def tabM:List (Nat×Blk)→Mem
 | []=>fun _=>none
 | p ::l=>upd (tabM l) p.1 (some p.2)
theorem ZbV:∀ (l:List (Nat×D)) (k:Nat),tabT l k = .junk∨∃ d,(k,d)∈l∧tabT l k=d
 | [],k=>.inl rfl
 | p ::l,k=>by
   simp only[tabT]
   by_cases e:k=p.1
   ·subst e;rw[Zaa];exact .inr ⟨p.2,by simp,rfl⟩
   ·rw[Zab _ _ e]
    rcases ZbV l k with h|⟨d,h1,h2⟩
    ·exact .inl h
    ·exact .inr ⟨d,by simp[h1],h2⟩
def Zb0(keep:Nat→Bool)(b:Blk):Prop:=∀ e∈b.es,okDs keep e=true
theorem ZbZ{keep:Nat→Bool}:∀ {l:List D},okDs keep l=true→∀ d∈l,okD keep d=true
 | [],_,d,h=>by simp at h
 | x ::l,ho,d,h=>by
   simp only[okDs,Ya2]at ho
   rcases List.mem_cons.1 h with rfl|h
   ·exact ho.1
   ·exact ZbZ ho.2 d h
end ifl
end Go.Proofs.YtiincpioidnciaaGreat
