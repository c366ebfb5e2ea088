/-
  The walk over data: the rules ax they are used.
-/
import Derived.Test.YtjeaacindikplaaGreatXLib
import Derived.Test.YtjeaacindikplaaGreatXDataB
import Derived.Test.YtjeaacindikplaaGreatRows
import Derived.Test.YtjeaacindikplaaGreatXDigits
import Derived.Test.YtjeaacindikplaaGreatXFrac
namespace Go.Proofs.YtjeaacindikplaaGreat
set_option linter.unusedVariables false
set_option linter.unusedSimpArgs false
set_option linter.unusedSectionVars false
open Go Go.RowKit
section ifl
variable [Ifl]
def gOf(d:D)(k:Nat)(want:Bool):Option (Nat×Bool) :=
 match d with
 | .v (.bool b)=>some (k,b)
 | .v (.tuple _)=>some (k,!want)
 | _=>none
theorem ZAl(b:Bool)(k:Nat)(want:Bool):gOf (.v (.bool b)) k want=some (k,b):=rfl
theorem Zxz(k:Nat)(want:Bool):gOf (.v undef) k want=some (k,!want):=rfl
def Zfw(ds:List (Option Tmp))(g:Nat×Bool)(t:Nat→D):Option (Nat×Bool) :=
 match ds[g.1]? with
 | some (some k)=>gOf (t k) k g.2
 | _=>none
structure SOp where
 dst:Option Tmp
 op:Op
 guard:Option (Nat×Bool)
def ZhF(o:Oper):SOp:=⟨o.dst,o.op,o.guard⟩
def opS(P:Program)(o:SOp)(s:St)(K:St→Prop):Prop :=
 match opF P o.op s.t s.m s.nx with
 | some r=>r.ok∧(r.new=[]∨r.new=[s.nx])∧K {s with t:=putT s.t o.dst r.d,m:=ov s.m r.wr,nx:=s.nx+r.new.length}
 | none=>match Zg2 o.op s.t with
   | some (f,ds)=>ZaM P f ds s.m s.nx fun d m' nx'=>K {s with t:=putT s.t o.dst d,m:=m',nx:=nx'}
   | none=>False
def opE(P:Program)(o:SOp)(s:St)(K:Ev→St→Prop):Prop :=
 match opF P o.op s.t s.m s.nx with
 | some r => r.ok ∧ (r.new = [] ∨ r.new = [s.nx]) ∧ r.wr.all (fun p => decide (p.1 < s.nx + r.new.length)) = true ∧
     K ⟨r.d,r.rd++r.new++r.wr.map (·.1),r.wr,false⟩ {s with t:=putT s.t o.dst r.d,m:=ov s.m r.wr,nx:=s.nx+r.new.length}
 | none=>match Zg2 o.op s.t with
   | some (f,ds)=>ZA1 P f ds s.m s.nx fun ev n'=>K ev {s with t:=putT s.t o.dst ev.d,m:=ov s.m ev.wr,nx:=n'}
   | none=>False
def opsL(P:Program)(ds:List (Option Tmp)):List SOp→St→(St→Prop)→Prop
 | [],s,K=>K s
 | o ::rest,s,K=>match o.guard with
   | none=>opS P o s fun s'=>opsL P ds rest s' K
   | some g=>match Zfw ds g s.t with
     | some p=>match p.2,g.2 with
       | true,true|false,false=>opS P o s fun s'=>opsL P ds rest s' K
       | true,false|false,true=>opsL P ds rest {s with t:=putT s.t o.dst (.v undef)} K
     | none=>False
def runL(P:Program)(ds:List (Option Tmp)):List SOp→St→List Ev→(List Ev→St→Prop)→Prop
 | [],s,tr,K=>K tr s
 | o ::rest,s,tr,K=>match o.guard with
   | none=>opE P o s fun ev s'=>runL P ds rest s' (tr++[ev]) K
   | some g=>match Zfw ds g s.t with
     | some p=>match p.2,g.2 with
       | true,true|false,false=>opE P o s fun ev s'=>runL P ds rest s' (tr++[ev]) K
       | true,false|false,true=>runL P ds rest {s with t:=putT s.t o.dst (.v undef)} (tr++[⟨.v undef,[],[],false⟩]) K
     | none=>False
theorem ZpG{ops:Array Oper}{o:Oper}{t:Nat→D}{g:Nat×Bool}(hg:o.guard=some g){p:Nat×Bool}(h:Zfw (ops.toList.map (·.dst)) g t=some p):Zgi ops o t=some (p.2==g.2):=by
 unfold Zfw at h
 unfold Zgi
 rw[hg]
 obtain⟨j,want⟩:=g
 simp only[Yb8,Array.getElem?_toList]at h
 cases hq:ops[j]? with
 | none=>rw[hq]at h;cases h
 | some q =>
   rw[hq]at h
   simp only[Yd0]at h
   cases hd:q.dst with
   | none=>rw[hd]at h;cases h
   | some k =>
     rw[hd]at h
     simp only[gOf]at h
     split at h
     ·rename_i b hb
      simp only[Ya1]at h
      subst h
      simp[hq,hd,hb]
     ·rename_i u hb
      simp only[Ya1]at h
      subst h
      simp[hq,hd,hb]
     ·cases h
theorem ZnC{P:Program}{o:Oper}{s:St}{K K':St→Prop}(h:∀ s,K s→K' s)(hA:opA P o s K):opA P o s K':=by
 unfold opA at hA ⊢
 split at hA
 ·exact⟨hA.1,hA.2.1,h _ hA.2.2⟩
 ·split at hA
  ·rename_i f ds hc
   refine⟨hA.1,fun E β w vs h1 h2=>(hA.2 E β w vs h1 h2).mono ?_⟩
   rintro e w' ⟨v,d,m',nx',h3,h4,h5⟩
   exact⟨v,d,m',nx',h3,h4,h _ h5⟩
  ·exact hA.elim
theorem ZdN{P:Program}{ops:Array Oper}{K:St→Prop}:∀ (l:List Oper)(s:St),opsL P (ops.toList.map (·.dst)) (l.map ZhF) s K→opsA P ops l s K
 | [],s,h=>h
 | o ::rest,s,h=>by
   rw[List.map_cons]at h
   unfold opsL at h
   unfold opsA
   simp only[ZhF]at h
   split at h
   ·rename_i hg
    have:Zgi ops o s.t=some true:=by unfold Zgi;rw[hg]
    rw[this]
    exact⟨fun _=>ZnC (fun s' h'=>ZdN rest s' h') h,fun e=>by cases e⟩
   ·rename_i g hg
    split at h
    ·rename_i p hp
     have h1:=ZpG hg hp
     rw[h1]
     obtain⟨k,b⟩:=p
     obtain⟨j,want⟩:=g
     simp only at h ⊢
     cases b<;>cases want<;>simp only[beq_self_eq_true]at h ⊢
     ·exact⟨fun _=>ZnC (fun s' h'=>ZdN rest s' h') h,fun e=>by cases e⟩
     ·exact⟨fun e=>(by cases e),fun _=>ZdN rest _ h⟩
     ·exact⟨fun e=>(by cases e),fun _=>ZdN rest _ h⟩
     ·exact⟨fun _=>ZnC (fun s' h'=>ZdN rest s' h') h,fun e=>by cases e⟩
    ·exact h.elim
theorem ZnB{P:Program}{o:Oper}{s:St}{K K':Ev→St→Prop}(h:∀ e s,K e s→K' e s)(hA:opE P (ZhF o) s K):opD P o s K':=by
 unfold opE at hA
 unfold opD
 simp only[ZhF]at hA
 split at hA
 ·rename_i r hr;rw[hr];exact⟨hA.1,hA.2.1,hA.2.2.1,h _ _ hA.2.2.2⟩
 ·rename_i hr
  rw[hr]
  split at hA
  ·rename_i f ds hc
   rw[hc]
   rcases hA with⟨d,b,h1,h2,h3⟩|⟨ev,n',h1,h3⟩
   ·exact .inl ⟨d,b,h1,h2,h _ _ h3⟩
   ·exact .inr ⟨ev,n',h1,h _ _ h3⟩
  ·exact hA.elim
theorem Zem{P:Program}{ops:Array Oper}{K:List Ev→St→Prop}:∀ (l:List Oper)(s:St)(tr:List Ev),runL P (ops.toList.map (·.dst)) (l.map ZhF) s tr K→runD P ops l s tr K
 | [],s,tr,h=>h
 | o ::rest,s,tr,h=>by
   rw[List.map_cons]at h
   unfold runL at h
   unfold runD
   simp only[show(ZhF o).guard=o.guard from rfl,show(ZhF o).dst=o.dst from rfl]at h
   split at h
   ·rename_i hg
    have:Zgi ops o s.t=some true:=by unfold Zgi;rw[hg]
    rw[this]
    exact⟨fun _=>ZnB (fun ev s' h'=>Zem rest s' _ h') h,fun e=>by cases e⟩
   ·rename_i g hg
    split at h
    ·rename_i p hp
     have h1:=ZpG hg hp
     rw[h1]
     obtain⟨k,b⟩:=p
     obtain⟨j,want⟩:=g
     simp only at h ⊢
     cases b<;>cases want<;>simp only[beq_self_eq_true]at h ⊢
     ·exact⟨fun _=>ZnB (fun ev s' h'=>Zem rest s' _ h') h,fun e=>by cases e⟩
     ·exact⟨fun e=>(by cases e),fun _=>Zem rest _ _ h⟩
     ·exact⟨fun e=>(by cases e),fun _=>Zem rest _ _ h⟩
     ·exact⟨fun _=>ZnB (fun ev s' h'=>Zem rest s' _ h') h,fun e=>by cases e⟩
    ·exact h.elim
section
variable {P:Program} {n:Nat} {Q:Exit→St→Prop} {s:St}
theorem aOps{id:Nat}{l:List Oper}(ds:List (Option Tmp))(hds:l.map (·.dst)=ds)(hf:l.toArray.all (Za9 n)=true)(h:opsL P ds (l.map ZhF) s (Q .normal)):AWP P n (.region id l.toArray false) Q s :=
 ZDH hf (ZdN (ops:=l.toArray) l s (by subst hds;exact h))
theorem aRun{id:Nat}{l:List Oper}(ds:List (Option Tmp))(hds:l.map (·.dst)=ds)(hm:P.follows .mixedOrders=true)(hd:Zks l.toArray=true)(hf:l.toArray.all (Za9 n)=true)
 (h:runL P ds (l.map ZhF) s [] fun tr s'=>ZgF l.toArray (tr.map fun e=>(e.touch,ids e.wr))=true∧ZhV l.toArray s.m tr∧Q .normal s'):AWP P n (.region id l.toArray true) Q s :=
 aDraw hm hd hf (Zem (ops:=l.toArray) l s [] (by subst hds;exact h))
end
theorem ZaF{α:Type}(f:Nat→α)(k:Nat)(x:α)(j:Nat):upd f k x j=if j=k then x else f j:=rfl
section
variable (P:Program) (ds:List (Option Tmp)) (K:St→Prop) (KE:List Ev→St→Prop) (t:Nat→D) (m:Mem) (nx lo:Nat) (rest:List SOp) (dst:Option Tmp) (op:Op) (tr:List Ev)
def ZoP(x:Option Res)(o:SOp)(rest:List SOp)(s:St)(K:St→Prop):Prop :=
 match x with
 | some r=>r.ok∧(r.new=[]∨r.new=[s.nx])∧opsL P ds rest {s with t:=putT s.t o.dst r.d,m:=ov s.m r.wr,nx:=s.nx+r.new.length} K
 | none=>match Zg2 o.op s.t with
   | some (f,ds')=>ZaM P f ds' s.m s.nx fun d m' nx'=>opsL P ds rest {s with t:=putT s.t o.dst d,m:=m',nx:=nx'} K
   | none=>False
def gSel(x:Option (Nat×Bool))(want:Bool)(o:SOp)(rest:List SOp)(s:St)(K:St→Prop):Prop :=
 match x with
 | some p=>match p.2,want with
   | true,true|false,false=>ZoP P ds (opF P o.op s.t s.m s.nx) o rest s K
   | true,false|false,true=>opsL P ds rest {s with t:=putT s.t o.dst (.v undef)} K
 | none=>False
def ZDt(x:Option (FuncId×List D))(dst:Option Tmp)(rest:List SOp)(s:St)(K:St→Prop):Prop :=
 match x with
 | some (f,ds')=>ZaM P f ds' s.m s.nx fun d m' nx'=>opsL P ds rest {s with t:=putT s.t dst d,m:=m',nx:=nx'} K
 | none=>False
theorem ZzC(s:St):opsL P ds [] s K=K s:=rfl
theorem ZCw:opsL P ds (⟨dst,op,none⟩ ::rest) ⟨t,m,nx,lo⟩ K=ZoP P ds (opF P op t m nx) ⟨dst,op,none⟩ rest ⟨t,m,nx,lo⟩ K:=by
 unfold opsL ZoP opS
 rfl
theorem Zuu(j:Nat)(want:Bool):opsL P ds (⟨dst,op,some (j,want)⟩ ::rest) ⟨t,m,nx,lo⟩ K=gSel P ds (Zfw ds (j,want) t) want ⟨dst,op,some (j,want)⟩ rest ⟨t,m,nx,lo⟩ K:=by
 rw[opsL]
 unfold gSel ZoP
 simp only
 cases Zfw ds (j,want) t with
 | none=>rfl
 | some p=>obtain⟨k,b⟩:=p;cases b<;>cases want<;>rfl
theorem ZDa(k:Nat)(o:SOp):gSel P ds (some (k,true)) true o rest ⟨t,m,nx,lo⟩ K=ZoP P ds (opF P o.op t m nx) o rest ⟨t,m,nx,lo⟩ K:=rfl
theorem ZDd(k:Nat)(o:SOp):gSel P ds (some (k,false)) false o rest ⟨t,m,nx,lo⟩ K=ZoP P ds (opF P o.op t m nx) o rest ⟨t,m,nx,lo⟩ K:=rfl
theorem ZDb(k:Nat)(o:SOp):gSel P ds (some (k,true)) false o rest ⟨t,m,nx,lo⟩ K=opsL P ds rest ⟨putT t o.dst (.v undef),m,nx,lo⟩ K:=rfl
theorem ZDc(k:Nat)(o:SOp):gSel P ds (some (k,false)) true o rest ⟨t,m,nx,lo⟩ K=opsL P ds rest ⟨putT t o.dst (.v undef),m,nx,lo⟩ K:=rfl
theorem Zt2(ok:Prop)(d:D)(r:List Nat)(wr:List (Nat×Blk))(new:List Nat)(o:SOp):ZoP P ds (some ⟨ok,d,r,wr,new⟩) o rest ⟨t,m,nx,lo⟩ K=(ok∧(new=[]∨new=[nx])∧opsL P ds rest ⟨putT t o.dst d,ov m wr,nx+new.length,lo⟩ K):=rfl
theorem Zt3(o:SOp):ZoP P ds none o rest ⟨t,m,nx,lo⟩ K=ZDt P ds (Zg2 o.op t) o.dst rest ⟨t,m,nx,lo⟩ K:=rfl
def Zqr(x:Option Res)(o:SOp)(rest:List SOp)(s:St)(tr:List Ev)(K:List Ev→St→Prop):Prop :=
 match x with
 | some r => r.ok ∧ (r.new = [] ∨ r.new = [s.nx]) ∧ r.wr.all (fun p => decide (p.1 < s.nx + r.new.length)) = true ∧
     runL P ds rest {s with t:=putT s.t o.dst r.d,m:=ov s.m r.wr,nx:=s.nx+r.new.length} (tr++[⟨r.d,r.rd++r.new++r.wr.map (·.1),r.wr,false⟩]) K
 | none=>match Zg2 o.op s.t with
   | some (f,ds')=>ZA1 P f ds' s.m s.nx fun ev n'=>runL P ds rest {s with t:=putT s.t o.dst ev.d,m:=ov s.m ev.wr,nx:=n'} (tr++[ev]) K
   | none=>False
def ZuP(x:Option (Nat×Bool))(want:Bool)(o:SOp)(rest:List SOp)(s:St)(tr:List Ev)(K:List Ev→St→Prop):Prop :=
 match x with
 | some p=>match p.2,want with
   | true,true|false,false=>Zqr P ds (opF P o.op s.t s.m s.nx) o rest s tr K
   | true,false|false,true=>runL P ds rest {s with t:=putT s.t o.dst (.v undef)} (tr++[⟨.v undef,[],[],false⟩]) K
 | none=>False
def ZDu(x:Option (FuncId×List D))(dst:Option Tmp)(rest:List SOp)(s:St)(tr:List Ev)(K:List Ev→St→Prop):Prop :=
 match x with
 | some (f,ds')=>ZA1 P f ds' s.m s.nx fun ev n'=>runL P ds rest {s with t:=putT s.t dst ev.d,m:=ov s.m ev.wr,nx:=n'} (tr++[ev]) K
 | none=>False
theorem Zzc(s:St):runL P ds [] s tr KE=KE tr s:=rfl
theorem ZCe:runL P ds (⟨dst,op,none⟩ ::rest) ⟨t,m,nx,lo⟩ tr KE=Zqr P ds (opF P op t m nx) ⟨dst,op,none⟩ rest ⟨t,m,nx,lo⟩ tr KE:=by
 rw[runL];rfl
theorem Zuf(j:Nat)(want:Bool):runL P ds (⟨dst,op,some (j,want)⟩ ::rest) ⟨t,m,nx,lo⟩ tr KE=ZuP P ds (Zfw ds (j,want) t) want ⟨dst,op,some (j,want)⟩ rest ⟨t,m,nx,lo⟩ tr KE:=by
 rw[runL]
 unfold ZuP Zqr
 simp only
 cases Zfw ds (j,want) t with
 | none=>rfl
 | some p=>obtain⟨k,b⟩:=p;cases b<;>cases want<;>rfl
theorem ZAh(k:Nat)(o:SOp):ZuP P ds (some (k,true)) true o rest ⟨t,m,nx,lo⟩ tr KE=Zqr P ds (opF P o.op t m nx) o rest ⟨t,m,nx,lo⟩ tr KE:=rfl
theorem ZAk(k:Nat)(o:SOp):ZuP P ds (some (k,false)) false o rest ⟨t,m,nx,lo⟩ tr KE=Zqr P ds (opF P o.op t m nx) o rest ⟨t,m,nx,lo⟩ tr KE:=rfl
theorem ZAi(k:Nat)(o:SOp):ZuP P ds (some (k,true)) false o rest ⟨t,m,nx,lo⟩ tr KE=runL P ds rest ⟨putT t o.dst (.v undef),m,nx,lo⟩ (tr++[⟨.v undef,[],[],false⟩]) KE:=rfl
theorem ZAj(k:Nat)(o:SOp):ZuP P ds (some (k,false)) true o rest ⟨t,m,nx,lo⟩ tr KE=runL P ds rest ⟨putT t o.dst (.v undef),m,nx,lo⟩ (tr++[⟨.v undef,[],[],false⟩]) KE:=rfl
theorem Zt4(ok:Prop)(d:D)(r:List Nat)(wr:List (Nat×Blk))(new:List Nat)(o:SOp):Zqr P ds (some ⟨ok,d,r,wr,new⟩) o rest ⟨t,m,nx,lo⟩ tr KE =
 (ok∧(new=[]∨new=[nx])∧wr.all (fun p=>decide (p.1<nx+new.length))=true∧runL P ds rest ⟨putT t o.dst d,ov m wr,nx+new.length,lo⟩ (tr++[⟨d,r++new++wr.map (·.1),wr,false⟩]) KE):=rfl
theorem Zt5(o:SOp):Zqr P ds none o rest ⟨t,m,nx,lo⟩ tr KE=ZDu P ds (Zg2 o.op t) o.dst rest ⟨t,m,nx,lo⟩ tr KE:=rfl
end
section
variable {P:Program} {ds:List (Option Tmp)} {K:St→Prop} {KE:List Ev→St→Prop} {t:Nat→D} {m:Mem} {nx lo:Nat} {rest:List SOp} {dst:Option Tmp} {tr:List Ev} {f:FuncId} {ax ax':List D} {d:D}
theorem Zax{n:Int}(h1 : -9223372036854775808≤n)(h2:n≤9223372036854775807):IntKind.i64.wrap n=n:=by rw[IntKind.wrap_i64];omega
def Zi0(S:List Nat)(m:Mem):Prop:=Ifl.i=true∧∀ id b,S.contains id=false→m id=some b→b.T=3→b.dead=true
theorem ZdA{m:Mem}(h:Zi0 [] m):Zcb m:=⟨h.1,fun id b hb hT=>h.2 id b rfl hb hT⟩
theorem Zca(S:List Nat):@Zi0 Ifl.on S noM:=⟨rfl,fun _ _ _ h=>by cases h⟩
theorem Zb9{S:List Nat}{m:Mem}{id T ver k fz:Nat}{es:List (List D)}{dead:Bool}(hb:(S.contains id || !(T==3 && !dead))=true)(h:Zi0 (id ::S) m):Zi0 S (upd m id (some ⟨T,ver,k,es,fz,dead⟩)):=by
 refine⟨h.1,fun i b hS hi hT=>?_⟩
 by_cases e:i=id
 ·subst e
  rw[Zae]at hi
  simp only[Ya1]at hi
  subst hi
  rw[hS,Bool.false_or,Bool.not_eq_true']at hb
  simp only at hT
  subst hT
  simpa using hb
 ·rw[Zac _ _ e]at hi
  refine h.2 i b ?_ hi hT
  rw[List.contains_cons,hS,Bool.or_false]
  simpa using e
theorem Zaq:@Zcb Ifl.on noM:=⟨rfl,fun _ _ h=>by cases h⟩
theorem Zan{id T ver k fz:Nat}{es:List (List D)}{dead:Bool}(hb:(T==3 && !dead)=false)(h:Zcb m):Zcb (upd m id (some ⟨T,ver,k,es,fz,dead⟩)):=by
 refine⟨h.1,fun i b hi hT=>?_⟩
 unfold upd at hi
 split at hi
 ·cases hi
  have hT':T=3:=hT
  subst hT'
  cases dead
  ·cases hb
  ·rfl
 ·exact h.2 i b hi hT
end
end ifl
section ifl
variable [Ifl]
section
variable {P:Program} {n:Nat} {Q:Exit→St→Prop} {s:St}
theorem ZcH{c:Operand}{x y:Code}(hf:Zd8 n c=true)(hc:rd s.t c = .v (.bool true))(h:AWP P n x Q s):AWP P n (.cond c x y) Q s:=ZFy hf hc (fun _=>h) (fun e=>by cases e)
theorem ZcI{c:Operand}{x y:Code}(hf:Zd8 n c=true)(hc:rd s.t c = .v (.bool false))(h:AWP P n y Q s):AWP P n (.cond c x y) Q s:=ZFy hf hc (fun e=>by cases e) (fun _=>h)
end
def Zym(P:Program)(ds:List (Option Tmp))(f:FuncId)(ax:List D)(kw:List (Nat×Blk))(m':Mem)(x:List D)(dst:Option Tmp)(rest:List SOp)(s:St)(K:St→Prop):Prop :=
 kw=ZbZ (Zb4 ax) s.m→m'=ov s.m kw→x=ZeO m' ax→ZDt P ds (some (f,ax)) dst rest s K
theorem ZuZ(P:Program)(ds:List (Option Tmp))(f:FuncId)(ax:List D)(dst:Option Tmp)(rest:List SOp)(t:Nat→D)(m:Mem)(nx lo:Nat)(K:St→Prop) :
 ZDt P ds (some (f,ax)) dst rest ⟨t,m,nx,lo⟩ K=Zym P ds f ax (ZbZ (Zb4 ax) m) (ov m (ZbZ (Zb4 ax) m)) (ZeO (ov m (ZbZ (Zb4 ax) m)) ax) dst rest ⟨t,m,nx,lo⟩ K :=
 propext ⟨fun h _ _ _=>h,fun h=>h rfl rfl rfl⟩
def ZAN(P:Program)(ds:List (Option Tmp))(f:FuncId)(ax:List D)(rf:List Nat)(kw:List (Nat×Blk))(m':Mem)(x:List D)(dst:Option Tmp)(rest:List SOp)(s:St)(tr:List Ev)(K:List Ev→St→Prop):Prop :=
 rf=Zb4 ax→kw=ZbZ rf s.m→m'=ov s.m kw→x=ZeO m' ax→ZDu P ds (some (f,ax)) dst rest s tr K
theorem Zu0(P:Program)(ds:List (Option Tmp))(f:FuncId)(ax:List D)(dst:Option Tmp)(rest:List SOp)(t:Nat→D)(m:Mem)(nx lo:Nat)(tr:List Ev)(K:List Ev→St→Prop) :
 ZDu P ds (some (f,ax)) dst rest ⟨t,m,nx,lo⟩ tr K=ZAN P ds f ax (Zb4 ax) (ZbZ (Zb4 ax) m) (ov m (ZbZ (Zb4 ax) m)) (ZeO (ov m (ZbZ (Zb4 ax) m)) ax) dst rest ⟨t,m,nx,lo⟩ tr K :=
 propext ⟨fun h _ _ _ _=>h,fun h=>h rfl rfl rfl rfl⟩
section
variable {P:Program} {ds:List (Option Tmp)} {K:St→Prop} {KE:List Ev→St→Prop} {t:Nat→D} {m m':Mem} {nx lo:Nat} {rest:List SOp} {dst:Option Tmp} {tr:List Ev} {f:FuncId} {ax ax':List D} {d:D} {kw:List (Nat×Blk)} {rf:List Nat}
theorem Zdk(h:Zah P f ax' d)(k:opsL P ds rest ⟨putT t dst d,m',nx,lo⟩ K)(hi:Zcb m'):Zym P ds f ax kw m' ax' dst rest ⟨t,m,nx,lo⟩ K:=by
 rintro rfl rfl rfl
 exact ZaM.of h hi k
theorem Zb1(h:Zaa P f ax' d)(k:opsL P ds rest ⟨putT t dst d,m',nx,lo⟩ K):Zym P ds f ax kw m' ax' dst rest ⟨t,m,nx,lo⟩ K:=by
 rintro rfl rfl rfl
 exact ZaM.ofN h k
theorem ZdI(h:Zah P f ax' d)(hw:kw.all (fun p=>decide (p.1<nx))=true)(k:runL P ds rest ⟨putT t dst d,m',nx,lo⟩ (tr++[⟨d,rf++kw.map (·.1),kw,true⟩]) KE):ZAN P ds f ax rf kw m' ax' dst rest ⟨t,m,nx,lo⟩ tr KE:=by
 rintro rfl rfl rfl rfl
 exact .inl ⟨d,true,.inl ⟨rfl,h⟩,hw,k⟩
theorem ZbR(h:Zaa P f ax' d)(hw:kw.all (fun p=>decide (p.1<nx))=true)(k:runL P ds rest ⟨putT t dst d,m',nx,lo⟩ (tr++[⟨d,rf++kw.map (·.1),kw,false⟩]) KE):ZAN P ds f ax rf kw m' ax' dst rest ⟨t,m,nx,lo⟩ tr KE:=by
 rintro rfl rfl rfl rfl
 exact .inl ⟨d,false,.inr h,hw,k⟩
theorem Zdj{ev:Ev}{n':Nat}{x:List D}(h:EffC P f ax m nx ev n')(k:runL P ds rest ⟨putT t dst ev.d,ov m ev.wr,n',lo⟩ (tr++[ev]) KE):ZAN P ds f ax rf kw m' x dst rest ⟨t,m,nx,lo⟩ tr KE:=by
 rintro rfl rfl rfl rfl
 exact .inr ⟨ev,n',h,k⟩
theorem ZaQ{x:List D}{K':D→Mem→Nat→Prop}(h:ZaM P f ax m nx K')(k:∀ d m' nx',K' d m' nx'→opsL P ds rest ⟨putT t dst d,m',nx',lo⟩ K):Zym P ds f ax kw m' x dst rest ⟨t,m,nx,lo⟩ K:=by
 rintro rfl rfl rfl
 exact h.mono k
theorem Zbq {x : List D} {fn : Func} {c : Code} (hf : P.funcs[f]? = some fn) (hb : fn.body = some c) (hnm : (fn.name == "runtime.NumGoroutine") = false)
 (hn:decide (ax.length≤fn.ntmps)=true) (Zr:fn.results.toList.all (Zkr fn.ntmps)=true) (h:AWP P fn.ntmps c (endA P fn fun d m' nx'=>opsL P ds rest ⟨putT t dst d,m',nx',lo⟩ K) ⟨Zkq ax,m,nx,nx⟩):Zym P ds f ax kw m' x dst rest ⟨t,m,nx,lo⟩ K :=
 fun _ _ _=>ZaM.inline hf hb hnm hn Zr h
end
theorem ZeV{P:Program}{n:Nat}{Q:Exit→St→Prop}{s:St}{id:Nat}{l:List Oper}(ds:List (Option Tmp))(hds:l.map (·.dst)=ds)(hm:P.follows .mixedOrders=true)(hd:Zks l.toArray=true)(hf:l.toArray.all (Za9 n)=true)
 (h:∀ KE:List Ev→St→Prop,(∀ tr s',ZgF l.toArray (tr.map fun e=>(e.touch,ids e.wr))=true→ZhV l.toArray s.m tr→Q .normal s'→KE tr s')→runL P ds (l.map ZhF) s [] KE):AWP P n (.region id l.toArray true) Q s :=
 aRun ds hds hm hd hf (h _ fun _ _ h1 h2 h3=>⟨h1,h2,h3⟩)
theorem ZaC{ops:Array Oper}{m:Mem}{tr:List Ev}(h:tr.any (·.ints)=false):ZhV ops m tr:=fun e=>by rw[h]at e;cases e
theorem Za7{ops:Array Oper}{m:Mem}{tr:List Ev}(h:Zcb m)(h2:∀ ev∈tr,∀ p∈ev.wr,p.2.T=3→p.2.dead=true):ZhV ops m tr:=fun _=>⟨h,.inl h2⟩
def ZnX(id:Nat):List (Nat×Blk)→Option Blk
 | []=>none
 | p ::l=>match ZnX id l with
   | some b=>some b
   | none=>if p.1=id then some p.2 else none
theorem Zwx(id:Nat):∀ (l:List (Nat×Blk)) (m:Mem),ov m l id=match ZnX id l with|some b=>some b|none=>m id
 | [],_=>rfl
 | p ::l,m=>by
   simp only[ov,ZnX]
   rw[Zwx id l]
   cases ZnX id l with
   | some b=>rfl
   | none =>
     simp only
     by_cases e:p.1=id
     ·rw[if_pos e,← e,Zae]
     ·rw[if_neg e,Zac _ _ (Ne.symm e)]
theorem ZpA{id:Nat}{b:Blk}:∀ {l:List (Nat×Blk)},ZnX id l=some b→∃ p∈l,p.1=id
 | [],h=>by cases h
 | p ::l,h=>by
   simp only[ZnX]at h
   cases hl:ZnX id l with
   | some c=>obtain⟨q,h1,h2⟩:=ZpA hl;exact⟨q,by simp[h1],h2⟩
   | none =>
     rw[hl]at h
     simp only at h
     split at h
     ·rename_i e;exact⟨p,by simp,e⟩
     ·cases h
theorem Zls:∀ (l k:List (Nat×Blk)) (m:Mem),ov m (l++k)=ov (ov m l) k
 | [],_,_=>rfl
 | _ ::l,k,m=>Zls l k _
theorem ZnM:∀ (tr:List Ev)(m:Mem)(i:Nat),mixM m tr ((List.range tr.length).map fun j=>decide (j<i))=ov m ((tr.take i).flatMap (·.wr))
 | [],_,i=>by cases i<;>rfl
 | e ::tr,m,0=>by
   have h:=ZnM tr m 0
   simp only[List.take_zero,List.flatMap_nil,ov,Nat.not_lt_zero,decide_false]at h ⊢
   rw[List.length_cons,List.range_succ_eq_map,List.map_cons,List.map_map]
   simp only[mixM,Bool.false_eq_true,if_false]
   exact h
 | e ::tr,m,i+1=>by
   have h:=ZnM tr (ov m e.wr) i
   rw[List.length_cons,List.range_succ_eq_map,List.map_cons,List.map_map,List.take_succ_cons,List.flatMap_cons,Zls]
   simp only[mixM,Nat.zero_lt_succ,decide_true,if_true]
   rw[← h]
   congr 1
   refine List.map_congr_left fun j _=>?_
   simp only[Function.comp,Nat.succ_eq_add_one,Nat.add_lt_add_iff_right]
def Zs5(tr:List Ev):Bool:=(List.range tr.length).all fun i=>match tr[i]? with
 | none=>true
 | some ev=> !ev.ints||((tr.take (i+1)).flatMap (·.wr)).all fun p=>match ZnX p.1 ((tr.take (i+1)).flatMap (·.wr))with
   | some b=>(b.T !=3)||b.dead
   | none=>true
theorem ZmY{ops:Array Oper}{m:Mem}{tr:List Ev}(h:Zcb m)(h1:ZkJ ops tr=true)(h2:Zs5 tr=true):ZhV ops m tr:=by
 refine fun _=>⟨h,.inr ⟨h1,fun i ev hi hin=>⟨h.1,fun id b hb hT=>?_⟩⟩⟩
 have e:ov (mixM m tr ((List.range tr.length).map fun j=>decide (j<i))) ev.wr=ov m ((tr.take (i+1)).flatMap (·.wr)):=by
  rw[ZnM,← Zls,Yb4,hi,List.flatMap_append]
  simp
 rw[e,Zwx]at hb
 unfold Zs5 at h2
 simp only[Ya6,Yd2]at h2
 have h3:=h2 i (Ya3.1 hi).1
 simp only[hi,hin,Bool.not_true,Bool.false_or,Ya6]at h3
 cases hl:ZnX id ((tr.take (i+1)).flatMap (·.wr))with
 | none=>rw[hl]at hb;exact h.2 id b hb hT
 | some c =>
   rw[hl]at hb
   simp only[Ya1]at hb
   subst hb
   obtain⟨p,hp,rfl⟩:=ZpA hl
   have h4:=h3 p hp
   rw[hl]at h4
   simp only[hT,bne_self_eq_false,Bool.false_or]at h4
   exact h4
def Zw9{X:Type}(l:X→List (Nat×D))(bl:X→List (Nat×Blk))(nx lo:Nat)(Pre:X→Prop)(μ:X→Nat)(x:X)(s:St):Prop:=∃ y,Pre y∧μ y<μ x∧StLe s ⟨tabT (l y),tabM (bl y),nx,lo⟩
theorem Zad{X:Type}{l:X→List (Nat×D)}{bl:X→List (Nat×Blk)}{nx lo:Nat}{Pre:X→Prop}{μ:X→Nat}{x:X}{s:St}(y:X)(h1:Pre y)(h2:μ y<μ x)(h3:StLe s ⟨tabT (l y),tabM (bl y),nx,lo⟩):Zw9 l bl nx lo Pre μ x s:=⟨y,h1,h2,h3⟩
theorem Zas{P:Program}{n:Nat}{Q:Exit→St→Prop}{s:St}{c:Code}{X:Type}(l:X→List (Nat×D))(bl:X→List (Nat×Blk))(nx lo:Nat)(Pre:X→Prop)(μ:X→Nat)(x0:X)(h0:Pre x0)(hle:StLe s ⟨tabT (l x0),tabM (bl x0),nx,lo⟩)
 (h:∀ x,Pre x→AWP P n c (ZtR (Zw9 l bl nx lo Pre μ x) Q) ⟨tabT (l x),tabM (bl x),nx,lo⟩):AWP P n (.loop c) Q s :=
 ZrD (fun x=>⟨tabT (l x),tabM (bl x),nx,lo⟩) Pre μ ⟨x0,h0,hle⟩ h
def endR(K:D→Mem→Nat→Prop)(x:Option (List D))(m:Mem)(nx:Nat):Prop:=∃ ds,x=some ds∧K (oneD ds) m nx
theorem ZxX(K:D→Mem→Nat→Prop)(ds:List D)(m:Mem)(nx:Nat):endR K (some ds) m nx=K (oneD ds) m nx:=by
 unfold endR
 apply propext
 constructor
 ·rintro⟨ds',h,hk⟩;cases h;exact hk
 ·intro h;exact⟨ds,rfl,h⟩
theorem ZAx(P:Program)(fn:Func)(K:D→Mem→Nat→Prop)(s:St):endA P fn K .ret s=endR K (ZhH P s fn.results.toList) s.m s.nx:=rfl
theorem Zrn(P:Program)(fn:Func)(K:D→Mem→Nat→Prop)(s:St):endA P fn K .normal s=endR K (ZhH P s fn.results.toList) s.m s.nx:=rfl
theorem ZzG(d:D):oneD [d]=d:=rfl
theorem ZzF(d e:D):oneD [d,e] = .tup [d,e]:=rfl
theorem Zuw(d e f:D):oneD [d,e,f] = .tup [d,e,f]:=rfl
theorem ZwJ(d e f g:D):oneD [d,e,f,g] = .tup [d,e,f,g]:=rfl
end ifl
theorem ty_3:tyOf Tryz.prog 3=some ⟨5,1,8,some [.v (.int .i64 0)],0,some .i64,[]⟩:=by kernel_rfl
theorem ty_4:tyOf Tryz.prog 4=some ⟨6,1,1,some [.v (.bool false)],0,none,[]⟩:=by kernel_rfl
theorem ty_22:tyOf Tryz.prog 22=some ⟨2,1,24,some [.nil],72,none,[]⟩:=by kernel_rfl
theorem ty_23:tyOf Tryz.prog 23=some ⟨2,1,24,some [.nil],90,none,[]⟩:=by kernel_rfl
theorem ty_24:tyOf Tryz.prog 24=some ⟨2,1,24,some [.nil],187,none,[]⟩:=by kernel_rfl
theorem ty_25:tyOf Tryz.prog 25=some ⟨2,1,24,some [.nil],230,none,[]⟩:=by kernel_rfl
theorem ty_26:tyOf Tryz.prog 26=some ⟨2,1,24,some [.nil],232,none,[]⟩:=by kernel_rfl
theorem ty_28:tyOf Tryz.prog 28=some ⟨1,8,144,some [.v (.int .i64 0),.v (.int .i64 0),.v (.int .i64 0),.nil,.nil,.nil,.nil,.nil],0,none,[(0,1,false),(1,1,false),(2,1,false),(3,1,false),(4,1,false),(5,1,false),(6,1,false),(7,1,false)]⟩:=by kernel_rfl
theorem ty_29:tyOf Tryz.prog 29=some ⟨2,1,24,some [.nil],68,none,[]⟩:=by kernel_rfl
theorem ty_30:tyOf Tryz.prog 30=some ⟨2,1,24,some [.nil],113,none,[]⟩:=by kernel_rfl
theorem ty_32:tyOf Tryz.prog 32=some ⟨1,10,192,some [.v (.int .i64 0),.v (.int .i64 0),.v (.int .i64 0),.nil,.nil,.nil,.nil,.nil,.nil,.nil],0,none,[(0,8,true),(8,1,false),(9,1,false)]⟩:=by kernel_rfl
theorem ZDX:tyOf Tryz.prog 33=some ⟨2,1,24,some [.nil],53,none,[]⟩:=by kernel_rfl
theorem ty_39:tyOf Tryz.prog 39=some ⟨2,1,24,some [.nil],58,none,[]⟩:=by kernel_rfl
theorem ZBM:tyOf Tryz.prog 43=some ⟨2,1,24,some [.nil],3,none,[]⟩:=by kernel_rfl
theorem ty_51:tyOf Tryz.prog 51=some ⟨1,2,32,some [.v (.int .i64 0),.nil],0,none,[(0,1,false),(1,1,false)]⟩:=by kernel_rfl
theorem ZDW:tyOf Tryz.prog 53=some ⟨1,4,64,some [.v (.int .i64 0),.nil,.v (.int .i64 0),.nil],0,none,[(0,2,true),(2,2,true)]⟩:=by kernel_rfl
theorem ty_54:tyOf Tryz.prog 54=some ⟨2,1,24,some [.nil],43,none,[]⟩:=by kernel_rfl
theorem ty_58:tyOf Tryz.prog 58=some ⟨1,5,88,some [.v (.int .i64 0),.v (.int .i64 0),.nil,.nil,.nil],0,none,[(0,1,false),(1,1,false),(2,1,false),(3,1,false),(4,1,false)]⟩:=by kernel_rfl
theorem ty_65:tyOf Tryz.prog 65=some ⟨2,1,24,some [.nil],4,none,[]⟩:=by kernel_rfl
theorem ty_68:tyOf Tryz.prog 68=some ⟨1,3,24,some [.v (.int .i64 0),.v (.int .i64 0),.v (.int .i64 0)],0,none,[(0,1,false),(1,1,false),(2,1,false)]⟩:=by kernel_rfl
theorem ty_72:tyOf Tryz.prog 72=some ⟨1,3,24,some [.v (.int .i64 0),.v (.int .i64 0),.v (.int .i64 0)],0,none,[(0,1,false),(1,1,false),(2,1,false)]⟩:=by kernel_rfl
theorem ty_76:tyOf Tryz.prog 76=some ⟨2,1,24,some [.nil],33,none,[]⟩:=by kernel_rfl
theorem ty_85:tyOf Tryz.prog 85=some ⟨2,1,24,some [.nil],88,none,[]⟩:=by kernel_rfl
theorem ty_88:tyOf Tryz.prog 88=some ⟨1,7,104,some [.v (.int .i64 0),.nil,.v (.int .i64 0),.nil,.v (.bool false),.nil,.v (.int .i64 0)],0,none,[(0,4,true),(4,1,false),(5,1,false),(6,1,false)]⟩:=by kernel_rfl
theorem ty_90:tyOf Tryz.prog 90=some ⟨1,6,48,some [.v (.int .i64 0),.v (.int .i64 0),.v (.int .i64 0),.v (.int .i64 0),.v (.int .i64 0),.v (.bool false)],0,none,[(0,1,false),(1,1,false),(2,1,false),(3,1,false),(4,1,false),(5,1,false)]⟩:=by kernel_rfl
theorem ty_97:tyOf Tryz.prog 97=some ⟨2,1,24,some [.nil],153,none,[]⟩:=by kernel_rfl
theorem ty_99:tyOf Tryz.prog 99=some ⟨1,2,32,some [.v (.int .i64 0),.nil],0,none,[(0,1,false),(1,1,false)]⟩:=by kernel_rfl
theorem ZEe:tyOf Tryz.prog 105=some ⟨2,1,24,some [.nil],151,none,[]⟩:=by kernel_rfl
theorem ZEd:tyOf Tryz.prog 113=some ⟨1,2,16,some [.v (.int .i64 0),.v (.int .i64 0)],0,none,[(0,1,false),(1,1,false)]⟩:=by kernel_rfl
theorem ZEc:tyOf Tryz.prog 119=some ⟨2,1,24,some [.nil],123,none,[]⟩:=by kernel_rfl
theorem ZEb:tyOf Tryz.prog 123=some ⟨1,3,56,some [.v (.int .i64 0),.nil,.nil],0,none,[(0,1,false),(1,1,false),(2,1,false)]⟩:=by kernel_rfl
theorem ZEa:tyOf Tryz.prog 151=some ⟨1,5,72,some [.v (.int .i64 0),.v (.int .i64 0),.nil,.v (.int .i64 0),.nil],0,none,[(0,1,false),(1,4,true)]⟩:=by kernel_rfl
theorem ZD9:tyOf Tryz.prog 153=some ⟨1,6,96,some [.nil,.v (.int .i64 0),.v (.int .i64 0),.nil,.v (.int .i64 0),.nil],0,none,[(0,1,false),(1,1,false),(2,4,true)]⟩:=by kernel_rfl
theorem ZD8:tyOf Tryz.prog 157=some ⟨1,8,144,some [.v (.int .i64 0),.v (.int .i64 0),.nil,.v (.int .i64 0),.nil,.nil,.nil,.nil],0,none,[(0,1,false),(1,4,true),(5,1,false),(6,1,false),(7,1,false)]⟩:=by kernel_rfl
theorem ZD7:tyOf Tryz.prog 176=some ⟨2,1,24,some [.nil],105,none,[]⟩:=by kernel_rfl
theorem ZD6:tyOf Tryz.prog 187=some ⟨1,6,48,some [.v (.int .i64 0),.v (.int .i64 0),.v (.int .i64 0),.v (.int .i64 0),.v (.int .i64 0),.v (.int .i64 0)],0,none,[(0,1,false),(1,1,false),(2,1,false),(3,1,false),(4,1,false),(5,1,false)]⟩:=by kernel_rfl
theorem ZD5:tyOf Tryz.prog 201=some ⟨5,1,8,some [.v (.int .u64 0)],0,some .u64,[]⟩:=by kernel_rfl
theorem ZD4:tyOf Tryz.prog 230=some ⟨1,2,16,some [.v (.int .i64 0),.v (.int .i64 0)],0,none,[(0,1,false),(1,1,false)]⟩:=by kernel_rfl
theorem ZD3:tyOf Tryz.prog 232=some ⟨1,4,32,some [.v (.int .i64 0),.v (.int .i64 0),.v (.int .i64 0),.v (.int .i64 0)],0,none,[(0,1,false),(1,1,false),(2,1,false),(3,1,false)]⟩:=by kernel_rfl
theorem ZD2:tyOf Tryz.prog 249=some ⟨2,1,24,some [.nil],256,none,[]⟩:=by kernel_rfl
theorem ZD1:tyOf Tryz.prog 250=some ⟨2,1,24,some [.nil],264,none,[]⟩:=by kernel_rfl
theorem ZD0:tyOf Tryz.prog 252=some ⟨1,6,128,some [.v (.int .i64 0),.nil,.nil,.nil,.nil,.nil],0,none,[(0,1,false),(1,1,false),(2,1,false),(3,1,false),(4,1,false),(5,1,false)]⟩:=by kernel_rfl
theorem ZDZ:tyOf Tryz.prog 256=some ⟨1,5,88,some [.v (.int .i64 0),.nil,.v (.int .i64 0),.nil,.nil],0,none,[(0,4,true),(4,1,false)]⟩:=by kernel_rfl
theorem ZDY:tyOf Tryz.prog 264=some ⟨1,2,16,some [.v (.int .i64 0),.v (.bool false)],0,none,[(0,1,false),(1,1,false)]⟩:=by kernel_rfl
theorem ZdX:Tryz.prog.follows .mixedOrders=true:=by kernel_rfl
section ifl
variable [Ifl]
theorem cj2{A B:Prop}(a:A)(b:B):A∧B:=⟨a,b⟩
theorem cj3{A B C:Prop}(a:A)(b:B)(c:C):A∧B∧C:=⟨a,b,c⟩
theorem cj4{A B C D:Prop}(a:A)(b:B)(c:C)(d:D):A∧B∧C∧D:=⟨a,b,c,d⟩
theorem ZmZ{ops:Array Oper}{m:Mem}{tr:List Ev}(h:Zcb m)(h2:(tr.all fun e=>e.wr.all fun p=>(p.2.T !=3)||p.2.dead)=true):ZhV ops m tr:=by
 refine Za7 h fun ev hev p hp hT=>?_
 have h3:=Ya6.1 (Ya6.1 h2 ev hev) p hp
 rw[hT]at h3
 simpa using h3
theorem useK{K A:St→Prop}{s:St}(h:∀ s,A s→K s)(a:A s):K s:=h s a
structure Keep (Y:Prop):Prop where
 out:Y
theorem aGo{F Y X:Prop}(f:F)(y:Y)(h:F→Keep Y→X:=by
 intro hf y
 repeat(first
  | (refine hI _ ?_;clear hI;clear KI)
  | (refine hK _ ?_;try clear hK;try clear K)
  | ((with_reducible apply useK);(with_reducible assumption))
  | (refine aSeq fun KI hI=>?_)
  | (refine ZcJ ?_)
  | (refine ZeU ?_)
  | (refine ZeW ?_)
  | (refine aRet ?_)
  | (refine aOps _ rfl (by kernel_rfl) ?_)
  | (refine ZeV _ rfl ZdX (by kernel_rfl) (by kernel_rfl) fun KE hE=>?_)
  | (refine hE _ _ (by kernel_rfl) (ZaC rfl) ?_;clear hE;clear KE)
  | (refine hE _ _ (by kernel_rfl) (ZmZ (by(first|((repeat(refine Zan rfl ?_));exact Zaq)|(refine ZdA ?_;(repeat(refine Zb9 rfl ?_));exact Zca _))) rfl) ?_;clear hE;clear KE)
  | (refine hE _ _ (by kernel_rfl) (ZmY (by(first|((repeat(refine Zan rfl ?_));exact Zaq)|(refine ZdA ?_;(repeat(refine Zb9 rfl ?_));exact Zca _))) (by kernel_rfl) rfl) ?_;clear hE;clear KE)
  | (refine ZcH rfl ?hc ?_;case hc=>simp only[go_sem,↓reduceIte,beq_self_eq_true,bne_self_eq_false,hf])
  | (refine ZcI rfl ?hc ?_;case hc=>simp only[go_sem,↓reduceIte,beq_self_eq_true,bne_self_eq_false,hf])
  | ((with_reducible apply Zdk);(first|with_reducible assumption|assumption);rotate_left;(first|((repeat(refine Zan rfl ?_));exact Zaq)|(refine ZdA ?_;(repeat(refine Zb9 rfl ?_));exact Zca _)))
  | ((with_reducible apply Zb1);(first|with_reducible assumption|assumption))
  | ((with_reducible apply ZdI);(first|with_reducible assumption|assumption);rfl)
  | ((with_reducible apply ZbR);(first|with_reducible assumption|assumption);rfl)
  | (simp only[go_sem,↓reduceIte,beq_self_eq_true,bne_self_eq_false,hf])
  | (refine And.intro ?ho ?_;(case ho=>omega))
  | (clear hI;clear KI))
 repeat(first|(revert hE;revert KE)|(revert hI;revert KI))
 first|done|exact y.out):X:=h f ⟨y⟩
theorem leGo{F X:Prop}(f:F)(h:F→X:=by
 intro hf
 refine Zak _ _ _ ?_ ?_ ?_ ?_ ?_ (.inl rfl)<;>simp[go_sem,okD,okDs,Zav,hf] <;>
 (first|(intros;subst_vars;simp[okD,okDs];done)|(intro _ h;rcases h with⟨_,_,rfl⟩|rfl<;>simp[okD,okDs];done)|(intros;rename_i h;rcases h with⟨_,_,rfl⟩|rfl<;>simp[okD,okDs]))):X:=h f
end ifl
instance iflOn:Ifl:=Ifl.on
abbrev dI(n:Int):D:=.v (.int .i64 n)
abbrev dB(b:Bool):D:=.v (.bool b)
abbrev Zab(l:List Int):D:=.sl (l.map fun x=>[dI x])
abbrev cB(x:BigD):List D:=[dI x.s,Zab x.d]
abbrev encB(x:BigD):D:=.agg (cB x)
abbrev cF(f:Zag):List D:=[dI f.p.s,Zab f.p.d,dI f.q.s,Zab f.q.d]
abbrev encF(f:Zag):D:=.agg (cF f)
theorem Zaj{a b:Bool}(h:a=b):D.v (.bool a)=dB b:=by rw[h]
section
variable {S:Nat→Nat→Prop} {w:World} {v:Value} {l:List Int}
theorem Zbz(h:Rep noB noM S w v (Zab l)):ZaK w v l:=by
 obtain⟨a,cap,rfl,h1,h2,h3⟩:=h.inv_sl
 rw[Yc0]at h2 ⊢
 refine⟨a,cap,rfl,h2,h1,?_⟩
 rcases h3 with h3|⟨b,off,k,rfl,h4,h5⟩
 ·exact .inl (by simpa using congrArg List.length h3)
 ·by_cases h0:l.length=0
  ·exact .inl h0
  ·refine .inr ⟨b,off,rfl,?_,fun i x hi=>?_⟩
   ·obtain⟨x,hx⟩:∃ x,l[0]? =some x:=⟨_,Ya0 (by omega)⟩
    obtain⟨u,_,hc,_⟩:=h5 0 0 (dI x) (Zal.2 ⟨[dI x],by simp[hx],rfl⟩)
    exact Zf1 hc
   ·have hk:k=1:=by rw[← h4 i [dI x] (by simp[hi])];rfl
    subst hk
    refine⟨[I x],rfl,rfl,fun j u hu=>?_⟩
    cases j with
    | zero =>
      simp at hu
      subst hu
      obtain⟨u,_,hc,hr⟩:=h5 i 0 (dI x) (Zal.2 ⟨[dI x],by simp[hi],rfl⟩)
      rw[hc,hr.inv_v]
    | succ j=>simp at hu
theorem Zli(h:ZaK w v l)(hS:∀ b o,v.ownBlock=some b→S b o):Rep noB noM S w v (Zab l):=by
 obtain⟨a,cap,rfl,h1,h2,h3⟩:=h
 have e:(l.map fun x=>[dI x]).length=l.length:=by simp
 rcases h3 with h3|⟨b,off,rfl,h4,h5⟩
 ·have:l=[]:=Ya9 h3
  subst this
  exact .sl0 _ _ h2
 ·show Rep noB noM S w _ (.sl (l.map fun x=>[dI x]))
  rw[← e]
  refine ZmA (k:=1) ⟨fun i e he=>?_,fun i j d hd=>?_⟩ (by simpa using h1) h2
  ·rw[Yb8]at he
   cases hq:l[i]? with
   | none=>rw[hq]at he;cases he
   | some x=>rw[hq]at he;simp at he;subst he;rfl
  ·obtain⟨e,he,hj⟩:=Zal.1 hd
   rw[Yb8]at he
   cases hq:l[i]? with
   | none=>rw[hq]at he;cases he
   | some x =>
     rw[hq]at he
     simp at he
     subst he
     cases j with
     | zero =>
       simp at hj
       subst hj
       obtain⟨cs,hr,_,hc⟩:=h5 i x hq
       have:=hc 0 (I x) (by rw[hr];rfl)
       exact⟨I x,hS b _ rfl,this,.v _⟩
     | succ j=>simp at hj
theorem ZfV{B:Nat}(h:Owns w B v l)(hf:∀ b o,B≤b→S b o):Rep noB noM S w v (Zab l):=by
 refine Zli h.ints fun b o hb=>hf b o ?_
 rcases h.2 with⟨rfl,_⟩|⟨g,cap,cur,rfl,hg,_⟩
 ·cases hb
 ·simp[Value.ownBlock]at hb;omega
theorem ZqD{d:D}{vs:List Value}(h:Reps noB noM S w vs [d]):∃ v,vs=[v]∧Rep noB noM S w v d:=by
 match vs,h with
 | [v],h=>exact⟨v,rfl,h.2 0 v d rfl rfl⟩
 | [],h=>exact absurd h.1 (by simp)
 | _ ::_ ::_,h=>exact absurd h.1 (by simp)
theorem Zuj{d e:D}{vs:List Value}(h:Reps noB noM S w vs [d,e]):∃ v u,vs=[v,u]∧Rep noB noM S w v d∧Rep noB noM S w u e:=by
 match vs,h with
 | [v,u],h=>exact⟨v,u,rfl,h.2 0 v d rfl rfl,h.2 1 u e rfl rfl⟩
 | [],h=>exact absurd h.1 (by simp)
 | [_],h=>exact absurd h.1 (by simp)
 | _ ::_ ::_ ::_,h=>exact absurd h.1 (by simp)
theorem Zrw{x:BigD}(h:Rep noB noM S w v (encB x)):BigV w v x:=by
 obtain⟨vs,rfl,h1,h2⟩:=h.inv_agg
 obtain⟨a,d,rfl,h3,h4⟩:=Zuj ⟨h1,h2⟩
 exact⟨d,by rw[h3.inv_v],Zbz h4⟩
theorem Zkb{f:Zag}(h:Rep noB noM S w v (encF f)):Zg3 w v f:=by
 obtain⟨vs,rfl,h1,h2⟩:=h.inv_agg
 match vs,h1,h2 with
 | [a,b,c,d],h1,h2 =>
   have e1:=(h2 0 a _ rfl rfl).inv_v
   have e2:=(h2 2 c _ rfl rfl).inv_v
   subst e1;subst e2
   exact⟨b,d,rfl,Zbz (h2 1 b _ rfl rfl),Zbz (h2 3 d _ rfl rfl)⟩
theorem Zj4(h:ZaK w v l)(ht:Zga w v)(hS:Zgc S w):Rep noB noM S w v (Zab l) :=
 Zli h fun b o hb=>let ⟨cs,fr,hc⟩:=ht b hb;hS b cs fr o hc
theorem Zo3{f:Zag}(h:Zfh w v f)(hS:Zgc S w):Rep noB noM S w v (encF f):=by
 obtain⟨d,e,rfl,h1,h2,h3,h4⟩:=h
 exact(Reps.cons (.v _) (Reps.cons (Zj4 h1 h3 hS) (Reps.cons (.v _) (Reps.cons (Zj4 h2 h4 hS) Reps.nil)))).rep_agg
theorem Zn0{w':World}(hb:Below w.heap.size w w')(hf:∀ b o,w.heap.size≤b→S b o)(hi:Zgc S w):Zgc S w':=by
 intro b cs fr o h
 rcases Nat.lt_or_ge b w.heap.size with hlt|hge
 ·exact hi b cs fr o (by rw[← hb.block b hlt];exact h)
 ·exact hf b o hge
end
section
variable {f:FuncId} {P:Program}
theorem ZAO{a b:Zag}{r:Zag}{k:Int}(hb:ZfK P f)(h:∀ w v u,Zg3 w v a→Zg3 w u b→Calls P f #[v,u] w (Zov w r k)):Zah P f [encF a,encF b] (.tup [encF r,dI k]):=by
 refine⟨hb,fun S w vs hf hi hvs=>?_⟩
 obtain⟨v,u,rfl,h1,h2⟩:=Zuj hvs
 refine(h w v u (Zkb h1) (Zkb h2)).mono ?_
 rintro e w' ⟨x,rfl,⟨y,rfl,h3⟩,h4⟩
 exact⟨_,rfl,h4,(Reps.cons (Zo3 h3 (Zn0 h4 hf hi)) (Reps.cons (.v _) Reps.nil)).rep_tup⟩
theorem Zrs{a b r:List Int}(hb:ZfK P f)(h:∀ w v u,ZaK w v a→ZaK w u b→Calls P f #[v,u] w (ZjY w r)):Zaa P f [Zab a,Zab b] (Zab r):=by
 refine⟨hb,fun S w vs hf hvs=>?_⟩
 obtain⟨v,u,rfl,h1,h2⟩:=Zuj hvs
 refine(h w v u (Zbz h1) (Zbz h2)).mono ?_
 rintro e w' ⟨x,rfl,h3,h4⟩
 exact⟨_,rfl,h4,ZfV h3 hf⟩
theorem ZDw{a r:List Int}(hb:ZfK P f)(h:∀ w v,ZaK w v a→Calls P f #[v] w (ZjY w r)):Zaa P f [Zab a] (Zab r):=by
 refine⟨hb,fun S w vs hf hvs=>?_⟩
 obtain⟨v,rfl,h1⟩:=ZqD hvs
 refine(h w v (Zbz h1)).mono ?_
 rintro e w' ⟨x,rfl,h3,h4⟩
 exact⟨_,rfl,h4,ZfV h3 hf⟩
end
theorem ZE3(a b:Rat)(za:(szQ a:Int)≤549755813888)(zb:(szQ b:Int)≤549755813888):Zah Tryz.prog 115 [encF (ofQ a),encF (ofQ b)] (.tup [encF (ofQ (maxQ a b)),dI 0]) :=
 ZAO ⟨_,_,Tryz.func115,rfl,by kernel_rfl⟩ fun w v u h1 h2=>ZFB a b v u w h1 h2 za zb
attribute [go_sem] ZzC ZCw Zuu ZDa ZDd ZDb ZDc Zt2 Zt3 ZuZ Zu0 Zzc ZCe Zuf ZAh ZAk ZAi ZAj Zt4 Zt5 opF Zg2 rd Zg1 putT ZaF Zfw ZAl Zxz Zeg Zm6 ZjK ZhP ZcA Zm0 Zms Zfk Zgn Znb ZlQ Zc6 ZlV Zl2 Zdx lenF ZgU Zf8 Zia Zhx boxF ldE ZbL Zdu D.cells? D.isCell Res.pure ov TyI.agg binD unD Zyr Zkq ZtR Zhn argD ZeO Zo5 Zb4 ZbZ datJ ZuX ZAx Zrn ZxX ZzG ZzF Zuw ZwJ ZhH resD fzT Value.oneCell' ZhF tabT tabM
attribute [go_sem] List.map Nat.reduceEqDiff Nat.reduceBEq List.getElem?_cons_zero List.getElem?_cons_succ List.getElem?_nil Option.getD_some Option.getD_none true_and and_true true_or or_true false_or or_false and_self Nat.add_zero Nat.zero_add List.length_nil List.length_cons forall_const ite_true ite_false Bool.or_self Bool.false_eq_true Yd0 Option.map_none beq_self_eq_true Nat.reduceAdd Nat.reduceSub Nat.reduceMul reduceCtorEq List.getElem?_toArray Bool.not_true Bool.not_false decide_eq_true_eq decide_true decide_false Nat.reduceLeDiff Nat.reduceLT Bool.or_false Bool.or_true Bool.and_true Bool.and_false Bool.false_and Bool.true_and Bool.true_beq Bool.false_beq beq_true beq_false Bool.not_eq_true List.drop_succ_cons List.take_succ_cons List.drop_zero List.take_zero Yc0 Yb8 Yb9 List.all_cons List.all_nil List.append_nil Yc8 Yc9 List.set_cons_zero List.set_cons_succ Int.toNat_natCast Int.toNat_zero Option.isSome_some Option.isSome_none Array.size_empty ByteArray.size_empty Int.reduceToNat Int.reduceAdd Int.reduceSub Int.reduceLT Int.reduceLE Int.reduceEq Int.reduceNe Int.reduceBEq Int.reduceNeg List.forall_mem_cons List.not_mem_nil false_implies List.forall_mem_map implies_true Nat.reduceBNe Int.cast_ofNat_Int Int.reduceMul Int.reduceGE Int.reduceGT Zax ty_3 ty_4 ty_22 ty_23 ty_24 ty_25 ty_26 ty_28 ty_29 ty_30 ty_32 ZDX ty_39 ZBM ty_51 ZDW ty_54 ty_58 ty_65 ty_68 ty_72 ty_76 ty_85 ty_88 ty_90 ty_97 ty_99 ZEe ZEd ZEc ZEb ZEa ZD9 ZD8 ZD7 ZD6 ZD5 ZD4 ZD3 ZD2 ZD1 ZD0 ZDZ ZDY
section
variable {P:Program} {f:FuncId} {fn:Func} {c:Code} {ds:List D} {d:D} {n:Nat}
theorem inC(hf:P.funcs[f]? =some fn)(hb:fn.body=some c)(hn:fn.ntmps=n)(h:@AWP Ifl.on P n c (endA P fn fun d' m' _=>fzT true m' 8 d'=d) ⟨Zkq ds,noM,0,0⟩)
 (h1 : (fn.name == "runtime.NumGoroutine") = false := by kernel_rfl) (h2 : decide (ds.length ≤ fn.ntmps) = true := by kernel_rfl) (h3 : fn.results.toList.all (Zkr fn.ntmps) = true := by kernel_rfl) : Zah P f ds d := by
 subst hn
 exact Zah.ofA (ZaM.inline hf hb h1 h2 h3 h)
theorem inN(hf:P.funcs[f]? =some fn)(hb:fn.body=some c)(hn:fn.ntmps=n)(h:∀ I:Ifl,@AWP I P n c (endA P fn fun d' m' _=>fzT true m' 8 d'=d) ⟨Zkq ds,noM,0,0⟩)
 (h1 : (fn.name == "runtime.NumGoroutine") = false := by kernel_rfl) (h2 : decide (ds.length ≤ fn.ntmps) = true := by kernel_rfl) (h3 : fn.results.toList.all (Zkr fn.ntmps) = true := by kernel_rfl) : Zaa P f ds d := by
 subst hn
 exact Zaa.ofA fun I=>ZaM.inline hf hb h1 h2 h3 (h I)
theorem inA[Ifl]{m:Mem}{nx:Nat}{K:D→Mem→Nat→Prop}(hf:P.funcs[f]? =some fn)(hb:fn.body=some c)(hn:fn.ntmps=n)(h:AWP P n c (endA P fn K) ⟨Zkq ds,m,nx,nx⟩)
 (h1 : (fn.name == "runtime.NumGoroutine") = false := by kernel_rfl) (h2 : decide (ds.length ≤ fn.ntmps) = true := by kernel_rfl) (h3 : fn.results.toList.all (Zkr fn.ntmps) = true := by kernel_rfl) : ZaM P f ds m nx K := by
 subst hn
 exact ZaM.inline hf hb h1 h2 h3 h
end
theorem getE{α:Type}{l:List α}{k:Nat}(h:k<l.length):∃ e,l[k]? =some e:=⟨_,Ya0 h⟩
theorem ZtM(i:Nat)(h:(i:Int)<9223372036854775807:=by omega):IntKind.i64.wrap ((i:Int)+1)=(i:Int)+1:=Zax (by omega) (by omega)
theorem ZaO(i:Nat)(h:(i:Int)<9223372036854775807:=by omega):IntKind.i64.wrap ((i:Int)+1)=(i:Int)+1∧(0:Int)≤i:=⟨ZtM i h,by omega⟩
end Go.Proofs.YtjeaacindikplaaGreat
