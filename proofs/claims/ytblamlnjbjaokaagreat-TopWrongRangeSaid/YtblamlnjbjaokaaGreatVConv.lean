/-
  The walk over data: the rules ax they are used.
-/
import Derived.Test.YtblamlnjbjaokaaGreatVLib
import Derived.Test.YtblamlnjbjaokaaGreatVDataB
import Derived.Test.YtblamlnjbjaokaaGreatRows
import Derived.Test.YtblamlnjbjaokaaGreatVDigits
import Derived.Test.YtblamlnjbjaokaaGreatVFrac
namespace Go.Proofs.YtblamlnjbjaokaaGreat
set_option linter.unusedVariables false
set_option linter.unusedSimpArgs false
set_option linter.unusedSectionVars false
open Go Go.RowKit
section ifl
variable [Ifl]
def gOf(d:D)(k:Nat)(want:Bool):Option (Nat×Bool) :=
 match d with
 | .v (.bool b)=>some (k,b)
 | .v (.tuple _)=>some (k,!want)
 | _=>none
theorem Zu1(b:Bool)(k:Nat)(want:Bool):gOf (.v (.bool b)) k want=some (k,b):=rfl
theorem Zsx(k:Nat)(want:Bool):gOf (.v undef) k want=some (k,!want):=rfl
def ZdM(ds:List (Option Tmp))(g:Nat×Bool)(t:Nat→D):Option (Nat×Bool) :=
 match ds[g.1]? with
 | some (some k)=>gOf (t k) k g.2
 | _=>none
structure SOp where
 dst:Option Tmp
 op:Op
 guard:Option (Nat×Bool)
def ZfB(o:Oper):SOp:=⟨o.dst,o.op,o.guard⟩
def opS(P:Program)(o:SOp)(s:St)(K:St→Prop):Prop :=
 match opF P o.op s.t s.m s.nx with
 | some r=>r.ok∧(r.new=[]∨r.new=[s.nx])∧K {s with t:=putT s.t o.dst r.d,m:=ov s.m r.wr,nx:=s.nx+r.new.length}
 | none=>match Zfo o.op s.t with
   | some (f,ds)=>Zas P f ds s.m s.nx fun d m' nx'=>K {s with t:=putT s.t o.dst d,m:=m',nx:=nx'}
   | none=>False
def opE(P:Program)(o:SOp)(s:St)(K:Ev→St→Prop):Prop :=
 match opF P o.op s.t s.m s.nx with
 | some r => r.ok ∧ (r.new = [] ∨ r.new = [s.nx]) ∧ r.wr.all (fun p => decide (p.1 < s.nx + r.new.length)) = true ∧
     K ⟨r.d,r.rd++r.new++r.wr.map (·.1),r.wr,false⟩ {s with t:=putT s.t o.dst r.d,m:=ov s.m r.wr,nx:=s.nx+r.new.length}
 | none=>match Zfo o.op s.t with
   | some (f,ds)=>ZvA P f ds s.m s.nx fun ev n'=>K ev {s with t:=putT s.t o.dst ev.d,m:=ov s.m ev.wr,nx:=n'}
   | none=>False
def opsL(P:Program)(ds:List (Option Tmp)):List SOp→St→(St→Prop)→Prop
 | [],s,K=>K s
 | o ::rest,s,K=>match o.guard with
   | none=>opS P o s fun s'=>opsL P ds rest s' K
   | some g=>match ZdM ds g s.t with
     | some p=>match p.2,g.2 with
       | true,true|false,false=>opS P o s fun s'=>opsL P ds rest s' K
       | true,false|false,true=>opsL P ds rest {s with t:=putT s.t o.dst (.v undef)} K
     | none=>False
def runL(P:Program)(ds:List (Option Tmp)):List SOp→St→List Ev→(List Ev→St→Prop)→Prop
 | [],s,tr,K=>K tr s
 | o ::rest,s,tr,K=>match o.guard with
   | none=>opE P o s fun ev s'=>runL P ds rest s' (tr++[ev]) K
   | some g=>match ZdM ds g s.t with
     | some p=>match p.2,g.2 with
       | true,true|false,false=>opE P o s fun ev s'=>runL P ds rest s' (tr++[ev]) K
       | true,false|false,true=>runL P ds rest {s with t:=putT s.t o.dst (.v undef)} (tr++[⟨.v undef,[],[],false⟩]) K
     | none=>False
theorem Zl5{ops:Array Oper}{o:Oper}{t:Nat→D}{g:Nat×Bool}(hg:o.guard=some g){p:Nat×Bool}(h:ZdM (ops.toList.map (·.dst)) g t=some p):Zev ops o t=some (p.2==g.2):=by
 unfold ZdM at h
 unfold Zev
 rw[hg]
 obtain⟨j,want⟩:=g
 simp only[Yb8,Array.getElem?_toList]at h
 cases hq:ops[j]? with
 | none=>rw[hq]at h;cases h
 | some q =>
   rw[hq]at h
   simp only[Yd0]at h
   cases hd:q.dst with
   | none=>rw[hd]at h;cases h
   | some k =>
     rw[hd]at h
     simp only[gOf]at h
     split at h
     ·rename_i b hb
      simp only[Ya1]at h
      subst h
      simp[hq,hd,hb]
     ·rename_i u hb
      simp only[Ya1]at h
      subst h
      simp[hq,hd,hb]
     ·cases h
theorem Zka{P:Program}{o:Oper}{s:St}{K K':St→Prop}(h:∀ s,K s→K' s)(hA:opA P o s K):opA P o s K':=by
 unfold opA at hA ⊢
 split at hA
 ·exact⟨hA.1,hA.2.1,h _ hA.2.2⟩
 ·split at hA
  ·rename_i f ds hc
   refine⟨hA.1,fun E β w vs h1 h2=>(hA.2 E β w vs h1 h2).mono ?_⟩
   rintro e w' ⟨v,d,m',nx',h3,h4,h5⟩
   exact⟨v,d,m',nx',h3,h4,h _ h5⟩
  ·exact hA.elim
theorem Zcw{P:Program}{ops:Array Oper}{K:St→Prop}:∀ (l:List Oper)(s:St),opsL P (ops.toList.map (·.dst)) (l.map ZfB) s K→opsA P ops l s K
 | [],s,h=>h
 | o ::rest,s,h=>by
   rw[List.map_cons]at h
   unfold opsL at h
   unfold opsA
   simp only[ZfB]at h
   split at h
   ·rename_i hg
    have:Zev ops o s.t=some true:=by unfold Zev;rw[hg]
    rw[this]
    exact⟨fun _=>Zka (fun s' h'=>Zcw rest s' h') h,fun e=>by cases e⟩
   ·rename_i g hg
    split at h
    ·rename_i p hp
     have h1:=Zl5 hg hp
     rw[h1]
     obtain⟨k,b⟩:=p
     obtain⟨j,want⟩:=g
     simp only at h ⊢
     cases b<;>cases want<;>simp only[beq_self_eq_true]at h ⊢
     ·exact⟨fun _=>Zka (fun s' h'=>Zcw rest s' h') h,fun e=>by cases e⟩
     ·exact⟨fun e=>(by cases e),fun _=>Zcw rest _ h⟩
     ·exact⟨fun e=>(by cases e),fun _=>Zcw rest _ h⟩
     ·exact⟨fun _=>Zka (fun s' h'=>Zcw rest s' h') h,fun e=>by cases e⟩
    ·exact h.elim
theorem Zj9{P:Program}{o:Oper}{s:St}{K K':Ev→St→Prop}(h:∀ e s,K e s→K' e s)(hA:opE P (ZfB o) s K):opD P o s K':=by
 unfold opE at hA
 unfold opD
 simp only[ZfB]at hA
 split at hA
 ·rename_i r hr;rw[hr];exact⟨hA.1,hA.2.1,hA.2.2.1,h _ _ hA.2.2.2⟩
 ·rename_i hr
  rw[hr]
  split at hA
  ·rename_i f ds hc
   rw[hc]
   rcases hA with⟨d,b,h1,h2,h3⟩|⟨ev,n',h1,h3⟩
   ·exact .inl ⟨d,b,h1,h2,h _ _ h3⟩
   ·exact .inr ⟨ev,n',h1,h _ _ h3⟩
  ·exact hA.elim
theorem ZdD{P:Program}{ops:Array Oper}{K:List Ev→St→Prop}:∀ (l:List Oper)(s:St)(tr:List Ev),runL P (ops.toList.map (·.dst)) (l.map ZfB) s tr K→runD P ops l s tr K
 | [],s,tr,h=>h
 | o ::rest,s,tr,h=>by
   rw[List.map_cons]at h
   unfold runL at h
   unfold runD
   simp only[show(ZfB o).guard=o.guard from rfl,show(ZfB o).dst=o.dst from rfl]at h
   split at h
   ·rename_i hg
    have:Zev ops o s.t=some true:=by unfold Zev;rw[hg]
    rw[this]
    exact⟨fun _=>Zj9 (fun ev s' h'=>ZdD rest s' _ h') h,fun e=>by cases e⟩
   ·rename_i g hg
    split at h
    ·rename_i p hp
     have h1:=Zl5 hg hp
     rw[h1]
     obtain⟨k,b⟩:=p
     obtain⟨j,want⟩:=g
     simp only at h ⊢
     cases b<;>cases want<;>simp only[beq_self_eq_true]at h ⊢
     ·exact⟨fun _=>Zj9 (fun ev s' h'=>ZdD rest s' _ h') h,fun e=>by cases e⟩
     ·exact⟨fun e=>(by cases e),fun _=>ZdD rest _ _ h⟩
     ·exact⟨fun e=>(by cases e),fun _=>ZdD rest _ _ h⟩
     ·exact⟨fun _=>Zj9 (fun ev s' h'=>ZdD rest s' _ h') h,fun e=>by cases e⟩
    ·exact h.elim
section
variable {P:Program} {n:Nat} {Q:Exit→St→Prop} {s:St}
theorem aOps{id:Nat}{l:List Oper}(ds:List (Option Tmp))(hds:l.map (·.dst)=ds)(hf:l.toArray.all (ZaY n)=true)(h:opsL P ds (l.map ZfB) s (Q .normal)):AWP P n (.region id l.toArray false) Q s :=
 Zx0 hf (Zcw (ops:=l.toArray) l s (by subst hds;exact h))
theorem aRun{id:Nat}{l:List Oper}(ds:List (Option Tmp))(hds:l.map (·.dst)=ds)(hm:P.follows .mixedOrders=true)(hd:Zqq l.toArray=true)(hf:l.toArray.all (ZaY n)=true)
 (h:runL P ds (l.map ZfB) s [] fun tr s'=>Zf9 l.toArray (tr.map fun e=>(e.touch,ids e.wr))=true∧Zhc l.toArray s.m tr∧Q .normal s'):AWP P n (.region id l.toArray true) Q s :=
 aDraw hm hd hf (ZdD (ops:=l.toArray) l s [] (by subst hds;exact h))
end
theorem Zak{α:Type}(f:Nat→α)(k:Nat)(x:α)(j:Nat):upd f k x j=if j=k then x else f j:=rfl
section
variable (P:Program) (ds:List (Option Tmp)) (K:St→Prop) (KE:List Ev→St→Prop) (t:Nat→D) (m:Mem) (nx lo:Nat) (rest:List SOp) (dst:Option Tmp) (op:Op) (tr:List Ev)
def Zlk(x:Option Res)(o:SOp)(rest:List SOp)(s:St)(K:St→Prop):Prop :=
 match x with
 | some r=>r.ok∧(r.new=[]∨r.new=[s.nx])∧opsL P ds rest {s with t:=putT s.t o.dst r.d,m:=ov s.m r.wr,nx:=s.nx+r.new.length} K
 | none=>match Zfo o.op s.t with
   | some (f,ds')=>Zas P f ds' s.m s.nx fun d m' nx'=>opsL P ds rest {s with t:=putT s.t o.dst d,m:=m',nx:=nx'} K
   | none=>False
def gSel(x:Option (Nat×Bool))(want:Bool)(o:SOp)(rest:List SOp)(s:St)(K:St→Prop):Prop :=
 match x with
 | some p=>match p.2,want with
   | true,true|false,false=>Zlk P ds (opF P o.op s.t s.m s.nx) o rest s K
   | true,false|false,true=>opsL P ds rest {s with t:=putT s.t o.dst (.v undef)} K
 | none=>False
def ZxR(x:Option (FuncId×List D))(dst:Option Tmp)(rest:List SOp)(s:St)(K:St→Prop):Prop :=
 match x with
 | some (f,ds')=>Zas P f ds' s.m s.nx fun d m' nx'=>opsL P ds rest {s with t:=putT s.t dst d,m:=m',nx:=nx'} K
 | none=>False
theorem Zud(s:St):opsL P ds [] s K=K s:=rfl
theorem ZwK:opsL P ds (⟨dst,op,none⟩ ::rest) ⟨t,m,nx,lo⟩ K=Zlk P ds (opF P op t m nx) ⟨dst,op,none⟩ rest ⟨t,m,nx,lo⟩ K:=by
 unfold opsL Zlk opS
 rfl
theorem ZpU(j:Nat)(want:Bool):opsL P ds (⟨dst,op,some (j,want)⟩ ::rest) ⟨t,m,nx,lo⟩ K=gSel P ds (ZdM ds (j,want) t) want ⟨dst,op,some (j,want)⟩ rest ⟨t,m,nx,lo⟩ K:=by
 rw[opsL]
 unfold gSel Zlk
 simp only
 cases ZdM ds (j,want) t with
 | none=>rfl
 | some p=>obtain⟨k,b⟩:=p;cases b<;>cases want<;>rfl
theorem Zxx(k:Nat)(o:SOp):gSel P ds (some (k,true)) true o rest ⟨t,m,nx,lo⟩ K=Zlk P ds (opF P o.op t m nx) o rest ⟨t,m,nx,lo⟩ K:=rfl
theorem ZxA(k:Nat)(o:SOp):gSel P ds (some (k,false)) false o rest ⟨t,m,nx,lo⟩ K=Zlk P ds (opF P o.op t m nx) o rest ⟨t,m,nx,lo⟩ K:=rfl
theorem Zxy(k:Nat)(o:SOp):gSel P ds (some (k,true)) false o rest ⟨t,m,nx,lo⟩ K=opsL P ds rest ⟨putT t o.dst (.v undef),m,nx,lo⟩ K:=rfl
theorem Zxz(k:Nat)(o:SOp):gSel P ds (some (k,false)) true o rest ⟨t,m,nx,lo⟩ K=opsL P ds rest ⟨putT t o.dst (.v undef),m,nx,lo⟩ K:=rfl
theorem Zpu(ok:Prop)(d:D)(r:List Nat)(wr:List (Nat×Blk))(new:List Nat)(o:SOp):Zlk P ds (some ⟨ok,d,r,wr,new⟩) o rest ⟨t,m,nx,lo⟩ K=(ok∧(new=[]∨new=[nx])∧opsL P ds rest ⟨putT t o.dst d,ov m wr,nx+new.length,lo⟩ K):=rfl
theorem Zpv(o:SOp):Zlk P ds none o rest ⟨t,m,nx,lo⟩ K=ZxR P ds (Zfo o.op t) o.dst rest ⟨t,m,nx,lo⟩ K:=rfl
def ZmV(x:Option Res)(o:SOp)(rest:List SOp)(s:St)(tr:List Ev)(K:List Ev→St→Prop):Prop :=
 match x with
 | some r => r.ok ∧ (r.new = [] ∨ r.new = [s.nx]) ∧ r.wr.all (fun p => decide (p.1 < s.nx + r.new.length)) = true ∧
     runL P ds rest {s with t:=putT s.t o.dst r.d,m:=ov s.m r.wr,nx:=s.nx+r.new.length} (tr++[⟨r.d,r.rd++r.new++r.wr.map (·.1),r.wr,false⟩]) K
 | none=>match Zfo o.op s.t with
   | some (f,ds')=>ZvA P f ds' s.m s.nx fun ev n'=>runL P ds rest {s with t:=putT s.t o.dst ev.d,m:=ov s.m ev.wr,nx:=n'} (tr++[ev]) K
   | none=>False
def Zqk(x:Option (Nat×Bool))(want:Bool)(o:SOp)(rest:List SOp)(s:St)(tr:List Ev)(K:List Ev→St→Prop):Prop :=
 match x with
 | some p=>match p.2,want with
   | true,true|false,false=>ZmV P ds (opF P o.op s.t s.m s.nx) o rest s tr K
   | true,false|false,true=>runL P ds rest {s with t:=putT s.t o.dst (.v undef)} (tr++[⟨.v undef,[],[],false⟩]) K
 | none=>False
def ZxS(x:Option (FuncId×List D))(dst:Option Tmp)(rest:List SOp)(s:St)(tr:List Ev)(K:List Ev→St→Prop):Prop :=
 match x with
 | some (f,ds')=>ZvA P f ds' s.m s.nx fun ev n'=>runL P ds rest {s with t:=putT s.t dst ev.d,m:=ov s.m ev.wr,nx:=n'} (tr++[ev]) K
 | none=>False
theorem ZtW(s:St):runL P ds [] s tr KE=KE tr s:=rfl
theorem Zwz:runL P ds (⟨dst,op,none⟩ ::rest) ⟨t,m,nx,lo⟩ tr KE=ZmV P ds (opF P op t m nx) ⟨dst,op,none⟩ rest ⟨t,m,nx,lo⟩ tr KE:=by
 rw[runL];rfl
theorem ZpF(j:Nat)(want:Bool):runL P ds (⟨dst,op,some (j,want)⟩ ::rest) ⟨t,m,nx,lo⟩ tr KE=Zqk P ds (ZdM ds (j,want) t) want ⟨dst,op,some (j,want)⟩ rest ⟨t,m,nx,lo⟩ tr KE:=by
 rw[runL]
 unfold Zqk ZmV
 simp only
 cases ZdM ds (j,want) t with
 | none=>rfl
 | some p=>obtain⟨k,b⟩:=p;cases b<;>cases want<;>rfl
theorem ZuX(k:Nat)(o:SOp):Zqk P ds (some (k,true)) true o rest ⟨t,m,nx,lo⟩ tr KE=ZmV P ds (opF P o.op t m nx) o rest ⟨t,m,nx,lo⟩ tr KE:=rfl
theorem Zu0(k:Nat)(o:SOp):Zqk P ds (some (k,false)) false o rest ⟨t,m,nx,lo⟩ tr KE=ZmV P ds (opF P o.op t m nx) o rest ⟨t,m,nx,lo⟩ tr KE:=rfl
theorem ZuY(k:Nat)(o:SOp):Zqk P ds (some (k,true)) false o rest ⟨t,m,nx,lo⟩ tr KE=runL P ds rest ⟨putT t o.dst (.v undef),m,nx,lo⟩ (tr++[⟨.v undef,[],[],false⟩]) KE:=rfl
theorem ZuZ(k:Nat)(o:SOp):Zqk P ds (some (k,false)) true o rest ⟨t,m,nx,lo⟩ tr KE=runL P ds rest ⟨putT t o.dst (.v undef),m,nx,lo⟩ (tr++[⟨.v undef,[],[],false⟩]) KE:=rfl
theorem Zpw(ok:Prop)(d:D)(r:List Nat)(wr:List (Nat×Blk))(new:List Nat)(o:SOp):ZmV P ds (some ⟨ok,d,r,wr,new⟩) o rest ⟨t,m,nx,lo⟩ tr KE =
 (ok∧(new=[]∨new=[nx])∧wr.all (fun p=>decide (p.1<nx+new.length))=true∧runL P ds rest ⟨putT t o.dst d,ov m wr,nx+new.length,lo⟩ (tr++[⟨d,r++new++wr.map (·.1),wr,false⟩]) KE):=rfl
theorem Zpx(o:SOp):ZmV P ds none o rest ⟨t,m,nx,lo⟩ tr KE=ZxS P ds (Zfo o.op t) o.dst rest ⟨t,m,nx,lo⟩ tr KE:=rfl
end
section
variable {P:Program} {ds:List (Option Tmp)} {K:St→Prop} {KE:List Ev→St→Prop} {t:Nat→D} {m:Mem} {nx lo:Nat} {rest:List SOp} {dst:Option Tmp} {tr:List Ev} {f:FuncId} {ax ax':List D} {d:D}
theorem Zbb{n:Int}(h1 : -9223372036854775808≤n)(h2:n≤9223372036854775807):IntKind.i64.wrap n=n:=by rw[IntKind.wrap_i64];omega
def Zgl(S:List Nat)(m:Mem):Prop:=Ifl.i=true∧∀ id b,S.contains id=false→m id=some b→b.T=3→b.dead=true
theorem Zcm{m:Mem}(h:Zgl [] m):Zbr m:=⟨h.1,fun id b hb hT=>h.2 id b rfl hb hT⟩
theorem Zbq(S:List Nat):@Zgl Ifl.on S noM:=⟨rfl,fun _ _ _ h=>by cases h⟩
theorem Zbp{S:List Nat}{m:Mem}{id T ver k fz:Nat}{es:List (List D)}{dead:Bool}(hb:(S.contains id || !(T==3 && !dead))=true)(h:Zgl (id ::S) m):Zgl S (upd m id (some ⟨T,ver,k,es,fz,dead⟩)):=by
 refine⟨h.1,fun i b hS hi hT=>?_⟩
 by_cases e:i=id
 ·subst e
  rw[Zab]at hi
  simp only[Ya1]at hi
  subst hi
  rw[hS,Bool.false_or,Bool.not_eq_true']at hb
  simp only at hT
  subst hT
  simpa using hb
 ·rw[Zad _ _ e]at hi
  refine h.2 i b ?_ hi hT
  rw[List.contains_cons,hS,Bool.or_false]
  simpa using e
theorem Zar:@Zbr Ifl.on noM:=⟨rfl,fun _ _ h=>by cases h⟩
theorem Zal{id T ver k fz:Nat}{es:List (List D)}{dead:Bool}(hb:(T==3 && !dead)=false)(h:Zbr m):Zbr (upd m id (some ⟨T,ver,k,es,fz,dead⟩)):=by
 refine⟨h.1,fun i b hi hT=>?_⟩
 unfold upd at hi
 split at hi
 ·cases hi
  have hT':T=3:=hT
  subst hT'
  cases dead
  ·cases hb
  ·rfl
 ·exact h.2 i b hi hT
end
end ifl
section ifl
variable [Ifl]
section
variable {P:Program} {n:Nat} {Q:Exit→St→Prop} {s:St}
theorem ZdZ{c:Operand}{x y:Code}(hf:Zc5 n c=true)(hc:rd s.t c = .v (.bool true))(h:AWP P n x Q s):AWP P n (.cond c x y) Q s:=ZzM hf hc (fun _=>h) (fun e=>by cases e)
theorem Zd0{c:Operand}{x y:Code}(hf:Zc5 n c=true)(hc:rd s.t c = .v (.bool false))(h:AWP P n y Q s):AWP P n (.cond c x y) Q s:=ZzM hf hc (fun e=>by cases e) (fun _=>h)
end
def Ztd(P:Program)(ds:List (Option Tmp))(f:FuncId)(ax:List D)(kw:List (Nat×Blk))(m':Mem)(x:List D)(dst:Option Tmp)(rest:List SOp)(s:St)(K:St→Prop):Prop :=
 kw=Zbm (Za5 ax) s.m→m'=ov s.m kw→x=ZcB m' ax→ZxR P ds (some (f,ax)) dst rest s K
theorem Zqy(P:Program)(ds:List (Option Tmp))(f:FuncId)(ax:List D)(dst:Option Tmp)(rest:List SOp)(t:Nat→D)(m:Mem)(nx lo:Nat)(K:St→Prop) :
 ZxR P ds (some (f,ax)) dst rest ⟨t,m,nx,lo⟩ K=Ztd P ds f ax (Zbm (Za5 ax) m) (ov m (Zbm (Za5 ax) m)) (ZcB (ov m (Zbm (Za5 ax) m)) ax) dst rest ⟨t,m,nx,lo⟩ K :=
 propext ⟨fun h _ _ _=>h,fun h=>h rfl rfl rfl⟩
def Zvp(P:Program)(ds:List (Option Tmp))(f:FuncId)(ax:List D)(rf:List Nat)(kw:List (Nat×Blk))(m':Mem)(x:List D)(dst:Option Tmp)(rest:List SOp)(s:St)(tr:List Ev)(K:List Ev→St→Prop):Prop :=
 rf=Za5 ax→kw=Zbm rf s.m→m'=ov s.m kw→x=ZcB m' ax→ZxS P ds (some (f,ax)) dst rest s tr K
theorem Zqz(P:Program)(ds:List (Option Tmp))(f:FuncId)(ax:List D)(dst:Option Tmp)(rest:List SOp)(t:Nat→D)(m:Mem)(nx lo:Nat)(tr:List Ev)(K:List Ev→St→Prop) :
 ZxS P ds (some (f,ax)) dst rest ⟨t,m,nx,lo⟩ tr K=Zvp P ds f ax (Za5 ax) (Zbm (Za5 ax) m) (ov m (Zbm (Za5 ax) m)) (ZcB (ov m (Zbm (Za5 ax) m)) ax) dst rest ⟨t,m,nx,lo⟩ tr K :=
 propext ⟨fun h _ _ _ _=>h,fun h=>h rfl rfl rfl rfl⟩
section
variable {P:Program} {ds:List (Option Tmp)} {K:St→Prop} {KE:List Ev→St→Prop} {t:Nat→D} {m m':Mem} {nx lo:Nat} {rest:List SOp} {dst:Option Tmp} {tr:List Ev} {f:FuncId} {ax ax':List D} {d:D} {kw:List (Nat×Blk)} {rf:List Nat}
theorem Zb9(h:Zag P f ax' d)(k:opsL P ds rest ⟨putT t dst d,m',nx,lo⟩ K)(hi:Zbr m'):Ztd P ds f ax kw m' ax' dst rest ⟨t,m,nx,lo⟩ K:=by
 rintro rfl rfl rfl
 exact Zas.of h hi k
theorem Zbl(h:Zaa P f ax' d)(k:opsL P ds rest ⟨putT t dst d,m',nx,lo⟩ K):Ztd P ds f ax kw m' ax' dst rest ⟨t,m,nx,lo⟩ K:=by
 rintro rfl rfl rfl
 exact Zas.ofN h k
theorem Zcr(h:Zag P f ax' d)(hw:kw.all (fun p=>decide (p.1<nx))=true)(k:runL P ds rest ⟨putT t dst d,m',nx,lo⟩ (tr++[⟨d,rf++kw.map (·.1),kw,true⟩]) KE):Zvp P ds f ax rf kw m' ax' dst rest ⟨t,m,nx,lo⟩ tr KE:=by
 rintro rfl rfl rfl rfl
 exact .inl ⟨d,true,.inl ⟨rfl,h⟩,hw,k⟩
theorem Zbv(h:Zaa P f ax' d)(hw:kw.all (fun p=>decide (p.1<nx))=true)(k:runL P ds rest ⟨putT t dst d,m',nx,lo⟩ (tr++[⟨d,rf++kw.map (·.1),kw,false⟩]) KE):Zvp P ds f ax rf kw m' ax' dst rest ⟨t,m,nx,lo⟩ tr KE:=by
 rintro rfl rfl rfl rfl
 exact .inl ⟨d,false,.inr h,hw,k⟩
theorem Zbk{ev:Ev}{n':Nat}{x:List D}(h:EffC P f ax m nx ev n')(k:runL P ds rest ⟨putT t dst ev.d,ov m ev.wr,n',lo⟩ (tr++[ev]) KE):Zvp P ds f ax rf kw m' x dst rest ⟨t,m,nx,lo⟩ tr KE:=by
 rintro rfl rfl rfl rfl
 exact .inr ⟨ev,n',h,k⟩
theorem ZdT{x:List D}{K':D→Mem→Nat→Prop}(h:Zas P f ax m nx K')(k:∀ d m' nx',K' d m' nx'→opsL P ds rest ⟨putT t dst d,m',nx',lo⟩ K):Ztd P ds f ax kw m' x dst rest ⟨t,m,nx,lo⟩ K:=by
 rintro rfl rfl rfl
 exact h.mono k
theorem Zfg {x : List D} {fn : Func} {c : Code} (hf : P.funcs[f]? = some fn) (hb : fn.body = some c) (hnm : (fn.name == "runtime.NumGoroutine") = false)
 (hn:decide (ax.length≤fn.ntmps)=true) (Zr:fn.results.toList.all (Zhu fn.ntmps)=true) (h:AWP P fn.ntmps c (endA P fn fun d m' nx'=>opsL P ds rest ⟨putT t dst d,m',nx',lo⟩ K) ⟨Zht ax,m,nx,nx⟩):Ztd P ds f ax kw m' x dst rest ⟨t,m,nx,lo⟩ K :=
 fun _ _ _=>Zas.inline hf hb hnm hn Zr h
end
theorem Zg1{P:Program}{n:Nat}{Q:Exit→St→Prop}{s:St}{id:Nat}{l:List Oper}(ds:List (Option Tmp))(hds:l.map (·.dst)=ds)(hm:P.follows .mixedOrders=true)(hd:Zqq l.toArray=true)(hf:l.toArray.all (ZaY n)=true)
 (h:∀ KE:List Ev→St→Prop,(∀ tr s',Zf9 l.toArray (tr.map fun e=>(e.touch,ids e.wr))=true→Zhc l.toArray s.m tr→Q .normal s'→KE tr s')→runL P ds (l.map ZfB) s [] KE):AWP P n (.region id l.toArray true) Q s :=
 aRun ds hds hm hd hf (h _ fun _ _ h1 h2 h3=>⟨h1,h2,h3⟩)
theorem ZaG{ops:Array Oper}{m:Mem}{tr:List Ev}(h:tr.any (·.ints)=false):Zhc ops m tr:=fun e=>by rw[h]at e;cases e
theorem ZbJ{ops:Array Oper}{m:Mem}{tr:List Ev}(h:Zbr m)(h2:∀ ev∈tr,∀ p∈ev.wr,p.2.T=3→p.2.dead=true):Zhc ops m tr:=fun _=>⟨h,.inl h2⟩
def Zkv(id:Nat):List (Nat×Blk)→Option Blk
 | []=>none
 | p ::l=>match Zkv id l with
   | some b=>some b
   | none=>if p.1=id then some p.2 else none
theorem ZrC(id:Nat):∀ (l:List (Nat×Blk)) (m:Mem),ov m l id=match Zkv id l with|some b=>some b|none=>m id
 | [],_=>rfl
 | p ::l,m=>by
   simp only[ov,Zkv]
   rw[ZrC id l]
   cases Zkv id l with
   | some b=>rfl
   | none =>
     simp only
     by_cases e:p.1=id
     ·rw[if_pos e,← e,Zab]
     ·rw[if_neg e,Zad _ _ (Ne.symm e)]
theorem ZlV{id:Nat}{b:Blk}:∀ {l:List (Nat×Blk)},Zkv id l=some b→∃ p∈l,p.1=id
 | [],h=>by cases h
 | p ::l,h=>by
   simp only[Zkv]at h
   cases hl:Zkv id l with
   | some c=>obtain⟨q,h1,h2⟩:=ZlV hl;exact⟨q,by simp[h1],h2⟩
   | none =>
     rw[hl]at h
     simp only at h
     split at h
     ·rename_i e;exact⟨p,by simp,e⟩
     ·cases h
theorem Zii:∀ (l k:List (Nat×Blk)) (m:Mem),ov m (l++k)=ov (ov m l) k
 | [],_,_=>rfl
 | _ ::l,k,m=>Zii l k _
theorem Zkh:∀ (tr:List Ev)(m:Mem)(i:Nat),mixM m tr ((List.range tr.length).map fun j=>decide (j<i))=ov m ((tr.take i).flatMap (·.wr))
 | [],_,i=>by cases i<;>rfl
 | e ::tr,m,0=>by
   have h:=Zkh tr m 0
   simp only[List.take_zero,List.flatMap_nil,ov,Nat.not_lt_zero,decide_false]at h ⊢
   rw[List.length_cons,List.range_succ_eq_map,List.map_cons,List.map_map]
   simp only[mixM,Bool.false_eq_true,if_false]
   exact h
 | e ::tr,m,i+1=>by
   have h:=Zkh tr (ov m e.wr) i
   rw[List.length_cons,List.range_succ_eq_map,List.map_cons,List.map_map,List.take_succ_cons,List.flatMap_cons,Zii]
   simp only[mixM,Nat.zero_lt_succ,decide_true,if_true]
   rw[← h]
   congr 1
   refine List.map_congr_left fun j _=>?_
   simp only[Function.comp,Nat.succ_eq_add_one,Nat.add_lt_add_iff_right]
def ZoI(tr:List Ev):Bool:=(List.range tr.length).all fun i=>match tr[i]? with
 | none=>true
 | some ev=> !ev.ints||((tr.take (i+1)).flatMap (·.wr)).all fun p=>match Zkv p.1 ((tr.take (i+1)).flatMap (·.wr))with
   | some b=>(b.T !=3)||b.dead
   | none=>true
theorem ZjA{ops:Array Oper}{m:Mem}{tr:List Ev}(h:Zbr m)(h1:ZhF ops tr=true)(h2:ZoI tr=true):Zhc ops m tr:=by
 refine fun _=>⟨h,.inr ⟨h1,fun i ev hi hin=>⟨h.1,fun id b hb hT=>?_⟩⟩⟩
 have e:ov (mixM m tr ((List.range tr.length).map fun j=>decide (j<i))) ev.wr=ov m ((tr.take (i+1)).flatMap (·.wr)):=by
  rw[Zkh,← Zii,Yb4,hi,List.flatMap_append]
  simp
 rw[e,ZrC]at hb
 unfold ZoI at h2
 simp only[Ya6,Yd2]at h2
 have h3:=h2 i (Ya3.1 hi).1
 simp only[hi,hin,Bool.not_true,Bool.false_or,Ya6]at h3
 cases hl:Zkv id ((tr.take (i+1)).flatMap (·.wr))with
 | none=>rw[hl]at hb;exact h.2 id b hb hT
 | some c =>
   rw[hl]at hb
   simp only[Ya1]at hb
   subst hb
   obtain⟨p,hp,rfl⟩:=ZlV hl
   have h4:=h3 p hp
   rw[hl]at h4
   simp only[hT,bne_self_eq_false,Bool.false_or]at h4
   exact h4
def Zr8{X:Type}(l:X→List (Nat×D))(bl:X→List (Nat×Blk))(nx lo:Nat)(Pre:X→Prop)(μ:X→Nat)(x:X)(s:St):Prop:=∃ y,Pre y∧μ y<μ x∧StLe s ⟨tabT (l y),tabM (bl y),nx,lo⟩
theorem Zai{X:Type}{l:X→List (Nat×D)}{bl:X→List (Nat×Blk)}{nx lo:Nat}{Pre:X→Prop}{μ:X→Nat}{x:X}{s:St}(y:X)(h1:Pre y)(h2:μ y<μ x)(h3:StLe s ⟨tabT (l y),tabM (bl y),nx,lo⟩):Zr8 l bl nx lo Pre μ x s:=⟨y,h1,h2,h3⟩
theorem ZaE{P:Program}{n:Nat}{Q:Exit→St→Prop}{s:St}{c:Code}{X:Type}(l:X→List (Nat×D))(bl:X→List (Nat×Blk))(nx lo:Nat)(Pre:X→Prop)(μ:X→Nat)(x0:X)(h0:Pre x0)(hle:StLe s ⟨tabT (l x0),tabM (bl x0),nx,lo⟩)
 (h:∀ x,Pre x→AWP P n c (Zpn (Zr8 l bl nx lo Pre μ x) Q) ⟨tabT (l x),tabM (bl x),nx,lo⟩):AWP P n (.loop c) Q s :=
 Zx2 (fun x=>⟨tabT (l x),tabM (bl x),nx,lo⟩) Pre μ ⟨x0,h0,hle⟩ h
def endR(K:D→Mem→Nat→Prop)(x:Option (List D))(m:Mem)(nx:Nat):Prop:=∃ ds,x=some ds∧K (oneD ds) m nx
theorem ZsP(K:D→Mem→Nat→Prop)(ds:List D)(m:Mem)(nx:Nat):endR K (some ds) m nx=K (oneD ds) m nx:=by
 unfold endR
 apply propext
 constructor
 ·rintro⟨ds',h,hk⟩;cases h;exact hk
 ·intro h;exact⟨ds,rfl,h⟩
theorem Zu6(P:Program)(fn:Func)(K:D→Mem→Nat→Prop)(s:St):endA P fn K .ret s=endR K (Zfk P s fn.results.toList) s.m s.nx:=rfl
theorem ZnJ(P:Program)(fn:Func)(K:D→Mem→Nat→Prop)(s:St):endA P fn K .normal s=endR K (Zfk P s fn.results.toList) s.m s.nx:=rfl
theorem Zui(d:D):oneD [d]=d:=rfl
theorem Zuh(d e:D):oneD [d,e] = .tup [d,e]:=rfl
theorem ZpV(d e f:D):oneD [d,e,f] = .tup [d,e,f]:=rfl
theorem ZrK(d e f g:D):oneD [d,e,f,g] = .tup [d,e,f,g]:=rfl
end ifl
theorem ty_3:tyOf Tryz.prog 3=some ⟨5,1,8,some [.v (.int .i64 0)],0,some .i64,[]⟩:=by kernel_rfl
theorem ty_4:tyOf Tryz.prog 4=some ⟨6,1,1,some [.v (.bool false)],0,none,[]⟩:=by kernel_rfl
theorem ty_22:tyOf Tryz.prog 22=some ⟨2,1,24,some [.nil],154,none,[]⟩:=by kernel_rfl
theorem ty_23:tyOf Tryz.prog 23=some ⟨2,1,24,some [.nil],93,none,[]⟩:=by kernel_rfl
theorem ty_24:tyOf Tryz.prog 24=some ⟨2,1,24,some [.nil],215,none,[]⟩:=by kernel_rfl
theorem ty_25:tyOf Tryz.prog 25=some ⟨2,1,24,some [.nil],217,none,[]⟩:=by kernel_rfl
theorem ty_26:tyOf Tryz.prog 26=some ⟨2,1,24,some [.nil],158,none,[]⟩:=by kernel_rfl
theorem ty_28:tyOf Tryz.prog 28=some ⟨1,8,144,some [.v (.int .i64 0),.v (.int .i64 0),.v (.int .i64 0),.nil,.nil,.nil,.nil,.nil],0,none,[(0,1,false),(1,1,false),(2,1,false),(3,1,false),(4,1,false),(5,1,false),(6,1,false),(7,1,false)]⟩:=by kernel_rfl
theorem ty_29:tyOf Tryz.prog 29=some ⟨2,1,24,some [.nil],107,none,[]⟩:=by kernel_rfl
theorem ty_30:tyOf Tryz.prog 30=some ⟨2,1,24,some [.nil],3,none,[]⟩:=by kernel_rfl
theorem ty_32:tyOf Tryz.prog 32=some ⟨1,2,32,some [.v (.int .i64 0),.nil],0,none,[(0,1,false),(1,1,false)]⟩:=by kernel_rfl
theorem ty_34:tyOf Tryz.prog 34=some ⟨1,4,64,some [.v (.int .i64 0),.nil,.v (.int .i64 0),.nil],0,none,[(0,2,true),(2,2,true)]⟩:=by kernel_rfl
theorem ty_35:tyOf Tryz.prog 35=some ⟨2,1,24,some [.nil],34,none,[]⟩:=by kernel_rfl
theorem ty_37:tyOf Tryz.prog 37=some ⟨1,8,144,some [.v (.int .i64 0),.v (.int .i64 0),.nil,.v (.int .i64 0),.nil,.nil,.nil,.nil],0,none,[(0,1,false),(1,4,true),(5,1,false),(6,1,false),(7,1,false)]⟩:=by kernel_rfl
theorem ty_39:tyOf Tryz.prog 39=some ⟨1,16,288,some [.v (.int .i64 0),.v (.int .i64 0),.nil,.v (.int .i64 0),.nil,.nil,.nil,.nil,.v (.int .i64 0),.v (.int .i64 0),.nil,.v (.int .i64 0),.nil,.nil,.nil,.nil],0,none,[(0,8,true),(8,8,true)]⟩:=by kernel_rfl
theorem ty_40:tyOf Tryz.prog 40=some ⟨2,1,24,some [.nil],35,none,[]⟩:=by kernel_rfl
theorem ty_61:tyOf Tryz.prog 61=some ⟨2,1,24,some [.nil],249,none,[]⟩:=by kernel_rfl
theorem ty_73:tyOf Tryz.prog 73=some ⟨2,1,24,some [.nil],139,none,[]⟩:=by kernel_rfl
theorem ty_90:tyOf Tryz.prog 90=some ⟨2,1,24,some [.nil],35,none,[]⟩:=by kernel_rfl
theorem ty_93:tyOf Tryz.prog 93=some ⟨1,6,48,some [.v (.int .i64 0),.v (.int .i64 0),.v (.int .i64 0),.v (.int .i64 0),.v (.int .i64 0),.v (.bool false)],0,none,[(0,1,false),(1,1,false),(2,1,false),(3,1,false),(4,1,false),(5,1,false)]⟩:=by kernel_rfl
theorem ZyB:tyOf Tryz.prog 100=some ⟨2,1,24,some [.nil],228,none,[]⟩:=by kernel_rfl
theorem ZyA:tyOf Tryz.prog 102=some ⟨1,2,32,some [.v (.int .i64 0),.nil],0,none,[(0,1,false),(1,1,false)]⟩:=by kernel_rfl
theorem Zyz:tyOf Tryz.prog 107=some ⟨1,2,16,some [.v (.int .i64 0),.v (.int .i64 0)],0,none,[(0,1,false),(1,1,false)]⟩:=by kernel_rfl
theorem Zyy:tyOf Tryz.prog 109=some ⟨2,1,24,some [.nil],171,none,[]⟩:=by kernel_rfl
theorem Zyx:tyOf Tryz.prog 123=some ⟨1,6,64,some [.v (.int .i64 0),.v (.int .i64 0),.v (.int .i64 0),.v (.int .i64 0),.v (.int .i64 0),.nil],0,none,[(0,1,false),(1,1,false),(2,1,false),(3,1,false),(4,1,false),(5,1,false)]⟩:=by kernel_rfl
theorem Zyw:tyOf Tryz.prog 139=some ⟨1,4,32,some [.v (.int .i64 0),.v (.int .i64 0),.v (.int .i64 0),.v (.int .i64 0)],0,none,[(0,1,false),(1,1,false),(2,1,false),(3,1,false)]⟩:=by kernel_rfl
theorem Zyv:tyOf Tryz.prog 154=some ⟨1,3,24,some [.v (.int .i64 0),.v (.int .i64 0),.v (.int .i64 0)],0,none,[(0,1,false),(1,1,false),(2,1,false)]⟩:=by kernel_rfl
theorem Zyu:tyOf Tryz.prog 158=some ⟨1,4,32,some [.v (.int .i64 0),.v (.int .i64 0),.v (.int .i64 0),.v (.int .i64 0)],0,none,[(0,1,false),(1,1,false),(2,1,false),(3,1,false)]⟩:=by kernel_rfl
theorem Zyt:tyOf Tryz.prog 159=some ⟨2,1,24,some [.nil],266,none,[]⟩:=by kernel_rfl
theorem Zys:tyOf Tryz.prog 161=some ⟨1,10,192,some [.v (.int .i64 0),.v (.int .i64 0),.v (.int .i64 0),.nil,.nil,.nil,.nil,.nil,.nil,.nil],0,none,[(0,8,true),(8,1,false),(9,1,false)]⟩:=by kernel_rfl
theorem Zyr:tyOf Tryz.prog 171=some ⟨1,5,72,some [.v (.int .i64 0),.v (.int .i64 0),.nil,.v (.int .i64 0),.nil],0,none,[(0,1,false),(1,4,true)]⟩:=by kernel_rfl
theorem Zyq:tyOf Tryz.prog 215=some ⟨1,6,48,some [.v (.int .i64 0),.v (.int .i64 0),.v (.int .i64 0),.v (.int .i64 0),.v (.int .i64 0),.v (.int .i64 0)],0,none,[(0,1,false),(1,1,false),(2,1,false),(3,1,false),(4,1,false),(5,1,false)]⟩:=by kernel_rfl
theorem Zyp:tyOf Tryz.prog 217=some ⟨1,2,16,some [.v (.int .i64 0),.v (.int .i64 0)],0,none,[(0,1,false),(1,1,false)]⟩:=by kernel_rfl
theorem Zyo:tyOf Tryz.prog 228=some ⟨1,6,96,some [.nil,.v (.int .i64 0),.v (.int .i64 0),.nil,.v (.int .i64 0),.nil],0,none,[(0,1,false),(1,1,false),(2,4,true)]⟩:=by kernel_rfl
theorem Zyn:tyOf Tryz.prog 231=some ⟨5,1,8,some [.v (.int .u64 0)],0,some .u64,[]⟩:=by kernel_rfl
theorem Zym:tyOf Tryz.prog 249=some ⟨1,2,16,some [.v (.int .i64 0),.v (.int .i64 0)],0,none,[(0,1,false),(1,1,false)]⟩:=by kernel_rfl
theorem Zyl:tyOf Tryz.prog 266=some ⟨1,4,32,some [.v (.int .i64 0),.v (.int .i64 0),.v (.int .i64 0),.v (.int .i64 0)],0,none,[(0,1,false),(1,1,false),(2,1,false),(3,1,false)]⟩:=by kernel_rfl
theorem mixed:Tryz.prog.follows .mixedOrders=true:=by kernel_rfl
section ifl
variable [Ifl]
theorem cj2{A B:Prop}(a:A)(b:B):A∧B:=⟨a,b⟩
theorem cj3{A B C:Prop}(a:A)(b:B)(c:C):A∧B∧C:=⟨a,b,c⟩
theorem cj4{A B C D:Prop}(a:A)(b:B)(c:C)(d:D):A∧B∧C∧D:=⟨a,b,c,d⟩
theorem ZjB{ops:Array Oper}{m:Mem}{tr:List Ev}(h:Zbr m)(h2:(tr.all fun e=>e.wr.all fun p=>(p.2.T !=3)||p.2.dead)=true):Zhc ops m tr:=by
 refine ZbJ h fun ev hev p hp hT=>?_
 have h3:=Ya6.1 (Ya6.1 h2 ev hev) p hp
 rw[hT]at h3
 simpa using h3
theorem useK{K A:St→Prop}{s:St}(h:∀ s,A s→K s)(a:A s):K s:=h s a
structure Keep (Y:Prop):Prop where
 out:Y
theorem aGo{F Y X:Prop}(f:F)(y:Y)(h:F→Keep Y→X:=by
 intro hf y
 repeat(first
  | (refine hI _ ?_;clear hI;clear KI)
  | (refine hK _ ?_;try clear hK;try clear K)
  | ((with_reducible apply useK);(with_reducible assumption))
  | (refine aSeq fun KI hI=>?_)
  | (refine Zd1 ?_)
  | (refine Zg0 ?_)
  | (refine Zg2 ?_)
  | (refine aRet ?_)
  | (refine aOps _ rfl (by kernel_rfl) ?_)
  | (refine Zg1 _ rfl mixed (by kernel_rfl) (by kernel_rfl) fun KE hE=>?_)
  | (refine hE _ _ (by kernel_rfl) (ZaG rfl) ?_;clear hE;clear KE)
  | (refine hE _ _ (by kernel_rfl) (ZjB (by(first|((repeat(refine Zal rfl ?_));exact Zar)|(refine Zcm ?_;(repeat(refine Zbp rfl ?_));exact Zbq _))) rfl) ?_;clear hE;clear KE)
  | (refine hE _ _ (by kernel_rfl) (ZjA (by(first|((repeat(refine Zal rfl ?_));exact Zar)|(refine Zcm ?_;(repeat(refine Zbp rfl ?_));exact Zbq _))) (by kernel_rfl) rfl) ?_;clear hE;clear KE)
  | (refine ZdZ rfl ?hc ?_;case hc=>simp only[go_sem,↓reduceIte,beq_self_eq_true,bne_self_eq_false,hf])
  | (refine Zd0 rfl ?hc ?_;case hc=>simp only[go_sem,↓reduceIte,beq_self_eq_true,bne_self_eq_false,hf])
  | ((with_reducible apply Zb9);(first|with_reducible assumption|assumption);rotate_left;(first|((repeat(refine Zal rfl ?_));exact Zar)|(refine Zcm ?_;(repeat(refine Zbp rfl ?_));exact Zbq _)))
  | ((with_reducible apply Zbl);(first|with_reducible assumption|assumption))
  | ((with_reducible apply Zcr);(first|with_reducible assumption|assumption);rfl)
  | ((with_reducible apply Zbv);(first|with_reducible assumption|assumption);rfl)
  | (simp only[go_sem,↓reduceIte,beq_self_eq_true,bne_self_eq_false,hf])
  | (refine And.intro ?ho ?_;(case ho=>omega))
  | (clear hI;clear KI))
 repeat(first|(revert hE;revert KE)|(revert hI;revert KI))
 first|done|exact y.out):X:=h f ⟨y⟩
theorem leGo{F X:Prop}(f:F)(h:F→X:=by
 intro hf
 refine Zcl _ _ _ ?_ ?_ ?_ ?_ ?_ (.inl rfl)<;>simp[go_sem,okD,okDs,Zcb,hf] <;>
 (first|(intros;subst_vars;simp[okD,okDs];done)|(intro _ h;rcases h with⟨_,_,rfl⟩|rfl<;>simp[okD,okDs];done)|(intros;rename_i h;rcases h with⟨_,_,rfl⟩|rfl<;>simp[okD,okDs]))):X:=h f
end ifl
instance iflOn:Ifl:=Ifl.on
abbrev dI(n:Int):D:=.v (.int .i64 n)
abbrev dB(b:Bool):D:=.v (.bool b)
abbrev Zah(l:List Int):D:=.sl (l.map fun x=>[dI x])
abbrev cB(x:BigD):List D:=[dI x.s,Zah x.d]
abbrev encB(x:BigD):D:=.agg (cB x)
abbrev cF(f:Zac):List D:=[dI f.p.s,Zah f.p.d,dI f.q.s,Zah f.q.d]
abbrev encF(f:Zac):D:=.agg (cF f)
theorem Zae{a b:Bool}(h:a=b):D.v (.bool a)=dB b:=by rw[h]
section
variable {S:Nat→Nat→Prop} {w:World} {v:Value} {l:List Int}
theorem ZaL(h:Rep noB noM S w v (Zah l)):Zau w v l:=by
 obtain⟨a,cap,rfl,h1,h2,h3⟩:=h.inv_sl
 rw[Yc0]at h2 ⊢
 refine⟨a,cap,rfl,h2,h1,?_⟩
 rcases h3 with h3|⟨b,off,k,rfl,h4,h5⟩
 ·exact .inl (by simpa using congrArg List.length h3)
 ·by_cases h0:l.length=0
  ·exact .inl h0
  ·refine .inr ⟨b,off,rfl,?_,fun i x hi=>?_⟩
   ·obtain⟨x,hx⟩:∃ x,l[0]? =some x:=⟨_,Ya0 (by omega)⟩
    obtain⟨u,_,hc,_⟩:=h5 0 0 (dI x) (Zaf.2 ⟨[dI x],by simp[hx],rfl⟩)
    exact Zdq hc
   ·have hk:k=1:=by rw[← h4 i [dI x] (by simp[hi])];rfl
    subst hk
    refine⟨[I x],rfl,rfl,fun j u hu=>?_⟩
    cases j with
    | zero =>
      simp at hu
      subst hu
      obtain⟨u,_,hc,hr⟩:=h5 i 0 (dI x) (Zaf.2 ⟨[dI x],by simp[hi],rfl⟩)
      rw[hc,hr.inv_v]
    | succ j=>simp at hu
theorem ZfH(h:Zau w v l)(hS:∀ b o,v.ownBlock=some b→S b o):Rep noB noM S w v (Zah l):=by
 obtain⟨a,cap,rfl,h1,h2,h3⟩:=h
 have e:(l.map fun x=>[dI x]).length=l.length:=by simp
 rcases h3 with h3|⟨b,off,rfl,h4,h5⟩
 ·have:l=[]:=Ya9 h3
  subst this
  exact .sl0 _ _ h2
 ·show Rep noB noM S w _ (.sl (l.map fun x=>[dI x]))
  rw[← e]
  refine Zh8 (k:=1) ⟨fun i e he=>?_,fun i j d hd=>?_⟩ (by simpa using h1) h2
  ·rw[Yb8]at he
   cases hq:l[i]? with
   | none=>rw[hq]at he;cases he
   | some x=>rw[hq]at he;simp at he;subst he;rfl
  ·obtain⟨e,he,hj⟩:=Zaf.1 hd
   rw[Yb8]at he
   cases hq:l[i]? with
   | none=>rw[hq]at he;cases he
   | some x =>
     rw[hq]at he
     simp at he
     subst he
     cases j with
     | zero =>
       simp at hj
       subst hj
       obtain⟨cs,hr,_,hc⟩:=h5 i x hq
       have:=hc 0 (I x) (by rw[hr];rfl)
       exact⟨I x,hS b _ rfl,this,.v _⟩
     | succ j=>simp at hj
theorem Zd9{B:Nat}(h:Owns w B v l)(hf:∀ b o,B≤b→S b o):Rep noB noM S w v (Zah l):=by
 refine ZfH h.ints fun b o hb=>hf b o ?_
 rcases h.2 with⟨rfl,_⟩|⟨g,cap,cur,rfl,hg,_⟩
 ·cases hb
 ·simp[Value.ownBlock]at hb;omega
theorem ZpJ{d:D}{vs:List Value}(h:Reps noB noM S w vs [d]):∃ v,vs=[v]∧Rep noB noM S w v d:=by
 match vs,h with
 | [v],h=>exact⟨v,rfl,h.2 0 v d rfl rfl⟩
 | [],h=>exact absurd h.1 (by simp)
 | _ ::_ ::_,h=>exact absurd h.1 (by simp)
theorem Zlx{d e:D}{vs:List Value}(h:Reps noB noM S w vs [d,e]):∃ v u,vs=[v,u]∧Rep noB noM S w v d∧Rep noB noM S w u e:=by
 match vs,h with
 | [v,u],h=>exact⟨v,u,rfl,h.2 0 v d rfl rfl,h.2 1 u e rfl rfl⟩
 | [],h=>exact absurd h.1 (by simp)
 | [_],h=>exact absurd h.1 (by simp)
 | _ ::_ ::_ ::_,h=>exact absurd h.1 (by simp)
theorem ZnP{x:BigD}(h:Rep noB noM S w v (encB x)):BigV w v x:=by
 obtain⟨vs,rfl,h1,h2⟩:=h.inv_agg
 obtain⟨a,d,rfl,h3,h4⟩:=Zlx ⟨h1,h2⟩
 exact⟨d,by rw[h3.inv_v],ZaL h4⟩
theorem Zhf{f:Zac}(h:Rep noB noM S w v (encF f)):ZeR w v f:=by
 obtain⟨vs,rfl,h1,h2⟩:=h.inv_agg
 match vs,h1,h2 with
 | [a,b,c,d],h1,h2 =>
   have e1:=(h2 0 a _ rfl rfl).inv_v
   have e2:=(h2 2 c _ rfl rfl).inv_v
   subst e1;subst e2
   exact⟨b,d,rfl,ZaL (h2 1 b _ rfl rfl),ZaL (h2 3 d _ rfl rfl)⟩
theorem Zg5(h:Zau w v l)(ht:Zeo w v)(hS:ZeQ S w):Rep noB noM S w v (Zah l) :=
 ZfH h fun b o hb=>let ⟨cs,fr,hc⟩:=ht b hb;hS b cs fr o hc
theorem Zly{f:Zac}(h:Zdu w v f)(hS:ZeQ S w):Rep noB noM S w v (encF f):=by
 obtain⟨d,e,rfl,h1,h2,h3,h4⟩:=h
 exact(Reps.cons (.v _) (Reps.cons (Zg5 h1 h3 hS) (Reps.cons (.v _) (Reps.cons (Zg5 h2 h4 hS) Reps.nil)))).rep_agg
theorem Zky{w':World}(hb:Below w.heap.size w w')(hf:∀ b o,w.heap.size≤b→S b o)(hi:ZeQ S w):ZeQ S w':=by
 intro b cs fr o h
 rcases Nat.lt_or_ge b w.heap.size with hlt|hge
 ·exact hi b cs fr o (by rw[← hb.block b hlt];exact h)
 ·exact hf b o hge
end
section
variable {f:FuncId} {P:Program}
theorem Zvq{a b:Zac}{r:Zac}{k:Int}(hb:Zdl P f)(h:∀ w v u,ZeR w v a→ZeR w u b→Calls P f #[v,u] w (Zk0 w r k)):Zag P f [encF a,encF b] (.tup [encF r,dI k]):=by
 refine⟨hb,fun S w vs hf hi hvs=>?_⟩
 obtain⟨v,u,rfl,h1,h2⟩:=Zlx hvs
 refine(h w v u (Zhf h1) (Zhf h2)).mono ?_
 rintro e w' ⟨x,rfl,⟨y,rfl,h3⟩,h4⟩
 exact⟨_,rfl,h4,(Reps.cons (Zly h3 (Zky h4 hf hi)) (Reps.cons (.v _) Reps.nil)).rep_tup⟩
theorem ZnN{a b r:List Int}(hb:Zdl P f)(h:∀ w v u,Zau w v a→Zau w u b→Calls P f #[v,u] w (Zg3 w r)):Zaa P f [Zah a,Zah b] (Zah r):=by
 refine⟨hb,fun S w vs hf hvs=>?_⟩
 obtain⟨v,u,rfl,h1,h2⟩:=Zlx hvs
 refine(h w v u (ZaL h1) (ZaL h2)).mono ?_
 rintro e w' ⟨x,rfl,h3,h4⟩
 exact⟨_,rfl,h4,Zd9 h3 hf⟩
theorem ZxT{a r:List Int}(hb:Zdl P f)(h:∀ w v,Zau w v a→Calls P f #[v] w (Zg3 w r)):Zaa P f [Zah a] (Zah r):=by
 refine⟨hb,fun S w vs hf hvs=>?_⟩
 obtain⟨v,rfl,h1⟩:=ZpJ hvs
 refine(h w v (ZaL h1)).mono ?_
 rintro e w' ⟨x,rfl,h3,h4⟩
 exact⟨_,rfl,h4,Zd9 h3 hf⟩
end
theorem Zzp(a b:Rat)(za:(szQ a:Int)≤549755813888)(zb:(szQ b:Int)≤549755813888):Zag Tryz.prog 115 [encF (ofQ a),encF (ofQ b)] (.tup [encF (ofQ (maxQ a b)),dI 0]) :=
 Zvq ⟨_,_,Tryz.func115,rfl,by kernel_rfl⟩ fun w v u h1 h2=>ZzQ a b v u w h1 h2 za zb
attribute [go_sem] Zud ZwK ZpU Zxx ZxA Zxy Zxz Zpu Zpv Zqy Zqz ZtW Zwz ZpF ZuX Zu0 ZuY ZuZ Zpw Zpx opF Zfo rd ZdR putT Zak ZdM Zu1 Zsx ZcQ ZjI ZgR Zf0 ZbK ZjC Zhv Zf2 Zd6 ZdA ZgC ZjQ Zgq ZdU ZbV ZiB ZiS Zck lenF ZeK Zen ZfL Zfe boxF ldE ZbN ZcC D.cells? D.isCell Res.pure ov TyI.agg binD unD Zth Zht Zpn Ze8 argD ZcB ZlA Za5 Zbm datJ Zqu Zu6 ZnJ ZsP Zui Zuh ZpV ZrK Zfk resD fzT Value.oneCell' ZfB tabT tabM
attribute [go_sem] List.map Nat.reduceEqDiff Nat.reduceBEq List.getElem?_cons_zero List.getElem?_cons_succ List.getElem?_nil Option.getD_some Option.getD_none true_and and_true true_or or_true false_or or_false and_self Nat.add_zero Nat.zero_add List.length_nil List.length_cons forall_const ite_true ite_false Bool.or_self Bool.false_eq_true Yd0 Option.map_none beq_self_eq_true Nat.reduceAdd Nat.reduceSub Nat.reduceMul reduceCtorEq List.getElem?_toArray Bool.not_true Bool.not_false decide_eq_true_eq decide_true decide_false Nat.reduceLeDiff Nat.reduceLT Bool.or_false Bool.or_true Bool.and_true Bool.and_false Bool.false_and Bool.true_and Bool.true_beq Bool.false_beq beq_true beq_false Bool.not_eq_true List.drop_succ_cons List.take_succ_cons List.drop_zero List.take_zero Yc0 Yb8 Yb9 List.all_cons List.all_nil List.append_nil Yc8 Yc9 List.set_cons_zero List.set_cons_succ Int.toNat_natCast Int.toNat_zero Option.isSome_some Option.isSome_none Array.size_empty ByteArray.size_empty Int.reduceToNat Int.reduceAdd Int.reduceSub Int.reduceLT Int.reduceLE Int.reduceEq Int.reduceNe Int.reduceBEq Int.reduceNeg List.forall_mem_cons List.not_mem_nil false_implies List.forall_mem_map implies_true Nat.reduceBNe Int.cast_ofNat_Int Int.reduceMul Int.reduceGE Int.reduceGT Zbb ty_3 ty_4 ty_22 ty_23 ty_24 ty_25 ty_26 ty_28 ty_29 ty_30 ty_32 ty_34 ty_35 ty_37 ty_39 ty_40 ty_61 ty_73 ty_90 ty_93 ZyB ZyA Zyz Zyy Zyx Zyw Zyv Zyu Zyt Zys Zyr Zyq Zyp Zyo Zyn Zym Zyl
section
variable {P:Program} {f:FuncId} {fn:Func} {c:Code} {ds:List D} {d:D} {n:Nat}
theorem inC(hf:P.funcs[f]? =some fn)(hb:fn.body=some c)(hn:fn.ntmps=n)(h:@AWP Ifl.on P n c (endA P fn fun d' m' _=>fzT true m' 8 d'=d) ⟨Zht ds,noM,0,0⟩)
 (h1 : (fn.name == "runtime.NumGoroutine") = false := by kernel_rfl) (h2 : decide (ds.length ≤ fn.ntmps) = true := by kernel_rfl) (h3 : fn.results.toList.all (Zhu fn.ntmps) = true := by kernel_rfl) : Zag P f ds d := by
 subst hn
 exact Zag.ofA (Zas.inline hf hb h1 h2 h3 h)
theorem inN(hf:P.funcs[f]? =some fn)(hb:fn.body=some c)(hn:fn.ntmps=n)(h:∀ I:Ifl,@AWP I P n c (endA P fn fun d' m' _=>fzT true m' 8 d'=d) ⟨Zht ds,noM,0,0⟩)
 (h1 : (fn.name == "runtime.NumGoroutine") = false := by kernel_rfl) (h2 : decide (ds.length ≤ fn.ntmps) = true := by kernel_rfl) (h3 : fn.results.toList.all (Zhu fn.ntmps) = true := by kernel_rfl) : Zaa P f ds d := by
 subst hn
 exact Zaa.ofA fun I=>Zas.inline hf hb h1 h2 h3 (h I)
theorem inA[Ifl]{m:Mem}{nx:Nat}{K:D→Mem→Nat→Prop}(hf:P.funcs[f]? =some fn)(hb:fn.body=some c)(hn:fn.ntmps=n)(h:AWP P n c (endA P fn K) ⟨Zht ds,m,nx,nx⟩)
 (h1 : (fn.name == "runtime.NumGoroutine") = false := by kernel_rfl) (h2 : decide (ds.length ≤ fn.ntmps) = true := by kernel_rfl) (h3 : fn.results.toList.all (Zhu fn.ntmps) = true := by kernel_rfl) : Zas P f ds m nx K := by
 subst hn
 exact Zas.inline hf hb h1 h2 h3 h
end
theorem getE{α:Type}{l:List α}{k:Nat}(h:k<l.length):∃ e,l[k]? =some e:=⟨_,Ya0 h⟩
theorem ZtD(i:Nat)(h:(i:Int)<9223372036854775807:=by omega):IntKind.i64.wrap ((i:Int)+1)=(i:Int)+1:=Zbb (by omega) (by omega)
theorem Za6(i:Nat)(h:(i:Int)<9223372036854775807:=by omega):IntKind.i64.wrap ((i:Int)+1)=(i:Int)+1∧(0:Int)≤i:=⟨ZtD i h,by omega⟩
end Go.Proofs.YtblamlnjbjaokaaGreat
