/-
  The walk over data: the rules ax they are used.
-/
import Derived.Test.YtiincpioidnciaaGreatVLib
import Derived.Test.YtiincpioidnciaaGreatVDataB
import Derived.Test.YtiincpioidnciaaGreatRows
import Derived.Test.YtiincpioidnciaaGreatVDigits
import Derived.Test.YtiincpioidnciaaGreatVFrac
namespace Go.Proofs.YtiincpioidnciaaGreat
set_option linter.unusedVariables false
set_option linter.unusedSimpArgs false
set_option linter.unusedSectionVars false
open Go Go.RowKit
section ifl
variable [Ifl]
def gOf(d:D)(k:Nat)(want:Bool):Option (Nat×Bool) :=
 match d with
 | .v (.bool b)=>some (k,b)
 | .v (.tuple _)=>some (k,!want)
 | _=>none
theorem ZeE(b:Bool)(k:Nat)(want:Bool):gOf (.v (.bool b)) k want=some (k,b):=rfl
theorem ZdS(k:Nat)(want:Bool):gOf (.v undef) k want=some (k,!want):=rfl
def Zbr(ds:List (Option Tmp))(g:Nat×Bool)(t:Nat→D):Option (Nat×Bool) :=
 match ds[g.1]? with
 | some (some k)=>gOf (t k) k g.2
 | _=>none
structure SOp where
 dst:Option Tmp
 op:Op
 guard:Option (Nat×Bool)
def strip(o:Oper):SOp:=⟨o.dst,o.op,o.guard⟩
def opS(P:Program)(o:SOp)(s:St)(K:St→Prop):Prop :=
 match opF P o.op s.t s.m s.nx with
 | some r=>r.ok∧(r.new=[]∨r.new=[s.nx])∧K {s with t:=putT s.t o.dst r.d,m:=ov s.m r.wr,nx:=s.nx+r.new.length}
 | none=>match Zb6 o.op s.t with
   | some (f,ds)=>Zaj P f ds s.m s.nx fun d m' nx'=>K {s with t:=putT s.t o.dst d,m:=m',nx:=nx'}
   | none=>False
def opE(P:Program)(o:SOp)(s:St)(K:Ev→St→Prop):Prop :=
 match opF P o.op s.t s.m s.nx with
 | some r => r.ok ∧ (r.new = [] ∨ r.new = [s.nx]) ∧ r.wr.all (fun p => decide (p.1 < s.nx + r.new.length)) = true ∧
     K ⟨r.d,r.rd++r.new++r.wr.map (·.1),r.wr,false⟩ {s with t:=putT s.t o.dst r.d,m:=ov s.m r.wr,nx:=s.nx+r.new.length}
 | none=>match Zb6 o.op s.t with
   | some (f,ds)=>ZfK P f ds s.m s.nx fun ev n'=>K ev {s with t:=putT s.t o.dst ev.d,m:=ov s.m ev.wr,nx:=n'}
   | none=>False
def opsL(P:Program)(ds:List (Option Tmp)):List SOp→St→(St→Prop)→Prop
 | [],s,K=>K s
 | o ::rest,s,K=>match o.guard with
   | none=>opS P o s fun s'=>opsL P ds rest s' K
   | some g=>match Zbr ds g s.t with
     | some p=>match p.2,g.2 with
       | true,true|false,false=>opS P o s fun s'=>opsL P ds rest s' K
       | true,false|false,true=>opsL P ds rest {s with t:=putT s.t o.dst (.v undef)} K
     | none=>False
def runL(P:Program)(ds:List (Option Tmp)):List SOp→St→List Ev→(List Ev→St→Prop)→Prop
 | [],s,tr,K=>K tr s
 | o ::rest,s,tr,K=>match o.guard with
   | none=>opE P o s fun ev s'=>runL P ds rest s' (tr++[ev]) K
   | some g=>match Zbr ds g s.t with
     | some p=>match p.2,g.2 with
       | true,true|false,false=>opE P o s fun ev s'=>runL P ds rest s' (tr++[ev]) K
       | true,false|false,true=>runL P ds rest {s with t:=putT s.t o.dst (.v undef)} (tr++[⟨.v undef,[],[],false⟩]) K
     | none=>False
section
variable {P:Program} {n:Nat} {Q:Exit→St→Prop} {s:St}
end
theorem Ze9{α:Type}(f:Nat→α)(k:Nat)(x:α)(j:Nat):upd f k x j=if j=k then x else f j:=rfl
section
variable (P:Program) (ds:List (Option Tmp)) (K:St→Prop) (KE:List Ev→St→Prop) (t:Nat→D) (m:Mem) (nx lo:Nat) (rest:List SOp) (dst:Option Tmp) (op:Op) (tr:List Ev)
def Zca(x:Option Res)(o:SOp)(rest:List SOp)(s:St)(K:St→Prop):Prop :=
 match x with
 | some r=>r.ok∧(r.new=[]∨r.new=[s.nx])∧opsL P ds rest {s with t:=putT s.t o.dst r.d,m:=ov s.m r.wr,nx:=s.nx+r.new.length} K
 | none=>match Zb6 o.op s.t with
   | some (f,ds')=>Zaj P f ds' s.m s.nx fun d m' nx'=>opsL P ds rest {s with t:=putT s.t o.dst d,m:=m',nx:=nx'} K
   | none=>False
def gSel(x:Option (Nat×Bool))(want:Bool)(o:SOp)(rest:List SOp)(s:St)(K:St→Prop):Prop :=
 match x with
 | some p=>match p.2,want with
   | true,true|false,false=>Zca P ds (opF P o.op s.t s.m s.nx) o rest s K
   | true,false|false,true=>opsL P ds rest {s with t:=putT s.t o.dst (.v undef)} K
 | none=>False
def ZfB(x:Option (FuncId×List D))(dst:Option Tmp)(rest:List SOp)(s:St)(K:St→Prop):Prop :=
 match x with
 | some (f,ds')=>Zaj P f ds' s.m s.nx fun d m' nx'=>opsL P ds rest {s with t:=putT s.t dst d,m:=m',nx:=nx'} K
 | none=>False
theorem Zem(s:St):opsL P ds [] s K=K s:=rfl
theorem Zfh:opsL P ds (⟨dst,op,none⟩ ::rest) ⟨t,m,nx,lo⟩ K=Zca P ds (opF P op t m nx) ⟨dst,op,none⟩ rest ⟨t,m,nx,lo⟩ K:=by
 unfold opsL Zca opS
 rfl
theorem Zdb(j:Nat)(want:Bool):opsL P ds (⟨dst,op,some (j,want)⟩ ::rest) ⟨t,m,nx,lo⟩ K=gSel P ds (Zbr ds (j,want) t) want ⟨dst,op,some (j,want)⟩ rest ⟨t,m,nx,lo⟩ K:=by
 rw[opsL]
 unfold gSel Zca
 simp only
 cases Zbr ds (j,want) t with
 | none=>rfl
 | some p=>obtain⟨k,b⟩:=p;cases b<;>cases want<;>rfl
theorem Zfq(k:Nat)(o:SOp):gSel P ds (some (k,true)) true o rest ⟨t,m,nx,lo⟩ K=Zca P ds (opF P o.op t m nx) o rest ⟨t,m,nx,lo⟩ K:=rfl
theorem Zft(k:Nat)(o:SOp):gSel P ds (some (k,false)) false o rest ⟨t,m,nx,lo⟩ K=Zca P ds (opF P o.op t m nx) o rest ⟨t,m,nx,lo⟩ K:=rfl
theorem Zfr(k:Nat)(o:SOp):gSel P ds (some (k,true)) false o rest ⟨t,m,nx,lo⟩ K=opsL P ds rest ⟨putT t o.dst (.v undef),m,nx,lo⟩ K:=rfl
theorem Zfs(k:Nat)(o:SOp):gSel P ds (some (k,false)) true o rest ⟨t,m,nx,lo⟩ K=opsL P ds rest ⟨putT t o.dst (.v undef),m,nx,lo⟩ K:=rfl
theorem ZcY(ok:Prop)(d:D)(r:List Nat)(wr:List (Nat×Blk))(new:List Nat)(o:SOp):Zca P ds (some ⟨ok,d,r,wr,new⟩) o rest ⟨t,m,nx,lo⟩ K=(ok∧(new=[]∨new=[nx])∧opsL P ds rest ⟨putT t o.dst d,ov m wr,nx+new.length,lo⟩ K):=rfl
theorem ZcZ(o:SOp):Zca P ds none o rest ⟨t,m,nx,lo⟩ K=ZfB P ds (Zb6 o.op t) o.dst rest ⟨t,m,nx,lo⟩ K:=rfl
def Zcj(x:Option Res)(o:SOp)(rest:List SOp)(s:St)(tr:List Ev)(K:List Ev→St→Prop):Prop :=
 match x with
 | some r => r.ok ∧ (r.new = [] ∨ r.new = [s.nx]) ∧ r.wr.all (fun p => decide (p.1 < s.nx + r.new.length)) = true ∧
     runL P ds rest {s with t:=putT s.t o.dst r.d,m:=ov s.m r.wr,nx:=s.nx+r.new.length} (tr++[⟨r.d,r.rd++r.new++r.wr.map (·.1),r.wr,false⟩]) K
 | none=>match Zb6 o.op s.t with
   | some (f,ds')=>ZfK P f ds' s.m s.nx fun ev n'=>runL P ds rest {s with t:=putT s.t o.dst ev.d,m:=ov s.m ev.wr,nx:=n'} (tr++[ev]) K
   | none=>False
def Zdi(x:Option (Nat×Bool))(want:Bool)(o:SOp)(rest:List SOp)(s:St)(tr:List Ev)(K:List Ev→St→Prop):Prop :=
 match x with
 | some p=>match p.2,want with
   | true,true|false,false=>Zcj P ds (opF P o.op s.t s.m s.nx) o rest s tr K
   | true,false|false,true=>runL P ds rest {s with t:=putT s.t o.dst (.v undef)} (tr++[⟨.v undef,[],[],false⟩]) K
 | none=>False
def ZfC(x:Option (FuncId×List D))(dst:Option Tmp)(rest:List SOp)(s:St)(tr:List Ev)(K:List Ev→St→Prop):Prop :=
 match x with
 | some (f,ds')=>ZfK P f ds' s.m s.nx fun ev n'=>runL P ds rest {s with t:=putT s.t dst ev.d,m:=ov s.m ev.wr,nx:=n'} (tr++[ev]) K
 | none=>False
theorem Zek(s:St):runL P ds [] s tr KE=KE tr s:=rfl
theorem Zfe:runL P ds (⟨dst,op,none⟩ ::rest) ⟨t,m,nx,lo⟩ tr KE=Zcj P ds (opF P op t m nx) ⟨dst,op,none⟩ rest ⟨t,m,nx,lo⟩ tr KE:=by
 rw[runL];rfl
theorem Zc3(j:Nat)(want:Bool):runL P ds (⟨dst,op,some (j,want)⟩ ::rest) ⟨t,m,nx,lo⟩ tr KE=Zdi P ds (Zbr ds (j,want) t) want ⟨dst,op,some (j,want)⟩ rest ⟨t,m,nx,lo⟩ tr KE:=by
 rw[runL]
 unfold Zdi Zcj
 simp only
 cases Zbr ds (j,want) t with
 | none=>rfl
 | some p=>obtain⟨k,b⟩:=p;cases b<;>cases want<;>rfl
theorem ZeA(k:Nat)(o:SOp):Zdi P ds (some (k,true)) true o rest ⟨t,m,nx,lo⟩ tr KE=Zcj P ds (opF P o.op t m nx) o rest ⟨t,m,nx,lo⟩ tr KE:=rfl
theorem ZeD(k:Nat)(o:SOp):Zdi P ds (some (k,false)) false o rest ⟨t,m,nx,lo⟩ tr KE=Zcj P ds (opF P o.op t m nx) o rest ⟨t,m,nx,lo⟩ tr KE:=rfl
theorem ZeB(k:Nat)(o:SOp):Zdi P ds (some (k,true)) false o rest ⟨t,m,nx,lo⟩ tr KE=runL P ds rest ⟨putT t o.dst (.v undef),m,nx,lo⟩ (tr++[⟨.v undef,[],[],false⟩]) KE:=rfl
theorem ZeC(k:Nat)(o:SOp):Zdi P ds (some (k,false)) true o rest ⟨t,m,nx,lo⟩ tr KE=runL P ds rest ⟨putT t o.dst (.v undef),m,nx,lo⟩ (tr++[⟨.v undef,[],[],false⟩]) KE:=rfl
theorem Zc0(ok:Prop)(d:D)(r:List Nat)(wr:List (Nat×Blk))(new:List Nat)(o:SOp):Zcj P ds (some ⟨ok,d,r,wr,new⟩) o rest ⟨t,m,nx,lo⟩ tr KE =
 (ok∧(new=[]∨new=[nx])∧wr.all (fun p=>decide (p.1<nx+new.length))=true∧runL P ds rest ⟨putT t o.dst d,ov m wr,nx+new.length,lo⟩ (tr++[⟨d,r++new++wr.map (·.1),wr,false⟩]) KE):=rfl
theorem Zc1(o:SOp):Zcj P ds none o rest ⟨t,m,nx,lo⟩ tr KE=ZfC P ds (Zb6 o.op t) o.dst rest ⟨t,m,nx,lo⟩ tr KE:=rfl
end
section
variable {P:Program} {ds:List (Option Tmp)} {K:St→Prop} {KE:List Ev→St→Prop} {t:Nat→D} {m:Mem} {nx lo:Nat} {rest:List SOp} {dst:Option Tmp} {tr:List Ev} {f:FuncId} {ax ax':List D} {d:D}
theorem Zdq{n:Int}(h1 : -9223372036854775808≤n)(h2:n≤9223372036854775807):IntKind.i64.wrap n=n:=by rw[IntKind.wrap_i64];omega
end
end ifl
section ifl
variable [Ifl]
section
variable {P:Program} {n:Nat} {Q:Exit→St→Prop} {s:St}
end
def ZfA(P:Program)(ds:List (Option Tmp))(f:FuncId)(ax:List D)(kw:List (Nat×Blk))(m':Mem)(x:List D)(dst:Option Tmp)(rest:List SOp)(s:St)(K:St→Prop):Prop :=
 kw=Zaz (Zap ax) s.m→m'=ov s.m kw→x=ZaE m' ax→ZfB P ds (some (f,ax)) dst rest s K
theorem Zdk(P:Program)(ds:List (Option Tmp))(f:FuncId)(ax:List D)(dst:Option Tmp)(rest:List SOp)(t:Nat→D)(m:Mem)(nx lo:Nat)(K:St→Prop) :
 ZfB P ds (some (f,ax)) dst rest ⟨t,m,nx,lo⟩ K=ZfA P ds f ax (Zaz (Zap ax) m) (ov m (Zaz (Zap ax) m)) (ZaE (ov m (Zaz (Zap ax) m)) ax) dst rest ⟨t,m,nx,lo⟩ K :=
 propext ⟨fun h _ _ _=>h,fun h=>h rfl rfl rfl⟩
def Zgo(P:Program)(ds:List (Option Tmp))(f:FuncId)(ax:List D)(rf:List Nat)(kw:List (Nat×Blk))(m':Mem)(x:List D)(dst:Option Tmp)(rest:List SOp)(s:St)(tr:List Ev)(K:List Ev→St→Prop):Prop :=
 rf=Zap ax→kw=Zaz rf s.m→m'=ov s.m kw→x=ZaE m' ax→ZfC P ds (some (f,ax)) dst rest s tr K
theorem Zdl(P:Program)(ds:List (Option Tmp))(f:FuncId)(ax:List D)(dst:Option Tmp)(rest:List SOp)(t:Nat→D)(m:Mem)(nx lo:Nat)(tr:List Ev)(K:List Ev→St→Prop) :
 ZfC P ds (some (f,ax)) dst rest ⟨t,m,nx,lo⟩ tr K=Zgo P ds f ax (Zap ax) (Zaz (Zap ax) m) (ov m (Zaz (Zap ax) m)) (ZaE (ov m (Zaz (Zap ax) m)) ax) dst rest ⟨t,m,nx,lo⟩ tr K :=
 propext ⟨fun h _ _ _ _=>h,fun h=>h rfl rfl rfl rfl⟩
section
variable {P:Program} {ds:List (Option Tmp)} {K:St→Prop} {KE:List Ev→St→Prop} {t:Nat→D} {m m':Mem} {nx lo:Nat} {rest:List SOp} {dst:Option Tmp} {tr:List Ev} {f:FuncId} {ax ax':List D} {d:D} {kw:List (Nat×Blk)} {rf:List Nat}
theorem Zgn{ev:Ev}{n':Nat}{x:List D}(h:EffC P f ax m nx ev n')(k:runL P ds rest ⟨putT t dst ev.d,ov m ev.wr,n',lo⟩ (tr++[ev]) KE):Zgo P ds f ax rf kw m' x dst rest ⟨t,m,nx,lo⟩ tr KE:=by
 rintro rfl rfl rfl rfl
 exact .inr ⟨ev,n',h,k⟩
theorem Zgp{x:List D}{K':D→Mem→Nat→Prop}(h:Zaj P f ax m nx K')(k:∀ d m' nx',K' d m' nx'→opsL P ds rest ⟨putT t dst d,m',nx',lo⟩ K):ZfA P ds f ax kw m' x dst rest ⟨t,m,nx,lo⟩ K:=by
 rintro rfl rfl rfl
 exact h.mono k
theorem callT_in {x : List D} {fn : Func} {c : Code} (hf : P.funcs[f]? = some fn) (hb : fn.body = some c) (hnm : (fn.name == "runtime.NumGoroutine") = false)
 (hn:decide (ax.length≤fn.ntmps)=true) (Zr:fn.results.toList.all (Zbt fn.ntmps)=true) (h:AWP P fn.ntmps c (endA P fn fun d m' nx'=>opsL P ds rest ⟨putT t dst d,m',nx',lo⟩ K) ⟨Zb2 ax,m,nx,nx⟩):ZfA P ds f ax kw m' x dst rest ⟨t,m,nx,lo⟩ K :=
 fun _ _ _=>Zaj.inline hf hb hnm hn Zr h
end
theorem Zdh{ops:Array Oper}{m:Mem}{tr:List Ev}(h:ZaR m)(h2:∀ ev∈tr,∀ p∈ev.wr,p.2.T=3→p.2.dead=true):ZdN ops m tr:=fun _=>⟨h,.inl h2⟩
def endR(K:D→Mem→Nat→Prop)(x:Option (List D))(m:Mem)(nx:Nat):Prop:=∃ ds,x=some ds∧K (oneD ds) m nx
theorem ZdX(K:D→Mem→Nat→Prop)(ds:List D)(m:Mem)(nx:Nat):endR K (some ds) m nx=K (oneD ds) m nx:=by
 unfold endR
 apply propext
 constructor
 ·rintro⟨ds',h,hk⟩;cases h;exact hk
 ·intro h;exact⟨ds,rfl,h⟩
theorem ZeI(P:Program)(fn:Func)(K:D→Mem→Nat→Prop)(s:St):endA P fn K .ret s=endR K (Zbd P s fn.results.toList) s.m s.nx:=rfl
theorem Zcw(P:Program)(fn:Func)(K:D→Mem→Nat→Prop)(s:St):endA P fn K .normal s=endR K (Zbd P s fn.results.toList) s.m s.nx:=rfl
theorem Zep(d:D):oneD [d]=d:=rfl
theorem Zeo(d e:D):oneD [d,e] = .tup [d,e]:=rfl
theorem Zdc(d e f:D):oneD [d,e,f] = .tup [d,e,f]:=rfl
theorem ZdE(d e f g:D):oneD [d,e,f,g] = .tup [d,e,f,g]:=rfl
end ifl
theorem ty_3:tyOf Tryz.prog 3=some ⟨5,1,8,some [.v (.int .i64 0)],0,some .i64,[]⟩:=by kernel_rfl
theorem ty_4:tyOf Tryz.prog 4=some ⟨6,1,1,some [.v (.bool false)],0,none,[]⟩:=by kernel_rfl
theorem ty_22:tyOf Tryz.prog 22=some ⟨2,1,24,some [.nil],101,none,[]⟩:=by kernel_rfl
theorem ty_23:tyOf Tryz.prog 23=some ⟨2,1,24,some [.nil],55,none,[]⟩:=by kernel_rfl
theorem ty_24:tyOf Tryz.prog 24=some ⟨2,1,24,some [.nil],105,none,[]⟩:=by kernel_rfl
theorem ty_25:tyOf Tryz.prog 25=some ⟨2,1,24,some [.nil],58,none,[]⟩:=by kernel_rfl
theorem ty_26:tyOf Tryz.prog 26=some ⟨2,1,24,some [.nil],109,none,[]⟩:=by kernel_rfl
theorem ty_28:tyOf Tryz.prog 28=some ⟨1,8,144,some [.v (.int .i64 0),.v (.int .i64 0),.v (.int .i64 0),.nil,.nil,.nil,.nil,.nil],0,none,[(0,1,false),(1,1,false),(2,1,false),(3,1,false),(4,1,false),(5,1,false),(6,1,false),(7,1,false)]⟩:=by kernel_rfl
theorem ty_31:tyOf Tryz.prog 31=some ⟨2,1,24,some [.nil],3,none,[]⟩:=by kernel_rfl
theorem ty_33:tyOf Tryz.prog 33=some ⟨1,2,32,some [.v (.int .i64 0),.nil],0,none,[(0,1,false),(1,1,false)]⟩:=by kernel_rfl
theorem ty_35:tyOf Tryz.prog 35=some ⟨1,4,64,some [.v (.int .i64 0),.nil,.v (.int .i64 0),.nil],0,none,[(0,2,true),(2,2,true)]⟩:=by kernel_rfl
theorem ty_36:tyOf Tryz.prog 36=some ⟨2,1,24,some [.nil],35,none,[]⟩:=by kernel_rfl
theorem ty_38:tyOf Tryz.prog 38=some ⟨1,8,144,some [.v (.int .i64 0),.v (.int .i64 0),.nil,.v (.int .i64 0),.nil,.nil,.nil,.nil],0,none,[(0,1,false),(1,4,true),(5,1,false),(6,1,false),(7,1,false)]⟩:=by kernel_rfl
theorem ty_40:tyOf Tryz.prog 40=some ⟨1,16,288,some [.v (.int .i64 0),.v (.int .i64 0),.nil,.v (.int .i64 0),.nil,.nil,.nil,.nil,.v (.int .i64 0),.v (.int .i64 0),.nil,.v (.int .i64 0),.nil,.nil,.nil,.nil],0,none,[(0,8,true),(8,8,true)]⟩:=by kernel_rfl
theorem ty_43:tyOf Tryz.prog 43=some ⟨2,1,24,some [.nil],31,none,[]⟩:=by kernel_rfl
theorem ty_46:tyOf Tryz.prog 46=some ⟨2,1,24,some [.nil],52,none,[]⟩:=by kernel_rfl
theorem ty_52:tyOf Tryz.prog 52=some ⟨1,4,32,some [.v (.int .i64 0),.v (.int .i64 0),.v (.int .i64 0),.v (.int .i64 0)],0,none,[(0,1,false),(1,1,false),(2,1,false),(3,1,false)]⟩:=by kernel_rfl
theorem ty_55:tyOf Tryz.prog 55=some ⟨1,6,48,some [.v (.int .i64 0),.v (.int .i64 0),.v (.int .i64 0),.v (.int .i64 0),.v (.int .i64 0),.v (.bool false)],0,none,[(0,1,false),(1,1,false),(2,1,false),(3,1,false),(4,1,false),(5,1,false)]⟩:=by kernel_rfl
theorem ty_56:tyOf Tryz.prog 56=some ⟨2,1,24,some [.nil],68,none,[]⟩:=by kernel_rfl
theorem ty_58:tyOf Tryz.prog 58=some ⟨1,2,16,some [.v (.int .i64 0),.v (.int .i64 0)],0,none,[(0,1,false),(1,1,false)]⟩:=by kernel_rfl
theorem ty_64:tyOf Tryz.prog 64=some ⟨1,10,136,some [.v (.int .i64 0),.nil,.v (.int .i64 0),.nil,.v (.int .i64 0),.nil,.v (.int .i64 0),.nil,.v (.bool false),.v (.bool false)],0,none,[(0,4,true),(4,4,true),(8,1,false),(9,1,false)]⟩:=by kernel_rfl
theorem ty_68:tyOf Tryz.prog 68=some ⟨1,2,16,some [.v (.int .i64 0),.v (.int .i64 0)],0,none,[(0,1,false),(1,1,false)]⟩:=by kernel_rfl
theorem ty_73:tyOf Tryz.prog 73=some ⟨2,1,24,some [.nil],56,none,[]⟩:=by kernel_rfl
theorem ty_74:tyOf Tryz.prog 74=some ⟨2,1,24,some [.nil],64,none,[]⟩:=by kernel_rfl
theorem ty_86:tyOf Tryz.prog 86=some ⟨2,1,24,some [.nil],175,none,[]⟩:=by kernel_rfl
theorem ty_88:tyOf Tryz.prog 88=some ⟨1,2,32,some [.v (.int .i64 0),.nil],0,none,[(0,1,false),(1,1,false)]⟩:=by kernel_rfl
theorem ty_95:tyOf Tryz.prog 95=some ⟨2,1,24,some [.nil],144,none,[]⟩:=by kernel_rfl
theorem ZfY:tyOf Tryz.prog 101=some ⟨1,3,24,some [.v (.int .i64 0),.v (.int .i64 0),.v (.int .i64 0)],0,none,[(0,1,false),(1,1,false),(2,1,false)]⟩:=by kernel_rfl
theorem ZfX:tyOf Tryz.prog 105=some ⟨1,6,48,some [.v (.int .i64 0),.v (.int .i64 0),.v (.int .i64 0),.v (.int .i64 0),.v (.int .i64 0),.v (.int .i64 0)],0,none,[(0,1,false),(1,1,false),(2,1,false),(3,1,false),(4,1,false),(5,1,false)]⟩:=by kernel_rfl
theorem ZfW:tyOf Tryz.prog 109=some ⟨1,4,32,some [.v (.int .i64 0),.v (.int .i64 0),.v (.int .i64 0),.v (.int .i64 0)],0,none,[(0,1,false),(1,1,false),(2,1,false),(3,1,false)]⟩:=by kernel_rfl
theorem ZfV:tyOf Tryz.prog 114=some ⟨1,11,200,some [.v (.int .i64 0),.v (.int .i64 0),.v (.int .i64 0),.nil,.nil,.nil,.nil,.nil,.nil,.nil,.v (.bool false)],0,none,[(0,8,true),(8,1,false),(9,1,false),(10,1,false)]⟩:=by kernel_rfl
theorem ZfU:tyOf Tryz.prog 135=some ⟨1,10,192,some [.v (.int .i64 0),.v (.int .i64 0),.v (.int .i64 0),.nil,.nil,.nil,.nil,.nil,.nil,.nil],0,none,[(0,8,true),(8,1,false),(9,1,false)]⟩:=by kernel_rfl
theorem ZfT:tyOf Tryz.prog 144=some ⟨1,5,72,some [.v (.int .i64 0),.v (.int .i64 0),.nil,.v (.int .i64 0),.nil],0,none,[(0,1,false),(1,4,true)]⟩:=by kernel_rfl
theorem ZfS:tyOf Tryz.prog 156=some ⟨5,1,8,some [.v (.int .u64 0)],0,some .u64,[]⟩:=by kernel_rfl
theorem ZfR:tyOf Tryz.prog 175=some ⟨1,6,96,some [.nil,.v (.int .i64 0),.v (.int .i64 0),.nil,.v (.int .i64 0),.nil],0,none,[(0,1,false),(1,1,false),(2,4,true)]⟩:=by kernel_rfl
theorem ZfQ:tyOf Tryz.prog 221=some ⟨2,1,24,some [.nil],227,none,[]⟩:=by kernel_rfl
theorem ZfP:tyOf Tryz.prog 222=some ⟨2,1,24,some [.nil],251,none,[]⟩:=by kernel_rfl
theorem ZfO:tyOf Tryz.prog 224=some ⟨1,6,128,some [.v (.int .i64 0),.nil,.nil,.nil,.nil,.nil],0,none,[(0,1,false),(1,1,false),(2,1,false),(3,1,false),(4,1,false),(5,1,false)]⟩:=by kernel_rfl
theorem ZfN:tyOf Tryz.prog 227=some ⟨1,5,88,some [.v (.int .i64 0),.nil,.v (.int .i64 0),.nil,.nil],0,none,[(0,4,true),(4,1,false)]⟩:=by kernel_rfl
theorem ZfM:tyOf Tryz.prog 251=some ⟨1,2,16,some [.v (.int .i64 0),.v (.bool false)],0,none,[(0,1,false),(1,1,false)]⟩:=by kernel_rfl
theorem mixed:Tryz.prog.follows .mixedOrders=true:=by kernel_rfl
section ifl
variable [Ifl]
theorem ZfL{ops:Array Oper}{m:Mem}{tr:List Ev}(h:ZaR m)(h2:(tr.all fun e=>e.wr.all fun p=>(p.2.T !=3)||p.2.dead)=true):ZdN ops m tr:=by
 refine Zdh h fun ev hev p hp hT=>?_
 have h3:=Ya6.1 (Ya6.1 h2 ev hev) p hp
 rw[hT]at h3
 simpa using h3
structure Keep (Y:Prop):Prop where
 out:Y
end ifl
instance iflOn:Ifl:=Ifl.on
abbrev dI(n:Int):D:=.v (.int .i64 n)
abbrev dB(b:Bool):D:=.v (.bool b)
abbrev ZaN(l:List Int):D:=.sl (l.map fun x=>[dI x])
abbrev cF(f:Zad):List D:=[dI f.p.s,ZaN f.p.d,dI f.q.s,ZaN f.q.d]
section
variable {S:Nat→Nat→Prop} {w:World} {v:Value} {l:List Int}
end
section
variable {f:FuncId} {P:Program}
end
attribute [go_sem] Zem Zfh Zdb Zfq Zft Zfr Zfs ZcY ZcZ Zdk Zdl Zek Zfe Zc3 ZeA ZeD ZeB ZeC Zc0 Zc1 opF Zb6 rd ZcP putT Ze9 Zbr ZeE ZdS ZbM Ze2 Zdg ZeP ZbL ZeZ ZeQ Zb9 Zd5 Ze5 Zfv Zbw ZdZ Ze6 ZbK lenF ZdY Zd9 Zcs ZcO boxF ldE Zas Zck D.cells? D.isCell Res.pure ov TyI.agg binD unD Zgq Zb2 thenA Zey argD ZaE Zcb Zap Zaz datJ Zdj ZeI Zcw ZdX Zep Zeo Zdc ZdE Zbd resD fzT Value.oneCell' strip tabT tabM
attribute [go_sem] List.map Nat.reduceEqDiff Nat.reduceBEq List.getElem?_cons_zero List.getElem?_cons_succ List.getElem?_nil Option.getD_some Option.getD_none true_and and_true true_or or_true false_or or_false and_self Nat.add_zero Nat.zero_add List.length_nil List.length_cons forall_const ite_true ite_false Bool.or_self Bool.false_eq_true Yd0 Option.map_none beq_self_eq_true Nat.reduceAdd Nat.reduceSub Nat.reduceMul reduceCtorEq List.getElem?_toArray Bool.not_true Bool.not_false decide_eq_true_eq decide_true decide_false Nat.reduceLeDiff Nat.reduceLT Bool.or_false Bool.or_true Bool.and_true Bool.and_false Bool.false_and Bool.true_and Bool.true_beq Bool.false_beq beq_true beq_false Bool.not_eq_true List.drop_succ_cons List.take_succ_cons List.drop_zero List.take_zero Yc0 Yb8 Yb9 List.all_cons List.all_nil List.append_nil Yc8 Yc9 List.set_cons_zero List.set_cons_succ Int.toNat_natCast Int.toNat_zero Option.isSome_some Option.isSome_none Array.size_empty ByteArray.size_empty Int.reduceToNat Int.reduceAdd Int.reduceSub Int.reduceLT Int.reduceLE Int.reduceEq Int.reduceNe Int.reduceBEq Int.reduceNeg List.forall_mem_cons List.not_mem_nil false_implies List.forall_mem_map implies_true Nat.reduceBNe Int.cast_ofNat_Int Int.reduceMul Int.reduceGE Int.reduceGT Zdq ty_3 ty_4 ty_22 ty_23 ty_24 ty_25 ty_26 ty_28 ty_31 ty_33 ty_35 ty_36 ty_38 ty_40 ty_43 ty_46 ty_52 ty_55 ty_56 ty_58 ty_64 ty_68 ty_73 ty_74 ty_86 ty_88 ty_95 ZfY ZfX ZfW ZfV ZfU ZfT ZfS ZfR ZfQ ZfP ZfO ZfN ZfM
section
variable {P:Program} {f:FuncId} {fn:Func} {c:Code} {ds:List D} {d:D} {n:Nat}
theorem inC(hf:P.funcs[f]? =some fn)(hb:fn.body=some c)(hn:fn.ntmps=n)(h:@AWP Ifl.on P n c (endA P fn fun d' m' _=>fzT true m' 8 d'=d) ⟨Zb2 ds,noM,0,0⟩)
 (h1 : (fn.name == "runtime.NumGoroutine") = false := by kernel_rfl) (h2 : decide (ds.length ≤ fn.ntmps) = true := by kernel_rfl) (h3 : fn.results.toList.all (Zbt fn.ntmps) = true := by kernel_rfl) : Zat P f ds d := by
 subst hn
 exact Zat.ofA (Zaj.inline hf hb h1 h2 h3 h)
theorem inN(hf:P.funcs[f]? =some fn)(hb:fn.body=some c)(hn:fn.ntmps=n)(h:∀ I:Ifl,@AWP I P n c (endA P fn fun d' m' _=>fzT true m' 8 d'=d) ⟨Zb2 ds,noM,0,0⟩)
 (h1 : (fn.name == "runtime.NumGoroutine") = false := by kernel_rfl) (h2 : decide (ds.length ≤ fn.ntmps) = true := by kernel_rfl) (h3 : fn.results.toList.all (Zbt fn.ntmps) = true := by kernel_rfl) : Zal P f ds d := by
 subst hn
 exact Zal.ofA fun I=>Zaj.inline hf hb h1 h2 h3 (h I)
theorem inA[Ifl]{m:Mem}{nx:Nat}{K:D→Mem→Nat→Prop}(hf:P.funcs[f]? =some fn)(hb:fn.body=some c)(hn:fn.ntmps=n)(h:AWP P n c (endA P fn K) ⟨Zb2 ds,m,nx,nx⟩)
 (h1 : (fn.name == "runtime.NumGoroutine") = false := by kernel_rfl) (h2 : decide (ds.length ≤ fn.ntmps) = true := by kernel_rfl) (h3 : fn.results.toList.all (Zbt fn.ntmps) = true := by kernel_rfl) : Zaj P f ds m nx K := by
 subst hn
 exact Zaj.inline hf hb h1 h2 h3 h
end
theorem getE{α:Type}{l:List α}{k:Nat}(h:k<l.length):∃ e,l[k]? =some e:=⟨_,Ya0 h⟩
theorem wrap1(i:Nat)(h:(i:Int)<9223372036854775807:=by omega):IntKind.i64.wrap ((i:Int)+1)=(i:Int)+1:=Zdq (by omega) (by omega)
theorem wrap2(i:Nat)(h:(i:Int)<9223372036854775807:=by omega):IntKind.i64.wrap ((i:Int)+1)=(i:Int)+1∧(0:Int)≤i:=⟨wrap1 i h,by omega⟩
end Go.Proofs.YtiincpioidnciaaGreat
