/-
  The program's code run on data by computation, and that the walk over data follows from it.
-/
import Derived.Test.YtjeaacindikplaaGreatXLib
import Derived.Test.YtjeaacindikplaaGreatXConv
import Derived.Test.YtjeaacindikplaaGreatXT07
import Derived.Laws.CopyOwn
import Derived.Deep.RegionLaw
import Derived.Deep.OwnRows
import Derived.Test.YtjeaacindikplaaGreatXT08
import Derived.Test.YtjeaacindikplaaGreatXT00
import Derived.Test.YtjeaacindikplaaGreatXT06
namespace Go.Proofs.YtjeaacindikplaaGreat
set_option linter.unusedVariables false
set_option linter.unusedSimpArgs false
set_option linter.unusedSectionVars false
open Go Go.RowKit
def putL{α:Type}(k:Nat)(x:α):List (Nat×α)→List (Nat×α)
 | []=>[(k,x)]
 | p ::l=>cond (Nat.beq p.1 k) ((k,x) ::l) (p ::putL k x l)
def tabU:List (Nat×D)→Nat→D
 | []=>fun _=>.v undef
 | p ::l=>upd (tabU l) p.1 p.2
theorem Zvl{α:Type}(f:Nat→α)(k:Nat)(x y:α):upd (upd f k x) k y=upd f k y:=by
 funext j;unfold upd;split<;>rfl
theorem ZrO{α:Type}(f:Nat→α){k j:Nat}(h:j≠k)(x y:α):upd (upd f k x) j y=upd (upd f j y) k x:=by
 funext i;unfold upd;split<;>split<;>simp_all
theorem Zpa(k:Nat)(x:D):∀ l,tabU (putL k x l)=upd (tabU l) k x
 | []=>rfl
 | p ::l=>by
   unfold putL
   cases h:Nat.beq p.1 k
   ·have hne:p.1≠k:=fun e=>by rw[e,Nat.beq_refl]at h;cases h
    simp only[cond_false,tabU,Zpa k x l]
    exact ZrO _ hne _ _
   ·have:p.1=k:=Nat.eq_of_beq_eq_true h
    subst this
    simp only[cond_true,tabU,Zvl]
theorem Zpb(k:Nat)(x:Blk):∀ l,tabM (putL k x l)=upd (tabM l) k (some x)
 | []=>rfl
 | p ::l=>by
   unfold putL
   cases h:Nat.beq p.1 k
   ·have hne:p.1≠k:=fun e=>by rw[e,Nat.beq_refl]at h;cases h
    simp only[cond_false,tabM,Zpb k x l]
    exact ZrO _ hne _ _
   ·have:p.1=k:=Nat.eq_of_beq_eq_true h
    subst this
    simp only[cond_true,tabM,Zvl]
def ovL:List (Nat×Blk)→List (Nat×Blk)→List (Nat×Blk)
 | m,[]=>m
 | m,p ::l=>ovL (putL p.1 p.2 m) l
theorem ZiK:∀ (l m:List (Nat×Blk)),tabM (ovL m l)=ov (tabM m) l
 | [],_=>rfl
 | p ::l,m=>by unfold ovL ov;rw[ZiK l,Zpb]
def Zrm:Nat→List D→List (Nat×D)
 | _,[]=>[]
 | i,d ::l=>(i,d) ::Zrm (i+1) l
theorem ZpU:∀ (l:List D)(i k:Nat),tabU (Zrm i l) k=if k<i then .v undef else(l[k-i]?).getD (.v undef)
 | [],i,k=>by unfold Zrm tabU;split<;>simp
 | d ::l,i,k=>by
   simp only[Zrm,tabU,upd,ZpU l]
   by_cases h:k=i
   ·subst h;simp
   ·by_cases h2:k<i
    ·rw[if_neg h,if_pos h2,if_pos (by omega)]
    ·rw[if_neg h,if_neg h2,if_neg (by omega),show k-i=(k-(i+1))+1 by omega,List.getElem?_cons_succ]
theorem ZuV(l:List D):tabU (Zrm 0 l)=Zkq l:=by
 funext k
 rw[ZpU]
 simp[Zkq]
structure CS where
 t:List (Nat×D)
 m:List (Nat×Blk)
 nx:Nat
def putC(t:List (Nat×D))(dst:Option Tmp)(d:D):List (Nat×D) :=
 match dst with
 | none=>t
 | some k=>putL k d t
theorem Zeq(t:List (Nat×D))(dst:Option Tmp)(d:D):tabU (putC t dst d)=putT (tabU t) dst d:=by
 cases dst with
 | none=>rfl
 | some k=>exact Zpa k d t
def CS.den(c:CS)(lo:Nat):St:=⟨tabU c.t,tabM c.m,c.nx,lo⟩
def Zuy(op:BinOp)(x y:D):Bool :=
 match op with
 | .shr | .shl=>match y with
   | .v (.int _ b)=>decide (0≤b)
   | _=>true
 | .quo | .rem=>match y with
   | .v (.int _ b)=>b !=0
   | _=>true
 | .add=>match x,y with
   | .v (.string a),.v (.string b)=>decide (((a.size+b.size:Nat):Int)≤9223372036854775807)
   | _,_=>true
 | _=>true
theorem ZzJ{op:BinOp}{x y:D}{q:Prop}{d:D}(h:binD op x y=some (q,d))(ho:Zuy op x y=true):q:=by
 unfold binD at h
 split at h
 ·cases h;simpa[Zuy]using ho
 ·cases h;simpa[Zuy]using ho
 ·split at h
  ·split at h<;>cases h<;>first|trivial|(simpa[Zuy]using ho)
  ·cases h
 ·split at h<;>cases h<;>first|trivial|(simpa[Zuy]using ho)
 ·cases h
def ZCE(et:TyI)(s x:D)(m:Mem):Bool :=
 match ZgU m x with
 | some (es,_)=>es.all (fun e=>e.length==et.size&&e.all D.isCell)&&(match s with
   | .nil=>decide ((es.length:Int)*et.bytes≤140737488355328)&&decide ((es.length:Int)≤9007199254740992)
   | .ls id ver=>match ZbL m id ver with
     | some b=>decide (((b.es.length+es.length:Nat):Int)*et.bytes≤140737488355328)&&(decide (((b.es.length+es.length:Nat):Int)≤9007199254740992)&&(!b.dead||decide (0<es.length)))
     | none=>false
   | _=>false)
 | none=>false
theorem ZyF{es:List (List D)}{k:Nat}(h:es.all (fun e=>e.length==k&&e.all D.isCell)=true):∀ e∈es,e.length=k∧e.all D.isCell=true:=by
 intro e he
 have:=Ya6.1 h e he
 simpa using this
theorem ZzL{ty et:TyI}{s x:D}{m:Mem}{nx:Nat}{r:Res}(h:Zf8 ty et s x m nx=some r)(ho:ZCE et s x m=true):r.ok:=by
 unfold Zf8 at h
 unfold ZCE at ho
 split at h
 ·split at h
  ·rename_i es rr he
   rw[he]at ho
   simp only[Ya2]at ho
   obtain⟨h1,h2⟩:=ho
   have h1:=ZyF h1
   split at h
   ·cases h
    simp only[Ya2,decide_eq_true_eq]at h2
    exact⟨h1,h2.1,h2.2⟩
   ·simp at h2
   ·split at h
    ·rename_i b hb
     simp only[hb,Ya2,decide_eq_true_eq,Bool.or_eq_true,Bool.not_eq_true']at h2
     split at h
     ·cases h;exact⟨h1,h2.1,h2.2.1⟩
     ·split at h
      ·rename_i hd
       cases h
       refine⟨h1,h2.1,h2.2.1,?_⟩
       rcases h2.2.2 with hf|hf
       ·rw[hd.1]at hf;cases hf
       ·exact hf
      ·cases h
    ·cases h
   ·cases h
  ·cases h
 ·cases h
def okSl(et:TyI)(x:D)(lo hi:Option D):Bool :=
 match x with
 | .sl es=>match Zgn lo 0,Zgn hi es.length with
   | some l,some h=>es.all (fun e=>e.length==et.size)&&(decide (0≤l)&&(decide (l≤h)&&decide (h≤es.length)))
   | _,_=>false
 | _=>false
theorem ZCB{et:TyI}{x:D}{lo hi:Option D}{r:Res}(h:Zms et x lo hi=some r)(ho:okSl et x lo hi=true):r.ok:=by
 unfold Zms at h
 unfold okSl at ho
 split at h
 ·split at h
  ·rename_i l hh h1 h2
   cases h
   simp only[h1,h2,Ya2,decide_eq_true_eq,Ya6,beq_iff_eq]at ho
   exact ho
  ·cases h
 ·cases h
def ZCA(x:D)(lo hi:Option D):Bool :=
 match x with
 | .v (.string s)=>match Zgn lo 0,Zgn hi s.size with
   | some l,some h=>decide (0≤l)&&(decide (l≤h)&&decide (h≤s.size))
   | _,_=>false
 | _=>false
theorem ZzH{x:D}{lo hi:Option D}{r:Res}(h:Zfk x lo hi=some r)(ho:ZCA x lo hi=true):r.ok:=by
 unfold Zfk at h
 unfold ZCA at ho
 split at h
 ·split at h
  ·rename_i l hh h1 h2
   cases h
   simp only[h1,h2,Ya2,decide_eq_true_eq]at ho
   exact ho
  ·cases h
 ·cases h
def okMk(et:TyI)(l c:D):Bool :=
 match l,c with
 | .v (.int _ l),.v (.int _ c)=>decide (0≤l)&&(decide (l≤c)&&(decide ((et.bytes:Int)*c≤140737488355328)&&decide (c≤9007199254740992)))
 | _,_=>false
theorem ZCC{ty et:TyI}{l c:D}{nx:Nat}{r:Res}(h:Zdx ty et l c nx=some r)(ho:okMk et l c=true):r.ok:=by
 unfold Zdx at h
 unfold okMk at ho
 split at h
 ·split at h
  ·split at h
   ·cases h
    simpa only[Ya2,decide_eq_true_eq]using ho
   ·cases h
  ·cases h
 ·cases h
def okIx(d:D):Bool :=
 match d with
 | .v (.int _ n)=>decide (0≤n)
 | _=>false
def okOp(P:Program)(o:Op)(t:Nat→D)(m:Mem):Bool :=
 match o with
 | .indexAddr _ _ i=>okIx (rd t i)
 | .index _ _ i=>okIx (rd t i)
 | .slice T x lo hi none=>match tyOf P T with
   | some ty => if ty.kind = 2 then (match tyOf P ty.elem with
       | some et=>okSl et (rd t x) (lo.map (rd t)) (hi.map (rd t))
       | none=>false)
     else ZCA (rd t x) (lo.map (rd t)) (hi.map (rd t))
   | none=>false
 | .makeSlice T l c=>match tyOf P T with
   | some ty=>match tyOf P ty.elem with
     | some et=>okMk et (rd t l) (rd t c)
     | none=>false
   | none=>false
 | .binOp op _ x y _=>Zuy op (rd t x) (rd t y)
 | .call {callee:=.builtin .append,args,argTypes}=>match args.toList,argTypes.toList with
   | [x,y],[T,_]=>match tyOf P T with
     | some ty=>match tyOf P ty.elem with
       | some et=>ZCE et (rd t x) (rd t y) m
       | none=>false
     | none=>false
   | _,_=>false
 | _=>true
theorem Zic{x:Option D}{r:Res}(h:x.map Res.pure=some r):r.ok:=by
 cases x with
 | none=>cases h
 | some d=>cases h;trivial
theorem ZwL{ty et:TyI}{x ix:D}{m:Mem}{r:Res}(h:ZcA ty et x ix m=some r)(ho:okIx ix=true):r.ok:=by
 unfold ZcA at h
 split at h
 ·split at h
  ·rename_i n
   have hn:0≤n:=by simpa[okIx]using ho
   split at h
   ·split at h
    ·split at h
     ·cases h;exact hn
     ·cases h
    ·cases h
   ·split at h
    ·split at h
     ·split at h
      ·cases h;exact hn
      ·cases h
     ·cases h
    ·cases h
   ·cases h
  ·cases h
 ·cases h
theorem ZCD{ty:TyI}{x ix:D}{r:Res}(h:Zm0 ty x ix=some r)(ho:okIx ix=true):r.ok:=by
 unfold Zm0 at h
 split at h
 ·split at h
  ·rename_i s _ n
   have hn:0≤n:=by simpa[okIx]using ho
   split at h
   ·cases h;exact hn
   ·cases h
  ·cases h
 ·cases h
theorem ZzX{ty:TyI}{x:D}{m:Mem}{r:Res}(h:ZjK ty x m=some r):r.ok:=by
 unfold ZjK at h
 split at h
 ·exact Zic h
 ·split at h
  ·rename_i b hb
   cases hq:ldE b.es _ _ ty with
   | none=>rw[hq]at h;cases h
   | some d=>rw[hq]at h;cases h;trivial
  ·cases h
 ·cases h
theorem ZvC{ty:TyI}{x y:D}{m:Mem}{r:Res}(h:ZhP ty x y m=some r):r.ok:=by
 unfold ZhP at h
 split at h
 ·split at h
  ·split at h
   ·split at h
    ·cases h;trivial
    ·cases h
   ·cases h
  ·cases h
 ·cases h
theorem Zoe{ty:TyI}{x:D}{f:Nat}{r:Res}(h:Zeg ty x f=some r):r.ok:=by
 unfold Zeg at h
 split at h
 ·split at h
  ·cases h
  ·split at h
   ·cases h;trivial
   ·cases h;trivial
   ·cases h
 ·cases h
theorem ZxM{ty:TyI}{x:D}{f:Nat}{r:Res}(h:Zm6 ty x f=some r):r.ok:=by
 unfold Zm6 at h
 split at h
 ·split at h
  ·cases h
  ·exact Zic h
 ·cases h
theorem Zyp{ty:TyI}{ps:List (Nat×D)}{r:Res}(h:Znb ty ps=some r):r.ok:=by
 unfold Znb at h
 split at h
 ·split at h
  ·cases hq:ZlQ (fun i=>(ty.fields[i]?).map fun f=>(f.1,f.2.1)) _ ps with
   | none=>rw[hq]at h;cases h
   | some d=>rw[hq]at h;cases h;trivial
  ·cases h
 ·cases h
theorem Zrt{ty et:TyI}{n:Nat}{ps:List (Nat×D)}{nx:Nat}{r:Res}(h:Zc6 ty et n ps nx=some r):r.ok:=by
 unfold Zc6 at h
 split at h
 ·split at h
  ·cases h;trivial
  ·cases h
 ·cases h
theorem ZC1{ty:TyI}{x:D}{m:Mem}{r:Res}(h:lenF ty x m=some r):r.ok:=by
 unfold lenF at h
 split at h
 ·split at h<;>cases h;trivial
 ·split at h<;>cases h;trivial
 ·split at h
  ·split at h<;>cases h;trivial
  ·cases h
 ·split at h<;>cases h;trivial
 ·cases h
theorem ZEM{b:Bool}{l:List D}{r:Res}(h:Zia b l=some r):r.ok:=by
 unfold Zia at h
 split at h
 ·split at h<;>cases h;trivial
 ·cases h
theorem ZAF{a b:TyI}{x:D}{r:Res}(h:Zhx a b x=some r):r.ok:=by
 unfold Zhx at h
 split at h
 ·split at h<;>cases h;trivial
 ·cases h
theorem ZyE{T:TypeId}{ty:TyI}{nx:Nat}{r:Res}(h:Zl2 T ty nx=some r):r.ok:=by
 unfold Zl2 at h
 split at h<;>cases h;trivial
theorem ZDy{T:TypeId}{x:D}{nx:Nat}{r:Res}(h:boxF T x nx=some r):r.ok:=by
 unfold boxF at h
 split at h<;>cases h;trivial
theorem ZwK{P:Program}{o:Op}{t:Nat→D}{m:Mem}{nx:Nat}{r:Res}(h:opF P o t m nx=some r)(ho:okOp P o t m=true):r.ok:=by
 unfold opF at h
 unfold okOp at ho
 split at h
 all_goals (try (cases h;trivial))
 all_goals (try simp only at ho)
 all_goals (repeat' (split at h))
 all_goals (try (cases h;done))
 all_goals (try (cases h;trivial))
 all_goals (first
  | exact Zic h
  | exact ZzX h
  | exact ZvC h
  | exact Zoe h
  | exact ZxM h
  | exact Zyp h
  | exact Zrt h
  | exact ZC1 h
  | exact ZEM h
  | exact ZAF h
  | exact ZyE h
  | exact ZDy h
  | exact ZwL h ho
  | exact ZCD h ho
  | skip)
 ·rename_i h1 h2 _ _ h3
  simp only[h1,h2,h3,if_true]at ho;exact ZCB h ho
 ·rename_i h1 h2 _
  simp only[h1,if_neg h2]at ho;exact ZzH h ho
 ·rename_i h1 _ _ h2
  simp only[h1,h2]at ho;exact ZCC h ho
 ·rename_i h1
  cases h
  exact ZzJ h1 ho
 ·rename_i e1 e2 e3 _ _ h1 _ _ h2
  subst e3
  simp only[e1,e2,h1,h2]at ho
  exact ZzL h ho
section
variable (P:Program) (call:FuncId→List D→Option D) (inl:FuncId→List D→List (Nat×Blk)→Nat→Option (D×List (Nat×Blk)×Nat))
def newB(l:List Nat)(nx:Nat):Bool :=
 match l with
 | []=>true
 | [k]=>Nat.beq k nx
 | _=>false
theorem ZwS{l:List Nat}{nx:Nat}(h:newB l nx=true):l=[]∨l=[nx]:=by
 unfold newB at h
 split at h
 ·exact .inl rfl
 ·exact .inr (by rw[Nat.eq_of_beq_eq_true h])
 ·cases h
def Zto(f:FuncId)(ds:List D)(c:CS):Option (D×List (Nat×Blk)) :=
 match call f (ZeO (tabM (ovL c.m (ZbZ (Zb4 ds) (tabM c.m)))) ds)with
 | some d=>some (d,ovL c.m (ZbZ (Zb4 ds) (tabM c.m)))
 | none=>none
def evOp(o:SOp)(c:CS):Option CS :=
 match opF P o.op (tabU c.t) (tabM c.m) c.nx with
 | some r=>cond (okOp P o.op (tabU c.t) (tabM c.m)&&newB r.new c.nx) (some ⟨putC c.t o.dst r.d,ovL c.m r.wr,c.nx+r.new.length⟩) none
 | none=>match Zg2 o.op (tabU c.t)with
   | some (f,ds)=>match inl f ds c.m c.nx with
     | some (d,m',nx')=>some ⟨putC c.t o.dst d,m',nx'⟩
     | none=>match Zto call f ds c with
       | some (d,m')=>some ⟨putC c.t o.dst d,m',c.nx⟩
       | none=>none
   | none=>none
def Zok(ds:List (Option Tmp)):List SOp→CS→Option CS
 | [],c=>some c
 | o ::rest,c=>match o.guard with
   | none=>match evOp P call inl o c with
     | some c'=>Zok ds rest c'
     | none=>none
   | some g=>match Zfw ds g (tabU c.t)with
     | some p => cond (p.2 == g.2) (match evOp P call inl o c with
         | some c'=>Zok ds rest c'
         | none=>none) (Zok ds rest ⟨putC c.t o.dst (.v undef),c.m,c.nx⟩)
     | none=>none
def ZxV(o:SOp)(c:CS):Option (Ev×CS) :=
 match opF P o.op (tabU c.t) (tabM c.m) c.nx with
 | some r => cond (okOp P o.op (tabU c.t) (tabM c.m) && (newB r.new c.nx && r.wr.all (fun p => decide (p.1 < c.nx + r.new.length))))
     (some (⟨r.d,r.rd++r.new++r.wr.map (·.1),r.wr,false⟩,⟨putC c.t o.dst r.d,ovL c.m r.wr,c.nx+r.new.length⟩)) none
 | none=>match Zg2 o.op (tabU c.t)with
   | some (f,ds)=>match Zto call f ds c with
     | some (d, m') => cond ((ZbZ (Zb4 ds) (tabM c.m)).all (fun p => decide (p.1 < c.nx)))
         (some (⟨d,Zb4 ds++(ZbZ (Zb4 ds) (tabM c.m)).map (·.1),ZbZ (Zb4 ds) (tabM c.m),false⟩,⟨putC c.t o.dst d,m',c.nx⟩)) none
     | none=>none
   | none=>none
def Zoj(ds:List (Option Tmp)):List SOp→CS→List Ev→Option (List Ev×CS)
 | [],c,tr=>some (tr,c)
 | o ::rest,c,tr=>match o.guard with
   | none=>match ZxV P call o c with
     | some (ev,c')=>Zoj ds rest c' (tr++[ev])
     | none=>none
   | some g=>match Zfw ds g (tabU c.t)with
     | some p => cond (p.2 == g.2) (match ZxV P call o c with
         | some (ev,c')=>Zoj ds rest c' (tr++[ev])
         | none=>none) (Zoj ds rest ⟨putC c.t o.dst (.v undef),c.m,c.nx⟩ (tr++[⟨.v undef,[],[],false⟩]))
     | none=>none
def Ztn(body:CS→Option (Exit×CS)):Nat→CS→Option (Exit×CS)
 | 0,_=>none
 | k+1,c=>match body c with
   | some (.normal,c')=>Ztn body k c'
   | r=>r
def Zzq(ops:Array Oper)(tr:List Ev):Bool:=tr.all (fun e=>e.wr.isEmpty)||ZgF ops (tr.map fun e=>(e.touch,ids e.wr))
def evC(L:Nat):Code→CS→Option (Exit×CS)
 | .skip,c=>some (.normal,c)
 | .exit id,c=>some (.exit id,c)
 | .ret,c=>some (.ret,c)
 | .seq x y,c=>match evC L x c with
   | some (.normal,c')=>evC L y c'
   | r=>r
 | .block id x,c=>match evC L x c with
   | some (.exit id',c')=>if id'=id then some (.normal,c')else some (.exit id',c')
   | r=>r
 | .cond o x y,c=>match rd (tabU c.t) o with
   | .v (.bool true)=>evC L x c
   | .v (.bool false)=>evC L y c
   | _=>none
 | .loop x,c=>Ztn (evC L x) L c
 | .region _ l false,c=>match Zok P call inl (l.toList.map (·.dst)) (l.toList.map ZhF) c with
   | some c'=>some (.normal,c')
   | none=>none
 | .region _ l true,c=>match Zoj P call (l.toList.map (·.dst)) (l.toList.map ZhF) c []with
   | some (tr,c')=>cond (Zzq l tr) (some (.normal,c')) none
   | none=>none
 | _,_=>none
def Zi3(n:Nat):Code→Bool
 | .skip | .exit _ | .ret=>true
 | .seq x y=>Zi3 n x&&Zi3 n y
 | .block _ x=>Zi3 n x
 | .cond o x y=>Zd8 n o&&(Zi3 n x&&Zi3 n y)
 | .loop x=>Zi3 n x
 | .region _ l false=>l.all (Za9 n)
 | .region _ l true=>l.all (Za9 n)&&Zks l
 | _=>true
end
section ifl
variable [Ifl]
section
variable {P:Program} {call:FuncId→List D→Option D} {inl:FuncId→List D→List (Nat×Blk)→Nat→Option (D×List (Nat×Blk)×Nat)}
 (hc:∀ f ds d,call f ds=some d→Zaa P f ds d)
include hc
theorem ZpT{f:FuncId}{ds:List D}{c:CS}{d:D}{m':List (Nat×Blk)}(h:Zto call f ds c=some (d,m')):Zaa P f (ZeO (Zez (tabM c.m) ds) ds) d∧tabM m'=Zez (tabM c.m) ds∧m'=ovL c.m (ZbZ (Zb4 ds) (tabM c.m)):=by
 unfold Zto at h
 split at h
 ·rename_i d' hd
  cases h
  have h1:=hc _ _ _ hd
  rw[ZiK]at h1
  exact⟨h1,ZiK _ _,rfl⟩
 ·cases h
variable (hi:∀ f ds m nx d m' nx',inl f ds m nx=some (d,m',nx')→∀ K:D→Mem→Nat→Prop,K d (tabM m') nx'→ZaM P f ds (tabM m) nx K)
include hi
theorem ZxU{o:SOp}{c c':CS}{lo:Nat}{K:St→Prop}(h:evOp P call inl o c=some c')(k:K (c'.den lo)):opS P o (c.den lo) K:=by
 unfold evOp at h
 unfold opS CS.den
 simp only
 split at h
 ·rename_i r hr
  rw[hr]
  cases hb:(okOp P o.op (tabU c.t) (tabM c.m)&&newB r.new c.nx)
  ·rw[hb]at h;cases h
  ·rw[hb]at h
   simp only[cond_true,Ya1]at h
   subst h
   rw[Ya2]at hb
   refine⟨ZwK hr hb.1,ZwS hb.2,?_⟩
   simp only[CS.den,Zeq,ZiK]at k
   exact k
 ·rename_i hr
  rw[hr]
  split at h
  ·rename_i f ds hd
   rw[hd]
   simp only
   split at h
   ·rename_i d m' nx' hin
    cases h
    refine hi _ _ _ _ _ _ _ hin _ ?_
    simp only[CS.den,Zeq]at k
    exact k
   ·split at h
    ·rename_i d m' hq
     cases h
     obtain⟨h1,h2,_⟩:=ZpT hc hq
     refine ZaM.ofN h1 ?_
     simp only[CS.den,Zeq,h2]at k
     exact k
    ·cases h
  ·cases h
theorem ZkM{ds:List (Option Tmp)}{lo:Nat}{K:St→Prop}:∀ (l:List SOp)(c c':CS),Zok P call inl ds l c=some c'→K (c'.den lo)→opsL P ds l (c.den lo) K
 | [],c,c',h,k=>by unfold Zok at h;cases h;exact k
 | o ::rest,c,c',h,k=>by
   unfold Zok at h
   unfold opsL
   split at h
   ·rename_i hg
    rw[hg]
    simp only
    split at h
    ·rename_i c1 h1
     exact ZxU hc hi h1 (ZkM rest c1 c' h k)
    ·cases h
   ·rename_i g hg
    rw[hg]
    simp only
    split at h
    ·rename_i p hp
     rw[show Zfw ds g (c.den lo).t=some p from hp]
     obtain⟨k1,b⟩:=p
     obtain⟨j,want⟩:=g
     simp only
     have go:∀ {c1},evOp P call inl o c=some c1→Zok P call inl ds rest c1=some c'→opS P o (c.den lo) fun s'=>opsL P ds rest s' K:=fun h1 h2=>ZxU hc hi h1 (ZkM rest _ c' h2 k)
     have no:Zok P call inl ds rest ⟨putC c.t o.dst (.v undef),c.m,c.nx⟩=some c'→opsL P ds rest {(c.den lo)with t:=putT (c.den lo).t o.dst (.v undef)} K:=fun h2=>by
      have:=ZkM rest _ c' h2 k
      simp only[CS.den,Zeq]at this
      exact this
     cases b<;>cases want<;>simp only[beq_self_eq_true,cond_true]at h ⊢
     ·split at h
      ·rename_i c1 h1;exact go h1 h
      ·cases h
     ·exact no h
     ·exact no h
     ·split at h
      ·rename_i c1 h1;exact go h1 h
      ·cases h
    ·cases h
omit hi in
theorem Ztm{o:SOp}{c c':CS}{ev:Ev}{lo:Nat}{K:Ev→St→Prop}(h:ZxV P call o c=some (ev,c'))(k:K ev (c'.den lo)):opE P o (c.den lo) K∧ev.ints=false:=by
 unfold ZxV at h
 unfold opE CS.den
 simp only
 split at h
 ·rename_i r hr
  rw[hr]
  cases hb:(okOp P o.op (tabU c.t) (tabM c.m)&&(newB r.new c.nx&&r.wr.all (fun p=>decide (p.1<c.nx+r.new.length))))
  ·rw[hb]at h;cases h
  ·rw[hb]at h
   simp only[cond_true,Ya1,Prod.mk.injEq]at h
   obtain⟨rfl,rfl⟩:=h
   rw[Ya2,Ya2]at hb
   refine⟨⟨ZwK hr hb.1,ZwS hb.2.1,hb.2.2,?_⟩,rfl⟩
   simp only[CS.den,Zeq,ZiK]at k
   exact k
 ·rename_i hr
  rw[hr]
  split at h
  ·rename_i f ds hd
   rw[hd]
   simp only
   split at h
   ·rename_i d m' hq
    cases hb:(ZbZ (Zb4 ds) (tabM c.m)).all (fun p=>decide (p.1<c.nx))
    ·rw[hb]at h;cases h
    ·rw[hb]at h
     simp only[cond_true,Ya1,Prod.mk.injEq]at h
     obtain⟨rfl,rfl⟩:=h
     obtain⟨h1,h2,h3⟩:=ZpT hc hq
     refine⟨.inl ⟨d,false,.inr h1,hb,?_⟩,rfl⟩
     simp only[CS.den,Zeq,h2]at k
     exact k
   ·cases h
  ·cases h
omit hi in
theorem Zoi{ds:List (Option Tmp)}{lo:Nat}{K:List Ev→St→Prop}:∀ (l:List SOp)(c c':CS)(tr tr':List Ev),Zoj P call ds l c tr=some (tr',c')→(tr.any (·.ints)=false→tr'.any (·.ints)=false→K tr' (c'.den lo))→tr.any (·.ints)=false→runL P ds l (c.den lo) tr K∧tr'.any (·.ints)=false
 | [],c,c',tr,tr',h,k,hn=>by unfold Zoj at h;cases h;exact⟨k hn hn,hn⟩
 | o ::rest,c,c',tr,tr',h,k,hn=>by
   unfold Zoj at h
   unfold runL
   have hn1:∀ ev:Ev,ev.ints=false→(tr++[ev]).any (·.ints)=false:=fun ev he=>by rw[List.any_append,hn];simp[he]
   have go:∀ {ev c1},ZxV P call o c=some (ev,c1)→Zoj P call ds rest c1 (tr++[ev])=some (tr',c')→(opE P o (c.den lo) fun ev s'=>runL P ds rest s' (tr++[ev]) K)∧tr'.any (·.ints)=false:=fun {ev c1} h1 h2=>by
    have e0:=(Ztm (lo:=lo) (K:=fun _ _=>True) hc h1 trivial).2
    obtain⟨a,b⟩:=Zoi rest c1 c' _ tr' h2 (fun _=>k hn) (hn1 ev e0)
    exact⟨(Ztm (K:=fun ev s'=>runL P ds rest s' (tr++[ev]) K) hc h1 a).1,b⟩
   split at h
   ·rename_i hg
    rw[hg]
    simp only
    split at h
    ·rename_i ev c1 h1
     exact go h1 h
    ·cases h
   ·rename_i g hg
    rw[hg]
    simp only
    split at h
    ·rename_i p hp
     rw[show Zfw ds g (c.den lo).t=some p from hp]
     obtain⟨k1,b⟩:=p
     obtain⟨j,want⟩:=g
     simp only
     have no:Zoj P call ds rest ⟨putC c.t o.dst (.v undef),c.m,c.nx⟩ (tr++[⟨.v undef,[],[],false⟩])=some (tr',c')→runL P ds rest {(c.den lo)with t:=putT (c.den lo).t o.dst (.v undef)} (tr++[⟨.v undef,[],[],false⟩]) K∧tr'.any (·.ints)=false:=fun h2=>by
      have:=Zoi rest _ c' _ tr' h2 (fun _=>k hn) (hn1 _ rfl)
      simp only[CS.den,Zeq]at this
      exact this
     cases b<;>cases want<;>simp only[beq_self_eq_true,cond_true]at h ⊢
     ·split at h
      ·rename_i ev c1 h1;exact go h1 h
      ·cases h
     ·exact no h
     ·exact no h
     ·split at h
      ·rename_i ev c1 h1;exact go h1 h
      ·cases h
    ·cases h
omit hc hi in
theorem Zzp{ops:Array Oper}{tr:List Ev}(h:Zzq ops tr=true):ZgF ops (tr.map fun e=>(e.touch,ids e.wr))=true:=by
 unfold Zzq at h
 rw[Bool.or_eq_true]at h
 rcases h with h|h
 ·unfold ZgF
  rw[Ya6]
  intro j _
  rw[Ya6]
  intro i _
  have hw:∀ (k:Nat) x,(tr.map fun e=>(e.touch,ids e.wr))[k]? =some x→x.2=[]:=fun k x hx=>by
   rw[Yb8]at hx
   cases he:tr[k]? with
   | none=>rw[he]at hx;cases hx
   | some e =>
     rw[he]at hx
     cases hx
     have:=Ya6.1 h e (Ya7 he)
     simp only[List.isEmpty_iff]at this
     simp[ids,this]
  split
  ·rename_i x y hx hy
   rw[hw _ _ hx,hw _ _ hy]
   simp[ZlD]
  ·rfl
 ·exact h
theorem ZgS(hm:P.follows .mixedOrders=true){L n lo:Nat}:∀ (x:Code)(c c':CS)(e:Exit)(Q:Exit→St→Prop),Zi3 n x=true→evC P call inl L x c=some (e,c')→Q e (c'.den lo)→AWP P n x Q (c.den lo)
 | .skip,c,c',e,Q,_,h,k=>by unfold evC at h;cases h;exact ZeU k
 | .exit id,c,c',e,Q,_,h,k=>by unfold evC at h;cases h;exact ZeW k
 | .ret,c,c',e,Q,_,h,k=>by unfold evC at h;cases h;exact aRet k
 | .seq x y,c,c',e,Q,g,h,k=>by
   unfold evC at h
   unfold Zi3 at g
   rw[Ya2]at g
   refine aSeq fun K hK=>?_
   split at h
   ·rename_i c1 h1
    exact ZgS hm x c c1 .normal _ g.1 h1 (hK _ (ZgS hm y c1 c' e Q g.2 h k))
   ·rename_i r hne
    refine ZgS hm x c c' e _ g.1 h ?_
    cases e with
    | normal=>exact absurd h (hne c')
    | _=>exact k
 | .block id x,c,c',e,Q,g,h,k=>by
   unfold evC at h
   unfold Zi3 at g
   refine ZcJ ?_
   split at h
   ·rename_i id' c1 h1
    refine ZgS hm x c c1 (.exit id') _ g h1 ?_
    unfold Zhn
    simp only
    split at h
    ·rename_i hid;cases h;rw[if_pos hid];exact k
    ·rename_i hid;cases h;rw[if_neg hid];exact k
   ·rename_i r hne
    refine ZgS hm x c c' e _ g h ?_
    cases e with
    | exit id'=>exact absurd h (hne id' c')
    | _=>exact k
 | .cond o x y,c,c',e,Q,g,h,k=>by
   unfold evC at h
   unfold Zi3 at g
   rw[Ya2,Ya2]at g
   split at h
   ·rename_i hr;exact ZcH g.1 hr (ZgS hm x c c' e Q g.2.1 h k)
   ·rename_i hr;exact ZcI g.1 hr (ZgS hm y c c' e Q g.2.2 h k)
   ·cases h
 | .loop x,c,c',e,Q,g,h,k=>by
   unfold evC at h
   unfold Zi3 at g
   refine ZrD (X:={p:Nat×CS // Ztn (evC P call inl L x) p.1 p.2=some (e,c')}) (fun p=>p.1.2.den lo) (fun _=>True) (fun p=>p.1.1) ⟨⟨(L,c),h⟩,trivial,fun E B n β a w hr=>⟨β,hr⟩⟩ ?_
   rintro⟨⟨f,c1⟩,h1⟩ _
   simp only at h1 ⊢
   cases f with
   | zero=>cases h1
   | succ f =>
     unfold Ztn at h1
     split at h1
     ·rename_i c2 h2
      refine ZgS hm x c1 c2 .normal _ g h2 ?_
      exact⟨⟨(f,c2),h1⟩,trivial,Nat.lt_succ_self _,fun E B n β a w hr=>⟨β,hr⟩⟩
     ·rename_i hne
      refine ZgS hm x c1 c' e _ g h1 ?_
      cases e with
      | normal=>exact absurd h1 (hne c')
      | _=>exact k
 | .region id l false,c,c',e,Q,g,h,k=>by
   unfold evC at h
   unfold Zi3 at g
   split at h
   ·rename_i c1 h1
    cases h
    have:l=l.toList.toArray:=by simp
    rw[this]
    exact aOps (l:=l.toList) _ rfl (by simpa using g) (ZkM hc hi _ _ _ h1 k)
   ·cases h
 | .region id l true,c,c',e,Q,g,h,k=>by
   unfold evC at h
   unfold Zi3 at g
   rw[Ya2]at g
   split at h
   ·rename_i tr c1 h1
    cases hb:Zzq l tr
    ·rw[hb]at h;cases h
    ·rw[hb]at h
     simp only[cond_true,Ya1,Prod.mk.injEq]at h
     obtain⟨rfl,rfl⟩:=h
     have el:l=l.toList.toArray:=by simp
     rw[el]
     refine ZeV (l:=l.toList) _ rfl hm (by simpa using g.2) (by simpa using g.1) fun KE hE=>?_
     refine(Zoi hc _ _ _ _ _ h1 (fun _ h2=>hE tr _ ?_ (ZaC h2) k) rfl).1
     simpa using Zzp hb
   ·cases h
 | .rangeFunc ..,_,_,_,_,_,h,_=>by unfold evC at h;cases h
 | .scope _,_,_,_,_,_,h,_=>by unfold evC at h;cases h
 | .label _,_,_,_,_,_,h,_=>by unfold evC at h;cases h
 | .goto _,_,_,_,_,_,h,_=>by unfold evC at h;cases h
 | .refuse _,_,_,_,_,_,h,_=>by unfold evC at h;cases h
end
end ifl
def ZuN(P:Program)(p:FuncId×Func):Bool :=
 match p.2.body with
 | some c => Zi3 p.2.ntmps c && (!(p.2.name == "runtime.NumGoroutine") && p.2.results.toList.all (Zkr p.2.ntmps))
 | none=>false
def ZAo(f:FuncId):List (FuncId×Func)→Option Func
 | []=>none
 | p ::l=>cond (Nat.beq p.1 f) (some p.2) (ZAo f l)
theorem ZpN{f:FuncId}{fn:Func}:∀ {l:List (FuncId×Func)},ZAo f l=some fn→(f,fn)∈l
 | [],h=>by cases h
 | p ::l,h=>by
   unfold ZAo at h
   cases hb:Nat.beq p.1 f
   ·rw[hb]at h;exact Yb6 _ (ZpN h)
   ·rw[hb]at h
    have:=Nat.eq_of_beq_eq_true hb
    subst this
    simp only[cond_true,Ya1]at h
    subst h
    exact Yb7
section
variable (P:Program) (fs:List (FuncId×Func)) (ora:FuncId→List D→Option D) (inB:FuncId→Bool) (L:Nat)
def evB(call:FuncId→List D→Option D)(inl:FuncId→List D→List (Nat×Blk)→Nat→Option (D×List (Nat×Blk)×Nat))(f:FuncId)(ds:List D)(m:List (Nat×Blk))(nx:Nat):Option (D×List (Nat×Blk)×Nat) :=
 match ZAo f fs with
 | none=>none
 | some fn=>match fn.body with
   | none=>none
   | some c=>cond (Nat.ble ds.length fn.ntmps) (match evC P call inl L c ⟨Zrm 0 ds,m,nx⟩with
     | some (.normal,s)=>match ZhH P (s.den nx) fn.results.toList with
       | some r=>some (oneD r,s.m,s.nx)
       | none=>none
     | some (.ret,s)=>match ZhH P (s.den nx) fn.results.toList with
       | some r=>some (oneD r,s.m,s.nx)
       | none=>none
     | _=>none) none
def evN(inl:FuncId→List D→List (Nat×Blk)→Nat→Option (D×List (Nat×Blk)×Nat))(f:FuncId)(ds:List D):Option D :=
 match ora f ds with
 | some d=>some d
 | none=>match inl f ds [] 0 with
   | some (d,m,_)=>some (fzT true (tabM m) 8 d)
   | none=>none
def evF:Nat→FuncId→List D→List (Nat×Blk)→Nat→Option (D×List (Nat×Blk)×Nat)
 | 0,_,_,_,_=>none
 | k+1,f,ds,m,nx=>evB P fs L (evN ora (evF k)) (fun g es m' nx'=>cond (inB g) (evF k g es m' nx') none) f ds m nx
variable {P fs ora inB L}
theorem ZFl[Ifl](hm:P.follows .mixedOrders=true)(hfs:∀ p∈fs,P.funcs[p.1]? =some p.2∧ZuN P p=true){call:FuncId→List D→Option D}{inl:FuncId→List D→List (Nat×Blk)→Nat→Option (D×List (Nat×Blk)×Nat)}
 (hc:∀ f ds d,call f ds=some d→Zaa P f ds d) (hi:∀ f ds m nx d m' nx',inl f ds m nx=some (d,m',nx')→∀ K:D→Mem→Nat→Prop,K d (tabM m') nx'→ZaM P f ds (tabM m) nx K)
 {f:FuncId} {ds:List D} {m m':List (Nat×Blk)} {nx nx':Nat} {d:D} (h:evB P fs L call inl f ds m nx=some (d,m',nx')) {K:D→Mem→Nat→Prop} (k:K d (tabM m') nx'):ZaM P f ds (tabM m) nx K:=by
 unfold evB at h
 split at h
 ·cases h
 ·rename_i fn hfn
  obtain⟨h1,h2⟩:=hfs _ (ZpN hfn)
  split at h
  ·cases h
  ·rename_i c hb
   unfold ZuN at h2
   simp only[hb,Ya2,Bool.not_eq_true']at h2
   obtain⟨g1,g2,g3⟩:=h2
   cases hl:Nat.ble ds.length fn.ntmps
   ·rw[hl]at h;cases h
   ·rw[hl]at h
    simp only[cond_true]at h
    have e0:(⟨Zkq ds,tabM m,nx,nx⟩:St)=(⟨Zrm 0 ds,m,nx⟩:CS).den nx:=by unfold CS.den;simp only[ZuV]
    have fin : ∀ {s : CS}, (match ZhH P (s.den nx) fn.results.toList with
        | some r=>some (oneD r,s.m,s.nx)
        | none=>none)=some (d,m',nx')→∃ r,ZhH P (s.den nx) fn.results.toList=some r∧K (oneD r) (s.den nx).m (s.den nx).nx:=fun {s} h=>by
     split at h
     ·rename_i r hr;cases h;exact⟨r,hr,k⟩
     ·cases h
    refine ZaM.inline h1 hb g2 (decide_eq_true (Nat.le_of_ble_eq_true hl)) g3 ?_
    rw[e0]
    split at h
    ·rename_i s hs;exact ZgS hc hi hm c _ s .normal _ g1 hs (fin h)
    ·rename_i s hs;exact ZgS hc hi hm c _ s .ret _ g1 hs (fin h)
    ·cases h
theorem ZxW(hm:P.follows .mixedOrders=true)(hfs:∀ p∈fs,P.funcs[p.1]? =some p.2∧ZuN P p=true)(ho:∀ f ds d,ora f ds=some d→Zaa P f ds d):∀ (k:Nat)(f:FuncId)(ds:List D) (m m':List (Nat×Blk)) (nx nx':Nat) (d:D),evF P fs ora inB L k f ds m nx=some (d,m',nx')→∀ (I:Ifl)(K:D→Mem→Nat→Prop),K d (tabM m') nx'→@ZaM I P f ds (tabM m) nx K
 | 0,_,_,_,_,_,_,_,h,_,_,_=>by cases h
 | k+1,f,ds,m,m',nx,nx',d,h,I,K,hk=>by
   unfold evF at h
   refine ZFl hm hfs (fun g es d hg=>?_) (fun g es m1 n1 d1 m2 n2 hg K1 k1=>?_) h hk
   ·unfold evN at hg
    split at hg
    ·rename_i d' hd;cases hg;exact ho _ _ _ hd
    ·split at hg
     ·rename_i d' m1 n1 hd
      cases hg
      exact Zaa.ofA fun I=>ZxW hm hfs ho k g es [] m1 0 n1 d' hd I _ rfl
     ·cases hg
   ·cases hb:inB g
    ·simp only[hb,cond_false]at hg;cases hg
    ·simp only[hb,cond_true]at hg
     exact ZxW hm hfs ho k g es m1 m2 n1 n2 d1 hg I K1 k1
theorem ZBy(hm:P.follows .mixedOrders=true)(hfs:∀ p∈fs,P.funcs[p.1]? =some p.2∧ZuN P p=true)(ho:∀ f ds d,ora f ds=some d→Zaa P f ds d){k:Nat}{f:FuncId}{ds:List D}{d:D}(h:evN ora (evF P fs ora inB L k) f ds=some d):Zaa P f ds d:=by
 unfold evN at h
 split at h
 ·rename_i d' hd;cases h;exact ho _ _ _ hd
 ·split at h
  ·rename_i d' m1 n1 hd
   cases h
   exact Zaa.ofA fun I=>ZxW hm hfs ho k f ds [] m1 0 n1 d' hd I _ rfl
  ·cases h
end
set_option maxRecDepth 100000
def ZCI(_:FuncId)(_:List D):Option D:=none
theorem ZsA{P:Program}:∀ (f:FuncId)(ds:List D)(d:D),ZCI f ds=some d→Zaa P f ds d:=fun _ _ _ h=>by cases h
noncomputable def fsE:List (FuncId×Func):=[(25,Tryz.f25)]
theorem ZE1:∀ p∈fsE,Tryz.prog.funcs[p.1]? =some p.2∧ZuN Tryz.prog p=true:=by
 unfold fsE
 simp only[List.forall_mem_cons,List.not_mem_nil,false_implies,implies_true,and_true]
 exact⟨Tryz.func25,by kernel_rfl⟩
theorem Zl5:Zaa Tryz.prog 25 [] (ZcL exT) :=
 ZBy (ora:=ZCI) (inB:=fun _=>false) (L:=100) (k:=10) ZdX ZE1 ZsA (by kernel_rfl)
noncomputable def fsM:List (FuncId×Func):=[(116,Tryz.f116),(171,Tryz.f171)]
theorem ZE0:∀ p∈fsM,Tryz.prog.funcs[p.1]? =some p.2∧ZuN Tryz.prog p=true:=by
 unfold fsM
 simp only[List.forall_mem_cons,List.not_mem_nil,false_implies,implies_true,and_true]
 exact⟨⟨Tryz.func116,by kernel_rfl⟩,⟨Tryz.func171,by kernel_rfl⟩⟩
theorem ZCT(n:Nat)(hn:n≤6):Zaa Tryz.prog 116 [.v (.int .u64 1),.v (.int .u64 n)] (.tup [.v (.int .u64 0),.v (.int .u64 n)]):=by
 have h:n=0∨n=1∨n=2∨n=3∨n=4∨n=5∨n=6:=by omega
 rcases h with rfl|rfl|rfl|rfl|rfl|rfl|rfl <;>
  exact ZBy (ora:=ZCI) (inB:=fun _=>false) (L:=10) (k:=3) ZdX ZE0 ZsA (by kernel_rfl)
theorem Zw2(w:World)(n:Nat)(hn:n≤6):Calls Tryz.prog 116 #[.int .u64 1,.int .u64 n] w fun e w'=>e = .returned (.tuple #[.int .u64 0,.int .u64 n])∧Below w.heap.size w w':=by
 refine((ZCT n hn).2 (fun _ _=>True) w [.int .u64 1,.int .u64 n] (fun _ _ _=>trivial) (Reps.cons (.v _) (Reps.cons (.v _) Reps.nil))).mono ?_
 rintro e w' ⟨v,rfl,hb,hr⟩
 refine⟨?_,hb⟩
 obtain⟨vs,rfl,h1,h2⟩:=hr.inv_tup
 match vs,h1 with
 | [x,y],_ =>
   have ex:=(h2 0 x _ rfl rfl).inv_v
   have ey:=(h2 1 y _ rfl rfl).inv_v
   subst ex
   subst ey
   rfl
open Go Go.RowKit Go.Deep
set_option maxHeartbeats 4000000
abbrev M1:Value:=.int .i64 (-1)
def repL(n k:Nat):List Value:=List.replicate k M1++List.replicate (n-k) (.int .i64 0)
theorem ZuB(n:Nat):madeCells #[Value.int .i64 0] n=(repL n 0).toArray:=by
 unfold madeCells repL
 apply Array.ext
 ·simp
 ·intro i h1 h2
  simp[Nat.mod_one]
theorem Zmz(n k:Nat)(hk:k≤n)(c:Nat)(hc:k+c≤n):_root_.Go.splice (repL n k) k (List.replicate c M1)=repL n (k+c):=by
 unfold _root_.Go.splice repL
 rw[List.take_append_of_le_length (by simp),Ya8 (by simp),List.length_replicate,List.drop_append,List.length_replicate,List.drop_of_length_le (by simp),List.drop_replicate,Yc8,← Yd3,List.replicate_append_replicate]
 congr 2
 omega
theorem Zsj(n k:Nat)(h:k≤n):(repL n k).length=n:=by unfold repL;simp;omega
theorem Zuk(w:World)(b n cap:Nat)(hb:w.cell? ⟨b,0,none⟩=some M1)(h1:1≤n)(h6:n≤6) :
 Calls Tryz.prog 64 #[.slice (some ⟨b,0,none⟩) 1 cap,.int .i64 n] w fun e w'=>∃ g,e = .returned (.slice (some ⟨g,0,none⟩) n n)∧w.heap.size≤g∧Below w.heap.size w w'∧w'.heap[g]? =some (.cells (repL n n).toArray 3 (0,0)):=by
 have hmk:=fun w=>run_make_row' (P:=Tryz.prog) 43 3 (.int .i64 0) 8 Tryz.underlying43 (by kernel_rfl) rfl .i64 .i64 n (by omega) (by omega) w
 have hn64:IntKind.i64.wrap (n:Int)=n:=by rw[IntKind.wrap_i64];omega
 simp only[ZuB]at hmk
 have Hb:=Lib.hid hb
 have hblt:b<w.heap.size:=Zf1 hb
 have hmin:Nat.min 1 n=1:=by show min 1 n=1;omega
 have hone:∀ (c:Nat),∀ v∈List.replicate c M1,v.oneCell'=true:=fun c v hv=>by rw[Yd4 hv];rfl
 have hfit:0+(List.replicate 1 M1).length≤(repL n 0).length:=by rw[Zsj n 0 (by omega)];exact h1
 have hcell1:∀ w1:World,Below w.heap.size w w1→∀ (j:Nat)(v:Value),(List.replicate 1 M1)[j]? =some v→w1.cell? ((⟨b,0,none⟩:Addr).add j)=some v:=fun w1 h1 j v hv=>by
  have hj:j=0:=by
   have:=(Ya3.1 hv).1
   simp at this;exact this
  subst hj
  simp at hv
  subst hv
  have:(⟨b,0,none⟩:Addr).add 0=⟨b,0,none⟩:=rfl
  rw[this,h1.cell (p:=⟨b,0,none⟩) hblt];exact hb
 have hsp:_root_.Go.splice (repL n 0) 0 (List.replicate 1 M1)=repL n 1:=Zmz n 0 (Yb0 _) 1 (by omega)
 clear hb
 go_enter Tryz.func64,Tryz.ntmps64
 go_wp2_with (first
  | (go_at_call 116;refine(Zw2 _ _ h6).mono ?_;rintro e w1 ⟨rfl,hB1⟩)
  | ((with_reducible show wpList _ _ _ (⟨some 33,_,_,_,_,_⟩ ::_) _ _);refine wpList_copy_splice (o:=⟨some 33,_,_,_,_,_⟩) rfl (.tmp 31) (.tmp 32) 43 43 rfl 3 Tryz.underlying43 (by kernel_rfl) (some ⟨w1.heap.size,0,none⟩) (some ⟨b,0,none⟩) n n 1 cap rfl rfl w1.heap.size 0 (repL n 0) 3 (World.alloc_heap_new _ _) (List.replicate 1 M1) (by rw[hmin];rfl) (fun _=>⟨rfl,_,rfl,hcell1 _ (hB1.alloc hB1.size _)⟩) hfit (hone 1) w.heap.size w (hB1.alloc hB1.size _) hB1.size ?_;rw[hsp];intro w4 hg4 hb4))
 obtain⟨g,hg⟩:∃ g,w1.heap.size=g:=⟨_,rfl⟩
 have hgw:w.heap.size≤g:=by rw[← hg];exact hB1.size
 rw[hg]at hg4
 rw[hg]
 clear hmk hcell1 Hb hB1 hg
 go_loopw [8] (fun i wr=>∃ k:Nat,1≤k∧k≤n∧i=I k∧Below w.heap.size w wr∧wr.heap[g]? =some (.cells (repL n k).toArray 3 (0,0))) (fun i _=>n-(intOf i).toNat)
 case atStart=>exact⟨1,Ya4 _,h1,rfl,hb4,hg4⟩
 case round =>
  obtain⟨k,k1,kn,rfl,hB,hG⟩:=hrel
  by_cases hlt:k<n
  ·obtain⟨c,hc⟩:∃ c,Nat.min k (n-k)=c:=⟨_,rfl⟩
   have hc':min k (n-k)=c:=hc
   have c1:1≤c:=by omega
   have ck:c≤k:=by omega
   have cn:k+c≤n:=by omega
   have hne:¬ n=k:=by omega
   have hkn:(k:Int)≤n:=by omega
   have k0:(0:Int)≤k:=by omega
   have hw:IntKind.i64.wrap ((k:Int)+(c:Int))=((k+c:Nat):Int):=by rw[IntKind.wrap_i64];omega
   have hcell:∀ (j:Nat)(v:Value),(List.replicate c M1)[j]? =some v→wr.cell? ((⟨g,0,none⟩:Addr).add j)=some v:=fun j v hv=>by
    obtain⟨hj,hv⟩:=Ya3.1 hv
    rw[List.length_replicate]at hj
    have hadd:(⟨g,0,none⟩:Addr).add j=⟨g,j,none⟩:=by unfold Addr.add;split<;>simp_all
    rw[hadd,Zb0 hG]
    simp only[List.getElem_replicate]at hv
    subst hv
    unfold repL
    rw[List.getElem?_toArray,Yc3 (by simp;omega),List.getElem?_replicate,if_pos (by omega)]
   have hfit:k+(List.replicate c M1).length≤(repL n k).length:=by rw[Zsj n k (by omega),List.length_replicate];omega
   have hsp:_root_.Go.splice (repL n k) k (List.replicate c M1)=repL n (k+c):=Zmz n k (by omega) c cn
   have hlen:(List.replicate c M1).length=Nat.min k (n-k):=by rw[List.length_replicate,hc]
   go_upto_region 9 with fail
   go_region_law (refine step_copy_splice rfl (.tmp 41) (.tmp 44) 43 43 rfl 3 Tryz.underlying43 (by kernel_rfl) (some ⟨g,k,none⟩) (some ⟨g,0,none⟩) (n-k) (n-k) k n (by simp[Act.eval,Act.put]) (by simp[Act.eval,Act.put]) g k (repL n k) 3 hG (List.replicate c M1) hlen (fun _=>⟨rfl,_,rfl,hcell⟩) hfit (hone c) w.heap.size w hB.drew hgw ?_;rw[hsp];intro w5 hg5 hb5)
   go_simp
   go_roundw
   case rel =>
    refine⟨_,_,_,_,_,_,_,_,_,_,_,_,_,_,⟨k+c,by omega,cn,?_,hb5,hg5⟩,rfl⟩
    rw[Int.natCast_add]
   case measure=>simp[intOf];omega
  ·have hkn:k=n:=by omega
   subst hkn
   go_wp2_with fail
   go_ret
   exact⟨g,rfl,hgw,hB,hG⟩
set_option maxHeartbeats 16000000
theorem Zz4[Ifl]{s:St}(id i j:Nat){b:Blk}{e:List D}(hb:s.m id=some b)(he:b.es[i]? =some e)(hj:e[j]? =some .nil) :
 StLe s {s with m:=upd s.m id (some {b with es:=b.es.set i (e.set j (.sl []))})}:=by
 intro E B n β a w h
 obtain⟨g1,g2,g3⟩:=ZmQ (id:=id) (b:=b) (es':=b.es.set i (e.set j (.sl []))) h.mem hb (by simp) (fun i' e' hi'=>by
  rw[List.getElem?_set]at hi'
  split at hi'
  ·rename_i hii
   subst hii
   split at hi'
   ·cases hi';exact⟨e,he,by simp⟩
   ·cases hi'
  ·exact⟨e',hi',rfl⟩) (fun i' j' d' hd'=>by
  obtain⟨e',he',hj'⟩:=Zal.1 hd'
  rw[List.getElem?_set]at he'
  split at he'
  ·rename_i hii
   subst hii
   split at he'
   ·cases he'
    rw[List.getElem?_set]at hj'
    split at hj'
    ·rename_i hjj
     subst hjj
     split at hj'
     ·cases hj'
      exact⟨.nil,Zal.2 ⟨e,he,hj⟩,fun u hu=>Zdw hu.inv_nil⟩
     ·cases hj'
    ·exact⟨d',Zal.2 ⟨e,he,hj'⟩,fun _ hu=>hu⟩
   ·cases he'
  ·exact⟨d',Zal.2 ⟨e',he',hj'⟩,fun _ hu=>hu⟩)
 exact⟨_,g1,fun k hk=>(h.tmp k hk).mono g2 g3,h.width,h.defers,h.le.trans g2,h.sle.trans g3,h.lo⟩
theorem lo2{l:List Nat}(h0:l[0]? =some 0)(h1:l[1]? =some 1):∀ id,id<2→l.contains id=true:=by
 intro id h
 rw[List.contains_iff_mem]
 have:id=0∨id=1:=by omega
 rcases this with rfl|rfl
 ·exact Ya7 h0
 ·exact Ya7 h1
theorem Zu2{t:TrD}(h:ZbX t=0):ZbX (ZcS t)=0:=by
 obtain⟨h1,h2,h3⟩:=ZhZ h
 have R:=Znk h
 unfold ZbX ZcS
 rw[if_pos h1,if_neg (by have:=R.lc;simp;omega)]
 simpa[Zfx]using h3
theorem ZrA(t0:TrD)(R0:Zbd t0)(h1:ZbX t0=0)(L0:LenT t0)(find:Nat)(f:FiD)(hx:t0.fi[find]? =some f)(lift:Nat) :
 Zah Tryz.prog 71 [ZcL t0,dI find,dI lift,Zab (natI (Zaw t0.e))] (encS (ZaG t0 f.k lift)):=by
 have hresA:=Tryz.results71
 have Zr:=Tryz.results40
 have hresR:=Tryz.results85
 obtain⟨-,hk,-⟩:=R0.fi f (Ya7 hx)
 obtain⟨kind,ekind⟩:∃ k,f.k=k:=⟨_,rfl⟩
 rw[ekind]at hk
 have f0:(0:Int)≤find:=by omega
 obtain⟨t,et⟩:∃ t,ZcS t0=t:=⟨_,rfl⟩
 have R:Zbd t:=et▸Zb2 R0
 have h1:ZbX t=0:=et▸Zu2 h1
 have L:LenT t:=by rw[← et];exact⟨L0.e,by simp[ZcS],L0.cl⟩
 have eE:t.e=t0.e:=by rw[← et];rfl
 have eT:[dI t0.e.m,dI t0.e.h,dI t0.e.s,Zm7 t0.e.pl,Zjc t0.e.mv,ZpV t0.e.ce,Zjb t0.e.re,Ztp t0.e.pu,.sl [],Ztq t0.cl]=cTr t:=by rw[← et];rfl
 have eS:ZaG t0 f.k lift=⟨t.e.mv.length,ZbS t kind t.e.mv.length++Zgg t.e lift⟩:=by unfold ZaG;rw[et,eE,ekind]
 rw[eS,← eE]
 have k1:=ZkY t L
 have k2:=Zxj t R kind
 have k3:=nZ_c
 have k4:=nO_c
 have Lm:=R.e.lm
 rw[h1]at k1
 have h2:¬ kind<0:=by omega
 have h3:¬ kind≥8:=by omega
 refine inC Tryz.func71 rfl Tryz.ntmps71 ?_
 repeat ((fail_if_success (with_reducible refine Zdl 3 ?_)); first
     | (refine hK _ ?_;clear hK;clear K)
     | (refine aSeq fun K hK=>?_)
     | (refine ZcJ ?_)
     | (refine ZeU ?_)
     | (refine ZeW ?_)
     | (refine aRet ?_)
     | (refine aOps _ rfl (by kernel_rfl) ?_)
     | (refine ZeV _ rfl ZdX (by kernel_rfl) (by kernel_rfl) fun KE hE=>?_)
     | (refine hE _ _ (by kernel_rfl) (ZaC rfl) ?_;clear hE;clear KE)
     | (refine hE _ _ (by kernel_rfl) (Za7 ?hi ?hj) ?_;(case hi=>(repeat(refine Zan rfl ?_));exact Zaq);(case hj=>simp);clear hE;clear KE)
     | (refine ZcH rfl ?hc ?_;case hc=>simp only[go_sem,↓reduceIte,hresA,hx,f0,ekind])
     | (refine ZcI rfl ?hc ?_;case hc=>simp only[go_sem,↓reduceIte,hresA,hx,f0,ekind])
     | (simp only[go_sem,↓reduceIte,hresA,hx,f0,ekind])
     | (refine And.intro ?ho ?_;(case ho=>omega))
     | (clear hK;clear K))
 refine aLe (Zz4 0 0 8 rfl rfl rfl) ?_
 simp only[go_sem,eT]
 refine aGo hresA ?_
 repeat with_reducible intro K hK
 refine Zbq Tryz.func40 rfl (by kernel_rfl) (by kernel_rfl) (by kernel_rfl) ?_
 rw[Tryz.ntmps40]
 refine aGo (cj3 Zr h2 h3) ?_
 repeat with_reducible intro K hK
 have kl:(ZcP t kind).length=t.e.mv.length:=by simp[ZcP]
 refine aLe (ZdH 5 0 1 153 6 rfl rfl rfl) ?_
 simp only[go_sem]
 refine Zas (fun(x:Nat×Nat)=>[(2,.lp 2 0 0 0),(4,.lp 3 0 0 0),(6,.lp 4 0 0 0),(7,.lp 5 0 0 0),(8,.clo 85 [.lp 5 0 0 0]),(34,ZgT (ZcP t kind)),(35,dI t.e.mv.length),(36,dI x.1)]) (fun x=>[(0,⟨32,0,10,[cTr t],0,false⟩),(1,⟨99,0,2,[[dI 0,.nil]],0,false⟩),(2,⟨32,0,10,[cTr t],0,false⟩),(3,⟨99,0,2,[[dI 0,.nil]],0,false⟩),(4,⟨28,0,8,[cEv t.e],0,false⟩),(5,⟨99,0,2,[[dI t.e.mv.length,.ls 6 x.2]],0,false⟩),(6,⟨153,x.2,6,(ZbS t kind x.1).map cW,0,false⟩)]) 7 2 (fun x=>x.1≤t.e.mv.length) (fun x=>t.e.mv.length-x.1) (0,0) (by show 0≤t.e.mv.length;omega) ?_ ?_
 ·have e0:ZbS t kind 0=[]:=rfl
  refine Zak _ _ _ ?_ ?_ ?_ ?_ ?_ (.inr (lo2 rfl rfl))<;>simp[go_sem,okD,okDs,Zav,e0,kl]
 rintro⟨k,V⟩ hk2
 simp only at hk2
 obtain⟨hw,h0⟩:=ZaO k
 have hA:=Zhd t R kind k
 have hA2:=Zhd t R kind (k+1)
 have eR:ZbS t kind (k+1)=ZbS t kind k++ZhG t kind k:=rfl
 by_cases h4:(k:Int)<t.e.mv.length
 ·have hka:(ZcP t kind)[k]? =some (abK t kind k):=by unfold ZcP;rw[Yb8,List.getElem?_range (by omega)];rfl
  have kb:=ZFu t.e R.e k (by omega)
  have ks:=ZvE t.e R.e k (by omega)
  have eK:ZhG t kind k=(if ZcD t.e k then []else [ZcN t.e k])++((if (abK t kind k).cap then [oneR k 1 (abK t kind k).hi]else [])++((abK t kind k).fi.map (fun(g:Int)=>oneR k 0 (ofQ (g:Rat)))++List.replicate (abK t kind k).cl.toNat (oneR k 2 (ofQ 0)))):=by
   unfold ZhG abK;rfl
  have hcl:0≤(abK t kind k).cl∧(abK t kind k).cl≤50:=by
   have q2:=Yb1 (fun f:ClD=>f.k==kind&&f.v==(k:Int)) t.cl
   have l5:=R.lc
   unfold abK cleK
   simp only;omega
  have hfi:(abK t kind k).fi.length≤20∧∀ g∈(abK t kind k).fi,1≤g∧g≤1099511627776:=by
   have q2:=Yb1 (fun f:FiD=>f.k==kind&&f.v==(k:Int)) t.fi
   have l4:=R.lf
   refine⟨by unfold abK finK;simp only[Yc0];omega,fun g hg=>?_⟩
   obtain⟨f,hf,rfl⟩:=Yc6.1 hg
   exact(R.fi f (List.mem_filter.1 hf).1).2.2
  generalize abK t kind k=ab at hka hcl hfi eK
  obtain⟨hi,cap,fi,cl⟩:=ab
  dsimp only at eK hcl hfi
  rw[eK]at eR
  clear eK
  obtain⟨A,eA⟩:∃ A,ZbS t kind k=A:=⟨_,rfl⟩
  obtain⟨A',eA'⟩:∃ A,ZbS t kind (k+1)=A:=⟨_,rfl⟩
  rw[eA]at hA
  rw[eA']at hA2
  rw[eA,eA']at eR
  generalize ZcD t.e k=b at kb eR
  rw[eA]
  refine aGo (cj4 Zr h0 h4 hka) ?_
  repeat with_reducible intro K hK
  have Zgn:∀ (A1 A2:List RowD),A'=A1++A2→A1.length≤14400:=fun A1 A2 h=>by
   have:=congrArg List.length h
   rw[Yb9]at this;omega
  have r1:∀ (A1:List RowD)(V1:Nat),A'=A1++((if cap then [oneR k 1 hi]else [])++(fi.map (fun(g:Int)=>oneR k 0 (ofQ (g:Rat)))++List.replicate cl.toNat (oneR k 2 (ofQ 0))))→∀ st,StLe st ⟨tabT [(2,.lp 2 0 0 0),(4,.lp 3 0 0 0),(6,.lp 4 0 0 0),(7,.lp 5 0 0 0),(8,.clo 85 [.lp 5 0 0 0]),(34,ZgT (ZcP t kind)),(35,dI t.e.mv.length),(36,dI k),(9,dI k),(10,.lp 7 0 0 0)],tabM [(0,⟨32,0,10,[cTr t],0,false⟩),(1,⟨99,0,2,[[dI 0,.nil]],0,false⟩),(2,⟨32,0,10,[cTr t],0,false⟩),(3,⟨99,0,2,[[dI 0,.nil]],0,false⟩),(4,⟨28,0,8,[cEv t.e],0,false⟩),(5,⟨99,0,2,[[dI t.e.mv.length,.ls 6 V1]],0,false⟩),(6,⟨153,V1,6,A1.map cW,0,false⟩),(7,⟨88,0,7,[cAb ⟨hi,cap,fi,cl⟩],0,false⟩)],8,2⟩→K st:=by
   clear eR hA
   intro A1 V1 e1 st hle
   refine hK _ (aLe hle ?_)
   clear hle hK
   have bA1:=Zgn A1 _ e1
   refine aGo Zr ?_
   repeat with_reducible intro K hK
   have r2:∀ (A2:List RowD)(V2:Nat),A'=A2++(fi.map (fun(g:Int)=>oneR k 0 (ofQ (g:Rat)))++List.replicate cl.toNat (oneR k 2 (ofQ 0)))→∀ st,StLe st ⟨tabT [(2,.lp 2 0 0 0),(4,.lp 3 0 0 0),(6,.lp 4 0 0 0),(7,.lp 5 0 0 0),(8,.clo 85 [.lp 5 0 0 0]),(34,ZgT (ZcP t kind)),(35,dI t.e.mv.length),(36,dI k),(9,dI k),(10,.lp 7 0 0 0)],tabM [(0,⟨32,0,10,[cTr t],0,false⟩),(1,⟨99,0,2,[[dI 0,.nil]],0,false⟩),(2,⟨32,0,10,[cTr t],0,false⟩),(3,⟨99,0,2,[[dI 0,.nil]],0,false⟩),(4,⟨28,0,8,[cEv t.e],0,false⟩),(5,⟨99,0,2,[[dI t.e.mv.length,.ls 6 V2]],0,false⟩),(6,⟨153,V2,6,A2.map cW,0,false⟩),(7,⟨88,0,7,[cAb ⟨hi,cap,fi,cl⟩],0,false⟩)],8,2⟩→K st:=by
    clear e1 bA1
    intro A2 V2 e2 st hle
    refine hK _ (aLe hle ?_)
    clear hle hK
    refine aGo Zr ?_
    repeat with_reducible intro K hK
    obtain⟨F,hF⟩:∃ F:Nat→List RowD,F=fun j=>A2++(fi.take j).map (fun(g:Int)=>oneR k 0 (ofQ (g:Rat))):=⟨_,rfl⟩
    have F0:F 0=A2:=by rw[hF];simp
    have Fn:F fi.length=A2++fi.map (fun(g:Int)=>oneR k 0 (ofQ (g:Rat))):=by rw[hF];simp
    have Fs:∀ (j:Nat)(g:Int),fi[j]? =some g→F (j+1)=F j++[oneR k 0 (ofQ (g:Rat))]:=fun j g hg=>by rw[hF];simp only;rw[Yb4,hg];simp
    have bA2:=Zgn A2 _ e2
    have Fl:∀ j:Nat,j≤fi.length→(F j).length≤14420:=fun j hj=>by rw[hF];simp;omega
    refine Zas (fun(x:Nat×Nat)=>[(2,.lp 2 0 0 0),(4,.lp 3 0 0 0),(6,.lp 4 0 0 0),(7,.lp 5 0 0 0),(8,.clo 85 [.lp 5 0 0 0]),(34,ZgT (ZcP t kind)),(35,dI t.e.mv.length),(36,dI k),(9,dI k),(10,.lp 7 0 0 0),(61,Zab fi),(62,dI fi.length),(63,dI x.1)]) (fun x=>[(0,⟨32,0,10,[cTr t],0,false⟩),(1,⟨99,0,2,[[dI 0,.nil]],0,false⟩),(2,⟨32,0,10,[cTr t],0,false⟩),(3,⟨99,0,2,[[dI 0,.nil]],0,false⟩),(4,⟨28,0,8,[cEv t.e],0,false⟩),(5,⟨99,0,2,[[dI t.e.mv.length,.ls 6 x.2]],0,false⟩),(6,⟨153,x.2,6,(F x.1).map cW,0,false⟩),(7,⟨88,0,7,[cAb ⟨hi,cap,fi,cl⟩],0,false⟩)]) 8 2 (fun x=>x.1≤fi.length) (fun x=>fi.length-x.1) (0,V2) (by show 0≤fi.length;omega) ?_ ?_
    ·refine Zak _ _ _ ?_ ?_ ?_ ?_ ?_ (.inr (lo2 rfl rfl))<;>simp[go_sem,okD,okDs,Zav,F0]<;>exact ZbQ _ _
    rintro⟨j,W⟩ hj
    simp only at hj
    obtain⟨hwj,j0⟩:=ZaO j
    by_cases h5:(j:Int)<fi.length
    ·obtain⟨g,hg⟩:∃ g,fi[j]? =some g:=⟨_,Ya0 (by omega)⟩
     obtain⟨g1,g2⟩:=hfi.2 g (Ya7 hg)
     have kg:=ZiS g (by omega) (by omega)
     have eB:=Fs j g hg
     have bl:=Fl j hj
     generalize F j=B at eB bl
     have ew:cW (oneR k 0 (ofQ (g:Rat)))=[.sl [cT ⟨k,ofQ 1⟩],dI 0,dI (ofQ (g:Rat)).p.s,Zab (ofQ (g:Rat)).p.d,dI (ofQ (g:Rat)).q.s,Zab (ofQ (g:Rat)).q.d]:=rfl
     refine aGo (cj4 Zr j0 h5 hg) ?_
     repeat with_reducible intro K hK
     refine Zbq Tryz.func85 rfl (by kernel_rfl) (by kernel_rfl) (by kernel_rfl) ?_
     rw[Tryz.ntmps85]
     refine aGo (cj3 Zr hresR hwj) ?_
     repeat with_reducible intro K hK
     refine Zad (j+1,W+1) ?_ ?_ ?_
     ·show j+1≤fi.length;omega
     ·show fi.length-(j+1)<fi.length-j;omega
     have ez:∀ M:Mem,List.map (List.map (fzT false M 4)) (B.map cW)=B.map cW:=fun M=>Zao (fun _=>rfl) _
     refine StLe.trans (Zdz 9 rfl) (StLe.trans (Ze4 6 4 rfl) (Zq8 (by simp only[go_sem,fzT,ez];exact rfl) ?_))
     refine Zak _ _ _ ?_ ?_ ?_ ?_ ?_ (.inr (lo2 rfl rfl))<;>simp[go_sem,okD,okDs,Zav,ew,eB]
     all_goals (rintro e (⟨a,_,rfl⟩|rfl)<;>rfl)
    obtain rfl:j=fi.length:=by omega
    have e3:A'=F fi.length++List.replicate cl.toNat (oneR k 2 (ofQ 0)):=by rw[Fn,e2,Yd3]
    have bF:=Fl fi.length (Ya4 _)
    generalize F fi.length=A3 at e3 bF
    clear Fs Fn F0 hF e2 Fl bA2
    refine aGo (cj2 Zr h5) ?_
    repeat with_reducible intro K hK
    obtain⟨G,hG⟩:∃ G:Nat→List RowD,G=fun j=>A3++List.replicate j (oneR k 2 (ofQ 0)):=⟨_,rfl⟩
    have G0:G 0=A3:=by rw[hG];simp
    have Gs:∀ j:Nat,G (j+1)=G j++[oneR k 2 (ofQ 0)]:=fun j=>by rw[hG];simp only;rw[List.replicate_succ',Yd3]
    have Gl:∀ j:Nat,j≤50→(G j).length≤14470:=fun j hj=>by rw[hG];simp at bF ⊢;omega
    refine Zas (fun(x:Nat×Nat)=>[(2,.lp 2 0 0 0),(4,.lp 3 0 0 0),(6,.lp 4 0 0 0),(7,.lp 5 0 0 0),(8,.clo 85 [.lp 5 0 0 0]),(34,ZgT (ZcP t kind)),(35,dI t.e.mv.length),(36,dI k),(9,dI k),(10,.lp 7 0 0 0),(74,dI cl),(75,dI x.1)]) (fun x=>[(0,⟨32,0,10,[cTr t],0,false⟩),(1,⟨99,0,2,[[dI 0,.nil]],0,false⟩),(2,⟨32,0,10,[cTr t],0,false⟩),(3,⟨99,0,2,[[dI 0,.nil]],0,false⟩),(4,⟨28,0,8,[cEv t.e],0,false⟩),(5,⟨99,0,2,[[dI t.e.mv.length,.ls 6 x.2]],0,false⟩),(6,⟨153,x.2,6,(G x.1).map cW,0,false⟩),(7,⟨88,0,7,[cAb ⟨hi,cap,fi,cl⟩],0,false⟩)]) 8 2 (fun x=>(x.1:Int)≤cl) (fun x=>cl.toNat-x.1) (0,W) (by show((0:Nat):Int)≤cl;omega) ?_ ?_
    ·refine Zak _ _ _ ?_ ?_ ?_ ?_ ?_ (.inr (lo2 rfl rfl))<;>simp[go_sem,okD,okDs,Zav,G0]<;>exact ZbQ _ _
    clear h5 hwj j0 W
    rintro⟨j,W⟩ hj
    simp only at hj
    have hwj:=ZtM j
    by_cases h5:(j:Int)<cl
    ·have eB:=Gs j
     have bl:=Gl j (by omega)
     generalize G j=B at eB bl
     have ew:cW (oneR k 2 (ofQ 0))=[.sl [cT ⟨k,ofQ 1⟩],dI 2,dI (ofQ 0).p.s,Zab (ofQ 0).p.d,dI (ofQ 0).q.s,Zab (ofQ 0).q.d]:=rfl
     refine aGo (cj2 Zr h5) ?_
     repeat with_reducible intro K hK
     refine Zbq Tryz.func85 rfl (by kernel_rfl) (by kernel_rfl) (by kernel_rfl) ?_
     rw[Tryz.ntmps85]
     refine aGo (cj3 Zr hresR hwj) ?_
     repeat with_reducible intro K hK
     refine Zad (j+1,W+1) ?_ ?_ ?_
     ·show((j+1:Nat):Int)≤cl;omega
     ·show cl.toNat-(j+1)<cl.toNat-j;omega
     have ez:∀ M:Mem,List.map (List.map (fzT false M 4)) (B.map cW)=B.map cW:=fun M=>Zao (fun _=>rfl) _
     refine StLe.trans (Zdz 9 rfl) (StLe.trans (Ze4 6 4 rfl) (Zq8 (by simp only[go_sem,fzT,ez];exact rfl) ?_))
     refine Zak _ _ _ ?_ ?_ ?_ ?_ ?_ (.inr (lo2 rfl rfl))<;>simp[go_sem,okD,okDs,Zav,ew,eB]
     all_goals (rintro e (⟨a,_,rfl⟩|rfl)<;>rfl)
    have e4:ZbS t kind (k+1)=G j:=by rw[eA',e3,hG];simp only;congr 2;omega
    refine aGo (cj3 Zr h5 hw) ?_
    repeat with_reducible intro K hK
    exact Zad (k+1,W) (by show k+1≤t.e.mv.length;omega) (by show t.e.mv.length-(k+1)<t.e.mv.length-k;omega) (by refine Zak _ _ _ ?_ ?_ ?_ ?_ ?_ (.inr (lo2 rfl rfl))<;>simp[go_sem,okD,okDs,Zav,e4]<;>exact ZbQ _ _)
   clear hK
   cases cap
   ·rw[if_neg Yc5,Yc8]at e1
    refine aGo Zr ?_
    repeat with_reducible intro K hK
    exact r2 A1 V1 e1 _ (by refine Zak _ _ _ ?_ ?_ ?_ ?_ ?_ (.inr (lo2 rfl rfl))<;>simp[go_sem,okD,okDs,Zav]<;>exact ZbQ _ _)
   ·rw[if_pos rfl,Yc9,Yc8]at e1
    have ew:cW (oneR k 1 hi)=[.sl [cT ⟨k,ofQ 1⟩],dI 1,dI hi.p.s,Zab hi.p.d,dI hi.q.s,Zab hi.q.d]:=rfl
    have bl:(A1.map cW).length≤14400:=by simpa using bA1
    refine aGo Zr ?_
    repeat with_reducible intro K hK
    refine Zbq Tryz.func85 rfl (by kernel_rfl) (by kernel_rfl) (by kernel_rfl) ?_
    rw[Tryz.ntmps85]
    refine aGo hresR ?_
    repeat with_reducible intro K hK
    refine r2 (A1++[oneR k 1 hi]) (V1+1) (by rw[e1];simp) _ ?_
    have ez:∀ M:Mem,List.map (List.map (fzT false M 4)) (A1.map cW)=A1.map cW:=fun M=>Zao (fun _=>rfl) _
    refine StLe.trans (Zdz 9 rfl) (StLe.trans (Ze4 6 4 rfl) (Zq8 (by simp only[go_sem,fzT,ez];exact rfl) ?_))
    refine Zak _ _ _ ?_ ?_ ?_ ?_ ?_ (.inr (lo2 rfl rfl))<;>simp[go_sem,okD,okDs,Zav,ew]
    all_goals (rintro e (⟨a,_,rfl⟩|rfl)<;>rfl)
  clear hK
  cases b
  ·rw[if_neg Yc5]at eR
   refine aGo Zr ?_
   repeat with_reducible intro K hK
   exact r1 (A++[ZcN t.e k]) (V+1) (by rw[eR];simp) _ (by refine Zak _ _ _ ?_ ?_ ?_ ?_ ?_ (.inr (lo2 rfl rfl))<;>simp[go_sem,okD,okDs,Zav]<;>(rintro e (⟨a,_,rfl⟩|rfl)<;>rfl))
  ·rw[if_pos rfl,Yc8]at eR
   refine aGo Zr ?_
   repeat with_reducible intro K hK
   exact r1 A V eR _ (by refine Zak _ _ _ ?_ ?_ ?_ ?_ ?_ (.inr (lo2 rfl rfl))<;>simp[go_sem,okD,okDs,Zav]<;>exact ZbQ _ _)
 obtain rfl:k=t.e.mv.length:=by omega
 refine aGo (cj3 Zr hresA h4) ?_
 repeat with_reducible intro K hK
 have hA9:=Zhd t R kind t.e.mv.length
 have lf:=Zft t.e
 obtain⟨F,hF⟩:∃ F:Nat→List RowD,F=fun j=>ZbS t kind t.e.mv.length++((((Zaw t.e).take j).filter fun i=>i !=lift).map fun i=>oneR i 2 (ofQ 0)):=⟨_,rfl⟩
 have F0:F 0=ZbS t kind t.e.mv.length:=by rw[hF];simp
 have Fn:F (Zaw t.e).length=ZbS t kind t.e.mv.length++Zgg t.e lift:=by rw[hF];simp[Zgg]
 have Fs:∀ (j i:Nat),(Zaw t.e)[j]? =some i→F (j+1)=F j++if (i !=lift)=true then [oneR i 2 (ofQ 0)]else []:=fun j i hi=>by
  rw[hF];simp only
  rw[Yb4,hi,List.filter_append,List.map_append,Yd3]
  cases h:i !=lift<;>simp[h]
 have Fl:∀ j:Nat,(F j).length≤14600:=fun j=>by
  have q1:=Yb1 (fun i:Nat=>i !=lift) ((Zaw t.e).take j)
  have q2:=List.length_take_le' j (Zaw t.e)
  rw[hF];simp only[Yb9,Yc0];omega
 have nl:(natI (Zaw t.e)).length=(Zaw t.e).length:=by simp[natI]
 refine Zas (fun(x:Nat×Nat)=>[(2,dI lift),(8,.lp 1 0 0 0),(10,.lp 7 0 0 0),(27,Zab (natI (Zaw t.e))),(28,dI (Zaw t.e).length),(29,dI x.1)]) (fun x=>[(1,⟨99,0,2,[[dI 0,.nil]],0,false⟩),(6,⟨153,x.2,6,(F x.1).map cW,0,false⟩),(7,⟨99,0,2,[[dI t.e.mv.length,.ls 6 x.2]],0,false⟩)]) 8 0 (fun x=>x.1≤(Zaw t.e).length) (fun x=>(Zaw t.e).length-x.1) (0,V) (by show 0≤_;omega) ?_ ?_
 ·refine Zak _ _ _ ?_ ?_ ?_ ?_ ?_ (.inl rfl)<;>simp[go_sem,okD,okDs,Zav,F0,nl]<;>exact ZbQ _ _
 rintro⟨j,W⟩ hj
 simp only at hj
 obtain⟨hwj,j0⟩:=ZaO j
 by_cases h5:(j:Int)<(Zaw t.e).length
 ·obtain⟨i,hi⟩:∃ i,(Zaw t.e)[j]? =some i:=⟨_,Ya0 (by omega)⟩
  have hiI:(natI (Zaw t.e))[j]? =some (i:Int):=by unfold natI;rw[Yb8,hi];rfl
  have eB:=Fs j i hi
  have bl:=Fl j
  generalize F j=B at eB bl
  have kO:=Zlw i 1 (by decide) (by decide)
  rw[show(((1:Int)):Rat)=1 from rfl]at kO
  have ew:cW (oneR i 2 (ofQ 0))=[Zbk (ZaX i 1),dI 2,dI (ofQ 0).p.s,Zab (ofQ 0).p.d,dI (ofQ 0).q.s,Zab (ofQ 0).q.d]:=rfl
  cases h6:((i:Int) !=(lift:Int))
  ·have h6':(i !=lift)=false:=by simp at h6;simpa using (by omega:i=lift)
   rw[h6',if_neg Yc5,List.append_nil]at eB
   refine aGo (cj4 hresA j0 h5 (cj3 hiI h6 hwj)) ?_
   repeat with_reducible intro K hK
   exact Zad (j+1,W) (by show j+1≤_;omega) (by show(Zaw t.e).length-(j+1)<(Zaw t.e).length-j;omega) (by refine Zak _ _ _ ?_ ?_ ?_ ?_ ?_ (.inl rfl)<;>simp[go_sem,okD,okDs,Zav,eB]<;>exact ZbQ _ _)
  ·have h6':(i !=lift)=true:=by simp at h6;simpa using (by omega:¬ i=lift)
   rw[h6',if_pos rfl]at eB
   refine aGo (cj4 hresA j0 h5 (cj3 hiI h6 hwj)) ?_
   repeat with_reducible intro K hK
   exact Zad (j+1,W+1) (by show j+1≤_;omega) (by show(Zaw t.e).length-(j+1)<(Zaw t.e).length-j;omega) (by refine Zak _ _ _ ?_ ?_ ?_ ?_ ?_ (.inl rfl)<;>simp[go_sem,okD,okDs,Zav,eB,ew]<;>(rintro e (⟨a,_,rfl⟩|rfl)<;>rfl))
 obtain rfl:j=(Zaw t.e).length:=by omega
 refine aGo (cj2 hresA h5) ?_
 repeat with_reducible intro K hK
 rw[Zao (fun _=>rfl),Fn]
set_option maxHeartbeats 8000000
theorem Zxs{e:EvD}{x:MvD}(h:(hiI e x).2=true):0≤qOf (hiI e x).1:=by
 unfold hiI at h ⊢
 split at h
 ·cases h
 ·rename_i h1
  rw[if_neg h1]
  unfold intD at h ⊢
  revert h
  cases hf:ZpO e.ce x.s x.d with
  | none=>intro h;cases h
  | some b =>
    simp only
    cases hb:e.ce[b]? with
    | none=>intro h;cases h
    | some c =>
      simp only
      obtain⟨_,c',hb',hcov,_⟩:=ZjT hf
      rw[hb]at hb'
      obtain rfl:=Option.some.inj hb'
      cases hr:inB x.r 0 1099511627776
      ·simp only[Bool.not_false,Bool.or_true,if_true];intro h;cases h
      ·split
       ·intro h;cases h
       ·intro _
        have hok:Zin c x.r x.d=true:=by simp[Zin,hcov,hr]
        obtain⟨b1,b2,b3,b4,b5⟩:=ZfF hok
        have e1:((x.r:Int):Rat)+errQ c x.r x.d=Rat.divInt (c.p*x.r+1000*(x.r+(c.g+c.d*(x.d-c.f)))) 1000:=by
         unfold errQ
         rw[Rat.divInt_eq_div,Rat.divInt_eq_div]
         simp only[Rat.intCast_add,Rat.intCast_mul]
         grind
        show 0≤qOf (ofQ (((x.r:Int):Rat)+errQ c x.r x.d))
        rw[e1,Zay]
        exact(Rat.divInt_nonneg_iff_of_pos_right (by decide)).2 (by omega)
structure SmQ (t:TrD):Prop where
 n:t.e.mv.length≤6
 p:t.e.pl.length≤20
 fi:t.fi.length≤8
 cl:t.cl.length≤8
theorem ZBD(n:Nat)(i:Int):atP (List.replicate n (ofQ 0)) i=0:=by
 unfold atP
 rw[List.getElem?_replicate]
 split
 ·exact Zay 0
 ·rfl
theorem Znf{t:TrD}(R:Zbd t)(kind:Int)(lift:Nat):∃ x,Zap (ZaG t kind lift) x=true:=by
 refine⟨List.replicate t.e.mv.length (ofQ 0),(ZeA R).2 ⟨(ZeB (Zbv (Zb2 R) kind)).2 ⟨by simp[ZcS],?_,?_⟩,fun i _ _ _=>ZBD _ _⟩⟩
 ·exact Ya6.2 fun f hf=>by rw[(List.mem_replicate.1 hf).2];exact Zby _
 ·have hs:∀ (p:Int)(n:Nat),stN (ZcS t).e (fun(_:Nat)=>(0:Rat)) p n=0:=fun p n=>by
   unfold stN
   have:(fun j=>if (mvAt (ZcS t).e j).t=p then(0:Rat)else if (mvAt (ZcS t).e j).f=p then -0 else 0)=fun _=>(0:Rat):=by
    funext j
    split
    ·rfl
    ·split<;>rfl
   rw[this,Zbs]
  have h0:(fun(i:Nat)=>atP (List.replicate t.e.mv.length (ofQ 0)) (i:Nat))=fun _=>(0:Rat):=by funext i;exact ZBD _ _
  rw[h0]
  exact⟨fun _ _=>Rat.le_refl,fun i _ _=>by rw[hs];exact Rat.le_refl,fun i _ _ _=>(hs _ _).symm,fun i _ h=>Zxs h,fun i _ g hg=>by simp[finK,ZcS]at hg,fun _ _ _=>rfl⟩
theorem Zrz{t:TrD}(R:Zbd t)(S:SmQ t)(kind:Int)(lift:Nat):(ZaG t kind lift).r.length≤32∧∀ w∈(ZaG t kind lift).r,RowZ w:=by
 have h1:=S.n
 have h3:=S.cl
 have h4:=Zhc (ZcS t) kind
 have h5:=Zph t.e lift
 have h6:(ZcS t).fi.length=0:=rfl
 have h7:(ZcS t).cl=t.cl:=rfl
 have h8:(ZcS t).e=t.e:=rfl
 rw[h6,h7,h8]at h4
 refine⟨by show(ZbS (ZcS t) kind t.e.mv.length++Zgg t.e lift).length≤32;rw[Yb9];omega,fun w hw=>?_⟩
 rcases Yd5.1 hw with hw|hw
 ·exact Zv0 (Zb2 R) (by rw[h8];omega) hw
 ·simp only[Zgg,Yc6,List.mem_filter]at hw
  obtain⟨i,_,rfl⟩:=hw
  exact ZwH (by decide +kernel)
theorem Zp8{t:TrD}(R:Zbd t)(S:SmQ t)(kind:Int)(lift:Nat)(g:List Zaf)(K:Nat)(hg:Zai g t.e.mv.length=true)(hk:IntK K g)(hK:K≤1000000):FitG (ZaG t kind lift) g :=
 Zrj S.n (Zrz R S kind lift).1 (Zrz R S kind lift).2 (Zc8 R kind lift) hg hk hK
abbrev cRes(r:ResD):List D:=[dI r.l,.sl (r.is.map fun b=>[dB b]),Za0 r.z]
abbrev Zja(l:List ResD):D:=.sl (l.map cRes)
noncomputable def resA (t:TrD) (f:FiD) (k:Nat):List ResD:=(((Zaw t.e).take k).map (Zc2 t f.k)).filter fun r=>(r.is[f.v.toNat]?).getD false
theorem Zwb{t:TrD}{f:FiD}{k lift:Nat}(h:(Zaw t.e)[k]? =some lift):resA t f (k+1)=resA t f k++if ((Zc2 t f.k lift).is[f.v.toNat]?).getD false then [Zc2 t f.k lift]else []:=by
 unfold resA
 rw[Yb4,h,List.map_append,List.filter_append]
 congr 1
 simp only[Option.toList_some,List.map_cons,List.map_nil,List.filter_cons,List.filter_nil]
theorem Zzj(t:TrD)(f:FiD)(k:Nat):(resA t f k).length≤k:=by
 unfold resA
 refine Yc7 (Yb1 _ _) ?_
 rw[Yc0,Yc1];omega
theorem Zzn(t:TrD)(R:Zbd t)(S:SmQ t)(kind:Int){lift:Nat}(hl:lift<t.e.mv.length) :
 Zah Tryz.prog 110 [encS (ZaG t kind lift),Zon (Zct t.e)] (.tup [.sl ((Zc2 t kind lift).is.map fun b=>[dB b]),Za0 (Zc2 t kind lift).z]):=by
 have h1:=S.n
 have h2:=S.p
 refine Zwh (ZaG t kind lift) (Zct t.e) (Zc8 R kind lift) (by show(1:Int)≤(t.e.mv.length:Int);omega) (by show(t.e.mv.length:Int)≤6;omega) (by rw[ZpI];omega) (fun g hg=>⟨ZlM hg,ZuK hg⟩) (fun g K hg hk hK=>Zp8 R S kind lift g K hg hk hK) (Znf R kind lift)
theorem Zv9(t:TrD)(R:Zbd t)(S:SmQ t)(h1:ZbX t=0)(L:LenT t)(find:Nat)(f:FiD)(hx:t.fi[find]? =some f) :
 Zah Tryz.prog 57 [ZcL t,dI find] (Zja (ZaN t f)):=by
 have Zr:=Tryz.results57
 have k1:=Zsp t.e R.e
 have k2:=ZC9 t.e R.e
 have ll:=Zft t.e
 have s1:=S.n
 obtain⟨⟨v0,v1⟩,-,-⟩:=R.fi f (Ya7 hx)
 have f0:(0:Int)≤find:=by omega
 have eR:ZaN t f=resA t f (Zaw t.e).length:=by unfold resA;rw[Yc2];rfl
 rw[eR]
 refine inC Tryz.func57 rfl Tryz.ntmps57 ?_
 refine aGo Zr ?_
 repeat with_reducible intro K hK
 refine aLe (Zcs 5 123 3 rfl) ?_
 simp only[go_sem]
 have lI:(natI (Zaw t.e)).length=(Zaw t.e).length:=by simp[natI]
 refine Zas (fun(k:Nat)=>[(1,dI find),(2,.lp 0 0 0 0),(5,.ls 1 (resA t f k).length),(6,Zab (natI (Zaw t.e))),(7,Zon (Zct t.e)),(18,Zab (natI (Zaw t.e))),(19,dI (Zaw t.e).length),(20,dI k)]) (fun k=>[(0,⟨32,0,10,[cTr t],0,false⟩),(1,⟨123,(resA t f k).length,3,(resA t f k).map cRes,0,false⟩)]) 2 0 (fun k=>k≤(Zaw t.e).length) (fun k=>(Zaw t.e).length-k) 0 (by omega) ?_ ?_
 ·have e0:resA t f 0=[]:=rfl
  refine Zak _ _ _ ?_ ?_ ?_ ?_ ?_ (.inl rfl)<;>simp[go_sem,okD,okDs,Zav,e0,lI]
 rintro k hk
 obtain⟨hw,h0⟩:=ZaO k
 by_cases h2:(k:Int)<(Zaw t.e).length
 rotate_left
 ·obtain rfl:k=(Zaw t.e).length:=by omega
  refine aGo (cj2 Zr h2) ?_
  repeat with_reducible intro K hK
  exact congrArg D.sl (Zao (fun _=>rfl) _)
 obtain⟨lift,hl⟩:∃ x,(Zaw t.e)[k]? =some x:=⟨_,Ya0 (by omega)⟩
 have hl2:(natI (Zaw t.e))[k]? =some (lift:Int):=by unfold natI;rw[Yb8,hl];rfl
 obtain⟨g1,g2⟩:=ZgL.1 (Ya7 hl)
 have k3:=ZrA t R h1 L find f hx lift
 have k4:=Zzn t R S f.k g1
 have hlen:=(Ze1 R f.k lift).1
 obtain⟨o,ho⟩:∃ o,(Zc2 t f.k lift).is[f.v.toNat]? =some o:=⟨_,Ya0 (by omega)⟩
 have eN:=Zwb (f:=f) hl
 have lN:=Zzj t f k
 rw[ho,Option.getD_some]at eN
 have e1:(Zc2 t f.k lift).l=lift:=rfl
 generalize Zc2 t f.k lift=r at *
 obtain⟨r0,r1,r2⟩:=r
 obtain rfl:r0=lift:=e1
 simp only at ho hlen k4
 generalize ZaG t f.k r0=s at *
 generalize natI (Zaw t.e)=A at *
 generalize Zct t.e=G at *
 cases o
 ·rw[if_neg Yc5,List.append_nil]at eN
  generalize resA t f k=B at *
  refine aGo (cj4 Zr h0 h2 (cj4 hl2 hx f0 (cj3 v0 ho hw))) ?_
  repeat with_reducible intro K hK
  exact Zad (k+1) (by omega) (by omega) (by refine Zak _ _ _ ?_ ?_ ?_ ?_ ?_ (.inl rfl)<;>simp[go_sem,okD,okDs,Zav,eN])
 ·rw[if_pos rfl]at eN
  generalize resA t f k=B at *
  refine aGo (cj4 Zr h0 h2 (cj4 hl2 hx f0 (cj3 v0 ho hw))) ?_
  repeat with_reducible intro K hK
  exact Zad (k+1) (by omega) (by omega) (by refine Zak _ _ _ ?_ ?_ ?_ ?_ ?_ (.inl rfl)<;>simp[go_sem,okD,okDs,Zav,eN]<;>(rintro e (⟨a,_,rfl⟩|rfl)<;>rfl))
section
variable [Ifl]
def clrE:List (List D)→Nat→Nat→List (List D)
 | es,_,0=>es
 | es,i,m+1=>clrE (es.set i [dI 0]) (i+1) m
theorem Zye:∀ (m:Nat) (es:List (List D)) (i:Nat),(clrE es i m).length=es.length
 | 0,_,_=>rfl
 | m+1,es,i=>by show(clrE (es.set i [dI 0]) (i+1) m).length=_;rw[Zye m,List.length_set]
theorem ZtE:∀ (m:Nat) (es:List (List D)) (i k:Nat),k≤i→(clrE es i m).take k=es.take k
 | 0,_,_,_,_=>rfl
 | m+1,es,i,k,h=>by
   show(clrE (es.set i [dI 0]) (i+1) m).take k=_
   rw[ZtE m _ _ _ (by omega),List.take_set_of_le (by omega)]
theorem Zrr{p:List D→Prop}(h0:p [dI 0]):∀ (m:Nat) (es:List (List D)) (i:Nat),(∀ x∈es,p x)→∀ x∈clrE es i m,p x
 | 0,_,_,h=>h
 | m+1,es,i,h=>Zrr h0 m _ _ fun x hx=>by
   rcases List.mem_or_eq_of_mem_set hx with hx|rfl
   ·exact h x hx
   ·exact h0
theorem Zyg{E:Env}{B:Base}{n:Nat}{β:Bet}{S:St}{a:Act}{w:World}{id ver nn cap b i:Nat}{es:List (List D)}(r:RelA E B n β S a w)(hn:36<n)(h36:S.t 36 = .ls id ver)(hm:S.m id=some ⟨3,ver,1,es,0,false⟩)
 (e36:a.eval (.tmp 36) = .slice (some ⟨b,0,none⟩) nn cap) (hi:i<es.length) :
 ∃ β',RelA E B n β' {S with m:=upd S.m id (some ⟨3,ver,1,es.set i [dI 0],0,false⟩)} a (w.setCells b i [.int .i64 0]):=by
 have hty:=ty_3
 obtain⟨i0,hinf,hz0,hz1,hz2⟩:=ZgO
 have hb:β id=some b:=by
  have t36:Rep β S.m (safe E β S.m) w (a.eval (.tmp 36)) (.ls id ver):=h36▸r.tmp 36 hn
  rw[e36]at t36
  obtain⟨A,n',cap',blk,e,hb,hv,hcase⟩:=t36.inv_ls
  rw[hm]at hb
  obtain rfl:=Option.some.inj hb
  obtain⟨_,_,_,c4⟩:=hcase rfl
  rcases c4 with⟨_,h,_⟩|⟨b',h1,h2,_⟩
  ·subst h;cases e
  ·subst h2;cases e;exact h1
 obtain⟨_,cs,hcs,hlen,hcell⟩:=r.mem.row id _ b hm hb
 simp only[Nat.mul_one]at hlen hcell
 have hlen':es.length≤cs.size:=hlen
 have hlp:Rep β S.m (safe E β S.m) w (.pointer (some ⟨b,i,none⟩)) (.lp id ver i 0):=.lp b i id ver i 0 _ hm (Ya4 _) (fun _=>⟨hb,by simp⟩)
 obtain⟨e0,he0⟩:=getE (l:=es) (k:=i) (by omega)
 have h01:e0.length=1:=r.mem.wid id _ hm i e0 he0
 have hspl:Zdu e0 0 [dI 0]=[dI 0]:=by
  match e0,h01 with
  | [x],_=>rfl
 obtain⟨w',hs,ha⟩:=ZoO (r:=⟨True,.v undef,[id],[(id,⟨3,ver,1,es.set i [dI 0],0,false⟩)],[]⟩) hty r.mem hlp (.v (.int .i64 0)) (by
  have hbk:ZbL S.m id ver=some ⟨3,ver,1,es,0,false⟩:=by unfold ZbL;rw[hm];exact if_pos rfl
  unfold ZhP
  simp only[D.cells?,Value.oneCell',if_true]
  rw[hbk]
  simp only[he0,hspl]
  rw[if_pos ⟨trivial,rfl,rfl,Yb0 _,by simp[h01]⟩])
 have hst:(Instr.storeAt 3 (.pointer (some ⟨b,i,none⟩)) (.int .i64 0)).run Tryz.prog w = .ok () (w.setCells b i [.int .i64 0]):=by
  have hc:=run_storeCells_cells (P:=Tryz.prog) b i [.int .i64 0] 0 w (fun j hj=>by
   obtain rfl:j=0:=by simp at hj;omega
   simp only[Nat.add_zero];rw[Zb0 hcs];simp;omega) (fun j hj=>by simp[World.frozen?,hcs]) (by simp[Value.oneCell'])
  unfold Instr.storeAt Instr.sureAddr storeVar
  simp[sizeOf,typeInfo,hinf,hz1,Value.cells]
  simpa using hc
 rw[hst]at hs
 obtain rfl:w.setCells b i [.int .i64 0]=w':=by simpa using hs
 have ha':Zb3 E β S.m S.nx w (upd S.m id (some ⟨3,ver,1,es.set i [dI 0],0,false⟩)) (.tuple #[]) .junk (w.setCells b i [.int .i64 0]):=by
  obtain⟨β',x1,x2,x3,_⟩:=ha
  exact⟨β',x1,x2,x3,.junk _⟩
 obtain⟨β4,r4⟩:=r.put (dst:=none) ha'
 exact⟨β4,r4⟩
theorem Zna{E:Env}{B:Base}{n:Nat}{a:Act}{id ver nn cap b:Nat}(hn:36<n)(e36:a.eval (.tmp 36) = .slice (some ⟨b,0,none⟩) nn cap):∀ (m i:Nat) (es:List (List D)) (w:World) (β:Bet) (S:St),RelA E B n β S a w→S.t 36 = .ls id ver→S.m id=some ⟨3,ver,1,es,0,false⟩→i+m≤es.length →
 ∃ β',RelA E B n β' {S with m:=upd S.m id (some ⟨3,ver,1,clrE es i m,0,false⟩)} a (w.setCells b i (List.replicate m (.int .i64 0)))
 | 0,i,es,w,β,S,r,h36,hm,_=>by
   have:upd S.m id (some ⟨3,ver,1,clrE es i 0,0,false⟩)=S.m:=by
    funext j
    by_cases h:j=id
    ·subst h;rw[Zae,hm];rfl
    ·rw[Zac _ _ h]
   rw[this]
   exact⟨β,r⟩
 | m+1,i,es,w,β,S,r,h36,hm,hi=>by
   obtain⟨β1,r1⟩:=Zyg r hn h36 hm e36 (i:=i) (by omega)
   obtain⟨β2,r2⟩:=Zna hn e36 m (i+1) (es.set i [dI 0]) _ β1 _ r1 h36 (Zae _ _ _) (by rw[List.length_set];omega)
   refine⟨β2,?_⟩
   have e1:upd (upd S.m id (some ⟨3,ver,1,es.set i [dI 0],0,false⟩)) id (some ⟨3,ver,1,clrE (es.set i [dI 0]) (i+1) m,0,false⟩)=upd S.m id (some ⟨3,ver,1,clrE es i (m+1),0,false⟩):=by
    funext j
    by_cases h:j=id
    ·subst h;rw[Zae,Zae];rfl
    ·rw[Zac _ _ h,Zac _ _ h,Zac _ _ h]
   simp only[e1]at r2
   exact r2
theorem ZDI{n rid:Nat}{Q:Exit→St→Prop}{s:St}{o1 o2 o3 o4:Oper}{id ver i:Nat}{es:List (List D)}
 (g1:o1.guard=none) (g2:o2.guard=none) (g3:o3.guard=none) (g4:o4.guard=none)
 (d1:o1.dst=some 36) (d2:o2.dst=some 37) (d3:o3.dst=some 38) (d4:o4.dst=none)
 (p1:o1.op = .move (.tmp 0)) (p2:o2.op = .move (.tmp 5)) (p3:o3.op = .slice 43 (.tmp 36) (some (.tmp 37)) none none)
 (p4:o4.op = .call {callee:=.builtin .clear,args:=#[.tmp 38],argTypes:=#[43]})
 (hf1:Za9 n o1=true) (hf2:Za9 n o2=true) (hn:38<n) (h0:s.t 0 = .ls id ver) (h5:s.t 5=dI i) (hm:s.m id=some ⟨3,ver,1,es,0,false⟩) (hi:i<es.length)
 (hQ:Q .normal {s with t:=upd (upd (upd s.t 36 (.ls id ver)) 37 (dI i)) 38 .junk,m:=upd s.m id (some ⟨3,ver,1,clrE es i (es.length-i),0,false⟩)}) :
 AWP Tryz.prog n (.region rid #[o1,o2,o3,o4] false) Q s:=by
 intro E B β a w hr
 refine wp_region_lit (l:=[o1,o2,o3,o4]) ?_
 -- the two moves
 refine wpList_plain g1 fun K1 hK1=>Zet (K:=fun s'=>s'={s with t:=upd s.t 36 (.ls id ver)}) hf1 hr ?_ ?_
 ·unfold opA
  rw[p1,d1]
  simp only[opF,rd,h0,Res.pure,putT,ov,List.length_nil,Nat.add_zero]
  exact⟨trivial,.inl trivial,trivial⟩
 rintro s1 β1 a1 w1 r1 rfl
 refine hK1 _ _ (wpList_plain g2 fun K2 hK2=>Zet (K:=fun s'=>s'={s with t:=upd (upd s.t 36 (.ls id ver)) 37 (dI i)}) hf2 r1 ?_ ?_)
 ·unfold opA
  rw[p2,d2]
  simp only[opF,rd,Res.pure,putT,ov,List.length_nil,Nat.add_zero,Zac s.t (D.ls id ver) (show(5:Nat)≠36 by decide),h5]
  exact⟨trivial,.inl trivial,trivial⟩
 rintro s2 β2 a2 w2 r2 rfl
 refine hK2 _ _ ?_
 -- the slice
 have t36:Rep β2 s.m (safe E β2 s.m) w2 (a2.eval (.tmp 36)) (.ls id ver):=r2.tmp 36 (by omega)
 have t37:Rep β2 s.m (safe E β2 s.m) w2 (a2.eval (.tmp 37)) (dI i):=r2.tmp 37 (by omega)
 have e37:=t37.inv_v
 obtain⟨A,nn,cap,blk,e36,hb,hv,hcase⟩:=t36.inv_ls
 rw[hm]at hb
 obtain rfl:=Option.some.inj hb
 obtain⟨c1,c2,c3,c4⟩:=hcase rfl
 simp only at c1 c4
 obtain⟨b,hbe,rfl,hcap⟩:∃ b,β2 id=some b∧A=some ⟨b,0,none⟩∧Zen w2 b (cap*1):=by
  rcases c4 with⟨h,_⟩|h
  ·have:=r2.mem.non id _ hm h
   simp only at this
   rw[this]at hi;simp at hi
  ·exact h
 obtain⟨_,cs,hcs,hlen,hcell⟩:=r2.mem.row id _ b hm hbe
 simp only[Nat.mul_one]at hlen hcell hcap
 have hlen':es.length≤cs.size:=hlen
 obtain⟨cs',T',fr',hcs',hsz⟩:=hcap
 rw[hcs]at hcs'
 cases hcs'
 obtain⟨i0,hinf,hz0,hz1,hz2⟩:=ZgO
 have hrb:=Zjx (P:=Tryz.prog) (w:=w2) true nn cap i nn (some (.int .i64 i)) none (.inr ⟨_,rfl⟩) (.inl ⟨rfl,rfl⟩) (by omega) (by omega) (by omega) (by omega)
 have he3:execOp a2.eval o3=(do pure (.value (← Instr.sliceAt 43 (a2.eval (.tmp 36)) (some (a2.eval (.tmp 37))) none none))):=by unfold execOp;rw[p3];rfl
 have hsl:(Instr.sliceAt 43 (a2.eval (.tmp 36)) (some (a2.eval (.tmp 37))) none none).run Tryz.prog w2 = .ok (.slice (if cap=i then some ⟨b,0,none⟩else some ⟨b,i,none⟩) (nn-i) (cap-i)) w2:=by
  rw[e36,e37]
  unfold Instr.sliceAt
  simp only[Sem.run_bind,run_underlying Tryz.underlying43,Result.andThen_ok]
  unfold Instr.slice
  simp only[Sem.run_bind,run_underlying Tryz.underlying43,Result.andThen_ok,hrb]
  simp[sizeOf,typeInfo,hinf,hz1,Addr.add]
  by_cases hi0:i=0
  ·subst hi0;split<;>rfl
  ·rw[if_neg hi0]
 have hci:cap≠i:=by omega
 rw[if_neg hci,show nn-i=es.length-i by omega]at hsl
 refine wpList_plain g3 fun K3 hK3=>?_
 unfold Oper.wp
 rw[show(execOp a2.eval o3).run Tryz.prog w2 = .ok (.value (.slice (some ⟨b,i,none⟩) (es.length-i) (cap-i))) w2 by rw[he3];simp[hsl]]
 show K3 (a2.put o3.dst (.slice (some ⟨b,i,none⟩) (es.length-i) (cap-i))) w2
 refine hK3 _ _ ?_
 obtain⟨β3,r3⟩:=r2.put (dst:=o3.dst) (Zb3.same r2.mem (.junk (.slice (some ⟨b,i,none⟩) (es.length-i) (cap-i))))
 have e38:(a2.put o3.dst (.slice (some ⟨b,i,none⟩) (es.length-i) (cap-i))).eval (.tmp 38) = .slice (some ⟨b,i,none⟩) (es.length-i) (cap-i):=by
  rw[eval_put (by rw[r2.width];exact hn),d3,if_pos rfl]
 have e36':(a2.put o3.dst (.slice (some ⟨b,i,none⟩) (es.length-i) (cap-i))).eval (.tmp 36) = .slice (some ⟨b,0,none⟩) nn cap:=by
  rw[eval_put (k:=36) (by rw[r2.width];exact Nat.lt_trans (by decide) hn),d3,if_neg (by decide)];exact e36
 generalize a2.put o3.dst (.slice (some ⟨b,i,none⟩) (es.length-i) (cap-i))=a3 at r3 e38 e36' ⊢
 rw[d3]at r3
 -- clear
 have hcl:=Lib.run_clear_slice (P:=Tryz.prog) w2 43 3 o4.type (.int .i64 0) Tryz.underlying43 (fun w=>by simp[zeroValue,typeInfo,hinf,hz0]) rfl rfl b i (es.length-i) (cap-i) (by omega)
  (fun j hj=>by rw[Zb0 hcs];simp;omega)
  (fun j hj=>by simp[World.frozen?,hcs])
 have e4:(execOp a3.eval o4).run Tryz.prog w2 = .ok (.value (.tuple #[])) (w2.setCells b i (List.replicate (es.length-i) (.int .i64 0))):=by
  unfold execOp
  rw[p4]
  simp[resolve,invoke,builtin,e38,hcl]
 refine wpList_plain g4 fun K4 hK4=>?_
 unfold Oper.wp
 rw[e4]
 show K4 (a3.put o4.dst (.tuple #[])) (w2.setCells b i (List.replicate (es.length-i) (.int .i64 0)))
 refine hK4 _ _ ?_
 obtain⟨β5,r5⟩:=Zna (Nat.lt_trans (by decide) hn) e36' (es.length-i) i es w2 β3 _ r3 rfl hm (by omega)
 obtain⟨β4,r4⟩:=r5.put (dst:=o4.dst) (Zb3.same r5.mem (.junk (.tuple #[])))
 rw[d4]at r4
 refine wpList_nil ?_
 rw[d4]
 exact⟨_,β4,r4,hQ⟩
end
section ifl
variable [Ifl]
theorem Zlj(n:Nat):repL n n=List.replicate n M1:=by unfold repL;simp
theorem Zzl{m:Mem}{nx id n:Nat}{T:TypeId}(hm:m id=some ⟨T,0,1,[[dI (-1)]],0,false⟩)(h1:1≤n)(h6:n≤6) :
 ZaM Tryz.prog 64 [.ls id 0,dI n] m nx fun d m' nx'=>d = .ls nx 1∧m'=upd m nx (some ⟨3,1,1,List.replicate n [dI (-1)],0,false⟩)∧nx'=nx+1:=by
 refine⟨⟨_,_,Tryz.func64,rfl,by kernel_rfl⟩,fun E β w vs hM hvs=>?_⟩
 obtain⟨x,z,rfl⟩:∃ x z,vs=[x,z]:=by
  match vs,hvs.1 with
  | [x,z],_=>exact⟨x,z,rfl⟩
 have hx:=hvs.2 0 x _ rfl rfl
 have hz:=(hvs.2 1 z _ rfl rfl).inv_v
 subst hz
 obtain⟨a,n0,cap,blk,rfl,hb,hv,hcase⟩:=hx.inv_ls
 rw[hm]at hb
 obtain rfl:=Option.some.inj hb
 obtain⟨c1,c2,c3,c4⟩:=hcase rfl
 simp only[List.length_singleton]at c1
 subst c1
 obtain⟨b,hbe,rfl⟩:∃ b,β id=some b∧a=some ⟨b,0,none⟩:=by
  rcases c4 with⟨h,_,hc⟩|⟨b,h,h',_⟩
  ·omega
  ·exact⟨b,h,h'⟩
 obtain⟨_,cs,hcs,hlen,hcell⟩:=hM.row id _ b hm hbe
 obtain⟨u,hu,hru⟩:=hcell 0 0 (dI (-1)) rfl
 have hu':=hru.inv_v
 subst hu'
 refine(Zuk w b n cap (by rw[Zb0 hcs];exact hu) h1 h6).mono ?_
 rintro e w' ⟨g,rfl,hg,hB,hG⟩
 have hid:m nx=none:=hM.none
 obtain⟨k1,k2,k3⟩:=Zw5 (id:=nx) (nx':=nx+1) hM hB hg hid (Nat.le_succ _) (Nat.lt_succ_self _) ⟨3,1,1,List.replicate n [dI (-1)],0,false⟩ (repL n n).toArray hG (Yb0 _)
  (fun i e he=>by
    have:=Yd4 (Ya7 he)
    rw[this];rfl)
  (by simp[Zlj])
  (fun i j d hd=>by
    obtain⟨e,he,hj⟩:=Zal.1 hd
    have hi:=(Ya3.1 he).1
    have hi':i<n:=by simpa using hi
    have:=Yd4 (Ya7 he)
    subst this
    cases j with
    | succ j=>simp at hj
    | zero =>
      simp at hj
      subst hj
      refine⟨M1,?_,rfl⟩
      simp[Zlj,hi'])
 refine⟨_,.ls nx 1,_,_,rfl,⟨_,k1,k2,k3,?_⟩,rfl,rfl,rfl⟩
 refine .ls _ n n nx 1 ⟨3,1,1,List.replicate n [dI (-1)],0,false⟩ (Zae _ _ _) (Ya4 _) (fun _ h=>by cases h) fun _=>⟨by simp,Ya4 _,by unfold maxLen;omega,.inr ⟨g,Zae _ _ _,rfl,?_⟩⟩
 exact⟨_,_,_,hG,by simp[Zlj]⟩
theorem Zqz{P:Program}{w:World}(len cap l h m:Nat)(h1:l≤h)(h2:h≤m)(h3:m≤cap) :
 (Instr.sliceBounds true len cap (some (.int .i64 l)) (some (.int .i64 h)) (some (.int .i64 m))).run P w = .ok (l,h,m) w:=by
 unfold Instr.sliceBounds
 simp[Zel .i64 (m:Int) cap _ (by omega) (by omega),Zel .i64 (h:Int) m _ (by omega) (by omega),Zel .i64 (l:Int) h _ (by omega) (by omega)]
theorem aView{n rid:Nat}{Q:Exit→St→Prop}{s:St}{o1 o2 o3 o4 o5 o6 o7 o8:Oper}{id ver lo fz:Nat}{es:List (List D)}
 (g1:o1.guard=none) (g2:o2.guard=none) (g3:o3.guard=none) (g4:o4.guard=none) (g5:o5.guard=none) (g6:o6.guard=none) (g7:o7.guard=none) (g8:o8.guard=none)
 (d1:o1.dst=some 58) (d2:o2.dst=some 59) (d3:o3.dst=some 60) (d4:o4.dst=some 61) (d5:o5.dst=some 62) (d6:o6.dst=some 63) (d7:o7.dst=some 64) (d8:o8.dst=some 12)
 (p1:o1.op = .move (.tmp 10)) (p2:o2.op = .move (.tmp 11)) (p3:o3.op = .move (.tmp 10)) (p4:o4.op = .call {callee:=.builtin .len,args:=#[.tmp 60],argTypes:=#[43]})
 (p5:o5.op = .move (.tmp 10)) (p6:o6.op = .call {callee:=.builtin .len,args:=#[.tmp 62],argTypes:=#[43]}) (p7:o7.op = .slice 43 (.tmp 58) (some (.tmp 59)) (some (.tmp 61)) (some (.tmp 63))) (p8:o8.op = .assign (.tmp 64))
 (hn:64<n) (hf:#[o1,o2,o3,o4,o5,o6,o7,o8].all (Za9 n)=true) (h0:s.t 10 = .ls id ver) (h5:s.t 11=dI lo) (hm:s.m id=some ⟨3,ver,1,es,fz,false⟩) (hi:lo<es.length) (hv1:∀ e∈es,∃ y,e=[.v y])
 (hQ:∀ T:Nat→D,(∀ k,k≠12→(k<58∨64<k)→T k=s.t k)→T 12 = .sl (es.drop lo)→Q .normal {s with t:=T,m:=upd s.m id (some ⟨3,ver,1,es,es.length,false⟩)}) :
 AWP Tryz.prog n (.region rid #[o1,o2,o3,o4,o5,o6,o7,o8] false) Q s:=by
 have hv0:∀ e∈es,e.length=1:=fun e he=>by obtain⟨y,rfl⟩:=hv1 e he;rfl
 have hf':=Array.all_eq_true_iff_forall_mem.1 hf
 have f1:Za9 n o1=true:=hf' o1 (by simp)
 have f2:Za9 n o2=true:=hf' o2 (by simp)
 have f3:Za9 n o3=true:=hf' o3 (by simp)
 have f4:Za9 n o4=true:=hf' o4 (by simp)
 have f5:Za9 n o5=true:=hf' o5 (by simp)
 have f6:Za9 n o6=true:=hf' o6 (by simp)
 have f8:Za9 n o8=true:=hf' o8 (by simp)
 refine aLe (le_fz id hm rfl) ?_
 obtain⟨M,hM⟩:∃ M,upd s.m id (some ⟨3,ver,1,es,es.length,false⟩)=M:=⟨_,rfl⟩
 simp only[hM]
 have hmM:M id=some ⟨3,ver,1,es,es.length,false⟩:=by rw[← hM,Zae]
 rw[hM]at hQ
 have hb:ZbL M id ver=some ⟨3,ver,1,es,es.length,false⟩:=by unfold ZbL;rw[hmM];simp
 obtain⟨t0,m0,nx,lo'⟩:=s
 simp only at h0 h5 hQ ⊢
 intro E B β a w hr
 refine wp_region_lit (l:=[o1,o2,o3,o4,o5,o6,o7,o8]) ?_
 refine wpList_plain g1 fun K1 hK1=>Zet (K:=fun s'=>s'=⟨upd t0 58 (.ls id ver),M,nx,lo'⟩) f1 hr ?_ ?_
 ·unfold opA
  rw[p1,d1]
  simp only[opF,rd,h0,Res.pure,putT,ov,List.length_nil,Nat.add_zero]
  exact⟨trivial,.inl trivial,trivial⟩
 rintro s1 β1 a1 w1 r1 rfl
 refine hK1 _ _ (wpList_plain g2 fun K2 hK2=>Zet (K:=fun s'=>s'=⟨upd (upd t0 58 (.ls id ver)) 59 (dI lo),M,nx,lo'⟩) f2 r1 ?_ ?_)
 ·unfold opA
  rw[p2,d2]
  simp only[opF,rd,Res.pure,putT,ov,List.length_nil,Nat.add_zero,Zac t0 (D.ls id ver) (show(11:Nat)≠58 by decide),h5]
  exact⟨trivial,.inl trivial,trivial⟩
 rintro s2 β2 a2 w2 r2 rfl
 refine hK2 _ _ (wpList_plain g3 fun K3 hK3=>Zet (K:=fun s'=>s'=⟨upd (upd (upd t0 58 (.ls id ver)) 59 (dI lo)) 60 (.ls id ver),M,nx,lo'⟩) f3 r2 ?_ ?_)
 ·unfold opA
  rw[p3,d3]
  simp only[opF,rd,Res.pure,putT,ov,List.length_nil,Nat.add_zero,Zac _ _ (show(10:Nat)≠58 by decide),Zac _ _ (show(10:Nat)≠59 by decide),h0]
  exact⟨trivial,.inl trivial,trivial⟩
 rintro s3 β3 a3 w3 r3 rfl
 refine hK3 _ _ (wpList_plain g4 fun K4 hK4=>Zet (K:=fun s'=>s'=⟨upd (upd (upd (upd t0 58 (.ls id ver)) 59 (dI lo)) 60 (.ls id ver)) 61 (dI es.length),M,nx,lo'⟩) f4 r3 ?_ ?_)
 ·unfold opA
  rw[p4,d4]
  simp only[opF,rd,ZBM,lenF,Zae,hb,Res.pure,putT,ov,List.length_nil,Nat.add_zero,↓reduceIte,List.getElem?_toArray,List.getElem?_cons_zero]
  exact⟨trivial,.inl trivial,trivial⟩
 rintro s4 β4 a4 w4 r4 rfl
 refine hK4 _ _ (wpList_plain g5 fun K5 hK5=>Zet (K:=fun s'=>s'=⟨upd (upd (upd (upd (upd t0 58 (.ls id ver)) 59 (dI lo)) 60 (.ls id ver)) 61 (dI es.length)) 62 (.ls id ver),M,nx,lo'⟩) f5 r4 ?_ ?_)
 ·unfold opA
  rw[p5,d5]
  simp only[opF,rd,Res.pure,putT,ov,List.length_nil,Nat.add_zero,Zac _ _ (show(10:Nat)≠58 by decide),Zac _ _ (show(10:Nat)≠59 by decide),Zac _ _ (show(10:Nat)≠60 by decide),Zac _ _ (show(10:Nat)≠61 by decide),h0]
  exact⟨trivial,.inl trivial,trivial⟩
 rintro s5 β5 a5 w5 r5 rfl
 refine hK5 _ _ (wpList_plain g6 fun K6 hK6=>Zet (K:=fun s'=>s'=⟨upd (upd (upd (upd (upd (upd t0 58 (.ls id ver)) 59 (dI lo)) 60 (.ls id ver)) 61 (dI es.length)) 62 (.ls id ver)) 63 (dI es.length),M,nx,lo'⟩) f6 r5 ?_ ?_)
 ·unfold opA
  rw[p6,d6]
  simp only[opF,rd,ZBM,lenF,Zae,hb,Res.pure,putT,ov,List.length_nil,Nat.add_zero,↓reduceIte,List.getElem?_toArray,List.getElem?_cons_zero]
  exact⟨trivial,.inl trivial,trivial⟩
 rintro s6 β6 a6 w6 r6 rfl
 refine hK6 _ _ ?_
 -- the slice
 have t58:Rep β6 M (safe E β6 M) w6 (a6.eval (.tmp 58)) (.ls id ver):=r6.tmp 58 (by omega)
 have e59:=(r6.tmp 59 (by omega):Rep β6 M (safe E β6 M) w6 (a6.eval (.tmp 59)) (dI lo)).inv_v
 have e61:=(r6.tmp 61 (by omega):Rep β6 M (safe E β6 M) w6 (a6.eval (.tmp 61)) (dI es.length)).inv_v
 have e63:=(r6.tmp 63 (by omega):Rep β6 M (safe E β6 M) w6 (a6.eval (.tmp 63)) (dI es.length)).inv_v
 obtain⟨A,nn,cap,blk,e58,hbk,hv,hcase⟩:=t58.inv_ls
 rw[hmM]at hbk
 obtain rfl:=Option.some.inj hbk
 obtain⟨c1,c2,c3,c4⟩:=hcase rfl
 simp only at c1 c4
 obtain⟨b,hbe,rfl,hcap⟩:∃ b,β6 id=some b∧A=some ⟨b,0,none⟩∧Zen w6 b (cap*1):=by
  rcases c4 with⟨h,_⟩|h
  ·have:=r6.mem.non id _ hmM h
   simp only at this
   rw[this]at hi;simp at hi
  ·exact h
 obtain⟨_,cs,hcs,hlen,hcell⟩:=r6.mem.row id _ b hmM hbe
 simp only[Nat.mul_one]at hlen hcell hcap
 have hlen':es.length≤cs.size:=hlen
 obtain⟨i0,hinf,hz0,hz1,hz2⟩:=ZgO
 have hrb:=Zqz (P:=Tryz.prog) (w:=w6) nn cap lo es.length es.length (by omega) (Ya4 _) (by omega)
 have he7:execOp a6.eval o7=(do pure (.value (← Instr.sliceAt 43 (a6.eval (.tmp 58)) (some (a6.eval (.tmp 59))) (some (a6.eval (.tmp 61))) (some (a6.eval (.tmp 63)))))):=by unfold execOp;rw[p7];rfl
 have hne:es.length≠lo:=by omega
 have hsl:(Instr.sliceAt 43 (a6.eval (.tmp 58)) (some (a6.eval (.tmp 59))) (some (a6.eval (.tmp 61))) (some (a6.eval (.tmp 63)))).run Tryz.prog w6 = .ok (.slice (some ⟨b,lo,none⟩) (es.length-lo) (es.length-lo)) w6:=by
  rw[e58,e59,e61,e63]
  unfold Instr.sliceAt
  simp only[Sem.run_bind,run_underlying Tryz.underlying43,Result.andThen_ok]
  unfold Instr.slice
  simp only[Sem.run_bind,run_underlying Tryz.underlying43,Result.andThen_ok,hrb]
  simp[sizeOf,typeInfo,hinf,hz1,Addr.add,hne]
  try (intro h0;exact h0.symm)
 refine wpList_plain g7 fun K7 hK7=>?_
 unfold Oper.wp
 rw[show(execOp a6.eval o7).run Tryz.prog w6 = .ok (.value (.slice (some ⟨b,lo,none⟩) (es.length-lo) (es.length-lo))) w6 by rw[he7];simp[hsl]]
 show K7 (a6.put o7.dst (.slice (some ⟨b,lo,none⟩) (es.length-lo) (es.length-lo))) w6
 refine hK7 _ _ ?_
 have hrep:Rep β6 M (safe E β6 M) w6 (.slice (some ⟨b,lo,none⟩) (es.length-lo) (es.length-lo)) (.sl (es.drop lo)):=by
  have hsafe:∀ o,o<es.length→safe E β6 M b o:=fun o ho=>by
   refine⟨E.fresh b o (r6.mem.row id _ b hmM hbe).1,fun x y hx hy=>?_⟩
   have:x=id:=by
    obtain⟨y',hy'⟩:∃ y',M x=some y':=⟨y,hx⟩
    exact r6.mem.inj x id _ _ b hx hmM hy hbe
   subst this
   rw[hmM]at hx
   obtain rfl:=Option.some.inj hx
   exact .inl (by simpa using ho)
  have hval:∀ i j d,cellAt (es.drop lo) i j=some d→∃ u,cs[lo+i]? =some u∧j=0∧lo+i<es.length∧d = .v u:=fun i j d hd=>by
   obtain⟨e,he,hj⟩:=Zal.1 hd
   rw[List.getElem?_drop]at he
   have hil:=(Ya3.1 he).1
   have hj0:j=0:=by
    have h1:=(Ya3.1 hj).1
    have h2:=hv0 e (Ya7 he)
    omega
   subst hj0
   obtain⟨u,hu,hr⟩:=hcell (lo+i) 0 d (Zal.2 ⟨e,he,hj⟩)
   obtain⟨y,rfl⟩:=hv1 e (Ya7 he)
   simp at hj
   subst hj
   exact⟨u,hu,rfl,hil,by rw[hr.inv_v]⟩
  have hl:es.length-lo=(es.drop lo).length:=by rw[List.length_drop]
  rw[hl]
  refine .sl b lo _ 1 (es.drop lo) (fun i j=>(cs[lo+i]?).getD undef) (Ya4 _) (by rw[← hl];omega) (fun i e he=>hv0 e (List.mem_of_mem_drop (Ya7 he))) (fun i j d hd=>?_) (fun i j d hd=>?_)
  ·obtain⟨u,hu,rfl,hil,_⟩:=hval i j d hd
   refine⟨hsafe _ (by omega),?_⟩
   rw[show lo+i*1+0=lo+i by omega,Zb0 hcs,hu]
   rfl
  ·obtain⟨u,hu,rfl,_,rfl⟩:=hval i j d hd
   simp only[hu,Option.getD_some]
   exact .v _
 obtain⟨β7,r7⟩:=r6.put (dst:=o7.dst) (Zb3.same r6.mem hrep)
 rw[d7]at r7 ⊢
 generalize a6.put (some 64) (.slice (some ⟨b,lo,none⟩) (es.length-lo) (es.length-lo))=a7 at r7 ⊢
 refine wpList_plain g8 fun K8 hK8=>Zet (K:=fun s'=>Q .normal s') f8 r7 ?_ ?_
 ·unfold opA
  rw[p8,d8]
  simp only[opF,rd,Res.pure,putT,ov,List.length_nil,Nat.add_zero,Zae]
  refine⟨trivial,.inl trivial,hQ _ (fun k h1 h2=>?_) (Zae _ _ _)⟩
  rw[Zac _ _ h1,Zac _ _ (by omega),Zac _ _ (by omega),Zac _ _ (by omega),Zac _ _ (by omega),Zac _ _ (by omega),Zac _ _ (by omega),Zac _ _ (by omega)]
 ·intro s8 β8 a8 w8 r8 hq
  exact hK8 _ _ (wpList_nil ⟨_,β8,r8,hq⟩)
end ifl
theorem lo5:∀ id,id<5→([0,1,2,3,4]:List Nat).contains id=true:=by decide
def revK(A:List Int)(i:Nat):List Int:=(List.range A.length).map fun p=>(A[if p<i∨A.length-i≤p then A.length-1-p else p]?).getD 0
theorem Znr(A:List Int)(i:Nat):(revK A i).length=A.length:=by simp[revK]
theorem ZjC(A:List Int)(i p:Nat):(revK A i)[p]? =if p<A.length then some ((A[if p<i∨A.length-i≤p then A.length-1-p else p]?).getD 0)else none:=by
 unfold revK
 rw[Yb8]
 by_cases h:p<A.length
 ·rw[List.getElem?_range h,if_pos h];rfl
 ·rw[List.getElem?_eq_none (by simpa using h),if_neg h];rfl
theorem Zv7(A:List Int):revK A 0=A:=by
 apply List.ext_getElem?
 intro p
 rw[ZjC]
 by_cases h:p<A.length
 ·rw[if_pos h,if_neg (by omega),Ya0 h];rfl
 ·rw[if_neg h,List.getElem?_eq_none (by omega)]
theorem Zv8{A:List Int}{i j:Nat}{x y:Int}(hij:i<j)(hj:j+i+1=A.length)(hx:(revK A i)[i]? =some x)(hy:(revK A i)[j]? =some y):((revK A i).set i y).set j x=revK A (i+1):=by
 rw[ZjC,if_pos (by omega),if_neg (by omega)]at hx
 rw[ZjC,if_pos (by omega),if_neg (by omega)]at hy
 apply List.ext_getElem?
 intro p
 rw[List.getElem?_set,List.getElem?_set,List.length_set,Znr,ZjC,ZjC]
 by_cases h:p<A.length
 ·rw[if_pos h,if_pos h]
  by_cases h1:j=p
  ·subst h1
   rw[if_pos rfl,if_pos h,if_pos (by omega),show A.length-1-j=i by omega,← hx]
  ·rw[if_neg h1]
   by_cases h2:i=p
   ·subst h2
    rw[if_pos rfl,if_pos (by omega),if_pos (by omega),show A.length-1-i=j by omega,← hy]
   ·rw[if_neg h2]
    by_cases h3:p<i∨A.length-i≤p
    ·rw[if_pos h3,if_pos (by omega)]
    ·rw[if_neg h3,if_neg (by omega)]
 ·rw[if_neg h,if_neg h,if_neg (by omega),if_neg (by omega)]
theorem Zzi{A:List Int}{i:Nat}(h:A.length≤2*i+1):revK A i=A.reverse:=by
 apply List.ext_getElem?
 intro p
 rw[ZjC]
 by_cases hp:p<A.length
 ·rw[if_pos hp,List.getElem?_reverse hp]
  by_cases h3:p<i∨A.length-i≤p
  ·rw[if_pos h3,Ya0 (by omega)];rfl
  ·rw[if_neg h3,show A.length-1-p=p by omega,Ya0 (by omega)];rfl
 ·rw[if_neg hp,List.getElem?_eq_none (by simp;omega)]
def rvI(a:Nat)(l:List Nat):List Int:=natI (a ::l).reverse
theorem ZCb(a:Nat)(l:List Nat):(rvI a l).reverse=natI (a ::l):=by unfold rvI natI;rw[← List.map_reverse,List.reverse_reverse]
theorem ZCd(a:Nat)(l:List Nat):(rvI a l).length=l.length+1:=by simp[rvI,natI]
theorem Zza(m a:Nat)(l:List Nat):rvI m (a ::l)=rvI a l++[(m:Int)]:=by unfold rvI natI;rw[List.reverse_cons,List.map_append];rfl
theorem ZCc(a:Nat):rvI a []=[(a:Int)]:=rfl
theorem ZAa{a:Nat}{l:List Nat}:(rvI a l)[l.length]? =some (a:Int):=by
 unfold rvI natI
 rw[Yb8,List.reverse_cons,Yc4 (by simp)]
 simp
abbrev Zma(s:BqD):List (List D):=s.1.map fun x=>[dI x]
abbrev Zio(s:BqD):List (List D):=(natI s.2).map fun x=>[dI x]
theorem ZB8(n i:Nat)(x:Int):(List.replicate n [dI (-1)]).set i [dI x]=((List.replicate n (-1:Int)).set i x).map fun x=>[dI x]:=by
 rw[List.map_set,List.map_replicate]
theorem ZEy(e:EvD)(blk:Nat→Bool)(from' dst:Nat)(hf:from'<e.mv.length)(hd:dst<e.mv.length)(hn:e.mv.length≤6) :
 Zaa Tryz.prog 23 [Zfd e,dI from',dI dst,Zjd (blkL e blk)] (Zab (natI (Zdo e blk from' dst))):=by
 have Zr:=Tryz.results23
 have hlb:=Zos e blk
 have hbf:=Zru (blk:=blk) hf
 have kf1:=ZqC e from' (blkL e blk) hlb
 have kf2:=ZqC e dst (blkL e blk) hlb
 rw[decide_eq_true hf]at kf1
 rw[decide_eq_true hd]at kf2
 have kn:=fun(m:Nat) (h:m<e.mv.length)=>Zv5 e blk m h (by omega)
 have f0:(0:Int)≤from':=by omega
 have d0:(0:Int)≤dst:=by omega
 obtain⟨R,hR⟩:∃ R,Zdo e blk from' dst=R:=⟨_,rfl⟩
 unfold Zdo at hR
 rw[show Zdo e blk from' dst=R from hR]
 refine inN Tryz.func23 rfl Tryz.ntmps23 fun I=>?_
 cases hb:blk from'
 rotate_left
 ·rw[hb]at hbf
  rw[hb,if_pos rfl]at hR
  subst hR
  generalize blkL e blk=bl at *
  refine aGo (cj3 Zr hbf f0) ?_
  repeat with_reducible intro K hK
  rfl
 rw[hb]at hbf
 rw[hb,if_neg Yc5]at hR
 generalize blkL e blk=bl at *
 refine ZrE (n:=4) ⟨⟩ (cj3 Zr hbf f0) ?_
 repeat with_reducible intro K hK
 refine ZaQ (Zzl (T:=3) (n:=e.mv.length) rfl (by omega) hn) ?_
 rintro d m' nx' ⟨rfl,rfl,rfl⟩
 have hge:(List.replicate e.mv.length [dI (-1)])[from']? =some [dI (-1)]:=by rw[List.getElem?_replicate,if_pos hf]
 have z0:0≤from':=Yb0 _
 refine aGo (cj4 Zr f0 hge z0) ?_
 repeat with_reducible intro K hK
 clear kf1 kf2
 obtain⟨S,hS⟩:∃ S,bfsQ e blk dst (e.mv.length+1) (ZcO e.mv.length from') 0=S:=⟨_,rfl⟩
 rw[hS]at hR
 have tail:True→∀ (s:BqD)(F:Nat),InvQ e blk from' s→S=s→∀ st,StLe st ⟨tabT [(1,dI from'),(2,dI dst),(9,.ls 2 1)],tabM [(0,⟨28,0,8,[cEv e],0,false⟩),(1,⟨3,0,1,[[dI (-1)]],0,false⟩),(2,⟨3,1,1,Zma s,0,false⟩),(3,⟨3,s.2.length-1,1,Zio s,F,false⟩)],4,0⟩→K st:=by
  intro _ s F Iv hs st hle
  refine hK _ (aLe hle ?_)
  clear hle hK
  subst hs
  obtain⟨bd,hbd⟩:∃ bd,S.1[dst]? =some bd:=⟨_,Ya0 (by rw[Iv.len];exact hd)⟩
  rw[hbd,Option.getD_some]at hR
  by_cases h2:bd = -1
  ·rw[if_pos h2]at hR
   subst hR
   have h2':(bd == -1)=true:=by rw[h2];rfl
   refine aGo (cj4 Zr d0 hbd h2') ?_
   repeat with_reducible intro K hK
   rfl
  rw[if_neg h2]at hR
  have h2':(bd == -1)=false:=by simpa using h2
  refine aGo (cj4 Zr d0 hbd h2') ?_
  repeat with_reducible intro K hK
  obtain⟨P,hP⟩:∃ P,Zmd S.1 from' e.mv.length [dst]=P:=⟨_,rfl⟩
  rw[hP]at hR
  subst hR
  have hin:dst∈S.2:=(Iv.seen dst hd).1 (by rw[hbd,Option.getD_some];exact h2)
  refine Zas (fun(x:Nat×Nat×List Nat)=>[(1,dI from'),(9,.ls 2 1),(17,.ls 4 x.2.2.length)]) (fun x=>[(0,⟨28,0,8,[cEv e],0,false⟩),(1,⟨3,0,1,[[dI (-1)]],0,false⟩),(2,⟨3,1,1,Zma S,0,false⟩),(3,⟨3,S.2.length-1,1,Zio S,F,false⟩),(4,⟨3,x.2.2.length,1,(rvI x.2.1 x.2.2).map fun x=>[dI x],0,false⟩)]) 5 0
   (fun x=>x.2.1∈S.2∧x.2.1≤x.1∧x.2.2.length+x.1≤e.mv.length∧Zmd S.1 from' x.1 (x.2.1 ::x.2.2)=P) (fun x=>x.1) (e.mv.length,dst,[]) ⟨hin,by show dst≤e.mv.length;omega,by show 0+e.mv.length≤e.mv.length;omega,hP⟩ ?_ ?_
  ·have e0:=ZCc dst
   exact leGo e0
  rintro⟨k,a,l⟩ ⟨ha,hak,hlk,hbk⟩
  simp only at ha hak hlk hbk ⊢
  have hla:=ZAa (a:=a) (l:=l)
  have lA:=ZCd a l
  have hwl:IntKind.i64.wrap (((l.length+1:Nat):Int)-1)=(l.length:Int):=by rw[show((l.length+1:Nat):Int)-1=(l.length:Int) by omega];exact Zax (by omega) (by omega)
  have l0:(0:Int)≤l.length:=by omega
  have a0:(0:Int)≤a:=by omega
  by_cases hc:a=from'
  ·have hc':((a:Int) !=(from':Int))=false:=by rw[hc];exact bne_self_eq_false _
   have hPa:P=a ::l:=by
    cases k with
    | zero=>exact hbk.symm
    | succ k =>
      unfold Zmd at hbk
      rw[List.headD_cons,if_pos hc]at hbk
      exact hbk.symm
   have hresR:=Tryz.results66
   refine aGo (cj4 Zr hla lA (cj3 hwl l0 hc')) ?_
   repeat with_reducible intro K hK
   refine Zbq Tryz.func66 rfl (by kernel_rfl) (by kernel_rfl) (by kernel_rfl) ?_
   rw[Tryz.ntmps66]
   obtain⟨A,hA⟩:∃ A,rvI a l=A:=⟨_,rfl⟩
   rw[hA]at hla lA
   simp only[hA]
   refine aGo (cj3 hresR lA hwl) ?_
   repeat with_reducible intro K hK
   refine Zas (fun(i:Nat)=>[(0,.ls 4 l.length),(2,dI i),(3,dI ((l.length:Int)-i))]) (fun i=>[(0,⟨28,0,8,[cEv e],0,false⟩),(1,⟨3,0,1,[[dI (-1)]],0,false⟩),(2,⟨3,1,1,Zma S,0,false⟩),(3,⟨3,S.2.length-1,1,Zio S,F,false⟩),(4,⟨3,l.length,1,(revK A i).map fun x=>[dI x],0,false⟩)]) 5 5
    (fun i=>2*i≤l.length+1) (fun i=>l.length-i) 0 (by omega) ?_ ?_
   ·have e0:=Zv7 A
    have e1:((l.length:Int)-((0:Nat):Int))=l.length:=by omega
    refine Zak _ _ _ ?_ ?_ ?_ ?_ ?_ (.inr lo5)<;>simp[go_sem,okD,okDs,Zav,e0]<;>(intros;subst_vars;simp[okD,okDs])
   rintro i hi
   have hwi:IntKind.i64.wrap ((i:Int)+1)=((i+1:Nat):Int):=Zax (by omega) (by omega)
   have i0:(0:Int)≤i:=by omega
   by_cases h1:(i:Int)<(l.length:Int)-i
   rotate_left
   ·have hend:=Zzi (A:=A) (i:=i) (by omega)
    have hfin:A.reverse=natI P:=by rw[← hA,ZCb,hPa]
    rw[hend,hfin]
    refine aGo (cj3 hresR Zr h1) ?_
    repeat with_reducible intro K hK
    exact congrArg D.sl (Zao (fun _=>rfl) _)
   have hwj:IntKind.i64.wrap (((l.length:Int)-i)-1)=(l.length:Int)-((i+1:Nat):Int):=by rw[show((l.length:Int)-i)-1=(l.length:Int)-((i+1:Nat):Int) by omega];exact Zax (by omega) (by omega)
   have j0:(0:Int)≤(l.length:Int)-i:=by omega
   have jn:((l.length:Int)-i).toNat=l.length-i:=by omega
   have z0:0≤i:=Yb0 _
   have z1:0≤l.length-i:=Yb0 _
   obtain⟨x,hx⟩:∃ x,(revK A i)[i]? =some x:=⟨_,Ya0 (by rw[Znr];omega)⟩
   obtain⟨y,hy⟩:∃ y,(revK A i)[l.length-i]? =some y:=⟨_,Ya0 (by rw[Znr];omega)⟩
   have hst:=Zv8 (A:=A) (i:=i) (j:=l.length-i) (by omega) (by omega) hx hy
   obtain⟨E,hE⟩:∃ E,(revK A i).map (fun x=>[dI x])=E:=⟨_,rfl⟩
   have hE1:E[i]? =some [dI x]:=by rw[← hE,Yb8,hx];rfl
   have hE2:E[l.length-i]? =some [dI y]:=by rw[← hE,Yb8,hy];rfl
   have hE3:(E.set i [dI y])[l.length-i]? =some [dI y]:=by rw[List.getElem?_set_ne (by omega)];exact hE2
   have hE4:(E.set i [dI y]).set (l.length-i) [dI x]=(revK A (i+1)).map (fun x=>[dI x]):=by rw[← hE,← hst,List.map_set,List.map_set]
   simp only[hE]
   refine aGo (cj4 hresR h1 i0 (cj4 j0 jn z0 (cj4 z1 hE1 hE2 (cj3 hE3 hwi hwj)))) ?_
   repeat with_reducible intro K hK
   refine Zad (i+1) (by omega) (by omega) ?_
   refine Zak _ _ _ ?_ ?_ ?_ ?_ ?_ (.inr lo5)<;>simp[go_sem,okD,okDs,Zav,hE4]<;>(intros;subst_vars;simp[okD,okDs])
  have hc':((a:Int) !=(from':Int))=true:=by simp;omega
  obtain⟨m,hm,hm2,hnx⟩:=Iv.back a ha hc
  have hlt:=hnx.lt
  obtain⟨bm,hbm⟩:∃ bm,S.1[a]? =some bm:=⟨_,Ya0 (by rw[Iv.len];exact Iv.lt a ha)⟩
  rw[hbm,Option.getD_some]at hm
  subst hm
  obtain⟨k',rfl⟩:∃ k',k=k'+1:=⟨k-1,by omega⟩
  unfold Zmd at hbk
  rw[List.headD_cons,if_neg hc,hbm,Option.getD_some,Int.toNat_natCast]at hbk
  have eA:=Zza m a l
  generalize rvI a l=A at *
  refine aGo (cj4 Zr hla lA (cj4 hwl l0 a0 (cj2 hc' hbm))) ?_
  repeat with_reducible intro K hK
  refine Zad (k',m,a ::l) ⟨hm2,by show m≤k';omega,by show l.length+1+k'≤e.mv.length;omega,hbk⟩ (Nat.lt_succ_self _) ?_
  exact leGo eA
 clear hK
 have D0:Done e blk (ZcO e.mv.length from') 0:=fun m hm=>by cases hm
 refine Zas (fun(x:BqD×Nat×Nat)=>[(1,dI from'),(2,dI dst),(3,Zjd bl),(4,.lp 0 0 0 0),(9,.ls 2 1),(10,.ls 3 (x.1.2.length-1)),(11,dI x.2.1)])
  (fun x=>[(0,⟨28,0,8,[cEv e],0,false⟩),(1,⟨3,0,1,[[dI (-1)]],0,false⟩),(2,⟨3,1,1,Zma x.1,0,false⟩),(3,⟨3,x.1.2.length-1,1,Zio x.1,x.2.1,false⟩)]) 4 0
  (fun x=>InvQ e blk from' x.1∧Done e blk x.1 x.2.1∧x.2.1≤x.1.2.length∧e.mv.length+1≤x.2.1+x.2.2∧bfsQ e blk dst x.2.2 x.1 x.2.1=S) (fun x=>x.2.2) (ZcO e.mv.length from',0,e.mv.length+1)
  ⟨Zk4 hf,D0,Yb0 _,by show e.mv.length+1≤0+(e.mv.length+1);omega,hS⟩ ?_ ?_
 ·have e0:(List.replicate e.mv.length [dI (-1)]).set from' [dI from']=(ZcO e.mv.length from').1.map (fun x=>[dI x]):=ZB8 _ _ _
  have e1:Zio (ZcO e.mv.length from')=[[dI from']]:=rfl
  have e2:(ZcO e.mv.length from').2.length=1:=rfl
  exact leGo (cj3 e0 e1 e2)
 rintro⟨s,beg,fuel⟩ ⟨Iv,Dn,hbl2,hfu,hbs⟩
 simp only at Iv Dn hbl2 hfu hbs ⊢
 have hq:=ZiQ Iv.nd Iv.lt
 have hq1:1≤s.2.length:=by cases hs2:s.2 with
  | nil=>have:=Iv.fr.1;rw[hs2]at this;cases this
  | cons=>simp
 have lQ:(natI s.2).length=s.2.length:=by simp[natI]
 have b0:(0:Int)≤beg:=by omega
 obtain⟨bd,hbd⟩:∃ bd,s.1[dst]? =some bd:=⟨_,Ya0 (by rw[Iv.len];exact hd)⟩
 by_cases h1:(beg:Int)<s.2.length
 rotate_left
 ·have hSs:S=s:=by
   rw[← hbs]
   cases fuel with
   | zero=>rfl
   | succ k=>unfold bfsQ;rw[if_neg (fun h=>by omega)]
  refine aGo (cj3 Zr h1 lQ) ?_
  repeat with_reducible intro K hK
  exact tail trivial s beg Iv hSs _ (by exact leGo trivial)
 by_cases h2:bd = -1
 rotate_left
 ·have hSs:S=s:=by
   rw[← hbs]
   cases fuel with
   | zero=>rfl
   | succ k=>unfold bfsQ;rw[if_neg (fun h=>by rw[hbd,Option.getD_some]at h;exact h2 h.2)]
  have h2':(bd == -1)=false:=by simpa using h2
  refine aGo (cj4 Zr h1 lQ (cj3 d0 hbd h2')) ?_
  repeat with_reducible intro K hK
  exact tail trivial s beg Iv hSs _ (by exact leGo trivial)
 have h2':(bd == -1)=true:=by rw[h2];rfl
 obtain⟨k,rfl⟩:∃ k,fuel=k+1:=⟨fuel-1,by omega⟩
 have hround:bfsQ e blk dst k (Zlf e blk s beg) s.2.length=S:=by
  rw[← hbs]
  conv=>rhs;unfold bfsQ
  rw[if_pos ⟨by omega,by rw[hbd,Option.getD_some];exact h2⟩]
 refine ZrE (n:=8) ⟨⟩ (cj4 Zr h1 lQ (cj3 d0 hbd h2')) ?_
 repeat with_reducible intro K hK
 refine aView (id:=3) (ver:=s.2.length-1) (lo:=beg) (fz:=beg) (es:=Zio s) rfl rfl rfl rfl rfl rfl rfl rfl rfl rfl rfl rfl rfl rfl rfl rfl rfl rfl rfl rfl rfl rfl rfl rfl (by decide) (by kernel_rfl) rfl rfl rfl (by rw[Yc0,lQ];omega) (fun e he=>by obtain⟨x,_,rfl⟩:=Yc6.1 he;exact⟨_,rfl⟩) ?_
 intro T hT hT12
 refine hK _ (aLe (s':=⟨tabT [(1,dI from'),(2,dI dst),(3,Zjd bl),(4,.lp 0 0 0 0),(9,.ls 2 1),(10,.ls 3 (s.2.length-1)),(12,Zab (natI (s.2.drop beg)))],tabM [(0,⟨28,0,8,[cEv e],0,false⟩),(1,⟨3,0,1,[[dI (-1)]],0,false⟩),(2,⟨3,1,1,Zma s,0,false⟩),(3,⟨3,s.2.length-1,1,Zio s,s.2.length,false⟩)],4,0⟩) ?_ ?_)
 ·have t1:=hT 1 (by decide) (by decide)
  have t2:=hT 2 (by decide) (by decide)
  have t3:=hT 3 (by decide) (by decide)
  have t4:=hT 4 (by decide) (by decide)
  have t9:=hT 9 (by decide) (by decide)
  have t10:=hT 10 (by decide) (by decide)
  simp only[go_sem]at t1 t2 t3 t4 t9 t10
  have ed:(Zio s).drop beg=(natI (s.2.drop beg)).map fun x=>[dI x]:=by simp only[Zio,natI,List.map_drop]
  have lq:(Zio s).length=s.2.length:=by rw[Yc0,lQ]
  rw[ed]at hT12
  refine Zak _ _ _ ?_ ?_ ?_ ?_ ?_ (.inl rfl)<;>simp[go_sem,okD,okDs,Zav,t1,t2,t3,t4,t9,t10,hT12,lQ]<;>(intros;subst_vars;simp[okD,okDs])
 clear hK hT hT12 T
 obtain⟨Lv,hLv⟩:∃ Lv,s.2.drop beg=Lv:=⟨_,rfl⟩
 rw[hLv]
 have hLn:Lv.length≤6:=by rw[← hLv,List.length_drop];omega
 have lL:(natI Lv).length=Lv.length:=by simp[natI]
 refine aGo (cj3 Zr lQ lL) ?_
 repeat with_reducible intro K hK
 obtain⟨sj,hsj⟩:∃ sj:Nat→BqD,∀ j,sj j=(Lv.take j).foldl (addM e blk) s:=⟨_,fun _=>rfl⟩
 have hmem:∀ m∈Lv,m∈s.2:=fun m hm=>List.mem_of_mem_drop (by rw[hLv];exact hm)
 have Ij:∀ j,InvQ e blk from' (sj j)∧∃ q,(sj j).2=s.2++q:=fun j=>by
  rw[hsj]
  obtain⟨a,b,_⟩:=InvQ.foldM (Lv.take j) s Iv fun m hm=>hmem m (List.mem_of_mem_take hm)
  exact⟨a,b⟩
 have sj0:sj 0=s:=by rw[hsj];rfl
 have sjE:sj Lv.length=Zlf e blk s beg:=by rw[hsj,Yc2,← hLv];rfl
 have sjS:∀ j m,Lv[j]? =some m→sj (j+1)=addM e blk (sj j) m:=fun j m hm=>by rw[hsj,hsj,Yb4,hm,List.foldl_append];rfl
 refine Zas (fun(j:Nat)=>[(1,dI from'),(2,dI dst),(3,Zjd bl),(4,.lp 0 0 0 0),(9,.ls 2 1),(10,.ls 3 ((sj j).2.length-1)),(11,dI s.2.length),(67,Zab (natI Lv)),(68,dI Lv.length),(69,dI j)])
  (fun j=>[(0,⟨28,0,8,[cEv e],0,false⟩),(1,⟨3,0,1,[[dI (-1)]],0,false⟩),(2,⟨3,1,1,Zma (sj j),0,false⟩),(3,⟨3,(sj j).2.length-1,1,Zio (sj j),s.2.length,false⟩)]) 4 0 (fun j=>j≤Lv.length) (fun j=>Lv.length-j) 0 (Yb0 _) ?_ ?_
 ·exact leGo sj0
 rintro j hj
 have hwj:IntKind.i64.wrap ((j:Int)+1)=((j+1:Nat):Int):=Zax (by omega) (by omega)
 have j0:(0:Int)≤j:=by omega
 obtain⟨Ivj,q,hqj⟩:=Ij j
 have hlj:=ZiQ Ivj.nd Ivj.lt
 have hlj1:1≤(sj j).2.length:=by rw[hqj,Yb9];omega
 by_cases g1:(j:Int)<Lv.length
 rotate_left
 ·obtain rfl:j=Lv.length:=by omega
  obtain⟨r1,r2,r3⟩:=Iv.round Dn
  rw[← sjE]at r1 r2 r3 hround
  refine aGo (cj2 Zr g1) ?_
  repeat with_reducible intro K hK
  refine Zad (sj Lv.length,s.2.length,k) ⟨r1,r2,r3,by show e.mv.length+1≤s.2.length+k;omega,hround⟩ (Nat.lt_succ_self k) ?_
  exact leGo trivial
 obtain⟨m,hm⟩:∃ m,Lv[j]? =some m:=⟨_,Ya0 (by omega)⟩
 have hmN:(natI Lv)[j]? =some (m:Int):=by unfold natI;rw[Yb8,hm];rfl
 have ms:=hmem m (Ya7 hm)
 have mn:=Iv.lt m ms
 have hstep:=sjS j m hm
 have kq:=kn m mn
 have nlen:(Zfr e blk m).length≤6:=by have:=ZlA (e:=e) (blk:=blk) (p:=(mvAt e m).t) (e.mv.length-(m+1)) (m+1);unfold Zfr;omega
 have nmem:∀ k'∈Zfr e blk m,Zow e blk m k':=fun k' h=>(ZnP mn).1 h
 have hstep2:sj (j+1)=(Zfr e blk m).foldl (addK m) (sj j):=hstep
 generalize Zfr e blk m=nl at *
 have lN:(natI nl).length=nl.length:=by simp[natI]
 refine aGo (cj4 Zr g1 j0 (cj2 hmN lN)) ?_
 repeat with_reducible intro K hK
 obtain⟨si,hsi⟩:∃ si:Nat→BqD,∀ i,si i=(nl.take i).foldl (addK m) (sj j):=⟨_,fun _=>rfl⟩
 have msj:m∈(sj j).2:=by rw[hqj];exact Yd6 _ ms
 have Ii:∀ i,InvQ e blk from' (si i)∧∃ q,(si i).2=(sj j).2++q:=fun i=>by
  rw[hsi]
  obtain⟨a,b,_⟩:=InvQ.foldK (m:=m) (nl.take i) (sj j) Ivj msj fun k' hk=>nmem k' (List.mem_of_mem_take hk)
  exact⟨a,b⟩
 have si0:si 0=sj j:=by rw[hsi];rfl
 have siE:si nl.length=sj (j+1):=by rw[hsi,Yc2,hstep2]
 have siS:∀ i k',nl[i]? =some k'→si (i+1)=addK m (si i) k':=fun i k' hk=>by rw[hsi,hsi,Yb4,hk,List.foldl_append];rfl
 refine Zas (fun(i:Nat)=>[(1,dI from'),(2,dI dst),(3,Zjd bl),(4,.lp 0 0 0 0),(9,.ls 2 1),(10,.ls 3 ((si i).2.length-1)),(11,dI s.2.length),(14,dI m),(67,Zab (natI Lv)),(68,dI Lv.length),(69,dI j),(76,Zab (natI nl)),(77,dI nl.length),(78,dI i)])
  (fun i=>[(0,⟨28,0,8,[cEv e],0,false⟩),(1,⟨3,0,1,[[dI (-1)]],0,false⟩),(2,⟨3,1,1,Zma (si i),0,false⟩),(3,⟨3,(si i).2.length-1,1,Zio (si i),s.2.length,false⟩)]) 4 0 (fun i=>i≤nl.length) (fun i=>nl.length-i) 0 (Yb0 _) ?_ ?_
 ·exact leGo si0
 rintro i hi
 have hwi:IntKind.i64.wrap ((i:Int)+1)=((i+1:Nat):Int):=Zax (by omega) (by omega)
 have i0:(0:Int)≤i:=by omega
 obtain⟨Ivi,qi,hqi⟩:=Ii i
 have hli:=ZiQ Ivi.nd Ivi.lt
 have hli1:1≤(si i).2.length:=by rw[hqi,Yb9];omega
 by_cases u1:(i:Int)<nl.length
 rotate_left
 ·obtain rfl:i=nl.length:=by omega
  rw[siE]
  refine aGo (cj3 Zr u1 hwj) ?_
  repeat with_reducible intro K hK
  exact Zad (j+1) (by omega) (by omega) (by exact leGo trivial)
 obtain⟨k',hk'⟩:∃ k',nl[i]? =some k':=⟨_,Ya0 (by omega)⟩
 have hkN:(natI nl)[i]? =some (k':Int):=by unfold natI;rw[Yb8,hk'];rfl
 have kR:=nmem k' (Ya7 hk')
 have k0':(0:Int)≤k':=by omega
 have z0':0≤k':=Yb0 _
 obtain⟨bk,hbk⟩:∃ bk,(si i).1[k']? =some bk:=⟨_,Ya0 (by rw[Ivi.len];exact kR.n)⟩
 have hadd:=siS i k' hk'
 unfold addK at hadd
 rw[hbk,Option.getD_some]at hadd
 by_cases c1:bk = -1
 rotate_left
 ·rw[if_neg c1]at hadd
  have c1':(bk == -1)=false:=by simpa using c1
  refine aGo (cj4 Zr u1 i0 (cj4 hkN k0' hbk (cj2 c1' hwi))) ?_
  repeat with_reducible intro K hK
  exact Zad (i+1) (by omega) (by omega) (by rw[hadd];exact leGo trivial)
 rw[if_pos c1]at hadd
 have c1':(bk == -1)=true:=by rw[c1];rfl
 have eB:Zma (si (i+1))=(Zma (si i)).set k' [dI m]:=by rw[hadd];simp only[Zma,List.map_set]
 have eQ:Zio (si (i+1))=Zio (si i)++[[dI k']]:=by rw[hadd];simp[Zio,natI]
 have eL:(si (i+1)).2.length-1=(si i).2.length-1+1:=by rw[hadd];simp;omega
 have lQi:(natI (si i).2).length=(si i).2.length:=by simp[natI]
 clear hadd
 have eB':=eB.symm
 have eQ':=eQ.symm
 clear eB eQ
 refine aGo (cj4 Zr u1 i0 (cj4 hkN k0' z0' (cj4 hbk c1' lQi hwi))) ?_
 repeat with_reducible intro K hK
 exact Zad (i+1) (by omega) (by omega) (by exact leGo (cj3 eB' eQ' eL))
theorem ZEW(l:List Int)(x:Int)(hl:l.length≤4096):Zaa Tryz.prog 22 [Zab l,dI x] (dB (l.any fun y=>y==x)):=by
 have Zr:=Tryz.results22
 refine inN Tryz.func22 rfl Tryz.ntmps22 fun I=>?_
 refine aGo Zr ?_
 repeat with_reducible intro K hK
 refine Zas (fun(k:Nat)=>[(0,Zab l),(1,dI x),(5,dI k)]) (fun _=>[]) 0 0 (fun k=>k≤l.length∧(l.take k).any (fun y=>y==x)=false) (fun k=>l.length-k) 0 ⟨by omega,rfl⟩ ?_ ?_
 ·exact leGo trivial
 rintro k ⟨hk,hn⟩
 obtain⟨hw,h0⟩:=ZaO k
 by_cases h1:(k:Int)<l.length
 ·obtain⟨y,hx⟩:=getE (l:=l) (k:=k) (by omega)
  cases h2:(y==x)
  ·refine aGo (cj4 Zr h0 h1 (cj3 hx hw h2)) ?_
   repeat with_reducible intro K hK
   exact Zad (k+1) ⟨by omega,Zdm hx hn h2⟩ (by omega) (by exact leGo trivial)
  ·refine aGo (cj4 Zr h0 h1 (cj3 hx hw h2)) ?_
   repeat with_reducible intro K hK
   exact Zaj (ZBF (p:=fun y=>y==x) hx h2).symm
 ·rw[Ya8 (by omega)]at hn
  refine aGo (cj2 Zr h1) ?_
  repeat with_reducible intro K hK
  exact Zaj hn.symm
theorem Zno(a b:List Int)(ha:a.length≤4096)(hb:b.length≤4096):Zaa Tryz.prog 27 [Zab a,Zab b] (dB (a==b)):=by
 have Zr:=Tryz.results27
 refine inN Tryz.func27 rfl Tryz.ntmps27 fun I=>?_
 by_cases hl:a.length=b.length
 rotate_left
 ·have hl':((a.length:Int) !=(b.length:Int))=true:=by simp;omega
  refine aGo (cj2 Zr hl') ?_
  repeat with_reducible intro K hK
  exact Zaj (by simp;intro e;exact hl (by rw[e]))
 have hl':((a.length:Int) !=(b.length:Int))=false:=by simp;omega
 refine aGo (cj2 Zr hl') ?_
 repeat with_reducible intro K hK
 refine Zas (fun(k:Nat)=>[(0,Zab a),(1,Zab b),(5,dI k)]) (fun _=>[]) 0 0 (fun k=>k≤a.length∧a.take k=b.take k) (fun k=>a.length-k) 0 ⟨by omega,rfl⟩ ?_ ?_
 ·exact leGo trivial
 rintro k ⟨hk,hn⟩
 obtain⟨hw,h0⟩:=ZaO k
 by_cases h1:(k:Int)<a.length
 ·obtain⟨x,hx⟩:=getE (l:=a) (k:=k) (by omega)
  obtain⟨y,hy⟩:=getE (l:=b) (k:=k) (by omega)
  by_cases h2:x=y
  ·have h2':(x !=y)=false:=by simp[h2]
   have hn2:a.take (k+1)=b.take (k+1):=by rw[Yb4,Yb4,hx,hy,hn,h2]
   refine aGo (cj4 Zr h0 h1 (cj4 hx hy hw h2')) ?_
   repeat with_reducible intro K hK
   exact Zad (k+1) ⟨by omega,hn2⟩ (by omega) (by exact leGo trivial)
  ·have h2':(x !=y)=true:=by simpa using h2
   have hf:(a==b)=false:=by
    simp
    intro e
    subst e
    rw[hx]at hy
    exact h2 (Option.some.inj hy)
   refine aGo (cj4 Zr h0 h1 (cj3 hx hy h2')) ?_
   repeat with_reducible intro K hK
   exact Zaj hf.symm
 ·have hf:(a==b)=true:=by
   rw[Ya8 (by omega),Ya8 (by omega)]at hn
   simpa using hn
  refine aGo (cj2 Zr h1) ?_
  repeat with_reducible intro K hK
  exact Zaj hf.symm
def Zdv(e:EvD)(mv m:Int):Bool :=
 !(decide (e.m>m)||(decide (e.h>6)||(decide (e.s>6)||decide ((e.pl.length:Int)>12))))&&(decide ((e.mv.length:Int)≤mv)&&(decide ((e.ce.length:Int)≤10)&&(decide ((e.re.length:Int)≤4)&&decide ((e.pu.length:Int)≤6))))
theorem ZvM(e:EvD)(mv m:Int):Zaa Tryz.prog 29 [Zfd e,dI mv,dI m] (dB (Zdv e mv m)):=by
 have Zr:=Tryz.results29
 refine inN Tryz.func29 rfl Tryz.ntmps29 fun I=>?_
 obtain⟨b,hb⟩:∃ b,Zdv e mv m=b:=⟨_,rfl⟩
 rw[hb]
 by_cases h1:e.m>m
 ·refine aGo (cj2 Zr h1) ?_
  repeat with_reducible intro K hK
  exact Zaj (by rw[← hb];simp[Zdv,h1])
 by_cases h2:e.h>6
 ·refine aGo (cj3 Zr h1 h2) ?_
  repeat with_reducible intro K hK
  exact Zaj (by rw[← hb];simp[Zdv,h2])
 by_cases h3:e.s>6
 ·refine aGo (cj4 Zr h1 h2 h3) ?_
  repeat with_reducible intro K hK
  exact Zaj (by rw[← hb];simp[Zdv,h3])
 by_cases h4:(e.pl.length:Int)>12
 ·refine aGo (cj4 Zr h1 h2 (cj2 h3 h4)) ?_
  repeat with_reducible intro K hK
  exact Zaj (by rw[← hb];have:decide ((e.pl.length:Int)>12)=true:=decide_eq_true h4;simp only[Zdv,this,Bool.or_true,Bool.not_true,Bool.false_and])
 have g4:(decide (e.m>m)||(decide (e.h>6)||(decide (e.s>6)||decide ((e.pl.length:Int)>12))))=false:=by rw[decide_eq_false h1,decide_eq_false h2,decide_eq_false h3,decide_eq_false h4];rfl
 by_cases h5:(e.mv.length:Int)≤mv
 rotate_left
 ·refine aGo (cj4 Zr h1 h2 (cj3 h3 h4 h5)) ?_
  repeat with_reducible intro K hK
  exact Zaj (by rw[← hb];unfold Zdv;rw[g4,decide_eq_false h5];rfl)
 by_cases h6:(e.ce.length:Int)≤10
 rotate_left
 ·refine aGo (cj4 Zr h1 h2 (cj4 h3 h4 h5 h6)) ?_
  repeat with_reducible intro K hK
  exact Zaj (by rw[← hb];unfold Zdv;rw[g4,decide_eq_true h5,decide_eq_false h6];rfl)
 by_cases h7:(e.re.length:Int)≤4
 rotate_left
 ·refine aGo (cj4 Zr h1 h2 (cj4 h3 h4 h5 (cj2 h6 h7))) ?_
  repeat with_reducible intro K hK
  exact Zaj (by rw[← hb];unfold Zdv;rw[g4,decide_eq_true h5,decide_eq_true h6,decide_eq_false h7];rfl)
 refine aGo (cj4 Zr h1 h2 (cj4 h3 h4 h5 (cj2 h6 h7))) ?_
 repeat with_reducible intro K hK
 exact Zaj (by rw[← hb];unfold Zdv;rw[g4,decide_eq_true h5,decide_eq_true h6,decide_eq_true h7];rfl)
def ZfR(t:TrD)(mv:Int):Bool:=Zdv t.e mv 3&&(decide (t.e.h≤4)&&(decide ((t.fi.length:Int)≤6)&&decide ((t.cl.length:Int)≤6)))
theorem ZvL(t:TrD)(mv:Int):Zaa Tryz.prog 6 [ZcL t,dI mv] (dB (ZfR t mv)):=by
 have Zr:=Tryz.results6
 have k:=ZvM t.e mv 3
 obtain⟨b,hb⟩:∃ b,ZfR t mv=b:=⟨_,rfl⟩
 rw[hb]
 refine inN Tryz.func6 rfl Tryz.ntmps6 fun I=>?_
 cases h1:Zdv t.e mv 3
 ·rw[h1]at k
  refine aGo Zr ?_
  repeat with_reducible intro K hK
  exact Zaj (by rw[← hb];unfold ZfR;rw[h1];rfl)
 rw[h1]at k
 by_cases h2:t.e.h≤4
 rotate_left
 ·refine aGo (cj2 Zr h2) ?_
  repeat with_reducible intro K hK
  exact Zaj (by rw[← hb];unfold ZfR;rw[h1,decide_eq_false h2];rfl)
 by_cases h3:(t.fi.length:Int)≤6
 rotate_left
 ·refine aGo (cj3 Zr h2 h3) ?_
  repeat with_reducible intro K hK
  exact Zaj (by rw[← hb];unfold ZfR;rw[h1,decide_eq_true h2,decide_eq_false h3];rfl)
 refine aGo (cj3 Zr h2 h3) ?_
 repeat with_reducible intro K hK
 exact Zaj (by rw[← hb];unfold ZfR;rw[h1,decide_eq_true h2,decide_eq_true h3];rfl)
theorem ZFq(p:List Int)(hp:p.length≤64):Zaa Tryz.prog 157 [Zab p] (.cl (p.map fun x=>[dI x])):=by
 refine⟨⟨_,_,Tryz.func157,rfl,by kernel_rfl⟩,fun S w vs hf hvs=>?_⟩
 obtain⟨v,rfl,h1⟩:=ZqD hvs
 obtain⟨a,cap,rfl,hcap,hle,_⟩:=h1.inv_sl
 have key:Rep noB noM S w (.slice a (p.map fun x=>[dI x]).length (p.map fun x=>[dI x]).length) (.sl (p.map fun x=>[dI x])):=by
  change Rep noB noM S w _ (.sl (p.map fun x=>[dI x]))at h1
  generalize (p.map fun x=>[dI x])=es at *
  have h2:∀ (n:Nat)(y:Value)(d:D),Rep noB noM S w y d→y = .slice a n cap→n=es.length→d = .sl es→Rep noB noM S w (.slice a es.length es.length) (.sl es):=by
   intro n y d hr hy hn hd
   cases hr<;>first|(cases hd;done)|skip
   ·cases hd;exact .sl0 _ _ (Yb0 _)
   ·rename_i b off cap' k es' val g1 g2 g3 g4 g5
    cases hd
    simp only[Value.slice.injEq]at hy
    obtain⟨rfl,-,-⟩:=hy
    exact .sl b off _ k _ val (Ya4 _) (Yc7 g1 g2) g3 g4 g5
  exact h2 _ _ _ h1 rfl rfl rfl
 have hcl:=RepI.cl (S:=S) (w:=w) (β:=noB) (m:=noM) a (p.map fun x=>[dI x]) key
 simp only[Yc0]at hcl hle ⊢
 cases a with
 | none =>
   go_enter Tryz.func157,Tryz.ntmps157
   go_wp2_with fail
   go_ret
   exact⟨_,rfl,Below.refl _ _,hcl⟩
 | some A =>
   go_enter Tryz.func157,Tryz.ntmps157
   go_wp2_with fail
   go_ret
   exact⟨_,rfl,Below.refl _ _,hcl⟩
theorem Zxo:(Tryz.prog.info? 3).map (fun i=>(i.zero.map fun z=>z.cells.size,i.size,i.bytes))=some (some 1,1,8):=by kernel_rfl
theorem Zxn:∃ i z,Tryz.prog.info? 3=some i∧i.zero=some z∧i.size=1∧i.bytes=8∧z.cells.size=1:=by
 have h:=Zxo
 cases hi:Tryz.prog.info? 3 with
 | none=>rw[hi]at h;cases h
 | some i =>
   rw[hi]at h
   simp only[Yd0,Ya1,Prod.mk.injEq]at h
   obtain⟨h1,h2,h3⟩:=h
   cases hz:i.zero with
   | none=>rw[hz]at h1;cases h1
   | some z=>rw[hz]at h1;exact⟨i,z,rfl,hz,h2,h3,by simpa using h1⟩
theorem Zyf:Zaa Tryz.prog 123 [.sl []] (.sl []):=by
 refine⟨⟨_,_,Tryz.func123,rfl,by kernel_rfl⟩,fun S w vs hf hvs=>?_⟩
 obtain⟨v,rfl,h1⟩:=ZqD hvs
 obtain⟨a,cap,rfl,hcap,_,_⟩:=h1.inv_sl
 obtain⟨i0,z,hi,hz0,hz1,hz2,hz3⟩:=Zxn
 have hnil:=fun(W:World) n c n' c'=>Lib.run_eql_slice_nil (P:=Tryz.prog) W 43 3 a n c n' c' Tryz.underlying43
 cases a with
 | none =>
   go_enter Tryz.func123,Tryz.ntmps123
   go_wp2_with fail
   go_ret
   exact⟨_,rfl,Below.refl _ _,.sl0 _ _ (by unfold maxLen;omega)⟩
 | some A =>
   go_enter Tryz.func123,Tryz.ntmps123
   go_wp2_with (at_builtin;refine Zdr _ (by rfl) _ _ _ (by rfl) w.heap.size 3 i0 z 1 _ Tryz.underlying43 hi hz0 hz1 hz2 hz3 (by omega) _ 0 [] (by rfl) (World.ownsRow_made w #[] 0 (Ya4 _) (Yb0 _) (by simp)) (some A) 0 cap [] (by rfl) ⟨rfl,.inl rfl⟩ (by simp) (by unfold maxLen;omega) (by omega) (by simp) ?_;intro v' w1 hown hgrow hat)
   go_ret
   refine⟨_,rfl,?_,?_⟩
   ·exact((Below.refl _ _).alloc (Ya4 _) _).grown hgrow (by simp) (by intro k hk;simp[Value.ownBlock]at hk;omega)
   ·rcases hown.2 with⟨rfl,_⟩|⟨g,cap,cur,rfl,_,_,_,hc,_⟩
    ·exact .sl0 _ _ (by unfold maxLen;omega)
    ·exact .sl0 _ _ hc
set_option maxRecDepth 20000 in
theorem ZDr(p:List Int)(hp:p.length≤64):Zaa Tryz.prog 123 [Zab p] (Zab p):=by
 have hresC:=Tryz.results123
 match p,hp with
 | [],_=>exact Zyf
 | y ::p,hp =>
   simp only[List.length_cons]at hp
   show Zaa _ _ [.sl ([dI y] ::p.map fun x=>[dI x])] (.sl ([dI y] ::p.map fun x=>[dI x]))
   obtain⟨c0,ec0⟩:∃ c0,[dI y]=c0:=⟨_,rfl⟩
   obtain⟨cs,ecs⟩:∃ cs,(p.map fun x=>[dI x])=cs:=⟨_,rfl⟩
   rw[ec0,ecs]
   have lT:cs.length=p.length:=by rw[← ecs];simp
   have hb:((p.length:Nat):Int)≤64:=by omega
   have hcell:∀ x∈c0 ::cs,x.length=1∧x.all D.isCell=true:=by
    intro x hx
    rw[← ec0,← ecs]at hx
    rcases List.mem_cons.1 hx with rfl|hx
    ·exact⟨rfl,rfl⟩
    ·obtain⟨u,_,rfl⟩:=Yc6.1 hx
     exact⟨rfl,rfl⟩
   have hfz:∀ (m:Mem)(n:Nat),List.map (List.map (fzT true m (n+1))) (c0 ::cs)=c0 ::cs:=by
    intro m n
    rw[← ec0,← ecs]
    simp[fzT,dI]
   refine inN Tryz.func123 rfl Tryz.ntmps123 fun I=>?_
   refine aGo (cj2 hresC lT) ?_
   repeat with_reducible intro K hK
   refine⟨⟨⟨hcell c0 (by simp),fun x hx=>hcell x (by simp[hx])⟩,by push_cast;omega,by push_cast;omega⟩,?_⟩
   refine aGo hresC ?_
   repeat with_reducible intro K hK
   exact congrArg D.sl (hfz _ _)
end Go.Proofs.YtjeaacindikplaaGreat
