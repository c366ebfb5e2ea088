/-
  Digits to the base 2^20: plain mathematics.
-/
import Derived.Test.YtiincpioidnciaaGreatVLib
import Derived.Laws.Bits128
import Derived.IntWalk
namespace Go.Proofs.YtiincpioidnciaaGreat
set_option linter.unusedVariables false
set_option linter.unusedSimpArgs false
set_option linter.unusedSectionVars false
def val:List Int→Int
 | []=>0
 | d ::l=>d+1048576*val l
def bp:Nat→Int
 | 0=>1
 | k+1=>1048576*bp k
def Dig(l:List Int):Prop:=∀ d∈l,0≤d∧d<1048576
def Norm(l:List Int):Prop:=Dig l∧∀ d,l.getLast? =some d→d≠0
theorem Zd4:∀ k,0<bp k
 | 0=>by decide
 | k+1=>by have:=Zd4 k;simp only[bp];omega
def digs(n:Nat):List Int:=if h:n=0 then []else((n%1048576:Nat):Int) ::digs (n / 1048576)
termination_by n
decreasing_by omega
theorem Zax:digs 0=[]:=by rw[digs];simp
theorem Zbg{n:Nat}(h:n≠0):digs n=((n%1048576:Nat):Int) ::digs (n / 1048576):=by rw[digs];simp[h]
theorem Zcz(n:Nat):val (digs n)=n:=by
 induction n using Nat.strongRecOn with
 | ind n ih =>
   by_cases h:n=0
   ·subst h;rw[Zax];rfl
   ·rw[Zbg h,val,ih _ (by omega)];omega
theorem Zbh{d:Int}{l:List Int}:Dig (d ::l)↔(0≤d∧d<1048576)∧Dig l:=by simp[Dig]
theorem Zfy:Dig []:=by simp[Dig]
theorem ZdG(n:Nat):Norm (digs n):=by
 induction n using Nat.strongRecOn with
 | ind n ih =>
   by_cases h:n=0
   ·subst h;rw[Zax];exact⟨Zfy,by simp⟩
   ·obtain⟨h1,h2⟩:=ih (n / 1048576) (by omega)
    rw[Zbg h]
    refine⟨Zbh.2 ⟨by omega,h1⟩,fun d hd=>?_⟩
    by_cases hq:n / 1048576=0
    ·rw[hq,Zax]at hd
     simp at hd
     omega
    ·refine h2 d ?_
     rw[Zbg hq]at hd ⊢
     simpa[List.getLast?_cons_cons]using hd
theorem ZcX(a b:List Int):val (a++b)=val a+bp a.length*val b:=by
 induction a with
 | nil=>simp[val,bp]
 | cons d a ih=>simp only[Yc9,val,ih,List.length_cons,bp];grind
theorem ZbB{l:List Int}(h:∀ d∈l,0≤d):0≤val l:=by
 induction l with
 | nil=>simp[val]
 | cons d l ih =>
   have h1:=h d (by simp)
   have h2:=ih fun x hx=>h x (by simp[hx])
   simp only[val];omega
theorem ZbN{l:List Int}(h:Dig l):0≤val l:=ZbB fun d hd=>(h d hd).1
theorem Zct{l:List Int}(h:Norm l)(hl:l≠[]):bp (l.length-1)≤val l:=by
 obtain⟨hd,h2⟩:=h
 have e:=List.dropLast_concat_getLast hl
 have hlast:=h2 (l.getLast hl) (by rw[List.getLast?_eq_some_getLast hl])
 have hd1:=hd _ (List.getLast_mem hl)
 have hv:val l=val l.dropLast+bp (l.length-1)*l.getLast hl:=by
  have:=congrArg val e
  rw[ZcX]at this
  simp only[val,List.length_dropLast,Int.mul_zero,Int.add_zero]at this
  omega
 rw[hv]
 have h3:0≤val l.dropLast:=ZbB fun d hx=>(hd d (List.dropLast_subset _ hx)).1
 have:bp (l.length-1)*1≤bp (l.length-1)*l.getLast hl:=Yd1 (by omega) (Int.le_of_lt (Zd4 _))
 omega
theorem ZdF{d:Int}{l:List Int}(h:Norm (d ::l)):Norm l:=by
 refine⟨(Zbh.1 h.1).2,fun x hx=>h.2 x ?_⟩
 cases l with
 | nil=>simp at hx
 | cons y l=>simpa[List.getLast?_cons_cons]using hx
theorem Za4{l:List Int}(h:Norm l)(hv:val l=0):l=[]:=by
 cases hl:l with
 | nil=>rfl
 | cons d l' =>
   have h1:=Zct h (by rw[hl];simp)
   have:=Zd4 (l.length-1)
   omega
theorem Zfk{l:List Int}(h:Norm l):l=digs (val l).toNat:=by
 induction l with
 | nil=>rw[show val []=0 from rfl];exact Zax.symm
 | cons d l ih =>
   have h1:=(Zbh.1 h.1).1
   have h0:=ZbN (Zbh.1 h.1).2
   have hv:(val (d ::l)).toNat≠0:=fun e=>by
    have:val (d ::l)=0:=by simp only[val]at e ⊢;omega
    have:=Za4 h this;cases this
   rw[Zbg hv]
   have e1:(((val (d ::l)).toNat%1048576:Nat):Int)=d:=by simp only[val];omega
   have e2:(val (d ::l)).toNat / 1048576=(val l).toNat:=by simp only[val];omega
   rw[e1,e2,← ih (ZdF h)]
theorem Zcf{n:Nat}:digs n=[]↔n=0:=by
 constructor
 ·intro h
  have:=Zcz n
  rw[h]at this
  have:(0:Int)=n:=this
  omega
 ·rintro rfl;exact Zax
structure Top (W v:List Int) (n:Nat) (u0 u1 u2 v1 v2:Int):Prop where
 len:v.length=n+2
 lenW:W.length=n+3
 w0:W[n+2]? =some u0
 w1:W[n+1]? =some u1
 w2:W[n]? =some u2
 hv1:v[n+1]? =some v1
 hv2:v[n]? =some v2
 dW:Dig W
 dv:Dig v
 big:524288≤v1
 small:val W<val v*1048576
structure BigD where
 s:Int
 d:List Int
structure Zad where
 p:BigD
 q:BigD
theorem BigD.eta{x:BigD}{s:Int}{d:List Int}(h1:x.s=s)(h2:x.d=d):x=⟨s,d⟩:=by cases x;simp_all
def digB(l:List Int):Bool:=l.all fun d=>decide (0≤d)&&decide (d<1048576)
theorem ZcM{l:List Int}:digB l=true↔Dig l:=by simp[digB,Dig]
def okB(x:BigD):Bool:=digB x.d&&(if x.d.isEmpty then x.s==0 else(x.s==1||x.s == -1)&&x.d.getLast? !=some 0)
def ofZ(z:Int):BigD:=⟨z.sign,digs z.natAbs⟩
def zOf(x:BigD):Int:=x.s*val x.d
theorem Zdp(z:Int):zOf (ofZ z)=z:=by
 simp only[zOf,ofZ,Zcz];exact Int.sign_mul_natAbs z
theorem Zfj(z:Int):okB (ofZ z)=true:=by
 have hn:=ZdG z.natAbs
 unfold okB
 rw[Ya2]
 refine⟨ZcM.2 hn.1,?_⟩
 by_cases h:z.natAbs=0
 ·have:z=0:=by omega
  subst this;simp[ofZ,Zax]
 ·have h1:(ofZ z).d≠[]:=fun e=>h (Zcf.1 e)
  rw[if_neg (by simpa using h1),Ya2]
  constructor
  ·simp only[ofZ,Bool.or_eq_true,beq_iff_eq]
   rcases Int.lt_or_le 0 z with hz|hz
   ·exact .inl (Yb2 hz)
   ·exact .inr (Yb3 (by omega))
  ·simp only[bne_iff_ne]
   intro e
   exact hn.2 0 e rfl
theorem Zeq{x:BigD}(h:okB x=true):Norm x.d:=by
 unfold okB at h
 rw[Ya2]at h
 refine⟨ZcM.1 h.1,fun d hd=>?_⟩
 have h2:=h.2
 split at h2
 ·rename_i he;rw[List.isEmpty_iff.1 he]at hd;simp at hd
 ·rw[Ya2]at h2
  have:=h2.2
  rw[hd]at this
  simpa using this
theorem ZeV{x:BigD}(h:okB x=true):x=ofZ (zOf x):=by
 have hn:=Zeq h
 have he:=Zfk hn
 have h0:=ZbN hn.1
 unfold okB at h
 rw[Ya2]at h
 have h2:=h.2
 split at h2
 ·rename_i hx
  have hx:=List.isEmpty_iff.1 hx
  refine(BigD.eta (beq_iff_eq.1 h2) hx).trans ?_
  simp[zOf,hx,val,ofZ,Zax]
 ·rename_i hx
  rw[Ya2,Bool.or_eq_true]at h2
  have hv:val x.d≠0:=fun e=>hx (by rw[Za4 hn e];rfl)
  have h3:=h2.1
  refine(BigD.eta rfl rfl:x=⟨x.s,x.d⟩).trans ?_
  unfold ofZ zOf
  rcases h3 with h3|h3<;>rw[beq_iff_eq]at h3<;>rw[h3]
  ·rw[Int.one_mul,Yb2 (by omega)]
   congr 1
   rw[show(val x.d).natAbs=(val x.d).toNat by omega];exact he
  ·rw[Yb3 (by omega)]
   congr 1
   rw[show(-1*val x.d).natAbs=(val x.d).toNat by omega];exact he
def zB:BigD:=⟨0,[]⟩
def zF:Zad:=⟨zB,zB⟩
def ofQ(r:Rat):Zad:=⟨ofZ r.num,ofZ r.den⟩
def okF(f:Zad):Bool:=okB f.p&&okB f.q&&(f.q.s==1)&&(Nat.gcd (zOf f.p).natAbs (zOf f.q).natAbs==1)
def qOf(f:Zad):Rat:=Rat.divInt (zOf f.p) (zOf f.q)
theorem ZdD(r:Rat):qOf (ofQ r)=r:=by
 simp only[qOf,ofQ,Zdp];exact Rat.num_divInt_den r
theorem Zfi(r:Rat):okF (ofQ r)=true:=by
 simp only[okF,ofQ,Zfj,Zdp,Bool.true_and,Ya2,beq_iff_eq]
 refine⟨?_,?_⟩
 ·exact Yb2 (by have:=r.den_pos;omega)
 ·exact r.reduced
theorem ZeU{f:Zad}(h:okF f=true):f=ofQ (qOf f):=by
 simp only[okF,Ya2,beq_iff_eq]at h
 obtain⟨⟨⟨h1,h2⟩,h3⟩,h4⟩:=h
 have hp:=ZeV h1
 have hq:=ZeV h2
 have hpos:0<zOf f.q:=by
  rw[hq]at h3
  exact Int.sign_eq_one_iff_pos.1 h3
 have e:qOf f=⟨zOf f.p,(zOf f.q).natAbs,by omega,h4⟩:=by
  unfold qOf
  rw[Rat.mk_eq_divInt];congr 1;omega
 rw[e]
 unfold ofQ
 simp only
 rw[show(((zOf f.q).natAbs:Nat):Int)=zOf f.q by omega,← hp,← hq]
def sgQ(r:Rat):Int:=r.num.sign
theorem Zfb{r:Rat}:sgQ r=1↔0<r:=by
 unfold sgQ
 rw[Int.sign_eq_one_iff_pos,Rat.lt_iff];simp
theorem Zfc{r:Rat}:sgQ r = -1↔r<0:=by
 unfold sgQ
 rw[Int.sign_eq_neg_one_iff_neg,Rat.lt_iff];simp
theorem Zej{r:Rat}:sgQ r=0↔r=0:=by
 unfold sgQ
 rw[Int.sign_eq_zero_iff_zero];exact Rat.num_eq_zero
theorem Za2(r:Rat):(r<0∧sgQ r = -1)∨(r=0∧sgQ r=0)∨(0<r∧sgQ r=1):=by
 unfold sgQ
 rcases Int.lt_trichotomy r.num 0 with h|h|h
 ·have:=Yb3 h
  exact .inl ⟨Zfc.1 this,this⟩
 ·refine .inr (.inl ⟨Rat.num_eq_zero.1 h,by rw[h];rfl⟩)
 ·have:=Yb2 h
  exact .inr (.inr ⟨Zfb.1 this,this⟩)
theorem Zf1{r:Rat}:sgQ r<0↔r<0:=by rcases Za2 r with⟨h,e⟩|⟨h,e⟩|⟨h,e⟩<;>rw[e]<;>constructor<;>intro h1<;>grind
theorem Zf2{r:Rat}:0<sgQ r↔0<r:=by rcases Za2 r with⟨h,e⟩|⟨h,e⟩|⟨h,e⟩<;>rw[e]<;>constructor<;>intro h1<;>grind
def sgnD(a:Zad):Int:=if okF a then sgQ (qOf a)else 0
def maxQ(a b:Rat):Rat:=if a≤b then b else a
theorem Zei(a:Rat):sgnD (ofQ a)=sgQ a:=by simp[sgnD,Zfi,ZdD]
def szF(f:Zad):Nat:=max f.p.d.length f.q.d.length
open Go.RowKit
theorem ZcU(n:Int):bits .and .i64 n 1048575=n%1048576:=by
 have h127:(BitVec.ofInt 64 1048575).toNat=2^20-1:=by decide
 have key:(BitVec.ofInt 64 n &&& BitVec.ofInt 64 1048575).toNat=(n%((2^64:Nat):Int)).toNat%2^20:=by
  rw[BitVec.toNat_and,BitVec.toNat_ofInt,h127,Nat.and_two_pow_sub_one_eq_mod]
 show IntKind.i64.wrap ((BitVec.ofInt 64 n &&& BitVec.ofInt 64 1048575).toNat:Nat)=n%1048576
 rw[key,IntKind.wrap_i64]
 omega
theorem Zea(n:Int):bits .and .i64 n 1=n%2:=by
 have h127:(BitVec.ofInt 64 1).toNat=2^1-1:=by decide
 have key:(BitVec.ofInt 64 n &&& BitVec.ofInt 64 1).toNat=(n%((2^64:Nat):Int)).toNat%2^1:=by
  rw[BitVec.toNat_and,BitVec.toNat_ofInt,h127,Nat.and_two_pow_sub_one_eq_mod]
 show IntKind.i64.wrap ((BitVec.ofInt 64 n &&& BitVec.ofInt 64 1).toNat:Nat)=n%2
 rw[key,IntKind.wrap_i64]
 omega
theorem ZbP(n:Int):bits .and .u64 n 1048575=n%1048576:=by
 have h127:(BitVec.ofInt 64 1048575).toNat=2^20-1:=by decide
 have key:(BitVec.ofInt 64 n &&& BitVec.ofInt 64 1048575).toNat=(n%((2^64:Nat):Int)).toNat%2^20:=by
  rw[BitVec.toNat_and,BitVec.toNat_ofInt,h127,Nat.and_two_pow_sub_one_eq_mod]
 show IntKind.u64.wrap ((BitVec.ofInt 64 n &&& BitVec.ofInt 64 1048575).toNat:Nat)=n%1048576
 rw[key]
 simp only[IntKind.wrap,IntKind.bits,IntKind.signed]
 simp;omega
end Go.Proofs.YtiincpioidnciaaGreat
