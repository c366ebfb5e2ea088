/-
  What Least returns is a certificate (plain): multipliers.
-/
import Derived.Test.YtiincpioidnciaaGreatVT03
import Derived.Test.YtiincpioidnciaaGreatVT02
import Derived.Test.YtiincpioidnciaaGreatVT01
import Derived.Test.YtiincpioidnciaaGreatVT00
namespace Go.Proofs.YtiincpioidnciaaGreat
set_option linter.unusedVariables false
set_option linter.unusedSimpArgs false
set_option linter.unusedSectionVars false
open Go Go.RowKit
set_option maxRecDepth 100000
section
variable {d:Dic} {src:Nat→Nat×Bool} {M:Nat} {rd A:Nat→Rat} (hP:d.Part) (hs:∀ k,k<d.m→(src k).1<M) (hA:∀ k,k<d.m→A k=sgQ' (src k).2 (rd (src k).1))
include hP hs hA
end
section
variable {D:Dic} (hF:D.First)
include hF
end
section
variable {s:SysD} {goal:List Zae}
end
set_option maxHeartbeats 8000000
section
variable {s:SysD} {goal:List Zae} {B T:Nat}
end
structure BdD where
 l:Zad
 h:Zad
 lo:Bool
 hi:Bool
structure BdOk (s:SysD) (goal:List Zae) (b:BdD):Prop where
 lo:b.lo=true→∃ q x,b.l=ofQ q∧ZaM s x=true∧dotD goal x=q∧∀ z,ZaM s z=true→q≤dotD goal z
 nl:b.lo=false→b.l=zF∧∀ q:Rat,∃ x,ZaM s x=true∧dotD goal x≤q
 hi:b.hi=true→∃ q x,b.h=ofQ q∧ZaM s x=true∧dotD goal x=q∧∀ z,ZaM s z=true→dotD goal z≤q
 nh:b.hi=false→b.h=zF∧∀ q:Rat,∃ x,ZaM s x=true∧q≤dotD goal x
section
variable {s:SysD} {goal:List Zae} (hs:Zar s=true) (hg:Zai goal s.n=true)
include hs hg
end
structure OutOk (s:SysD) (l:List (List Zae)) (out:List Bool):Prop where
 len:out.length=l.length
 ok:∀ (i:Nat)(g:List Zae),l[i]? =some g→out[i]? =some true→∃ x,ZaM s x=true∧0<atG x g
section
variable {s:SysD} {l:List (List Zae)} (hs:Zar s=true) (hl:∀ g∈l,Zai g s.n=true) (hp:∀ x,ZaM s x=true→∀ g∈l,0≤atG x g)
include hs hl hp
omit hs hl hp in
end
structure ResD where
 l:Nat
 is:List Bool
 z:List Zad
section
variable {t:TrD} (R:ZfF t)
include R
end
structure OriD where
 k:Int
 v:Int
 m:Int
 i:Int
def sgnE(e:EvD)(i j:Nat):Int:=if (mvAt e j).f=(mvAt e i).f then -1 else if (mvAt e j).t=(mvAt e i).f then 1 else 0
def stkE(e:EvD)(i m:Nat):Nat→List Zae
 | 0=>[]
 | k+1=>stkE e i m k++(if sgnE e i k=0 then []else [⟨(k:Int)*e.m+m,ofQ (sgnE e i k:Rat)⟩])
def cofE(b own more:Int)(k:Nat):Int:=if (k:Int)=own then b+more else b
def sumE(M:Int)(i:Nat)(b own more:Int):Nat→List Zae
 | 0=>[]
 | k+1=>sumE M i b own more k++(if cofE b own more k=0 then []else [⟨(i:Int)*M+k,ofQ (cofE b own more k:Rat)⟩])
abbrev RoO:Type:=RowD×OriD
def ZbD(e:EvD)(i m:Nat):RoO:=(⟨stkE e i m (i+1),if (mvAt e i).a then 2 else 0,ofQ 0⟩,⟨0,i,m,-1⟩)
def ZbS(e:EvD)(iv:IntD)(i:Nat):List RoO :=
 if iv.ok then [(⟨sumE e.m i 1 (-1) 0 e.m.toNat,0,iv.lo⟩,⟨1,i,-1,-1⟩),(⟨sumE e.m i 1 (-1) 0 e.m.toNat,1,iv.hi⟩,⟨2,i,-1,-1⟩)]else []
def Zf6(e:EvD)(i:Nat)(n:Nat)(p:PuD):List RoO :=
 if p.v=i then [(⟨sumE e.m i (-p.lo) p.m 1000 e.m.toNat,0,ofQ 0⟩,⟨3,i,-1,n⟩),(⟨sumE e.m i p.hi p.m (-1000) e.m.toNat,0,ofQ 0⟩,⟨4,i,-1,n⟩)]else []
def Zcc(e:EvD)(i:Nat):Nat→List RoO
 | 0=>[]
 | n+1=>Zcc e i n++(match e.pu[n]? with|some p=>Zf6 e i n p|none=>[])
def ivE(e:EvD)(x:MvD):IntD:=if x.s = -1 then noI else intD e.ce e.re x.s x.r x.d
def ZbW(e:EvD)(i:Nat):List RoO:=if Zcg e i then []else(List.range e.m.toNat).map (ZbD e i)
def Zer(e:EvD)(iv:Nat→IntD)(i:Nat):List RoO:=ZbW e i++(ZbS e (iv i) i++Zcc e i e.pu.length)
def Zf4(e:EvD)(iv:Nat→IntD):Nat→List RoO
 | 0=>[]
 | i+1=>Zf4 e iv i++Zer e iv i
def ivF(e:EvD)(i:Nat):IntD:=ivE e (mvAt e i)
def madeE(e:EvD):List RoO:=Zf4 e (ivF e) e.mv.length
def sysE(e:EvD):SysD:=⟨e.mv.length*e.m,(madeE e).map (·.1)⟩
structure ZaH (e u:EvD):Prop where
 m:e.m=u.m
 pl:e.pl=u.pl
 pu:e.pu=u.pu
 n:e.mv.length=u.mv.length
 f:∀ i,(mvAt e i).f=(mvAt u i).f
 t:∀ i,(mvAt e i).t=(mvAt u i).t
 a:∀ i,(mvAt e i).a=(mvAt u i).a
section
variable {e u:EvD} (h:ZaH e u)
include h
theorem ZaH.bin(i:Nat):Zcg e i=Zcg u i:=by unfold Zcg Za6;rw[h.pl,h.f]
theorem ZaH.sgn(i j:Nat):sgnE e i j=sgnE u i j:=by unfold sgnE;rw[h.f,h.f,h.t]
theorem ZaH.stk(i m:Nat):∀ k,stkE e i m k=stkE u i m k
 | 0=>rfl
 | k+1=>by simp only[stkE,ZaH.stk i m k,h.sgn,h.m]
theorem ZaH.stock(i m:Nat):ZbD e i m=ZbD u i m:=by unfold ZbD;rw[h.stk,h.a]
theorem ZaH.stocks(i:Nat):ZbW e i=ZbW u i:=by
 unfold ZbW
 rw[h.bin,h.m,show ZbD e i=ZbD u i from funext (h.stock i)]
theorem ZaH.weight(iv:IntD)(i:Nat):ZbS e iv i=ZbS u iv i:=by unfold ZbS;rw[h.m]
theorem ZaH.pures(i:Nat):∀ n,Zcc e i n=Zcc u i n
 | 0=>rfl
 | n+1=>by
   unfold Zcc
   rw[ZaH.pures i n,h.pu]
   cases u.pu[n]? with
   | none=>rfl
   | some p=>simp only[Zf6,h.m]
theorem ZaH.move{iv iw:Nat→IntD}{i:Nat}(hi:iv i=iw i):Zer e iv i=Zer u iw i:=by unfold Zer;rw[h.stocks,h.weight,h.pures,h.pu,hi]
end
set_option maxHeartbeats 16000000
abbrev cOri(o:OriD):List D:=[dI o.k,dI o.v,dI o.m,dI o.i]
abbrev mkB(e:EvD)(R vR O vO:Nat):Blk:=⟨135,0,10,[[dI e.m,dI e.h,dI e.s,Zgl e.pl,Zgm e.mv,encCs e.ce,Zgj e.re,Zgk e.pu,.ls R vR,.ls O vO]],0,false⟩
abbrev rwB(vR:Nat)(rows:List RowD):Blk:=⟨175,vR,6,rows.map cW,0,false⟩
abbrev orB(vO:Nat)(os:List OriD):Blk:=⟨52,vO,4,os.map cOri,0,false⟩
section
variable [Ifl] {P:Program} {f:FuncId} {ds:List D} {m:Mem} {nx:Nat}
end
structure Grown (e:EvD) (mk R O:Nat) (A:List RowD) (B:List OriD) (m:Mem) (nx:Nat) (l:List RoO) (m':Mem) (nx':Nat):Prop where
 n:nx≤nx'
 b:∃ VR VO,m' mk=some (mkB e R VR O VO)∧m' R=some (rwB VR (A++l.map (·.1)))∧m' O=some (orB VO (B++l.map (·.2)))
 f:∀ id,id<nx→id≠mk→id≠R→id≠O→m' id=m id
section
variable {e:EvD} {i m:Nat} (hm:(m:Int)<e.m)
include hm
end
def dropM(l:List Int)(x:MvD):MvD:=if x.s ≠ -1∧l.contains x.s=true then {x with s:= -1,r:=0} else x
def Zef(e:EvD)(l:List Int):EvD:={e with mv:=e.mv.map (dropM l)}
def stK(e:EvD)(x:Nat→Nat→Rat)(p:Int)(m:Nat):Nat→Rat
 | 0=>0
 | k+1=>stK e x p m k+(if (mvAt e k).t=p then x k m else if (mvAt e k).f=p then -(x k m)else 0)
def ZdK(x:Nat→Nat→Rat)(i:Nat):Nat→Rat
 | 0=>0
 | M+1=>ZdK x i M+x i M
structure HistOk (e:EvD) (x:Nat→Nat→Rat) (i:Nat):Prop where
 pos:∀ m,m<e.m.toNat→0≤x i m
 st:Zcg e i=false→∀ m,m<e.m.toNat→x i m≤stK e x (mvAt e i).f m i
 all:Zcg e i=false→(mvAt e i).a=true→∀ m,m<e.m.toNat→x i m=stK e x (mvAt e i).f m i
 iv:(ivE e (mvAt e i)).ok=true→qOf (ivE e (mvAt e i)).lo≤ZdK x i e.m.toNat∧ZdK x i e.m.toNat≤qOf (ivE e (mvAt e i)).hi
 pu:∀ p∈e.pu,p.v=i→(p.lo:Rat)*ZdK x i e.m.toNat≤1000*x i p.m.toNat∧1000*x i p.m.toNat≤(p.hi:Rat)*ZdK x i e.m.toNat
section
variable {e:EvD} {h:List (List Zad)} (hM:0≤e.m) (hl:∀ l∈h,l.length=e.m.toNat) (hn:h.length=e.mv.length)
include hM hl hn
end
section
variable {ns:List Nat→Bool} {m:Nat}
end
structure Basic (s:SysD) (x:List Zad):Prop where
 l:(x.length:Int)=s.n
 o:okP x=true
 n:ZdH x=true
end Go.Proofs.YtiincpioidnciaaGreat
