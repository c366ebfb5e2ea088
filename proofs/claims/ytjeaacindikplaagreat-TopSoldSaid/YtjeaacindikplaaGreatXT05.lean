/-
  Layer 11: span's functions on data: the range of a goal, its bounds.
-/
import Derived.Test.YtjeaacindikplaaGreatXLib
import Derived.Test.YtjeaacindikplaaGreatXT04
import Derived.Test.YtjeaacindikplaaGreatXT02
import Derived.Test.YtjeaacindikplaaGreatXT01
import Derived.Test.YtjeaacindikplaaGreatXT03
import Derived.Test.YtjeaacindikplaaGreatXT00
import Derived.TacticsIn
namespace Go.Proofs.YtjeaacindikplaaGreat
set_option linter.unusedVariables false
set_option linter.unusedSimpArgs false
set_option linter.unusedSectionVars false
open Go Go.RowKit
set_option maxRecDepth 100000
set_option maxHeartbeats 8000000
def oppT(goal:List Zaf):List Zaf:=Zge goal (ofQ ((-1:Int):Rat))
structure BdD where
 l:Zag
 h:Zag
 lo:Bool
 hi:Bool
theorem ZqS:szF (ofQ ((-1:Int):Rat))≤1∧okF (ofQ ((-1:Int):Rat))=true∧(sgnD (ofQ ((-1:Int):Rat)) !=0)=true∧qOf (ofQ ((-1:Int):Rat)) = -1 :=
 ⟨by decide +kernel,by decide +kernel,by decide +kernel,by rw[Zay];rfl⟩
theorem Zdd{goal:List Zaf}{n:Int}(h:Zai goal n=true):Zai (oppT goal) n=true:=Zo0 h
theorem ZqO{goal:List Zaf}{n:Int}(h:Zai goal n=true)(hn:n≤1500)(g:Int→Rat):dotS g (oppT goal) = -(dotS g goal):=by
 unfold oppT
 rw[ZtQ (Zc1 (n':=1500) hn h) ZqS.2.1,ZqS.2.2.2];grind
theorem ZEC(goal:List Zaf){B:Nat}(hz:∀ t∈goal,szF t.f≤B):(oppT goal).length≤goal.length∧∀ t∈oppT goal,szF t.f≤B:=by
 unfold oppT Zge
 split
 ·rename_i h
  simp only[Ya2]at h
  refine⟨by simp,fun t ht=>?_⟩
  obtain⟨u,hu,rfl⟩:=Yc6.1 ht
  show szF (ofQ _)≤_
  rw[ZqS.2.2.2,show qOf u.f * -1 = -(qOf u.f) by grind,Ze8,Zdt,Zcl (Za6 h.1 hu).2.2.1]
  exact hz u hu
 ·exact⟨by simp,fun t ht=>by simp at ht⟩
theorem Fit.opp{s:SysD}{goal:List Zaf}{B T:Nat}(h:Fit s goal B T):Fit s (oppT goal) B T:=by
 obtain⟨z1,z2⟩:=ZEC goal h.g.2
 exact⟨h.l,h.n,h.t,h.w,⟨by have:=h.g.1;omega,z2⟩,h.b,h.gl⟩
structure BdOk (s:SysD) (goal:List Zaf) (b:BdD):Prop where
 lo:b.lo=true→∃ q x,b.l=ofQ q∧Zap s x=true∧dotD goal x=q∧∀ z,Zap s z=true→q≤dotD goal z
 nl:b.lo=false→b.l=zF∧∀ q:Rat,∃ x,Zap s x=true∧dotD goal x≤q
 hi:b.hi=true→∃ q x,b.h=ofQ q∧Zap s x=true∧dotD goal x=q∧∀ z,Zap s z=true→dotD goal z≤q
 nh:b.hi=false→b.h=zF∧∀ q:Rat,∃ x,Zap s x=true∧q≤dotD goal x
theorem ZCn{s:SysD}{goal:List Zaf}{x d:List Zag}(hx:Zap s x=true)(hd:rayD s goal d=true)(q:Rat):∃ z,Zap s z=true∧dotD goal z≤q:=by
 have hneg:=(Zhf.1 hd).2.2.2.2.2.2
 rw[ZgA]at hneg
 by_cases hq:dotD goal x≤q
 ·exact⟨x,hx,hq⟩
 ·obtain⟨_,ln,_,_,_⟩:=Zbb.1 hx
  obtain⟨_,_,ld,_⟩:=Zhf.1 hd
  have hp:0 < -dotD goal d:=by grind
  have hk:0≤(dotD goal x-q) / (-dotD goal d):=by
   rw[Rat.div_def]
   exact Rat.mul_nonneg (by grind) (Rat.le_of_lt (Rat.inv_pos.2 hp))
  refine⟨_,ZkK hx hd hk,?_⟩
  rw[Zx2 (by omega)]
  have h2:(dotD goal x-q) / (-dotD goal d)*dotD goal d = -(dotD goal x-q):=by
   rw[Rat.div_def]
   have:(-dotD goal d)*(-dotD goal d)⁻¹=1:=Rat.mul_inv_cancel _ (by grind)
   grind
  rw[h2]
  grind
theorem ZmU{s:SysD}{goal:List Zaf}{A:OptD}(h:Zp1 s goal A=true) :
 (A.k=0∧∃ q x,A.v=ofQ q∧Zap s x=true∧dotD goal x=q∧∀ z,Zap s z=true→q≤dotD goal z)∨(A.k=1∧∀ x,Zap s x=false)∨(A.k=2∧∀ q:Rat,∃ x,Zap s x=true∧dotD goal x≤q):=by
 rcases ZeM h with⟨a0,a1,a2,a3,a4,_⟩|⟨a0,a1,_⟩|⟨a0,a1,a2,_⟩
 ·exact .inl ⟨a0,_,_,a3,a2,rfl,fun z hz=>by have:=Zp3 a1 hz;grind⟩
 ·exact .inr (.inl ⟨a0,fun x=>Zfp a1⟩)
 ·exact .inr (.inr ⟨a0,fun q=>ZCn a1 a2 q⟩)
theorem Zhi{s:SysD}{goal:List Zaf}(hs:ZaB s=true)(hg:Zai goal s.n=true)(x:List Zag):dotD (oppT goal) x = -(dotD goal x):=by
 rw[Zcu,Zcu,ZqO hg (Zb7 hs).2]
section
variable {s:SysD} {goal:List Zaf} (hs:ZaB s=true) (hg:Zai goal s.n=true)
include hs hg
end
noncomputable def solD (s:SysD):List Zag×List Zag×Bool:=if ZaB s then(if (ZaJ s []).k=1 then([],(ZaJ s []).y,false)else((ZaJ s []).x,[],true))else([],[],false)
theorem ZjA{s:SysD}(hr:ZaB s=true):Zai [] s.n=true:=by
 have:=(Zb7 hr).1
 simp only[Zai,Ya2,decide_eq_true_eq];exact⟨this,rfl⟩
theorem Zmr(s:SysD){B T:Nat}(h:Fit s [] B T):Zah Tryz.prog 41 [encS s] (.tup [Za0 (solD s).1,Za0 (solD s).2.1,dB (solD s).2.2]):=by
 have Zr:=Tryz.results41
 have kl:=ZnW s [] h
 cases hr:ZaB s
 ·rw[show ZbU s []=(⟨0,zF,[],[],[]⟩,1) by unfold ZbU;rw[hr];rfl]at kl
  have e1:solD s=([],[],false):=by unfold solD;rw[hr];rfl
  rw[e1]
  refine inC Tryz.func41 rfl Tryz.ntmps41 ?_
  have b1:((1:Int) !=0)=true:=rfl
  refine aGo (cj2 Zr b1) ?_
  repeat with_reducible intro K hK
  rfl
 rw[show ZbU s []=(ZaJ s [],0) by unfold ZbU;rw[hr,ZjA hr];rfl]at kl
 by_cases h1:(ZaJ s []).k=1
 ·have e1:solD s=([],(ZaJ s []).y,false):=by unfold solD;rw[hr,if_pos h1];rfl
  rw[e1]
  have e2:((ZaJ s []).k==1)=true:=by rw[h1];rfl
  refine inC Tryz.func41 rfl Tryz.ntmps41 ?_
  refine aGo (cj2 Zr e2) ?_
  repeat with_reducible intro K hK
  rfl
 ·have e1:solD s=((ZaJ s []).x,[],true):=by unfold solD;rw[hr,if_neg h1];rfl
  rw[e1]
  have e2:((ZaJ s []).k==1)=false:=by simp[h1]
  refine inC Tryz.func41 rfl Tryz.ntmps41 ?_
  refine aGo (cj2 Zr e2) ?_
  repeat with_reducible intro K hK
  rfl
noncomputable def maxO (s:SysD) (g:List Zaf):OptD:=(ZbU s (oppT g)).1
noncomputable def maxX (s:SysD) (g:List Zaf):List Zag:=if (maxO s g).k=2 then onD 1 (maxO s g).x (maxO s g).d else(maxO s g).x
noncomputable def maxY (s:SysD) (g:List Zaf):List Zag:=if (maxO s g).k=2 then []else(maxO s g).y
theorem Zee{s:SysD}{g:List Zaf}(hs:ZaB s=true)(hg:Zai g s.n=true):maxO s g=ZaJ s (oppT g):=by
 unfold maxO ZbU
 rw[hs,Zdd hg];rfl
theorem ZnQ{s:SysD}{g:List Zaf}(hs:ZaB s=true)(hg:Zai g s.n=true)(hp0:∀ x,Zap s x=true→0≤atG x g) :
 ((∀ x,Zap s x=false)∧maxX s g=[])∨(Zap s (maxX s g)=true∧∀ x,Zap s x=true→0<atG x g→0<atG (maxX s g) g):=by
 have hc:=Zdy hs (Zdd hg)
 unfold maxX
 rw[Zee hs hg]
 rcases ZeM hc with⟨a0,a1,a2,a3,a4,_⟩|⟨a0,a1,a2,_⟩|⟨a0,a1,a2,_⟩
 ·right
  rw[if_neg (by omega)]
  refine⟨a2,fun x hx hp=>?_⟩
  have:=Zp3 a1 hx
  rw[← a4,Zhi hs hg,Zhi hs hg]at this
  unfold atG at hp ⊢
  grind
 ·left
  rw[if_neg (by omega)]
  exact⟨fun x=>Zfp a1,a2⟩
 ·right
  rw[if_pos a0]
  have hx:=ZkK a1 a2 (show(0:Rat)≤1 by decide)
  refine⟨hx,fun _ _ _=>?_⟩
  obtain⟨_,l1,_⟩:=Zbb.1 a1
  have hd:=Zhf.1 a2
  have hneg:=hd.2.2.2.2.2.2
  rw[ZgA,Zhi hs hg]at hneg
  have h0:=hp0 _ a1
  unfold atG at h0 ⊢
  rw[Zx2 (by omega)]
  grind
theorem ZCX{s:SysD}{g:List Zaf}(hs:ZaB s=true)(hg:Zai g s.n=true)(hx:∃ x,Zap s x=true):((maxX s g).length:Int)=s.n∧okP (maxX s g)=true:=by
 have hc:=Zdy hs (Zdd hg)
 have:Zap s (maxX s g)=true:=by
  unfold maxX
  rw[Zee hs hg]
  rcases ZeM hc with⟨a0,a1,a2,a3,a4,_⟩|⟨a0,a1,a2,_⟩|⟨a0,a1,a2,_⟩
  ·rw[if_neg (by omega)];exact a2
  ·obtain⟨x,hx⟩:=hx
   rw[Zfp a1]at hx;cases hx
  ·rw[if_pos a0];exact ZkK a1 a2 (show(0:Rat)≤1 by decide)
 obtain⟨_,a,b,_⟩:=Zbb.1 this
 exact⟨a,b⟩
def posD(g:List Zaf)(x:List Zag):Bool:=decide (0<sgnD (ZbW g x).1)
theorem ZkC{g:List Zaf}{x:List Zag}{n:Int}(hg:Zai g n=true)(hl:(x.length:Int)=n)(ho:okP x=true):posD g x=true↔0<atG x g:=by
 unfold posD
 rw[Zjp (by rw[hl,hg,ho];rfl),decide_eq_true_eq,ZbN,Zdp];rfl
theorem Zwr{g:List Zaf}:posD g []=false:=by
 unfold posD ZbW
 cases h:Zai g (([]:List Zag).length:Nat)&&okP []
 ·rw[if_neg Yc5];decide
 ·rw[if_pos rfl]
  have hg:g=[]:=by
   cases g with
   | nil=>rfl
   | cons t l =>
     exfalso
     simp only[Zai,goR,Ya2,decide_eq_true_eq,List.length_nil]at h
     omega
  subst hg
  simp only[dotD,List.foldl_nil,ZbN]
  decide
def sumG:List (List Zaf)→List Bool→List Zaf→List Zaf
 | g ::l,o ::out,a=>sumG l out (if o then a else ZhI a g)
 | _,_,a=>a
def ZeS(x:List Zag):List (List Zaf)→List Bool→Rat
 | g ::l,o ::out=>(if o then 0 else atG x g)+ZeS x l out
 | _,_=>0
theorem Zjt{n:Int}(hn:n≤1500):∀ (l:List (List Zaf)) (out:List Bool) (a:List Zaf),Zai a n=true→(∀ g∈l,Zai g n=true)→Zai (sumG l out a) n=true
 | [],_,a,ha,_=>ha
 | g ::l,[],a,ha,_=>ha
 | g ::l,o ::out,a,ha,hl=>by
   refine Zjt hn l out _ ?_ fun g hg=>hl g (Yb6 _ hg)
   split
   ·exact ha
   ·exact Zh4 hn ha (hl g Yb7)
theorem Zqo{n:Int}(hn:n≤1500)(x:List Zag):∀ (l:List (List Zaf)) (out:List Bool) (a:List Zaf),Zai a n=true→(∀ g∈l,Zai g n=true)→atG x (sumG l out a)=atG x a+ZeS x l out
 | [],_,a,ha,_=>by simp only[sumG,ZeS];grind
 | g ::l,[],a,ha,_=>by simp only[sumG,ZeS];grind
 | g ::l,o ::out,a,ha,hl=>by
   have hg:=hl g Yb7
   have hl':∀ g∈l,Zai g n=true:=fun g hg=>hl g (Yb6 _ hg)
   cases o
   ·have hd:atG x (ZhI a g)=atG x a+atG x g:=by
     unfold atG
     rw[Zcu,Zcu,Zcu,Zpg (Zc1 hn ha) (Zc1 hn hg)]
    show atG x (sumG l out (ZhI a g))=_
    rw[Zqo hn x l out _ (Zh4 hn ha hg) hl',hd]
    simp only[ZeS,Bool.false_eq_true,if_false]
    grind
   ·show atG x (sumG l out a)=_
    rw[Zqo hn x l out a ha hl']
    simp only[ZeS,if_true]
    grind
theorem Zh5{x:List Zag}:∀ (l:List (List Zaf)) (out:List Bool),(∀ g∈l,0≤atG x g)→0≤ZeS x l out
 | [],_,_=>by simp[ZeS]
 | g ::l,[],_=>by simp[ZeS]
 | g ::l,o ::out,h=>by
   have ih:=Zh5 (x:=x) l out fun g hg=>h g (Yb6 _ hg)
   have:=h g Yb7
   cases o<;>simp only[ZeS,Bool.false_eq_true,if_false,if_true]<;>grind
theorem Zwa{x:List Zag}:∀ (l:List (List Zaf)) (out:List Bool),(∀ g∈l,0≤atG x g)→∀ (i:Nat)(g:List Zaf),l[i]? =some g→out[i]? =some false→atG x g≤ZeS x l out
 | [],_,_,i,g,hg,_=>by simp at hg
 | u ::l,[],_,i,g,_,ho=>by simp at ho
 | u ::l,o ::out,h,i,g,hg,ho=>by
   have hl:∀ g∈l,0≤atG x g:=fun g hg=>h g (Yb6 _ hg)
   have ih:=Zh5 (x:=x) l out hl
   have hu:=h u Yb7
   cases i with
   | zero =>
     simp only[List.getElem?_cons_zero,Ya1]at hg ho
     subst hg ho
     simp only[ZeS,Bool.false_eq_true,if_false]
     grind
   | succ i =>
     simp only[List.getElem?_cons_succ]at hg ho
     have:=Zwa (x:=x) l out hl i g hg ho
     cases o<;>simp only[ZeS,Bool.false_eq_true,if_false,if_true]<;>grind
theorem Zo1{x:List Zag}:∀ (l:List (List Zaf)) (out:List Bool),(∀ (i:Nat)(g:List Zaf),l[i]? =some g→out[i]? =some false→atG x g≤0)→ZeS x l out≤0
 | [],_,_=>by simp[ZeS]
 | g ::l,[],_=>by simp[ZeS]
 | g ::l,o ::out,h=>by
   have ih:=Zo1 (x:=x) l out fun i g hg ho=>h (i+1) g (by simpa using hg) (by simpa using ho)
   cases o
   ·have:=h 0 g rfl rfl
    simp only[ZeS,Bool.false_eq_true,if_false];grind
   ·simp only[ZeS,if_true];grind
def Ze9(x:List Zag)(l:List (List Zaf))(out:List Bool):List Bool:=List.zipWith (fun g o=>o||posD g x) l out
def Zkn(x:List Zag)(l:List (List Zaf))(out:List Bool):Bool:=(l.zip out).any fun p=> !p.2&&posD p.1 x
def addO(sum:Option (List Zag))(x:List Zag):List Zag:=match sum with
 | none=>x
 | some z=>onD 1 z x
def Zr7(n:Nat)(z:List Zag):List Zag:=z.map fun f=>ofQ (qOf f*(1 / ((n:Rat)+1)))
noncomputable def Zlm (s:SysD) (l:List (List Zaf)):Nat→Nat→List Bool→Option (List Zag)→List Bool×List Zag
 | 0,_,out,_=>(out,[])
 | k+1,n,out,sum =>
   if Zkn (maxX s (sumG l out [])) l out then Zlm s l k (n+1) (Ze9 (maxX s (sumG l out [])) l out) (some (addO sum (maxX s (sumG l out []))))
   else(out,Zr7 n (addO sum (maxX s (sumG l out []))))
noncomputable def Ze2 (s:SysD) (l:List (List Zaf)):List Bool×List Zag:=Zlm s l (l.length+1) 0 (List.replicate l.length false) none
def Zkp(out:List Bool):Nat:=out.countP (! ·)
structure ZAZ (s:SysD) (l:List (List Zaf)) (out:List Bool):Prop where
 len:out.length=l.length
 ok:∀ (i:Nat)(g:List Zaf),l[i]? =some g→out[i]? =some true→∃ x,Zap s x=true∧0<atG x g
section
variable {s:SysD} {l:List (List Zaf)} (hs:ZaB s=true) (hl:∀ g∈l,Zai g s.n=true) (hp:∀ x,Zap s x=true→∀ g∈l,0≤atG x g)
include hs hl hp
theorem ZrW(out:List Bool):((∀ x,Zap s x=false)∧maxX s (sumG l out [])=[])∨(Zap s (maxX s (sumG l out []))=true∧∀ x,Zap s x=true→0<ZeS x l out→0<ZeS (maxX s (sumG l out [])) l out):=by
 have hn:=(Zb7 hs).2
 have h0:Zai [] s.n=true:=ZjA hs
 have e:∀ x,atG x (sumG l out [])=ZeS x l out:=fun x=>by
  rw[Zqo hn x l out [] h0 hl]
  show 0+ZeS x l out=_
  grind
 have:=ZnQ hs (Zjt hn l out [] h0 hl) fun x hx=>by rw[e];exact Zh5 l out (hp x hx)
 simp only[e]at this
 exact this
theorem ZBZ{out:List Bool}(h:ZAZ s l out):ZAZ s l (Ze9 (maxX s (sumG l out [])) l out):=by
 refine⟨by unfold Ze9;rw[List.length_zipWith,h.len,Nat.min_self],fun i g hg ho=>?_⟩
 unfold Ze9 at ho
 rw[List.getElem?_zipWith,hg]at ho
 cases hi:out[i]? with
 | none=>rw[hi]at ho;cases ho
 | some o =>
   rw[hi]at ho
   simp only[Ya1,Bool.or_eq_true]at ho
   rcases ho with rfl|ho
   ·exact h.ok i g hg hi
   ·rcases ZrW hs hl hp out with⟨_,e⟩|⟨e,_⟩
    ·rw[e,Zwr]at ho;cases ho
    ·obtain⟨_,a,b,_⟩:=Zbb.1 e
     exact⟨_,e,(ZkC (hl g (Ya7 hg)) a b).1 ho⟩
theorem ZC4{out:List Bool}(h:ZAZ s l out)(hm:Zkn (maxX s (sumG l out [])) l out=false)(i:Nat)(g:List Zaf)(hg:l[i]? =some g):∃ o,out[i]? =some o∧(o=true↔∃ x,Zap s x=true∧0<atG x g):=by
 have hi:i<out.length:=by rw[h.len];exact(Ya3.1 hg).1
 obtain⟨o,ho⟩:∃ o,out[i]? =some o:=⟨_,Ya0 hi⟩
 refine⟨o,ho,?_⟩
 cases o
 ·refine⟨fun e=>(by cases e),?_⟩
  rintro⟨y,hy,hpos⟩
  exfalso
  have hne:∀ (i:Nat)(g:List Zaf),l[i]? =some g→out[i]? =some false→posD g (maxX s (sumG l out []))=false:=fun i g hg ho=>by
   have hz:(l.zip out)[i]? =some (g,false):=by rw[List.getElem?_zip_eq_some];exact⟨hg,ho⟩
   have:=(List.any_eq_false.1 hm) _ (Ya7 hz)
   simpa using this
  rcases ZrW hs hl hp out with⟨e,_⟩|⟨e,e2⟩
  ·rw[e y]at hy;cases hy
  ·obtain⟨_,a,b,_⟩:=Zbb.1 e
   have h1:=Zwa l out (hp y hy) i g hg ho
   have h2:=e2 y hy (by grind)
   have h3:=Zo1 (x:=maxX s (sumG l out [])) l out fun i g hg ho=>by
    have:=mt (ZkC (hl g (Ya7 hg)) a b).2 (by rw[hne i g hg ho];decide)
    grind
   grind
 ·exact⟨fun _=>h.ok i g hg ho,fun _=>rfl⟩
omit hs hl hp in
theorem ZjL{x:List Zag}:∀ (l:List (List Zaf)) (out:List Bool),out.length=l.length→Zkp (Ze9 x l out)≤Zkp out∧(Zkn x l out=true→Zkp (Ze9 x l out)<Zkp out)
 | [],[],_=>⟨Ya4 _,fun h=>by cases h⟩
 | [],o ::out,h=>by cases h
 | g ::l,[],h=>by cases h
 | g ::l,o ::out,h=>by
   obtain⟨a,b⟩:=ZjL (x:=x) l out (by simpa using h)
   have e1:Ze9 x (g ::l) (o ::out)=(o||posD g x) ::Ze9 x l out:=rfl
   have e2:Zkn x (g ::l) (o ::out)=(!o&&posD g x||Zkn x l out):=rfl
   rw[e1,e2]
   unfold Zkp at a b ⊢
   cases o<;>cases hp:posD g x<;>simp only[List.countP_cons,Bool.or_true,Bool.or_false,Bool.not_true,Bool.not_false,Bool.false_eq_true,if_false,if_true,Bool.and_self,Bool.and_false,Bool.false_and,Bool.true_and,Bool.false_or,Bool.true_or,Bool.and_true]<;>refine⟨by omega,fun h=>?_⟩<;>first|omega|(have:=b h;omega)
theorem Zll:∀ (k n:Nat)(out:List Bool) (sum:Option (List Zag)),ZAZ s l out→Zkp out<k→(Zlm s l k n out sum).1.length=l.length∧∀ (i:Nat)(g:List Zaf),l[i]? =some g→∃ o,(Zlm s l k n out sum).1[i]? =some o∧(o=true↔∃ x,Zap s x=true∧0<atG x g)
 | 0,_,_,_,_,h=>by omega
 | k+1,n,out,sum,hO,h=>by
   unfold Zlm
   split
   ·rename_i hm
    have:=(ZjL l out hO.len).2 hm
    exact Zll k (n+1) _ _ (ZBZ hs hl hp hO) (by omega)
   ·rename_i hm
    exact⟨hO.len,fun i g hg=>ZC4 hs hl hp hO (by simpa using hm) i g hg⟩
theorem Zo8:(Ze2 s l).1.length=l.length∧∀ (i:Nat)(g:List Zaf),l[i]? =some g→∃ o,(Ze2 s l).1[i]? =some o∧(o=true↔∃ x,Zap s x=true∧0<atG x g):=by
 refine Zll hs hl hp _ _ _ _ ⟨by simp,fun i g _ ho=>?_⟩ ?_
 ·rw[List.getElem?_replicate]at ho
  split at ho<;>cases ho
 ·unfold Zkp
  have:=List.countP_le_length (p:=(! ·)) (l:=List.replicate l.length false)
  simp only[List.length_replicate]at this
  omega
end
def ZcE:Nat→(Nat→Nat)→Nat
 | 0,_=>0
 | n+1,f=>ZcE n f+f n
theorem Zjs(f g:Nat→Nat):∀ n,ZcE n (fun i=>f i+g i)=ZcE n f+ZcE n g
 | 0=>rfl
 | n+1=>by simp only[ZcE,Zjs f g n];omega
theorem Zk1{f g:Nat→Nat}:∀ n,(∀ i,i<n→f i≤g i)→ZcE n f≤ZcE n g
 | 0,_=>Ya4 _
 | n+1,h=>by
   have:=Zk1 n fun i hi=>h i (by omega)
   have:=h n (by omega)
   simp only[ZcE];omega
theorem Zk0:∀ n,ZcE n (fun _=>0)=0
 | 0=>rfl
 | n+1=>by simp only[ZcE,Zk0 n]
theorem Zmn(v:Int):∀ n:Nat,ZcE n (fun i=>if v==(i:Int)then 1 else 0)≤1∧((n:Int)≤v→ZcE n (fun i=>if v==(i:Int)then 1 else 0)=0)
 | 0=>⟨Yb0 _,fun _=>rfl⟩
 | n+1=>by
   obtain⟨a,b⟩:=Zmn v n
   simp only[ZcE]
   by_cases h:v==(n:Int)
   ·have hv:v=n:=by simpa using h
    rw[if_pos h,b (by omega)]
    exact⟨by omega,fun h=>by omega⟩
   ·rw[if_neg h]
    exact⟨by omega,fun h=>by rw[b (by omega)]⟩
theorem ZkL{α:Type}(p:α→Bool)(key:α→Int)(n:Nat):∀ l:List α,ZcE n (fun i=>(l.filter fun x=>p x&&key x==(i:Int)).length)≤l.length
 | []=>by simp only[List.filter_nil,List.length_nil,Zk0];omega
 | x ::l=>by
   have ih:=ZkL p key n l
   have h1:=(Zmn (key x) n).1
   have h2:ZcE n (fun i=>((x ::l).filter fun x=>p x&&key x==(i:Int)).length)≤ZcE n (fun i=>(l.filter fun x=>p x&&key x==(i:Int)).length+if key x==(i:Int)then 1 else 0):=Zk1 n fun i _=>by
    rw[List.filter_cons]
    cases p x<;>cases key x==(i:Int)<;>simp
   rw[Zjs]at h2
   simp only[List.length_cons]
   omega
def ZcS(t:TrD):TrD:={t with fi:=[]}
def Zaw(e:EvD):List Nat:=(List.range e.mv.length).filter (ZcD e)
def Zgg(e:EvD)(lift:Nat):List RowD:=((Zaw e).filter fun i=>i !=lift).map fun i=>oneR i 2 (ofQ 0)
def ZaG(t:TrD)(kind:Int)(lift:Nat):SysD:=⟨t.e.mv.length,ZbS (ZcS t) kind t.e.mv.length++Zgg t.e lift⟩
theorem ZgL{e:EvD}{i:Nat}:i∈Zaw e↔i<e.mv.length∧ZcD e i=true:=by simp[Zaw]
theorem ZoX(t:TrD)(kind:Int):∀ n,(ZbS t kind n).length≤2*n+ZcE n (fun i=>(finK t kind i).length+cleK t kind i)
 | 0=>by simp[ZbS]
 | n+1=>by
   have ih:=ZoX t kind n
   have h1:(if ZcD t.e n=true then []else [ZcN t.e n]).length≤1:=by split<;>simp
   have h2:(if (hiI t.e (mvAt t.e n)).2=true then [oneR n 1 (hiI t.e (mvAt t.e n)).1]else []).length≤1:=by split<;>simp
   simp only[ZbS,ZhG,Yb9,Yc0,List.length_replicate,ZcE]
   omega
theorem Zld{t:TrD}{kind:Int}{n:Int}{i:Nat}(hi:(i:Int)<n){w:RowD}(hw:w∈ZhG t kind i):Zdq n w=true:=by
 rcases ZdP.1 hw with⟨_,rfl⟩|⟨hc,rfl⟩|⟨g,_,rfl⟩|⟨_,rfl⟩
 ·exact Zqq hi
 ·exact ZgI hi (by decide) (by decide) (ZEV _ _ hc)
 ·exact ZgI hi (by decide) (by decide) (Zby _)
 ·exact ZgI hi (by decide) (by decide) (Zby _)
theorem Zhc(t:TrD)(kind:Int):(ZbS t kind t.e.mv.length).length≤2*t.e.mv.length+t.fi.length+t.cl.length:=by
 have h:=ZoX t kind t.e.mv.length
 rw[Zjs]at h
 have h1:ZcE t.e.mv.length (fun i=>(finK t kind i).length)≤t.fi.length:=by
  have:=ZkL (fun f:FiD=>f.k==kind) FiD.v t.e.mv.length t.fi
  simpa only[finK,Yc0]using this
 have h2:ZcE t.e.mv.length (cleK t kind)≤t.cl.length:=ZkL (fun f:ClD=>f.k==kind) ClD.v t.e.mv.length t.cl
 omega
theorem Zft(e:EvD):(Zaw e).length≤e.mv.length:=by
 have:=Yb1 (ZcD e) (List.range e.mv.length)
 simpa[Zaw]using this
theorem Zph(e:EvD)(lift:Nat):(Zgg e lift).length≤e.mv.length:=by
 have:=Yb1 (fun i=>i !=lift) (Zaw e)
 have:=Zft e
 simp only[Zgg,Yc0]
 omega
theorem Zlg{n:Nat}{r:List RowD}(h1:n≤1500)(h2:r.length≤6000)(h3:∀ w∈r,Zdq n w=true):ZaB ⟨n,r⟩=true:=by
 have a1:decide (0≤(n:Int))=true:=decide_eq_true (by omega)
 have a2:decide ((n:Int)≤1500)=true:=decide_eq_true (by omega)
 have a3:decide ((r.length:Int)≤6000)=true:=decide_eq_true (by omega)
 unfold ZaB
 simp only[a1,a2,a3,Bool.and_self,Bool.true_and]
 exact Ya6.2 h3
theorem Zbv{t:TrD}(R:Zbd t)(kind:Int):ZaB (sysT t kind)=true:=by
 have h1:=R.e.lm
 have h2:=R.lf
 have h3:=R.lc
 have h4:=Zhc t kind
 refine Zlg (by omega) (by omega) fun w hw=>?_
 obtain⟨i,hi,hw⟩:=(Zex _).1 hw
 exact Zld (by omega) hw
theorem Zb2{t:TrD}(R:Zbd t):Zbd (ZcS t):=⟨R.e,by simp[ZcS],R.lc,fun x hx=>(by cases hx),R.cl⟩
theorem Zc8{t:TrD}(R:Zbd t)(kind:Int)(lift:Nat):ZaB (ZaG t kind lift)=true:=by
 have h1:=R.e.lm
 have h3:=R.lc
 have h4:=Zhc (ZcS t) kind
 have h5:=Zph t.e lift
 have h6:(ZcS t).fi.length=0:=rfl
 have h7:(ZcS t).cl=t.cl:=rfl
 have h8:(ZcS t).e=t.e:=rfl
 rw[h6,h7,h8]at h4
 refine Zlg (by omega) (by rw[Yb9];omega) fun w hw=>?_
 rcases Yd5.1 hw with hw|hw
 ·obtain⟨i,hi,hw⟩:=(Zex _).1 hw
  exact Zld (by omega) hw
 ·simp only[Zgg,Yc6,List.mem_filter]at hw
  obtain⟨i,⟨hi,_⟩,rfl⟩:=hw
  have:=(ZgL.1 hi).1
  exact ZgI (by omega) (by decide) (by decide) (Zby _)
theorem ZeA{t:TrD}(R:Zbd t){kind:Int}{lift:Nat}{x:List Zag}:Zap (ZaG t kind lift) x=true↔Zap (sysT (ZcS t) kind) x=true∧∀ i,i<t.e.mv.length→ZcD t.e i=true→i≠lift→atP x (i:Nat)=0:=by
 have hr:=Zc8 R kind lift
 have hr2:=Zbv (Zb2 R) kind
 rw[Zbb,Zbb,hr,hr2]
 show(_∧(x.length:Int)=(t.e.mv.length:Int)∧_∧_∧(ZbS (ZcS t) kind t.e.mv.length++Zgg t.e lift).all _=true)↔((_∧(x.length:Int)=(t.e.mv.length:Int)∧_∧_∧(ZbS (ZcS t) kind t.e.mv.length).all _=true)∧_)
 rw[List.all_append,Ya2]
 have h:(Zgg t.e lift).all (fun w=>ZeC w x)=true↔∀ i,i<t.e.mv.length→ZcD t.e i=true→i≠lift→atP x (i:Nat)=0:=by
  rw[Ya6]
  constructor
  ·intro h i h1 h2 h3
   have:=h (oneR i 2 (ofQ 0)) (Yc6.2 ⟨i,List.mem_filter.2 ⟨ZgL.2 ⟨h1,h2⟩,by simpa using h3⟩,rfl⟩)
   have:=((ZcQ (by decide) (by decide)).1 this).2.2 rfl
   rwa [Zay]at this
  ·intro h w hw
   simp only[Zgg,Yc6,List.mem_filter]at hw
   obtain⟨i,⟨hi,h3⟩,rfl⟩:=hw
   obtain⟨h1,h2⟩:=ZgL.1 hi
   refine(ZcQ (by decide) (by decide)).2 ⟨fun e=>by omega,fun e=>by omega,fun _=>?_⟩
   rw[Zay]
   exact h i h1 h2 (by simpa using h3)
 rw[h]
 constructor
 ·rintro⟨a,b,c,d,e,f⟩;exact⟨⟨a,b,c,d,e⟩,f⟩
 ·rintro⟨⟨a,b,c,d,e⟩,f⟩;exact⟨a,b,c,d,e,f⟩
structure ResD where
 l:Nat
 is:List Bool
 z:List Zag
noncomputable def Zc2 (t:TrD) (kind:Int) (lift:Nat):ResD:=⟨lift,(Ze2 (ZaG t kind lift) (Zct t.e)).1,(Ze2 (ZaG t kind lift) (Zct t.e)).2⟩
noncomputable def ZaN (t:TrD) (f:FiD):List ResD:=((Zaw t.e).map (Zc2 t f.k)).filter fun r=>(r.is[f.v.toNat]?).getD false
theorem Ze1{t:TrD}(R:Zbd t)(kind:Int)(lift:Nat):(Zc2 t kind lift).is.length=t.e.mv.length+t.e.pl.length∧∀ (i:Nat)(g:List Zaf),(Zct t.e)[i]? =some g→(((Zc2 t kind lift).is[i]?).getD false=true↔∃ x,Zap (ZaG t kind lift) x=true∧0<atG x g):=by
 have hs:=Zc8 R kind lift
 obtain⟨a,b⟩:=Zo8 (s:=ZaG t kind lift) (l:=Zct t.e) hs (fun g hg=>ZlM hg) fun x hx g hg=>by
  have h1:=(ZeA R).1 hx
  have h2:=((ZeB (Zbv (Zb2 R) kind)).1 h1.1).2.2
  exact ZpH (t:=ZcS t) R.e h2 hg
 refine⟨a.trans (ZpI _),fun i g hg=>?_⟩
 obtain⟨o,h1,h2⟩:=b i g hg
 unfold Zc2
 simp only[h1,Option.getD_some]
 exact h2
theorem ZiD{t:TrD}(R:Zbd t){kind:Int}{lift i:Nat}(hi:i<t.e.mv.length):((Zc2 t kind lift).is[i]?).getD false=true↔∃ x,Zap (ZaG t kind lift) x=true∧0<atP x (i:Nat):=by
 rw[(Ze1 R kind lift).2 i _ (ZuO hi)]
 simp only[Zec]
 constructor<;>rintro⟨x,a,b⟩<;>exact⟨x,a,by grind⟩
def hasR(l:List ResD)(i:Nat):Bool:=l.any fun r=>(r.is[i]?).getD false
section
variable {t:TrD} (R:Zbd t)
include R
theorem Zc5{f:FiD}{r:ResD}(h:r∈ZaN t f):∃ l,l<t.e.mv.length∧ZcD t.e l=true∧r=Zc2 t f.k l:=by
 simp only[ZaN,List.mem_filter,Yc6]at h
 obtain⟨⟨l,hl,rfl⟩,_⟩:=h
 obtain⟨a,b⟩:=ZgL.1 hl
 exact⟨l,a,b,rfl⟩
theorem Zyn{f:FiD}{p:Nat}{pl:PlD}(hp:t.e.pl[p]? =some pl)(hk:pl.k=5):hasR (ZaN t f) (t.e.mv.length+p)=true↔∃ i,i<t.e.mv.length∧(mvAt t.e i).t=p∧hasR (ZaN t f) i=true:=by
 have hka:=Zf2 hp
 have gp:=Zig hp
 have st:∀ x:List Zag,atG x (ZjQ t.e p pl)=stN t.e (fun i=>atP x (i:Nat)) p t.e.mv.length:=fun x=>Zl1 (by omega)
 have no:∀ i,i<t.e.mv.length→(mvAt t.e i).f≠p:=fun i hi e=>(R.e.mvOk hi).k5 (by rw[e,hka,hk])
 have key:∀ (f:Nat→Rat),(∀ i,i<t.e.mv.length→0≤f i)→∀ m,m≤t.e.mv.length→(0≤stN t.e f p m∧(0<stN t.e f p m↔∃ i,i<m∧(mvAt t.e i).t=p∧0<f i)):=fun f h0 m=>by
  induction m with
  | zero=>exact fun _=>⟨by unfold stN sumN;decide,fun h=>absurd h (by unfold stN sumN;decide),fun⟨i,h,_⟩=>by omega⟩
  | succ m ih =>
    intro hm
    obtain⟨a,b⟩:=ih (by omega)
    have hs:stN t.e f p (m+1)=stN t.e f p m+(if (mvAt t.e m).t=p then f m else if (mvAt t.e m).f=p then -(f m)else 0):=rfl
    rw[if_neg (c:=(mvAt t.e m).f=p) (no m (by omega))]at hs
    have hf:=h0 m (by omega)
    by_cases ht:(mvAt t.e m).t=p
    ·rw[if_pos ht]at hs
     refine⟨by grind,fun h=>?_,?_⟩
     ·by_cases h2:0<f m
      ·exact⟨m,by omega,ht,h2⟩
      ·obtain⟨i,c,d⟩:=b.1 (by grind)
       exact⟨i,by omega,d⟩
     ·rintro⟨i,c,d,e⟩
      by_cases h2:i=m
      ·subst h2;grind
      ·have:=b.2 ⟨i,by omega,d,e⟩
       grind
    ·rw[if_neg ht]at hs
     refine⟨by grind,fun h=>?_,?_⟩
     ·obtain⟨i,c,d⟩:=b.1 (by grind)
      exact⟨i,by omega,d⟩
     ·rintro⟨i,c,d,e⟩
      have h2:i≠m:=fun h=>ht (h▸d)
      have:=b.2 ⟨i,by omega,d,e⟩
      grind
 have sol:∀ {l:Nat} {x:List Zag},Zap (ZaG t f.k l) x=true→∀ i,i<t.e.mv.length→0≤atP x (i:Nat):=fun h=>(((ZeB (Zbv (Zb2 R) f.k)).1 ((ZeA R).1 h).1).2.2).pos
 unfold hasR
 simp only[List.any_eq_true]
 constructor
 ·rintro⟨r,hr,h⟩
  obtain⟨l,l1,l2,rfl⟩:=Zc5 R hr
  obtain⟨x,hx,hpos⟩:=((Ze1 R f.k l).2 _ _ gp).1 h
  rw[st]at hpos
  obtain⟨i,hi,hi2,hi3⟩:=((key _ (sol hx) _ (Ya4 _)).2).1 hpos
  exact⟨i,hi,hi2,_,hr,(ZiD R hi).2 ⟨x,hx,hi3⟩⟩
 ·rintro⟨i,hi,hi2,r,hr,h⟩
  obtain⟨l,l1,l2,rfl⟩:=Zc5 R hr
  obtain⟨x,hx,hpos⟩:=(ZiD R hi).1 h
  refine⟨_,hr,((Ze1 R f.k l).2 _ _ gp).2 ⟨x,hx,?_⟩⟩
  rw[st]
  exact((key _ (sol hx) _ (Ya4 _)).2).2 ⟨i,hi,hi2,hpos⟩
theorem ZCt{f:FiD}{blk:Nat→Bool}(hb:∀ x,Zap (sysT (ZcS t) f.k) x=true→∀ i,i<t.e.mv.length→blk i=true→atP x (i:Nat)=0){i:Nat}(hi:i<t.e.mv.length)(h:hasR (ZaN t f) i=true):∃ r∈ZaN t f,r.l<t.e.mv.length∧blk r.l=false∧Reach t.e blk r.l i:=by
 unfold hasR at h
 rw[List.any_eq_true]at h
 obtain⟨r,hr,h⟩:=h
 obtain⟨l,l1,l2,rfl⟩:=Zc5 R hr
 obtain⟨x,hx,hpos⟩:=(ZiD R hi).1 h
 obtain⟨h1,h2⟩:=(ZeA R).1 hx
 have S:=((ZeB (Zbv (Zb2 R) f.k)).1 h1).2.2
 obtain⟨l',a,b,c,d,e⟩:=SolT.from (t:=ZcS t) R.e S (hb x h1) i hi hpos
 have:l'=l:=by
  by_cases hll:l'=l
  ·exact hll
  ·have:=h2 l' a b hll
   have c':(0:Rat)<atP x (l':Nat):=c
   rw[this]at c'
   exact absurd c' (by decide)
 subst this
 exact⟨_,hr,l1,d,e⟩
end
structure VerD where
 h:Int
 s:Int
 w:List Zag
 o:List Zag
 p:List Zag
abbrev cV(v:VerD):List D:=[dI v.h,dI v.s,Za0 v.w,Za0 v.o,Za0 v.p]
abbrev ZFm(l:List VerD):D:=.sl (l.map cV)
def Zko(e:EvD)(h m lo hi:Int)(x:MvD):Bool :=
 Zch e x.f==0&&((((e.pl[x.f.toNat]?).map PlD.h).getD (-1))==h&&((m == -1||(((e.pl[x.f.toNat]?).map PlD.m).getD (-1))==m)&&(decide (lo≤x.d)&&decide (x.d≤hi))))
def Zew(e:EvD)(n:Int)(p:MvD→Bool):List Nat:=(List.range e.mv.length).filter fun(i:Nat)=>decide ((i:Int)<n)&&p (mvAt e i)
def ownL(e:EvD)(h:Int):List Nat:=Zew e e.mv.length (Zko e h (-1) 0 100000)
def ownH(e:EvD)(h:Int)(i:Nat):Rat:=if Zko e h (-1) 0 100000 (mvAt e i)=true then 1 else 0
def Zd7(e:EvD)(h:Int):List Zaf:=ZaS e.mv.length (ownH e h)
theorem Zq5{e:EvD}{h:Int}{i:Nat}:i∈ownL e h↔i<e.mv.length∧Zko e h (-1) 0 100000 (mvAt e i)=true:=by
 simp only[ownL,Zew,List.mem_filter,Yd2,Ya2,decide_eq_true_eq]
 exact⟨fun⟨a,_,b⟩=>⟨a,b⟩,fun⟨a,b⟩=>⟨a,by omega,b⟩⟩
theorem Zih(e:EvD)(h:Int):Zai (Zd7 e h) e.mv.length=true:=Zcy (Int.le_refl _)
theorem ZAd(e:EvD)(h:Int)(x:List Zag):atG x (Zd7 e h)=sumN e.mv.length fun i=>ownH e h i*atP x (i:Nat):=by
 unfold atG Zd7
 rw[Zcu,ZcY]
theorem Zh1{f:Nat→Rat}:∀ n,(∀ i,i<n→0≤f i)→0≤sumN n f
 | 0,_=>Rat.le_refl
 | n+1,h=>by
   have:=Zh1 n fun i hi=>h i (by omega)
   have:=h n (by omega)
   rw[Zk3];grind
theorem ZrX{f:Nat→Rat}:∀ n,(∀ i,i<n→0≤f i)→(0<sumN n f↔∃ i,i<n∧0<f i)
 | 0,_=>⟨fun h=>absurd (show(0:Rat)<0 from h) (by decide),fun⟨i,h,_⟩=>by omega⟩
 | n+1,h=>by
   have h0:=Zh1 n fun i hi=>h i (by omega)
   have h1:=h n (by omega)
   have ih:=ZrX n fun i hi=>h i (by omega)
   rw[Zk3]
   constructor
   ·intro hp
    by_cases hn:0<f n
    ·exact⟨n,by omega,hn⟩
    ·obtain⟨i,a,b⟩:=ih.1 (by grind)
     exact⟨i,by omega,b⟩
   ·rintro⟨i,a,b⟩
    by_cases hi:i=n
    ·subst hi;grind
    ·have:=ih.2 ⟨i,by omega,b⟩
     grind
theorem Zxv{e:EvD}{h:Int}{x:List Zag}(h0:∀ i,i<e.mv.length→0≤atP x (i:Nat)):0≤atG x (Zd7 e h)∧(0<atG x (Zd7 e h)↔∃ i,i∈ownL e h∧0<atP x (i:Nat)):=by
 have hn:∀ i,i<e.mv.length→0≤ownH e h i*atP x (i:Nat):=fun i hi=>by
  have:=h0 i hi
  unfold ownH
  split<;>grind
 rw[ZAd]
 refine⟨Zh1 _ hn,(ZrX _ hn).trans ?_⟩
 constructor
 ·rintro⟨i,a,b⟩
  refine⟨i,?_,?_⟩
  ·rw[Zq5]
   refine⟨a,?_⟩
   cases hb:Zko e h (-1) 0 100000 (mvAt e i)
   ·unfold ownH at b
    rw[hb,if_neg Yc5]at b
    exact absurd b (by grind)
   ·rfl
  ·unfold ownH at b
   split at b<;>grind
 ·rintro⟨i,a,b⟩
  obtain⟨a1,a2⟩:=Zq5.1 a
  refine⟨i,a1,?_⟩
  unfold ownH
  rw[if_pos a2];grind
noncomputable def Zgm (s:SysD) (g:List Zaf) (h:Int):VerD :=
 if 0<sgnD (ZbU s g).1.v then⟨h,2,(ZbU s g).1.x,[],(ZbU s g).1.y++[ofQ (-1)]⟩
 else if (maxO s g).k=2 then⟨h,1,onD 1 (maxO s g).x (maxO s g).d,(ZbU s g).1.x,[]⟩
 else if sgnD (maxO s g).v<0 then⟨h,1,(maxO s g).x,(ZbU s g).1.x,[]⟩
 else⟨h,0,[],(ZbU s g).1.x,(maxO s g).y⟩
section
variable {s:SysD} {g:List Zaf} {h:Int} (hs:ZaB s=true) (hg:Zai g s.n=true) (hx:∃ x,Zap s x=true) (h0:∀ x,Zap s x=true→0≤atG x g)
include hs hg hx h0
theorem ZoC:((Zgm s g h).s=2↔∀ x,Zap s x=true→0<atG x g)∧((Zgm s g h).s=0↔∀ x,Zap s x=true→atG x g≤0)∧((Zgm s g h).s=0∨(Zgm s g h).s=1∨(Zgm s g h).s=2)∧(Zgm s g h).h=h:=by
 obtain⟨x0,hx0⟩:=hx
 have el:ZbU s g=(ZaJ s g,0):=by unfold ZbU;rw[hs,hg];rfl
 have em:=Zee hs hg
 have lo:=ZmU (Zdy hs hg)
 have hi:=ZmU (Zdy hs (Zdd hg))
 obtain⟨q,x1,v1,h1,d1,m1⟩:∃ q x,(ZaJ s g).v=ofQ q∧Zap s x=true∧dotD g x=q∧∀ z,Zap s z=true→q≤dotD g z:=by
  rcases lo with⟨_,a⟩|⟨_,a⟩|⟨_,a⟩
  ·exact a
  ·rw[a x0]at hx0;cases hx0
  ·obtain⟨x,a,b⟩:=a (-1)
   have:=h0 x a
   unfold atG at this
   exact absurd b (by grind)
 unfold Zgm
 rw[el,em,v1,ZbN]
 by_cases hq:0<sgQ q
 ·rw[if_pos hq]
  rw[Zdp]at hq
  refine⟨⟨fun _ x hx=>?_,fun _=>rfl⟩,⟨fun e=>absurd (show(2:Int)=0 from e) (by decide),fun e=>?_⟩,.inr (.inr rfl),rfl⟩
  ·have:=m1 x hx
   unfold atG;grind
  ·have:=e x1 h1
   unfold atG at this
   exact absurd this (by grind)
 ·rw[if_neg hq]
  rw[Zdp]at hq
  have no2:¬ ∀ x,Zap s x=true→0<atG x g:=fun e=>by
   have:=e x1 h1
   unfold atG at this
   exact absurd this (by grind)
  have one:(∃ x,Zap s x=true∧0<atG x g)→((1:Int)=2↔∀ x,Zap s x=true→0<atG x g)∧((1:Int)=0↔∀ x,Zap s x=true→atG x g≤0):=fun⟨x,a,b⟩ =>
   ⟨⟨fun e=>absurd e (by decide),fun e=>absurd e no2⟩,⟨fun e=>absurd e (by decide),fun e=>absurd (e x a) (by grind)⟩⟩
  rcases hi with⟨k,q2,x2,v2,h2,d2,m2⟩|⟨k,a⟩|⟨k,a⟩
  ·rw[if_neg (by omega),v2,ZbN]
   rw[Zhi hs hg]at d2
   by_cases hq2:sgQ q2<0
   ·rw[if_pos hq2]
    rw[ZgA]at hq2
    obtain⟨a,b⟩:=one ⟨x2,h2,by unfold atG;grind⟩
    exact⟨a,b,.inr (.inl rfl),rfl⟩
   ·rw[if_neg hq2]
    rw[ZgA]at hq2
    refine⟨⟨fun e=>absurd (show(0:Int)=2 from e) (by decide),fun e=>absurd e no2⟩,⟨fun _ x hx=>?_,fun _=>rfl⟩,.inl rfl,rfl⟩
    have:=m2 x hx
    rw[Zhi hs hg]at this
    unfold atG;grind
  ·rw[a x0]at hx0;cases hx0
  ·rw[if_pos k]
   obtain⟨x,b,c⟩:=a (-1)
   rw[Zhi hs hg]at c
   obtain⟨a,b⟩:=one ⟨x,b,by unfold atG;grind⟩
   exact⟨a,b,.inr (.inl rfl),rfl⟩
end
def natI(l:List Nat):List Int:=l.map fun(i:Nat)=>(i:Int)
def upN(e:EvD)(n:Int)(p:MvD→Bool)(k:Nat):List Nat:=(List.range k).filter fun(i:Nat)=>decide ((i:Int)<n)&&p (mvAt e i)
theorem ZrP(e:EvD)(n:Int)(p:MvD→Bool)(k:Nat):upN e n p (k+1)=upN e n p k++if decide ((k:Int)<n)&&p (mvAt e k)then [k]else []:=by
 unfold upN
 rw[List.range_succ,List.filter_append]
 cases h:decide ((k:Int)<n)&&p (mvAt e k)<;>simp[h]
theorem Zvm(e:EvD)(n:Int)(p:MvD→Bool)(k:Nat):(upN e n p k).length≤k:=by
 have:=Yb1 (fun(i:Nat)=>decide ((i:Int)<n)&&p (mvAt e i)) (List.range k)
 unfold upN;simpa using this
theorem ZzR(e:EvD)(L:LenE e)(n:Int)(q:Int)(p:MvD→Bool)(hc:∀ x∈e.mv,Zaa Tryz.prog 62 [.agg (cMv x),.ep [[dI q]] 0 0] (dB (p x))) :
 Zaa Tryz.prog 61 [Zfd e,dI n,.clo 62 [.ep [[dI q]] 0 0]] (Zab (natI (if Zf3 e=0 then Zew e n p else []))):=by
 have Zr:=Tryz.results61
 have kf:=ZxI e L
 have hmv:=L.mv
 refine inN Tryz.func61 rfl Tryz.ntmps61 fun I=>?_
 by_cases hf:Zf3 e=0
 rotate_left
 ·have h1:(Zf3 e !=0)=true:=by simpa using hf
  refine aGo (cj2 Zr h1) ?_
  repeat with_reducible intro K hK
  rw[if_neg hf];rfl
 rw[hf]at kf
 rw[if_pos hf]
 refine aGo Zr ?_
 repeat with_reducible intro K hK
 refine aLe (Zcs 7 3 1 rfl) ?_
 simp only[go_sem]
 refine Zas (fun(k:Nat)=>[(1,dI n),(2,.clo 62 [.ep [[dI q]] 0 0]),(3,.lp 0 0 0 0),(7,.ls 1 (upN e n p k).length),(14,Zjc e.mv),(15,dI e.mv.length),(16,dI k)]) (fun k=>[(0,⟨28,0,8,[cEv e],0,false⟩),(1,⟨3,(upN e n p k).length,1,(natI (upN e n p k)).map fun x=>[dI x],0,false⟩)]) 2 0 (fun k=>k≤e.mv.length) (fun k=>e.mv.length-k) 0 (by omega) ?_ ?_
 ·have e0:upN e n p 0=[]:=rfl
  have e1:natI []=[]:=rfl
  exact leGo (cj2 e0 e1)
 rintro k hk
 obtain⟨hw,h0⟩:=ZaO k
 have eN:=ZrP e n p k
 have lN:=Zvm e n p k
 have lI:(natI (upN e n p k)).length=(upN e n p k).length:=by simp[natI]
 by_cases h1:(k:Int)<e.mv.length
 rotate_left
 ·obtain rfl:k=e.mv.length:=by omega
  refine aGo (cj2 Zr h1) ?_
  repeat with_reducible intro K hK
  exact congrArg D.sl (Zao (fun _=>rfl) _)
 obtain⟨x,hx⟩:∃ x,e.mv[k]? =some x:=⟨_,Ya0 (by omega)⟩
 have ex:mvAt e k=x:=by unfold mvAt;rw[hx];rfl
 have kc:=hc x (Ya7 hx)
 rw[ex]at eN
 by_cases h2:(k:Int)<n
 rotate_left
 ·rw[decide_eq_false h2,Bool.false_and,if_neg Yc5,List.append_nil]at eN
  refine aGo (cj4 Zr h0 h1 (cj3 h2 hx hw)) ?_
  repeat with_reducible intro K hK
  exact Zad (k+1) (by omega) (by omega) (by exact leGo eN)
 rw[decide_eq_true h2,Bool.true_and]at eN
 cases h3:p x
 ·rw[h3,if_neg Yc5,List.append_nil]at eN
  rw[h3]at kc
  refine aGo (cj4 Zr h0 h1 (cj3 h2 hx hw)) ?_
  repeat with_reducible intro K hK
  exact Zad (k+1) (by omega) (by omega) (by exact leGo eN)
 ·rw[h3,if_pos rfl]at eN
  rw[h3]at kc
  have eI:natI (upN e n p (k+1))=natI (upN e n p k)++[(k:Int)]:=by rw[eN];simp[natI]
  have eL:(upN e n p (k+1)).length=(upN e n p k).length+1:=by rw[eN];simp
  clear eN
  generalize natI (upN e n p k)=A at *
  generalize (upN e n p k).length=B at *
  refine aGo (cj4 Zr h0 h1 (cj3 h2 hx hw)) ?_
  repeat with_reducible intro K hK
  exact Zad (k+1) (by omega) (by omega) (by exact leGo (cj2 eI eL))
theorem ZzQ(e:EvD)(L:LenE e)(n:Int)(h m lo hi:Int)(p:MvD→Bool)(hc:∀ x∈e.mv,Zaa Tryz.prog 92 [.agg (cMv x),.ep [cEv e] 0 0,.ep [[dI h]] 0 0,.ep [[dI m]] 0 0,.ep [[dI lo]] 0 0,.ep [[dI hi]] 0 0] (dB (p x))) :
 Zaa Tryz.prog 61 [Zfd e,dI n,.clo 92 [.ep [cEv e] 0 0,.ep [[dI h]] 0 0,.ep [[dI m]] 0 0,.ep [[dI lo]] 0 0,.ep [[dI hi]] 0 0]] (Zab (natI (if Zf3 e=0 then Zew e n p else []))):=by
 have Zr:=Tryz.results61
 have kf:=ZxI e L
 have hmv:=L.mv
 refine inN Tryz.func61 rfl Tryz.ntmps61 fun I=>?_
 by_cases hf:Zf3 e=0
 rotate_left
 ·have h1:(Zf3 e !=0)=true:=by simpa using hf
  refine aGo (cj2 Zr h1) ?_
  repeat with_reducible intro K hK
  rw[if_neg hf];rfl
 rw[hf]at kf
 rw[if_pos hf]
 refine aGo Zr ?_
 repeat with_reducible intro K hK
 refine aLe (Zcs 7 3 1 rfl) ?_
 simp only[go_sem]
 refine Zas (fun(k:Nat)=>[(1,dI n),(2,.clo 92 [.ep [cEv e] 0 0,.ep [[dI h]] 0 0,.ep [[dI m]] 0 0,.ep [[dI lo]] 0 0,.ep [[dI hi]] 0 0]),(3,.lp 0 0 0 0),(7,.ls 1 (upN e n p k).length),(14,Zjc e.mv),(15,dI e.mv.length),(16,dI k)]) (fun k=>[(0,⟨28,0,8,[cEv e],0,false⟩),(1,⟨3,(upN e n p k).length,1,(natI (upN e n p k)).map fun x=>[dI x],0,false⟩)]) 2 0 (fun k=>k≤e.mv.length) (fun k=>e.mv.length-k) 0 (by omega) ?_ ?_
 ·have e0:upN e n p 0=[]:=rfl
  have e1:natI []=[]:=rfl
  exact leGo (cj2 e0 e1)
 rintro k hk
 obtain⟨hw,h0⟩:=ZaO k
 have eN:=ZrP e n p k
 have lN:=Zvm e n p k
 have lI:(natI (upN e n p k)).length=(upN e n p k).length:=by simp[natI]
 by_cases h1:(k:Int)<e.mv.length
 rotate_left
 ·obtain rfl:k=e.mv.length:=by omega
  refine aGo (cj2 Zr h1) ?_
  repeat with_reducible intro K hK
  exact congrArg D.sl (Zao (fun _=>rfl) _)
 obtain⟨x,hx⟩:∃ x,e.mv[k]? =some x:=⟨_,Ya0 (by omega)⟩
 have ex:mvAt e k=x:=by unfold mvAt;rw[hx];rfl
 have kc:=hc x (Ya7 hx)
 rw[ex]at eN
 by_cases h2:(k:Int)<n
 rotate_left
 ·rw[decide_eq_false h2,Bool.false_and,if_neg Yc5,List.append_nil]at eN
  refine aGo (cj4 Zr h0 h1 (cj3 h2 hx hw)) ?_
  repeat with_reducible intro K hK
  exact Zad (k+1) (by omega) (by omega) (by exact leGo eN)
 rw[decide_eq_true h2,Bool.true_and]at eN
 cases h3:p x
 ·rw[h3,if_neg Yc5,List.append_nil]at eN
  rw[h3]at kc
  refine aGo (cj4 Zr h0 h1 (cj3 h2 hx hw)) ?_
  repeat with_reducible intro K hK
  exact Zad (k+1) (by omega) (by omega) (by exact leGo eN)
 ·rw[h3,if_pos rfl]at eN
  rw[h3]at kc
  have eI:natI (upN e n p (k+1))=natI (upN e n p k)++[(k:Int)]:=by rw[eN];simp[natI]
  have eL:(upN e n p (k+1)).length=(upN e n p k).length+1:=by rw[eN];simp
  clear eN
  generalize natI (upN e n p k)=A at *
  generalize (upN e n p k).length=B at *
  refine aGo (cj4 Zr h0 h1 (cj3 h2 hx hw)) ?_
  repeat with_reducible intro K hK
  exact Zad (k+1) (by omega) (by omega) (by exact leGo (cj2 eI eL))
theorem ZzY(e:EvD)(h m lo hi:Int)(x:MvD)(hx:0≤x.f∧x.f<e.pl.length):Zaa Tryz.prog 92 [.agg (cMv x),.ep [cEv e] 0 0,.ep [[dI h]] 0 0,.ep [[dI m]] 0 0,.ep [[dI lo]] 0 0,.ep [[dI hi]] 0 0] (dB (Zko e h m lo hi x)):=by
 have Zr:=Tryz.results92
 refine inN Tryz.func92 rfl Tryz.ntmps92 fun I=>?_
 obtain⟨p,hp⟩:∃ p,e.pl[x.f.toNat]? =some p:=⟨_,Ya0 (by omega)⟩
 have f0:=hx.1
 have k1:=Znd x.d lo hi
 have el:Zko e h m lo hi x=(p.k==0&&(p.h==h&&((m == -1||p.m==m)&&(decide (lo≤x.d)&&decide (x.d≤hi))))):=by
  unfold Zko;rw[ZjN hp,hp];rfl
 rw[el]
 clear el
 cases h1:(p.k==0)
 ·exact aGo (cj4 Zr f0 hp h1) trivial
 cases h2:(p.h==h)
 ·exact aGo (cj4 Zr f0 hp (cj2 h1 h2)) trivial
 cases h3:(m == -1)
 ·cases h4:(p.m==m)
  ·exact aGo (cj4 Zr f0 hp (cj4 h1 h2 h3 h4)) trivial
  ·exact aGo (cj4 Zr f0 hp (cj4 h1 h2 h3 h4)) trivial
 ·refine aGo (cj4 Zr f0 hp (cj3 h1 h2 h3)) ?_
  repeat with_reducible intro K hK
  exact Zaj (by simp)
theorem ZC5(q:Int)(x:MvD):Zaa Tryz.prog 62 [.agg (cMv x),.ep [[dI q]] 0 0] (dB (x.t==q)):=by
 have Zr:=Tryz.results62
 refine inN Tryz.func62 rfl Tryz.ntmps62 fun I=>?_
 exact aGo Zr trivial
theorem Zxc(e:EvD)(L:LenE e)(h m lo hi:Int)(hr:∀ x∈e.mv,0≤x.f∧x.f<e.pl.length):Zaa Tryz.prog 46 [Zfd e,dI h,dI m,dI lo,dI hi] (Zab (natI (if Zf3 e=0 then Zew e e.mv.length (Zko e h m lo hi)else []))):=by
 have Zr:=Tryz.results46
 have k1:=ZzQ e L e.mv.length h m lo hi (Zko e h m lo hi) fun x hx=>ZzY e h m lo hi x (hr x hx)
 refine inN Tryz.func46 rfl Tryz.ntmps46 fun I=>?_
 exact aGo Zr trivial
theorem ZET(e:EvD)(L:LenE e)(q n:Int):Zaa Tryz.prog 21 [Zfd e,dI q,dI n] (Zab (natI (if Zf3 e=0 then Zew e n (fun x=>x.t==q)else []))):=by
 have Zr:=Tryz.results21
 have k1:=ZzR e L n q (fun x=>x.t==q) fun x _=>ZC5 q x
 refine inN Tryz.func21 rfl Tryz.ntmps21 fun I=>?_
 exact aGo Zr trivial
theorem ZBj(e:EvD)(v k:Int):Zaa Tryz.prog 53 [Zfd e,dI v,dI k] (dI (Zf0 e v k)):=by
 have Zr:=Tryz.results53
 refine inN Tryz.func53 rfl Tryz.ntmps53 fun I=>?_
 by_cases h1:v<0
 ·refine aGo (cj2 Zr h1) ?_
  repeat with_reducible intro K hK
  exact ZbA (by rw[Zf0,if_pos (Or.inl h1)])
 by_cases h2:v≥e.mv.length
 ·refine aGo (cj3 Zr h1 h2) ?_
  repeat with_reducible intro K hK
  exact ZbA (by rw[Zf0,if_pos (Or.inr h2)])
 have e0:Zf0 e v k=if k<0∨k≥8 then 1 else 0:=by rw[Zf0,if_neg (by omega)]
 by_cases h3:k<0
 ·refine aGo (cj4 Zr h1 h2 h3) ?_
  repeat with_reducible intro K hK
  exact ZbA (by rw[e0,if_pos (Or.inl h3)])
 by_cases h4:k≥8
 ·refine aGo (cj4 Zr h1 h2 (cj2 h3 h4)) ?_
  repeat with_reducible intro K hK
  exact ZbA (by rw[e0,if_pos (Or.inr h4)])
 refine aGo (cj4 Zr h1 h2 (cj2 h3 h4)) ?_
 repeat with_reducible intro K hK
 exact ZbA (by rw[e0,if_neg (by omega)])
structure LenT (t:TrD):Prop where
 e:LenE t.e
 fi:(t.fi.length:Int)≤1099511627776
 cl:(t.cl.length:Int)≤1099511627776
theorem ZAn{e:EvD}{l:List FiD}{k:Nat}{x:FiD}(hx:l[k]? =some x):Zfx e (l.drop k)=if Zf0 e x.v x.k=0 then(if x.g<1∨x.g>1099511627776 then 3 else Zfx e (l.drop (k+1)))else Zf0 e x.v x.k:=by
 obtain⟨hi,rfl⟩:=Ya3.1 hx
 rw[Yd7 hi];rfl
theorem Zyh{e:EvD}{l:List ClD}{k:Nat}{x:ClD}(hx:l[k]? =some x):ZeL e (l.drop k)=if Zf0 e x.v x.k=0 then ZeL e (l.drop (k+1))else Zf0 e x.v x.k:=by
 obtain⟨hi,rfl⟩:=Ya3.1 hx
 rw[Yd7 hi];rfl
theorem ZkY(t:TrD)(L:LenT t):Zaa Tryz.prog 16 [ZcL t] (dI (ZbX t)):=by
 have Zr:=Tryz.results16
 have kf:=ZxI t.e L.e
 obtain⟨-,l1,l2⟩:=L
 by_cases h1:Zf3 t.e=0
 rotate_left
 ·have h1':(Zf3 t.e !=0)=true:=by simpa using h1
  refine inN Tryz.func16 rfl Tryz.ntmps16 fun I=>?_
  refine aGo (cj2 Zr h1') ?_
  repeat with_reducible intro K hK
  exact ZbA (by rw[ZbX,if_neg h1])
 rw[h1]at kf
 have e0:ZbX t=if (t.fi.length:Int)>20∨(t.cl.length:Int)>50 then 6 else if Zfx t.e t.fi=0 then ZeL t.e t.cl else Zfx t.e t.fi:=by rw[ZbX,if_pos h1]
 by_cases h2:(t.fi.length:Int)>20
 ·refine inN Tryz.func16 rfl Tryz.ntmps16 fun I=>?_
  refine aGo (cj2 Zr h2) ?_
  repeat with_reducible intro K hK
  exact ZbA (by rw[e0,if_pos (Or.inl h2)])
 by_cases h3:(t.cl.length:Int)>50
 ·refine inN Tryz.func16 rfl Tryz.ntmps16 fun I=>?_
  refine aGo (cj3 Zr h2 h3) ?_
  repeat with_reducible intro K hK
  exact ZbA (by rw[e0,if_pos (Or.inr h3)])
 rw[if_neg (by omega)]at e0
 generalize ZbX t=out at *
 refine inN Tryz.func16 rfl Tryz.ntmps16 fun I=>?_
 refine aGo (cj3 Zr h2 h3) ?_
 repeat with_reducible intro K hK
 refine Zas (fun(k:Nat)=>[(1,.lp 0 0 0 0),(27,ZxZ t.fi),(28,dI t.fi.length),(29,dI k)]) (fun _=>[(0,⟨32,0,10,[cTr t],0,false⟩)]) 1 0 (fun k=>k≤t.fi.length∧Zfx t.e t.fi=Zfx t.e (t.fi.drop k)) (fun k=>t.fi.length-k) 0 ⟨by omega,rfl⟩ ?_ ?_
 ·exact leGo trivial
 rintro k ⟨hk,hg⟩
 obtain⟨hw,h0⟩:=ZaO k
 by_cases h4:(k:Int)<t.fi.length
 ·obtain⟨x,hx⟩:∃ p,t.fi[k]? =some p:=⟨_,Ya0 (by omega)⟩
  have km:=ZBj t.e x.v x.k
  have hs:=ZAn (e:=t.e) hx
  by_cases h5:Zf0 t.e x.v x.k=0
  rotate_left
  ·have h5':(Zf0 t.e x.v x.k !=0)=true:=by simpa using h5
   rw[if_neg h5]at hs
   refine aGo (cj4 Zr h0 h4 (cj3 hx hw h5')) ?_
   repeat with_reducible intro K hK
   exact ZbA (by rw[e0,hg,hs,if_neg h5])
  rw[h5]at km
  rw[if_pos h5]at hs
  by_cases h6:x.g<1
  ·rw[if_pos (Or.inl h6)]at hs
   refine aGo (cj4 Zr h0 h4 (cj3 hx hw h6)) ?_
   repeat with_reducible intro K hK
   exact ZbA (by rw[e0,hg,hs];rfl)
  by_cases h7:x.g>1099511627776
  ·rw[if_pos (Or.inr h7)]at hs
   refine aGo (cj4 Zr h0 h4 (cj4 hx hw h6 h7)) ?_
   repeat with_reducible intro K hK
   exact ZbA (by rw[e0,hg,hs];rfl)
  rw[if_neg (by omega)]at hs
  refine aGo (cj4 Zr h0 h4 (cj4 hx hw h6 h7)) ?_
  repeat with_reducible intro K hK
  exact Zad (k+1) ⟨by omega,hg.trans hs⟩ (by omega) (by exact leGo trivial)
 rw[show t.fi.drop k=[] by rw[List.drop_eq_nil_iff];omega]at hg
 rw[hg]at e0
 have e1:out=ZeL t.e t.cl:=e0
 clear e0 hg h0 hw
 refine aGo (cj2 Zr h4) ?_
 repeat with_reducible intro K hK
 refine Zas (fun(k:Nat)=>[(1,.lp 0 0 0 0),(53,Ztq t.cl),(54,dI t.cl.length),(55,dI k)]) (fun _=>[(0,⟨32,0,10,[cTr t],0,false⟩)]) 1 0 (fun k=>k≤t.cl.length∧ZeL t.e t.cl=ZeL t.e (t.cl.drop k)) (fun k=>t.cl.length-k) 0 ⟨by omega,rfl⟩ ?_ ?_
 ·exact leGo trivial
 rintro k ⟨hk,hg⟩
 obtain⟨hw,h0⟩:=ZaO k
 by_cases h5:(k:Int)<t.cl.length
 ·obtain⟨x,hx⟩:∃ p,t.cl[k]? =some p:=⟨_,Ya0 (by omega)⟩
  have km:=ZBj t.e x.v x.k
  have hs:=Zyh (e:=t.e) hx
  by_cases h6:Zf0 t.e x.v x.k=0
  rotate_left
  ·have h6':(Zf0 t.e x.v x.k !=0)=true:=by simpa using h6
   rw[if_neg h6]at hs
   refine aGo (cj4 Zr h0 h5 (cj3 hx hw h6')) ?_
   repeat with_reducible intro K hK
   exact ZbA (by rw[e1,hg,hs])
  rw[h6]at km
  rw[if_pos h6]at hs
  refine aGo (cj4 Zr h0 h5 (cj2 hx hw)) ?_
  repeat with_reducible intro K hK
  exact Zad (k+1) ⟨by omega,hg.trans hs⟩ (by omega) (by exact leGo trivial)
 rw[show t.cl.drop k=[] by rw[List.drop_eq_nil_iff];omega]at hg
 refine aGo (cj2 Zr h5) ?_
 repeat with_reducible intro K hK
 exact ZbA (by rw[e1,hg];rfl)
def hiP(e:EvD)(k u:Nat):List D:=if u<k∧(mvAt e u).s ≠ -1 then cF (hiI e (mvAt e u)).1++[dB (hiI e (mvAt e u)).2]else [dI 0,.nil,dI 0,.nil,dB false]
def abL(e:EvD)(k:Nat)(c:Nat→D)(l:Nat→Int):List (List D):=tabL e.mv.length fun u=>hiP e k u++[c u,dI (l u)]
theorem ZrB(e:EvD)(k:Nat)(c:Nat→D)(l:Nat→Int):(abL e k c l).length=e.mv.length:=Zc0 _ _
theorem ZFw{keep:Nat→Bool}{e:EvD}{k:Nat}{c:Nat→D}{l:Nat→Int}(hc:∀ u,u<e.mv.length→okD keep (c u)=true):∀ x∈abL e k c l,okDs keep x=true:=by
 intro x hx
 obtain⟨u,hu,rfl⟩:=Yc6.1 hx
 unfold hiP
 split<;>simp[okDs,okD,hc u (Yd2.1 hu)]
theorem ZrC{e:EvD}{k v:Nat}{c:Nat→D}{l:Nat→Int}(h:v<e.mv.length):(abL e k c l)[v]? =some (hiP e k v++[c v,dI (l v)]):=ZbB _ h
theorem Zrh{e:EvD}{k u:Nat}(h:k≤u):hiP e k u=[dI 0,.nil,dI 0,.nil,dB false]:=by unfold hiP;rw[if_neg (by omega)]
theorem Zs6{e:EvD}{k u:Nat}(h:u≠k):hiP e (k+1) u=hiP e k u:=by
 have h1:u<k+1↔u<k:=by omega
 unfold hiP
 simp only[h1]
theorem Zxt(e:EvD)(k u:Nat):∃ a b c d x,hiP e k u=[a,b,c,d,x]:=by
 unfold hiP
 split
 ·exact⟨_,_,_,_,_,rfl⟩
 ·exact⟨_,_,_,_,_,rfl⟩
structure KnAt (t:TrD) (m:Mem) (nx:Nat) (f:Nat→List Int) (l:Nat→Int) (c:Nat→D):Prop where
 tr:m 0=some ⟨32,0,10,[cTr t],0,false⟩
 row:m 2=some ⟨88,1,7,abL t.e t.e.mv.length c l,0,false⟩
 lt:2<nx
 cell:∀ u,u<t.e.mv.length→(c u = .nil∧f u=[])∨∃ id ver,c u = .ls id ver∧2<id∧id<nx∧m id=some ⟨3,ver,1,(f u).map fun x=>[dI x],0,false⟩
 inj:∀ u v id ver id' ver',u<t.e.mv.length→v<t.e.mv.length→u≠v→c u = .ls id ver→c v = .ls id' ver'→id≠id'
theorem KnAt.grow{t:TrD}{m m':Mem}{nx nx':Nat}{f:Nat→List Int}{l:Nat→Int}{c:Nat→D}(h:KnAt t m nx f l c)(hm:∀ id,id<nx→m' id=m id)(hn:nx≤nx'):KnAt t m' nx' f l c :=
 ⟨(hm 0 (by have:=h.lt;omega)).trans h.tr,(hm 2 h.lt).trans h.row,by have:=h.lt;omega,fun u hu=>(h.cell u hu).imp id fun⟨i,v,h1,h2,h3,h4⟩=>⟨i,v,h1,h2,by omega,(hm i h3).trans h4⟩,h.inj⟩
def finU(t:TrD)(kind:Int)(k u:Nat):List Int:=((t.fi.take k).filter fun f=>f.k==kind&&f.v==(u:Int)).map FiD.g
theorem ZDg{t:TrD}{kind:Int}{k:Nat}{x:FiD}(hx:t.fi[k]? =some x)(h:(x.k==kind)=false):finU t kind (k+1)=finU t kind k:=by
 funext u
 unfold finU
 rw[Yb4,hx]
 simp[h]
theorem ZAp{t:TrD}{kind:Int}{k v:Nat}{x:FiD}(hx:t.fi[k]? =some x)(h:(x.k==kind)=true)(hv:x.v=v):finU t kind (k+1)=fun u=>if u=v then finU t kind k u++[x.g]else finU t kind k u:=by
 funext u
 unfold finU
 rw[Yb4,hx]
 by_cases e:u=v
 ·subst e;simp[h,hv]
 ·rw[if_neg e]
  have:¬ (v:Int)=(u:Int):=by omega
  simp[h,hv,this]
def clU(t:TrD)(kind:Int)(k u:Nat):Int:=(((t.cl.take k).filter fun f=>f.k==kind&&f.v==(u:Int)).length:Nat)
theorem ZFr{t:TrD}{kind:Int}{k:Nat}{x:ClD}(hx:t.cl[k]? =some x)(h:(x.k==kind)=false):clU t kind (k+1)=clU t kind k:=by
 funext u
 unfold clU
 rw[Yb4,hx]
 simp[h]
theorem ZDs{t:TrD}{kind:Int}{k v:Nat}{x:ClD}(hx:t.cl[k]? =some x)(h:(x.k==kind)=true)(hv:x.v=v):clU t kind (k+1)=fun u=>if u=v then clU t kind k u+1 else clU t kind k u:=by
 funext u
 unfold clU
 rw[Yb4,hx]
 by_cases e:u=v
 ·subst e;simp[h,hv]
 ·rw[if_neg e]
  have:¬ (v:Int)=(u:Int):=by omega
  simp[h,hv,this]
theorem ZFs{t:TrD}{kind:Int}{k u:Nat}:0≤clU t kind k u∧clU t kind k u≤t.cl.length:=by
 unfold clU
 have q1:=Yb1 (fun f:ClD=>f.k==kind&&f.v==(u:Int)) (t.cl.take k)
 have q2:=List.length_take_le k t.cl
 have q3:=List.length_take_le' k t.cl
 omega
abbrev cAb(a:AbD):List D:=[dI a.hi.p.s,Zab a.hi.p.d,dI a.hi.q.s,Zab a.hi.q.d,dB a.cap,Zab a.fi,dI a.cl]
def abK(t:TrD)(kind:Int)(u:Nat):AbD:=⟨(hiI t.e (mvAt t.e u)).1,(hiI t.e (mvAt t.e u)).2,finK t kind u,cleK t kind u⟩
def ZcP(t:TrD)(kind:Int):List AbD:=(List.range t.e.mv.length).map (abK t kind)
abbrev ZgT(l:List AbD):D:=.sl (l.map cAb)
theorem KnAt.fz{t:TrD}{kind:Int}{m:Mem}{nx:Nat}{c:Nat→D}(h:KnAt t m nx (finU t kind t.fi.length) (clU t kind t.cl.length) c)(j:Nat):List.map (List.map (fzT true m (j+3))) (abL t.e t.e.mv.length c (clU t kind t.cl.length))=(ZcP t kind).map cAb:=by
 unfold abL tabL ZcP
 rw[List.map_map,List.map_map]
 refine List.map_congr_left fun u hu=>?_
 have hu:=Yd2.1 hu
 have e1:finU t kind t.fi.length u=finK t kind u:=by unfold finU finK;rw[Yc2]
 have e2:clU t kind t.cl.length u=cleK t kind u:=by unfold clU cleK;rw[Yc2]
 have e3:fzT true m (j+3) (c u)=Zab (finK t kind u):=by
  rcases h.cell u hu with⟨g1,g2⟩|⟨id,ver,g1,g2,g3,g4⟩
  ·rw[g1,← e1,g2];rfl
  ·rw[g1,← e1]
   simp only[fzT,ZbL,g4,if_true]
   exact congrArg D.sl (Zao (fun _=>rfl) _)
 have e4:List.map (fzT true m (j+3)) (hiP t.e t.e.mv.length u)=cF (hiI t.e (mvAt t.e u)).1++[dB (hiI t.e (mvAt t.e u)).2]:=by
  unfold hiP
  by_cases hs:(mvAt t.e u).s = -1
  ·rw[if_neg (fun g=>g.2 hs)]
   unfold hiI;rw[if_pos hs];rfl
  ·rw[if_pos ⟨hu,hs⟩];rfl
 simp only[Function.comp_apply,List.map_append,e4,List.map_cons,List.map_nil,e3,e2]
 rfl
theorem Zxj(t:TrD)(R:Zbd t)(kind:Int):Zah Tryz.prog 33 [ZcL t,dI kind] (ZgT (ZcP t kind)):=by
 have Zr:=Tryz.results33
 have L1:=R.e.lm
 have L2:=R.e.lc
 have L3:=R.e.lr
 have L4:=R.lf
 have L5:=R.lc
 refine inC Tryz.func33 rfl Tryz.ntmps33 ?_
 have n0:(0:Int)≤(t.e.mv.length:Int):=by omega
 have n1:64*(t.e.mv.length:Int)≤140737488355328:=by omega
 have n2:(t.e.mv.length:Int)≤9007199254740992:=by omega
 refine aGo (cj4 Zr n0 n1 n2) ?_
 repeat with_reducible intro K hK
 obtain⟨F,hF⟩:∃ F:Nat→List (List D),F=fun k=>abL t.e k (fun _=>.nil) (fun _=>0):=⟨_,rfl⟩
 have F0:List.replicate t.e.mv.length [D.v (.int .i64 0),.nil,D.v (.int .i64 0),.nil,D.v (.bool false),.nil,D.v (.int .i64 0)]=F 0:=by
  rw[hF,Zvt]
  exact Zbr fun u hu=>by rw[Zrh (Yb0 u)];rfl
 have Fo:∀ k keep,∀ x∈F k,okDs keep x=true:=fun k keep=>by rw[hF];exact ZFw fun _ _=>rfl
 refine Zas (fun(k:Nat)=>[(1,dI kind),(2,.lp 0 0 0 0),(5,.lp 1 0 0 0),(6,.ls 2 1),(20,Zjc t.e.mv),(21,dI t.e.mv.length),(22,dI k)]) (fun k=>[(0,⟨32,0,10,[cTr t],0,false⟩),(1,⟨28,0,8,[cEv t.e],0,false⟩),(2,⟨88,1,7,F k,0,false⟩)]) 3 0 (fun k=>k≤t.e.mv.length) (fun k=>t.e.mv.length-k) 0 (by omega) ?_ ?_
 ·refine Zak _ _ _ ?_ ?_ ?_ ?_ ?_ (.inl rfl)<;>simp[go_sem,F0,okD,okDs,Zav]<;>exact Fo _ _
 rintro k hk
 obtain⟨hw,h0⟩:=ZaO k
 by_cases h1:(k:Int)<t.e.mv.length
 ·obtain⟨x,hx⟩:∃ x,t.e.mv[k]? =some x:=⟨_,Ya0 (by omega)⟩
  have ex:mvAt t.e k=x:=by unfold mvAt;rw[hx];rfl
  have hg:(F k)[k]? =some [dI 0,.nil,dI 0,.nil,dB false,.nil,dI 0]:=by
   rw[hF]
   show(abL t.e k _ _)[k]? =_
   rw[ZrC (by omega),Zrh (Ya4 k)];rfl
  have hl:(F k).length=t.e.mv.length:=by rw[hF];exact ZrB _ _ _ _
  have ki:=Zxm t.e.ce t.e.re x.s x.r x.d (by omega) (by omega)
  have hz:(0:Nat)≤k:=Yb0 _
  have hkn:k<t.e.mv.length:=by omega
  cases h2:(x.s != -1)
  ·have e1:F k=F (k+1):=by
    rw[hF]
    refine Zbr fun u hu=>?_
    by_cases huk:u=k
    ·subst huk
     have:¬ ((mvAt t.e u).s ≠ -1):=by rw[ex];simpa using h2
     rw[Zrh (Ya4 u)];unfold hiP;rw[if_neg (fun h=>this h.2)]
    ·rw[Zs6 huk]
   refine aGo (cj4 Zr h0 h1 (cj4 h2 hx hw (cj2 hl hg))) ?_
   repeat with_reducible intro K hK
   exact Zad (k+1) (by omega) (by omega) (by refine Zak _ _ _ ?_ ?_ ?_ ?_ ?_ (.inl rfl)<;>simp[go_sem,e1,okD,okDs,Zav]<;>exact Fo _ _)
  ·have hI:hiI t.e x=((intD t.e.ce t.e.re x.s x.r x.d).hi,(intD t.e.ce t.e.re x.s x.r x.d).ok):=by unfold hiI;rw[if_neg (by simpa using h2)]
   generalize intD t.e.ce t.e.re x.s x.r x.d=y at ki hI
   obtain⟨M1,hM1⟩:∃ M,(F k).set k [dI y.hi.p.s,Zab y.hi.p.d,dI y.hi.q.s,Zab y.hi.q.d,dB false,.nil,dI 0]=M:=⟨_,rfl⟩
   have hg1:M1[k]? =some [dI y.hi.p.s,Zab y.hi.p.d,dI y.hi.q.s,Zab y.hi.q.d,dB false,.nil,dI 0]:=by rw[← hM1,List.getElem?_set_self (by omega)]
   have hl1:M1.length=t.e.mv.length:=by rw[← hM1,List.length_set,hl]
   have hM2:M1.set k [dI y.hi.p.s,Zab y.hi.p.d,dI y.hi.q.s,Zab y.hi.q.d,dB y.ok,.nil,dI 0]=F (k+1):=by
    rw[← hM1,List.set_set,hF]
    show(tabL _ _).set k _=tabL _ _
    rw[Zgu]
    refine Zbr fun u hu=>?_
    by_cases huk:u=k
    ·subst huk
     rw[if_pos rfl]
     unfold hiP
     rw[if_pos ⟨Nat.lt_succ_self _,by rw[ex];simpa using h2⟩,ex,hI];rfl
    ·rw[if_neg huk,Zs6 huk]
   refine aGo (cj4 Zr h0 h1 (cj4 h2 hx hw (cj4 hl hg hz (cj4 hM1 hg1 hl1 hM2)))) ?_
   repeat with_reducible intro K hK
   exact Zad (k+1) (by omega) (by omega) (by refine Zak _ _ _ ?_ ?_ ?_ ?_ ?_ (.inl rfl)<;>simp[go_sem,okD,okDs,Zav]<;>exact Fo _ _)
 obtain rfl:k=t.e.mv.length:=by omega
 refine aGo (cj2 Zr h1) ?_
 repeat with_reducible intro K hK
 have Fm:=hF
 refine ZcT (fun(x:Nat×(Nat→D))=>[(1,dI kind),(2,.lp 0 0 0 0),(6,.ls 2 1),(55,ZxZ t.fi),(56,dI t.fi.length),(57,dI x.1)]) 0 (fun x m nx=>x.1≤t.fi.length∧KnAt t m nx (finU t kind x.1) (fun _=>0) x.2) (fun x=>t.fi.length-x.1) (0,fun _=>.nil) ?_ ?_ ?_ ?_
 ·simp only[ZaF]
  refine⟨Yb0 _,⟨rfl,by rw[Fm];rfl,by omega,fun u hu=>.inl ⟨rfl,rfl⟩,fun u v _ _ _ _ _ _ _ h=>by cases h⟩⟩
 ·rfl
 ·simp[go_sem]
 rintro⟨k,c⟩ m1 nx1 ⟨hk2,hm⟩
 simp only at hk2 hm
 clear h1 hw h0
 obtain⟨hw,h0⟩:=ZaO k
 obtain⟨mt,mr,ml,mc,mi⟩:=hm
 have x0:(0:Nat)≠nx1:=by omega
 have x2:(2:Nat)≠nx1:=by omega
 have y0:nx1≠0:=by omega
 have y1:nx1≠1:=by omega
 have y2:nx1≠2:=by omega
 by_cases h1:(k:Int)<t.fi.length
 ·obtain⟨x,hx⟩:∃ x,t.fi[k]? =some x:=⟨_,Ya0 (by omega)⟩
  cases h2:(x.k==kind)
  ·refine aGoM (cj4 Zr mt mr (cj4 hx h0 h1 (cj4 h2 hw x0 x2))) ?_
   repeat with_reducible intro K hK
   refine Zat (k+1,c) ⟨by show k+1≤_;omega,?_⟩ (by show t.fi.length-(k+1)<t.fi.length-k;omega) rfl (by simp[go_sem])
   show KnAt t _ _ (finU t kind (k+1)) _ c
   rw[ZDg hx h2]
   exact KnAt.grow ⟨mt,mr,ml,mc,mi⟩ (fun id hid=>by simp only[ZaF];rw[if_neg (by omega),if_neg (by omega)]) (Nat.le_succ _)
  ·obtain⟨⟨v0,v1⟩,-,-⟩:=R.fi x (Ya7 hx)
   obtain⟨v,hv⟩:∃ v:Nat,x.v=v:=⟨x.v.toNat,by omega⟩
   have vl:v<t.e.mv.length:=by omega
   have hfin:=ZAp hx h2 hv
   obtain⟨q1,q2,q3,q4,q5,hq⟩:=Zxt t.e t.e.mv.length v
   have hg:(abL t.e t.e.mv.length c (fun _=>0))[v]? =some [q1,q2,q3,q4,q5,c v,dI 0]:=by rw[ZrC vl,hq];rfl
   have hl:=ZrB t.e t.e.mv.length c (fun _=>0)
   have vz:(0:Nat)≤v:=Yb0 _
   have vi:(0:Int)≤v:=by omega
   rcases mc v vl with⟨hc,hf⟩|⟨id,ver,hc,i2,i3,hi⟩
   ·rw[hc]at hg
    refine aGoS (cj4 Zr mt mr (cj4 hx h0 h1 (cj4 h2 hw x0 (cj4 x2 hv hg (cj4 hl vz vi (cj3 y0 y1 y2)))))) ?_
    repeat with_reducible intro K hK
    with_reducible apply useE
    with_reducible assumption
    exact Zcg [2,nx1,nx1+1,nx1+1+1] (by simp;omega) [([],[]),([],[]),([1],[]),([],[]),([],[]),([1],[]),([0],[]),([],[]),([0],[]),([],[]),([1],[]),([2,2],[2]),([2,3,3],[3]),([0],[]),([],[]),([0,0],[0])] rfl rfl (by kernel_rfl)
    exact ZaC rfl
    refine aGoM (cj2 hw h1) ?_
    repeat with_reducible intro K hK
    refine Zat (k+1,fun u=>if u=v then .ls (nx1+1+1) 1 else c u) ⟨by show k+1≤_;omega,?_⟩ (by show t.fi.length-(k+1)<t.fi.length-k;omega) rfl (by simp[go_sem])
    have hset:(abL t.e t.e.mv.length c fun _=>0).set v [q1,q2,q3,q4,q5,.ls (nx1+1+1) 1,dI 0]=abL t.e t.e.mv.length (fun u=>if u=v then .ls (nx1+1+1) 1 else c u) fun _=>0:=by
     show(tabL _ _).set v _=tabL _ _
     rw[Zgu]
     refine Zbr fun u hu=>?_
     by_cases e:u=v
     ·subst e;simp[hq]
     ·simp[e]
    show KnAt t _ _ (finU t kind (k+1)) _ _
    rw[hset,hfin]
    refine⟨?_,?_,by show 2<nx1+3;omega,fun u hu=>?_,fun u u' i w i' w' hu hu' hne hcu hcu'=>?_⟩
    ·simp only[ZaF];rw[if_neg (by omega),if_neg (by omega),if_neg (by omega),if_neg (by omega),if_neg (by omega)];exact mt
    ·simp only[ZaF,if_true]
    ·by_cases e:u=v
     ·subst e
      refine .inr ⟨nx1+1+1,1,by simp,by omega,by show nx1+1+1<nx1+3;omega,?_⟩
      simp only[ZaF,if_true]
      rw[if_neg (by omega),hf];rfl
     ·simp only[e,if_false]
      refine(mc u hu).imp id fun⟨i,w,g1,g2,g3,g4⟩=>⟨i,w,g1,g2,by show i<nx1+3;omega,?_⟩
      simp only[ZaF]
      rw[if_neg (by omega),if_neg (by omega),if_neg (by omega),if_neg (by omega),if_neg (by omega)]
      exact g4
    ·by_cases e:u=v
     ·subst e
      rcases mc u' hu' with⟨g,_⟩|⟨i2,w2,g,_,g3,_⟩
      ·simp[Ne.symm hne,g]at hcu'
      ·simp[Ne.symm hne,g]at hcu' hcu
       omega
     ·by_cases e':u'=v
      ·subst e'
       rcases mc u hu with⟨g,_⟩|⟨i2,w2,g,_,g3,_⟩
       ·simp[hne,g]at hcu
       ·simp[hne,g]at hcu' hcu
        omega
      ·simp only[e,e',if_false]at hcu hcu'
       exact mi u u' i w i' w' hu hu' hne hcu hcu'
   ·rw[hc]at hg
    have z0:id≠0:=by omega
    have z1:id≠1:=by omega
    have z2:id≠2:=by omega
    have z3:id≠nx1:=by omega
    have z4:id≠nx1+1:=by omega
    have z5:nx1≠id:=by omega
    have z6:(2:Nat)≠id:=by omega
    refine aGoS (cj4 Zr mt mr (cj4 hx h0 h1 (cj4 h2 hw x0 (cj4 x2 hv hg (cj4 hl vz vi (cj4 y0 y1 y2 (cj4 hi z0 z1 (cj4 z2 z3 z4 (cj2 z5 z6))))))))) ?_
    repeat with_reducible intro K hK
    have hfl:(finU t kind k v).length≤20:=by
     have q1:=Yb1 (fun f:FiD=>f.k==kind&&f.v==(v:Int)) (t.fi.take k)
     have q2:=List.length_take_le k t.fi
     unfold finU
     rw[Yc0];omega
    refine⟨⟨by omega,by omega⟩,by omega,by omega,?_⟩
    with_reducible apply useE
    with_reducible assumption
    exact Zcg [2,nx1,id,nx1+1] (by simp;omega) [([],[]),([],[]),([1],[]),([],[]),([],[]),([1],[]),([0],[]),([],[]),([0],[]),([],[]),([1],[]),([3,3],[3]),([2,3,2],[2]),([0],[]),([],[]),([0,0],[0])] rfl rfl (by kernel_rfl)
    exact ZaC rfl
    refine aGoM (cj2 hw h1) ?_
    repeat with_reducible intro K hK
    refine Zat (k+1,fun u=>if u=v then .ls id (ver+1)else c u) ⟨by show k+1≤_;omega,?_⟩ (by show t.fi.length-(k+1)<t.fi.length-k;omega) rfl (by simp[go_sem])
    have hset:(abL t.e t.e.mv.length c fun _=>0).set v [q1,q2,q3,q4,q5,.ls id (ver+1),dI 0]=abL t.e t.e.mv.length (fun u=>if u=v then .ls id (ver+1)else c u) fun _=>0:=by
     show(tabL _ _).set v _=tabL _ _
     rw[Zgu]
     refine Zbr fun u hu=>?_
     by_cases e:u=v
     ·subst e;simp[hq]
     ·simp[e]
    show KnAt t _ _ (finU t kind (k+1)) _ _
    rw[hset,hfin]
    have hother:∀ u,u<t.e.mv.length→u≠v→∀ i w,c u = .ls i w→i≠id:=fun u hu hne i w g=>mi u v i w id ver hu vl hne g hc
    refine⟨?_,?_,by show 2<nx1+2;omega,fun u hu=>?_,fun u u' i w i' w' hu hu' hne hcu hcu'=>?_⟩
    ·simp only[ZaF];rw[if_neg (by omega),if_neg (by omega),if_neg (by omega),if_neg (by omega),if_neg (by omega)];exact mt
    ·simp only[ZaF,if_true]
    ·by_cases e:u=v
     ·subst e
      refine .inr ⟨id,ver+1,by simp,by omega,by show id<nx1+2;omega,?_⟩
      simp only[ZaF,if_true]
      rw[if_neg (by omega)];simp
     ·simp only[e,if_false]
      refine(mc u hu).imp (fun h=>h) fun⟨i,w,g1,g2,g3,g4⟩=>⟨i,w,g1,g2,by show i<nx1+2;omega,?_⟩
      have:=hother u hu e i w g1
      simp only[ZaF]
      rw[if_neg (by omega),if_neg (by omega),if_neg (by omega),if_neg (by omega),if_neg (by omega)]
      exact g4
    ·by_cases e:u=v
     ·subst e
      have e':¬ u'=u:=fun h=>hne h.symm
      simp only[e',if_false,if_true,D.ls.injEq]at hcu hcu'
      have:=hother u' hu' e' _ _ hcu'
      omega
     ·by_cases e':u'=v
      ·subst e'
       simp only[e,if_false,if_true,D.ls.injEq]at hcu hcu'
       have:=hother u hu e _ _ hcu
       omega
      ·simp only[e,e',if_false]at hcu hcu'
       exact mi u u' i w i' w' hu hu' hne hcu hcu'
 refine aGoM (cj3 Zr h1 mt) ?_
 repeat with_reducible intro K hK
 obtain rfl:k=t.fi.length:=by omega
 have hm:KnAt t m1 nx1 (finU t kind t.fi.length) (fun _=>0) c:=⟨mt,mr,ml,mc,mi⟩
 clear mt mr ml mc mi x0 x2 y0 y1 y2 h0 h1 hw hk hk2
 refine ZcT (fun(k:Nat)=>[(1,dI kind),(2,.lp 0 0 0 0),(6,.ls 2 1),(82,Ztq t.cl),(83,dI t.cl.length),(84,dI k)]) 0 (fun k m nx=>k≤t.cl.length∧KnAt t m nx (finU t kind t.fi.length) (clU t kind k) c) (fun k=>t.cl.length-k) 0 ?_ ?_ ?_ ?_
 ·exact⟨Yb0 _,hm⟩
 ·rfl
 ·simp[go_sem]
 rintro k m2 nx2 ⟨hk2,hm2⟩
 obtain⟨hw,h0⟩:=ZaO k
 obtain⟨mt,mr,ml,mc,mi⟩:=hm2
 have x0:(0:Nat)≠nx2:=by omega
 have x2:(2:Nat)≠nx2:=by omega
 have y0:nx2≠0:=by omega
 have y2:nx2≠2:=by omega
 by_cases h1:(k:Int)<t.cl.length
 ·obtain⟨x,hx⟩:∃ x,t.cl[k]? =some x:=⟨_,Ya0 (by omega)⟩
  cases h2:(x.k==kind)
  ·refine aGoM (cj4 Zr mt mr (cj4 hx h0 h1 (cj4 h2 hw x0 x2))) ?_
   repeat with_reducible intro K hK
   refine Zat (k+1) ⟨by omega,?_⟩ (by omega) rfl (by simp[go_sem])
   rw[ZFr hx h2]
   exact KnAt.grow ⟨mt,mr,ml,mc,mi⟩ (fun id hid=>by simp only[ZaF];rw[if_neg (by omega),if_neg (by omega)]) (Nat.le_succ _)
  ·obtain⟨⟨v0,v1⟩,-⟩:=R.cl x (Ya7 hx)
   obtain⟨v,hv⟩:∃ v:Nat,x.v=v:=⟨x.v.toNat,by omega⟩
   have vl:v<t.e.mv.length:=by omega
   have hcl:=ZDs hx h2 hv
   obtain⟨q1,q2,q3,q4,q5,hq⟩:=Zxt t.e t.e.mv.length v
   have hg:(abL t.e t.e.mv.length c (clU t kind k))[v]? =some [q1,q2,q3,q4,q5,c v,dI (clU t kind k v)]:=by rw[ZrC vl,hq];rfl
   have hl:=ZrB t.e t.e.mv.length c (clU t kind k)
   have vz:(0:Nat)≤v:=Yb0 _
   have vi:(0:Int)≤v:=by omega
   have hcb:=ZFs (t:=t) (kind:=kind) (k:=k) (u:=v)
   have hw2:IntKind.i64.wrap (clU t kind k v+1)=clU t kind k v+1:=Zax (by omega) (by omega)
   refine aGoM (cj4 Zr mt mr (cj4 hx h0 h1 (cj4 h2 hw x0 (cj4 x2 hv hg (cj4 hl vz vi (cj3 y0 y2 hw2)))))) ?_
   repeat with_reducible intro K hK
   refine Zat (k+1) ⟨by omega,?_⟩ (by omega) rfl (by simp[go_sem])
   have hset:(abL t.e t.e.mv.length c (clU t kind k)).set v [q1,q2,q3,q4,q5,c v,dI (clU t kind k v+1)]=abL t.e t.e.mv.length c (clU t kind (k+1)):=by
    show(tabL _ _).set v _=tabL _ _
    rw[Zgu,hcl]
    refine Zbr fun u hu=>?_
    by_cases e:u=v
    ·subst e;simp[hq]
    ·simp[e]
   refine⟨?_,?_,by show 2<nx2+1;omega,fun u hu=>?_,mi⟩
   ·simp only[ZaF];rw[if_neg (by omega),if_neg (by omega),if_neg (by omega)];exact mt
   ·simp only[ZaF,if_true];rw[← hset]
   ·refine(mc u hu).imp (fun h=>h) fun⟨i,w,g1,g2,g3,g4⟩=>⟨i,w,g1,g2,by show i<nx2+1;omega,?_⟩
    simp only[ZaF]
    rw[if_neg (by omega),if_neg (by omega),if_neg (by omega)]
    exact g4
 obtain rfl:k=t.cl.length:=by omega
 have hfin:=KnAt.fz (nx:=nx2) (c:=c) ⟨mt,mr,ml,mc,mi⟩ 4
 refine aGoM (cj3 Zr h1 mr) ?_
 exact congrArg D.sl hfin
theorem ZiT{e:EvD}{i:Nat}(h:i<e.mv.length):e.mv[i]? =some (mvAt e i):=by unfold mvAt;rw[Ya0 h];rfl
theorem ZFu(e:EvD)(R:Zjl e)(i:Nat)(hi:i<e.mv.length):Zaa Tryz.prog 36 [Zfd e,dI i] (dB (ZcD e i)):=by
 have Zr:=Tryz.results36
 have hx:=ZiT hi
 obtain⟨f0,f1⟩:=(R.mv _ (ZkE hi)).f
 obtain⟨p,hp⟩:∃ p,e.pl[(mvAt e i).f.toNat]? =some p:=⟨_,Ya0 (by omega)⟩
 rw[show ZcD e i=(p.k==0) by unfold ZcD;rw[ZjN hp]]
 generalize mvAt e i=x at *
 have h0:(0:Int)≤i:=by omega
 refine inN Tryz.func36 rfl Tryz.ntmps36 fun I=>?_
 exact aGo (cj4 Zr hx hp (cj2 f0 h0)) trivial
theorem ZDv(n:Nat)(c:Nat→Rat):(ZaS (n+1) c).map cT=(ZaS n c).map cT++(if c n=0 then []else [cT ⟨(n:Int),ofQ (c n)⟩]):=by
 rw[Zcp,List.map_append]
 by_cases h:c n=0
 ·rw[if_pos h,if_pos h];rfl
 ·rw[if_neg h,if_neg h];rfl
theorem ZvE(e:EvD)(R:Zjl e)(i:Nat)(hi:i<e.mv.length):Zaa Tryz.prog 86 [Zfd e,dI i] (encW (ZcN e i)):=by
 have Zr:=Tryz.results86
 have hx:=ZiT hi
 have k0:=nZ_c
 have k1:=nO_c
 have k2:=ZiS (-1) (by decide) (by decide)
 rw[show(((-1:Int)):Rat) = -1 from rfl]at k2
 have h0:(0:Int)≤i:=by omega
 have hl:(i:Int)≤e.mv.length:=by omega
 obtain⟨x,ex⟩:∃ x,mvAt e i=x:=⟨_,rfl⟩
 rw[ex]at hx
 obtain⟨kd,hkd⟩:∃ kd:Int,(if x.a then(2:Int)else 0)=kd:=⟨_,rfl⟩
 have hw0:ZcN e i=⟨ZaS (i+1) (stC e i),kd,ofQ 0⟩:=by unfold ZcN;rw[ex,hkd]
 rw[hw0]
 cases ha:x.a
 all_goals
  rw[ha]at hkd
  simp at hkd
  refine inN Tryz.func86 rfl Tryz.ntmps86 fun I=>?_
  refine aGo (cj4 Zr hx h0 (cj2 hl ha)) ?_
  repeat with_reducible intro K hK
  refine aLe (ZdH 3 0 0 151 5 rfl rfl rfl) ?_
  simp only[go_sem]
  obtain⟨F,hF⟩:∃ F:Nat→List (List D),F=fun k=>(ZaS k (stC e i)).map cT:=⟨_,rfl⟩
  obtain⟨V,hV⟩:∃ V:Nat→Nat,V=fun k=>(ZaS k (stC e i)).length:=⟨_,rfl⟩
  have F0:F 0=[]:=by rw[hF];rfl
  have V0:V 0=0:=by rw[hV];rfl
  have Fo:∀ k keep,∀ x∈F k,okDs keep x=true:=fun k keep x hx=>by
   rw[hF]at hx
   obtain⟨u,_,rfl⟩:=Yc6.1 hx
   rfl
  have hmin:min i e.mv.length=i:=by omega
  have FV:∀ k,(F k).length=V k:=fun k=>by rw[hF,hV];simp
  have Vk:∀ k,V k≤k:=fun k=>by rw[hV];exact Zej _ _
  have Lm:=R.lm
  refine Zas (fun(k:Nat)=>[(1,dI i),(2,.lp 0 0 0 0),(4,.lp 1 0 0 0),(5,.lp 2 0 0 0),(6,.lp 3 0 0 0),(22,.sl ((e.mv.take i).map cMv)),(23,dI i),(24,dI k)]) (fun k=>[(0,⟨28,0,8,[cEv e],0,false⟩),(1,⟨153,0,6,[[.nil,dI 0,dI 0,.nil,dI 0,.nil]],0,false⟩),(2,⟨90,0,6,[cMv x],0,false⟩),(3,⟨153,0,6,[.ls 4 (V k) ::dI kd ::cF (ofQ 0)],0,false⟩),(4,⟨151,V k,5,F k,0,false⟩)]) 5 0 (fun k=>k≤i) (fun k=>i-k) 0 (by omega) ?_ ?_
  ·refine Zak _ _ _ ?_ ?_ ?_ ?_ ?_ (.inl rfl)<;>simp[go_sem,okD,okDs,Zav,F0,V0,ha,hkd,hmin]
  rintro k hk
  obtain⟨hw,z0⟩:=ZaO k
  have fv:=FV k
  have vk:=Vk k
  have fo:=Fo k
  have eF:F (k+1)=F k++(if stC e i k=0 then []else [cT ⟨(k:Int),ofQ (stC e i k)⟩]):=by rw[hF];exact ZDv k _
  have eV:V (k+1)=V k+(if stC e i k=0 then 0 else 1):=by
   rw[← FV,← FV,eF]
   by_cases h:stC e i k=0
   ·rw[if_pos h,if_pos h];simp
   ·rw[if_neg h,if_neg h];simp
  by_cases h1:(k:Int)<i
  ·have hy:=ZiT (e:=e) (i:=k) (by omega)
   have hyt:(e.mv.take i)[k]? =some (mvAt e k):=by rw[List.getElem?_take,if_pos (by omega)];exact hy
   have es:stC e i k=if (mvAt e k).t=x.f then 1 else if (mvAt e k).f=x.f then -1 else 0:=by unfold stC;rw[if_pos (by omega),ex]
   generalize mvAt e k=y at hy hyt es
   cases h2:(x.f==y.t)
   rotate_left
   ·have h2':y.t=x.f:=by simpa using Eq.symm (by simpa using h2)
    rw[if_pos h2']at es
    rw[es,if_neg (by decide)]at eF eV
    refine aGo (cj4 Zr z0 h1 (cj4 hyt hw h2 fv)) ?_
    repeat with_reducible intro K hK
    exact Zad (k+1) (by omega) (by omega) (by refine Zak _ _ _ ?_ ?_ ?_ ?_ ?_ (.inl rfl)<;>simp[go_sem,okD,okDs,Zav,eF,eV]<;>(rintro e (h|rfl);exact fo _ _ h;rfl))
   have h2':¬ y.t=x.f:=by simp at h2;exact fun h=>h2 h.symm
   rw[if_neg h2']at es
   cases h3:(x.f==y.f)
   rotate_left
   ·have h3':y.f=x.f:=by simpa using Eq.symm (by simpa using h3)
    rw[if_pos h3']at es
    rw[es,if_neg (by decide)]at eF eV
    refine aGo (cj4 Zr z0 h1 (cj4 hyt hw h2 (cj2 h3 fv))) ?_
    repeat with_reducible intro K hK
    exact Zad (k+1) (by omega) (by omega) (by refine Zak _ _ _ ?_ ?_ ?_ ?_ ?_ (.inl rfl)<;>simp[go_sem,okD,okDs,Zav,eF,eV]<;>(rintro e (h|rfl);exact fo _ _ h;rfl))
   have h3':¬ y.f=x.f:=by simp at h3;exact fun h=>h3 h.symm
   rw[if_neg h3']at es
   rw[es,if_pos rfl]at eF eV
   refine aGo (cj4 Zr z0 h1 (cj4 hyt hw h2 h3)) ?_
   repeat with_reducible intro K hK
   exact Zad (k+1) (by omega) (by omega) (by refine Zak _ _ _ ?_ ?_ ?_ ?_ ?_ (.inl rfl)<;>simp[go_sem,okD,okDs,Zav,eF,eV]<;>exact fo _)
  ·obtain rfl:k=i:=by omega
   have es:stC e k k = -1:=by unfold stC;rw[if_neg (by omega)]
   rw[es,if_neg (by decide)]at eF
   have e9:∀ M:Mem,List.map (List.map (fzT true M 6)) (F k++[D.v (.int .i64 (k:Int)) ::cF (ofQ (-1))])=(ZaS (k+1) (stC e k)).map cT:=fun M=>by
    rw[show F k++[D.v (.int .i64 (k:Int)) ::cF (ofQ (-1))]=F (k+1)from eF.symm,hF]
    exact Zao (fun _=>rfl) _
   refine aGo (cj3 Zr h1 fv) ?_
   repeat with_reducible intro K hK
   rw[e9]
section ifl
variable [Ifl]
def ZuH(ops:Array Oper)(l:List Oper)(o:Oper):Bool :=
 o.guard.isNone&&(List.range l.length).all (fun j=>(Zc3 ops l.length).contains j)&&l.all fun p=>match p.guard with
  | none=>true
  | some (g,_)=>decide (g<l.length)
section
variable {P:Program} {l:List Oper} {o:Oper}
theorem Zkz{i:Nat}(h:i<l.length):((l++[o]).toArray)[i]? =(l.toArray)[i]?:=by
 simp only[List.getElem?_toArray]
 exact Yc3 h
theorem Zk5:((l++[o]).toArray)[l.length]? =some o:=by simp
theorem ZfW{listed:Array Bool}{i:Nat}(h:i<listed.size):(listed.push false)[i]? =listed[i]?:=by
 rw[Array.getElem?_push,if_neg (by omega)]
theorem Zln{listed:Array Bool}{i:Nat}{d:Bool}(h:i<listed.size):(listed.push false).getD i d=listed.getD i d:=by
 rw[Array.getD_eq_getD_getElem?,Array.getD_eq_getD_getElem?,ZfW h]
theorem Zo6{ops:Array Oper}{listed:Array Bool}(ok:Zqd ops)(hs:listed.size=ops.size)(h:Region.ready .any ops listed=[]):∀ i,i<ops.size→listed[i]? =some true:=by
 intro i
 induction i using Nat.strongRecOn with
 | ind i ih =>
   intro hi
   cases hl:listed.getD i true with
   | true=>exact(ZbC (by omega)).1 hl
   | false =>
     exfalso
     have:i∈Region.ready .any ops listed:=by
      refine mem_ready.2 ⟨hl,ops[i],Yb5 hi,fun e he hb=>?_⟩
      have hlt:=ok.back i _ (Yb5 hi) e he hb
      exact(ZbC (by omega)).2 (ih e.on hlt (by omega))
     rw[h]at this
     cases this
theorem Zo7{ops:Array Oper}{listed:Array Bool}(hs:listed.size=ops.size)(h:∀ i,i<ops.size→listed[i]? =some true):Region.ready .any ops listed=[]:=by
 apply List.eq_nil_iff_forall_not_mem.2
 intro i hi
 obtain⟨h1,p,hp,_⟩:=mem_ready.1 hi
 have hio:=(Ya5.1 hp).1
 have:=(ZbC (d:=true) (show i<listed.size by omega)).2 (h i hio)
 rw[this]at h1
 cases h1
end
section
variable {P:Program} {n:Nat} {Q:Exit→St→Prop} {s:St}
theorem ZvK{L:List Oper}{k:Nat}(hk:L.length=k+1){o:Oper}(ho:L[k]? =some o):L.take k++[o]=L:=by
 have hlt:k<L.length:=by omega
 rw[Ya0 hlt]at ho
 cases ho
 rw[List.take_append_getElem]
 exact Ya8 (by omega)
end
end ifl
section ifl
variable [Ifl]
def Zl3(E:Env)(T:Bet→Mem→World→Prop):Prop:=∀ β m w β' m' w',Zbf β m w β' m' w'→ZaA (safe E β m) w (safe E β' m') w'→T β m w→T β' m' w'
def AWR(P:Program)(n:Nat)(c:Code)(Q:Exit→St→Prop)(s:St):Prop :=
 ∀ (l:Nat)(E:Env)(T:Bet→Mem→World→Prop),Zl3 E T→∀ B β a w,RelA E B n β s a w→T β s.m w→c.wpIn (Fence.wide.inRound l) 0 P (fun e a' w'=>∃ s' β',RelA E B n β' s' a' w'∧T β' s'.m w'∧Q e s') a w
section
variable {P:Program} {n:Nat} {Q:Exit→St→Prop} {s:St}
theorem rSkip(h:Q .normal s):AWR P n .skip Q s:=fun l E T hT B β a w hr ht=>wpIn_skip ⟨s,β,hr,ht,h⟩
theorem rExit{id:Nat}(h:Q (.exit id) s):AWR P n (.exit id) Q s:=fun l E T hT B β a w hr ht=>wpIn_exit ⟨s,β,hr,ht,h⟩
theorem rSeq{x y:Code}(h:∀ K:St→Prop,(∀ s,AWR P n y Q s→K s)→AWR P n x (ZtR K Q) s):AWR P n (.seq x y) Q s:=by
 intro l E T hT B β a w hr ht
 refine wpIn_seq (wpIn_mono (h _ (fun _ h=>h) l E T hT B β a w hr ht) ?_)
 rintro e a' w' ⟨s',β',h1,ht',h2⟩
 cases e with
 | normal=>exact h2 l E T hT B β' a' w' h1 ht'
 | _=>exact⟨s',β',h1,ht',h2⟩
theorem ZEt{id:Nat}{c:Code}(h:AWR P n c (Zhn id Q) s):AWR P n (.block id c) Q s:=by
 intro l E T hT B β a w hr ht
 refine wpIn_block (wpIn_mono (h l E T hT B β a w hr ht) ?_)
 rintro e a' w' ⟨s',β',h1,ht',h2⟩
 cases e with
 | exit id' =>
   simp only[Exit.inBlock,Zhn]at h2 ⊢
   split
   ·rename_i he;rw[if_pos he]at h2;exact⟨s',β',h1,ht',h2⟩
   ·rename_i he;rw[if_neg he]at h2;exact⟨s',β',h1,ht',h2⟩
 | _=>exact⟨s',β',h1,ht',h2⟩
theorem ZEs{c:Operand}{x y:Code}{b:Bool}(hf:Zd8 n c=true)(hc:rd s.t c = .v (.bool b))(h1:b=true→AWR P n x Q s)(h2:b=false→AWR P n y Q s):AWR P n (.cond c x y) Q s:=by
 intro l E T hT B β a w hr ht
 have hv:Rep β s.m (safe E β s.m) w (a.eval c) (rd s.t c):=ZiH fun k hk=>hr.tmp k (by rw[hk]at hf;simpa[Zd8]using hf)
 rw[hc]at hv
 refine wpIn_cond_split hv.inv_v (fun hb=>h1 hb l E T hT B β a w hr ht) (fun hb=>h2 hb l E T hT B β a w hr ht)
theorem ZEq{c:Operand}{x y:Code}(hf:Zd8 n c=true)(hc:rd s.t c = .v (.bool true))(h:AWR P n x Q s):AWR P n (.cond c x y) Q s:=ZEs hf hc (fun _=>h) (fun e=>by cases e)
theorem ZEr{c:Operand}{x y:Code}(hf:Zd8 n c=true)(hc:rd s.t c = .v (.bool false))(h:AWR P n y Q s):AWR P n (.cond c x y) Q s:=ZEs hf hc (fun e=>by cases e) (fun _=>h)
end
section
variable {P:Program} {E:Env} {B:Base} {n:Nat} {β:Bet} {s:St} {a:Act} {w:World} {T:Bet→Mem→World→Prop}
theorem RelA.putT(hT:Zl3 E T)(h:RelA E B n β s a w)(ht:T β s.m w){dst:Option Tmp}{m':Mem}{nx':Nat}{v:Value}{d:D}{w':World}(ha:Zb3 E β s.m nx' w m' v d w') :
 ∃ β',RelA E B n β' {s with t:=putT s.t dst d,m:=m',nx:=nx'} (a.put dst v) w'∧T β' m' w':=by
 obtain⟨β',h1,h2,h3,h4⟩:=ha
 refine⟨β',⟨h1,fun k hk=>?_,?_,?_,h.le.trans h2,h.sle.trans h3,h.lo⟩,hT _ _ _ _ _ _ h2 h3 ht⟩
 ·rw[eval_put (by rw[h.width];exact hk)]
  cases dst with
  | none=>rw[if_neg (by simp)];exact(h.tmp k hk).mono h2 h3
  | some j =>
    by_cases e:j=k
    ·subst e;rw[if_pos rfl];simp only[Go.Proofs.YtjeaacindikplaaGreat.putT,Zae];exact h4
    ·rw[if_neg (by simpa using e)]
     simp only[Go.Proofs.YtjeaacindikplaaGreat.putT,Zac _ _ (Ne.symm e)]
     exact(h.tmp k hk).mono h2 h3
 ·cases dst<;>simp[Act.put,h.width]
 ·rw[Zhg];exact h.defers.le h2
theorem ZCx(l:Nat)(hT:Zl3 E T){o:Oper}{K:St→Prop}{K':Act→World→Prop}{Q:Exit→Act→World→Prop}(hf:Za9 n o=true)(h:RelA E B n β s a w)(ht:T β s.m w)(hA:opA P o s K)
 (hK:∀ s' β' a' w',RelA E B n β' s' a' w'→T β' s'.m w'→K s'→K' a' w'):o.wpIn (Fence.wide.inRound l) 0 P a w K' Q:=by
 refine⟨fun _ _=>trivial,?_⟩
 unfold opA at hA
 have hop:=Zlu hf h
 split at hA
 ·rename_i r hr
  obtain⟨h1,h2,h3⟩:=hA
  have hnd:∀ c,o.op ≠ .defer c:=fun c e=>by rw[e]at hr;simp[opF]at hr
  have hM:ZaU E β s.m (s.nx+r.new.length) w:=h.mem.mono_nx (Nat.le_add_right _ _)
  obtain⟨v,nn,w',g1,g2,g3⟩:=ZqR hr h1 hM (fun i hi=>by
   rcases h2 with h2|h2
   ·rw[h2]at hi;simp at hi
   ·rw[h2]at hi ⊢
    simp at hi
    subst hi
    exact⟨h.mem.none,by simp⟩) hop
  rw[show(Fence.wide.inRound l).round=some l from rfl,Oper.semAt_some l _ _ hnd,g1]
  obtain⟨β',h4,h5⟩:=h.putT hT ht (dst:=o.dst) g3
  have:=hK _ β' _ _ h4 h5 h3
  rcases g2 with rfl|⟨rfl,rfl⟩
  ·exact this
  ·exact this
 ·split at hA
  ·rename_i f ds hc
   obtain⟨hb,hA⟩:=hA
   have hnd:∀ c,o.op ≠ .defer c:=fun c e=>by rw[e]at hc;simp[Zg2]at hc
   obtain⟨vs,h1,h2⟩:=ZhA (P:=P) hc hb hop
   rw[show(Fence.wide.inRound l).round=some l from rfl,Oper.semAt_some l _ _ hnd,h2,Oper.uponIn_enter]
   refine⟨fun e=>(by cases e),?_⟩
   refine(CallsIn.inRound l (callsIn_wide.2 (hA E β w vs h.mem h1))).mono ?_
   rintro e w' ⟨v,d,m',nx',rfl,ha,hk⟩
   obtain⟨β',h4,h5⟩:=h.putT hT ht (dst:=o.dst) ha
   exact hK _ β' _ _ h4 h5 hk
  ·exact hA.elim
theorem Znx(l:Nat)(hT:Zl3 E T){ops:Array Oper}{K:St→Prop}{Q:Exit→Act→World→Prop}(hall:ops.all (Za9 n)=true)(hQ:∀ s' β' a' w',RelA E B n β' s' a' w'→T β' s'.m w'→K s'→Q .normal a' w') :
 ∀ (L:List Oper)(s:St)(β:Bet)(a:Act)(w:World),L.all (Za9 n)=true→RelA E B n β s a w→T β s.m w→opsA P ops L s K→wpListIn (Fence.wide.inRound l) 0 P ops Q L a w
 | [],s,β,a,w,_,h,ht,hA=>hQ s β a w h ht hA
 | o ::rest,s,β,a,w,hl,h,ht,hA=>by
   rw[List.all_cons,Ya2]at hl
   unfold opsA at hA
   split at hA
   ·rename_i g hg
    have hw:=Zn4 hg (Zpx hall hl.1 h)
    unfold wpListIn
    rw[hw]
    cases g with
    | true =>
      rw[if_pos rfl]
      exact ZCx l hT hl.1 h ht (hA.1 rfl) fun s' β' a' w' h' ht' hk=>Znx l hT hall hQ rest s' β' a' w' hl.2 h' ht' hk
    | false =>
      rw[if_neg (by simp)]
      have ha:=Zb3.same h.mem (Rep.inv_undef:Rep β s.m (safe E β s.m) w undef (.v undef))
      obtain⟨β',h',ht'⟩:=h.putT hT ht (dst:=o.dst) ha
      exact⟨fun _ _=>trivial,Znx l hT hall hQ rest _ β' _ w hl.2 h' ht' (hA.2 rfl)⟩
   ·exact hA.elim
end
theorem rOps{P:Program}{n:Nat}{Q:Exit→St→Prop}{s:St}{id:Nat}{L:List Oper}(ds:List (Option Tmp))(hds:L.map (·.dst)=ds)(hf:L.toArray.all (Za9 n)=true)(h:opsL P ds (L.map ZhF) s (Q .normal)):AWR P n (.region id L.toArray false) Q s:=by
 intro l E T hT B β a w hr ht
 have h:=ZdN (ops:=L.toArray) L s (by subst hds;exact h)
 refine wpIn_region_lit (Znx l hT hf (fun s' β' a' w' h1 h2 h3=>⟨s',β',h1,h2,h3⟩) L s β a w ?_ hr ht h)
 rw[← hf];simp
end ifl
end Go.Proofs.YtjeaacindikplaaGreat
