/-
  Small systems; Solution; the law SimplexProves.
-/
import Derived.Test.YtjeaacindikplaaGreatWLib
import Derived.Test.YtjeaacindikplaaGreatWT05
import Derived.Test.YtjeaacindikplaaGreatWT04
import Derived.Test.YtjeaacindikplaaGreatWT01
import Derived.Test.YtjeaacindikplaaGreatWT02
import Derived.Test.YtjeaacindikplaaGreatWT03
namespace Go.Proofs.YtjeaacindikplaaGreat
set_option linter.unusedVariables false
set_option linter.unusedSimpArgs false
set_option linter.unusedSectionVars false
open Go Go.RowKit
set_option maxRecDepth 100000
set_option maxHeartbeats 8000000
theorem ZBb(g:Int→Rat){B C:Nat}(hg:∀ v,szQ (g v)≤B):∀ l:List TermD,(∀ t∈l,okF t.f=true∧szF t.f≤C)→szQ (dotS g l)≤1+l.length*(B+C+1)
 | [],_=>by have:=sz_0;simp only[dotS,List.length_nil];omega
 | t ::l,h=>by
   have ih:=ZBb g hg l fun u hu=>h u (Yb6 _ hu)
   obtain⟨h1,h2⟩:=h t Yb7
   simp only[dotS,List.length_cons]
   have a:=Zgp (qOf t.f) (g t.v)
   rw[Zch h1]at a
   have b:=Zfb (qOf t.f*g t.v) (dotS g l)
   have c:=hg t.v
   rw[Nat.add_mul,Nat.one_mul]
   omega
section
variable {s:SysD} {goal:List TermD} {B T:Nat}
theorem ZyC(h:Fit s goal B T)(hr:Zax s=true)(hg:Zah goal s.n=true):szF (ZbX goal (Zaj s.n.toNat (Za4 (fin s goal) (fin s goal).m))).1≤1+goal.length*(Dic.grow B T+B+1):=by
 unfold ZbX
 split
 ·have hb:∀ v,szQ (atP (Zaj s.n.toNat (Za4 (fin s goal) (fin s goal).m)) v)≤Dic.grow B T:=by
   intro v
   unfold atP
   cases hx:(Zaj s.n.toNat (Za4 (fin s goal) (fin s goal).m))[v.toNat]? with
   | none =>
     have h1:szQ (qOf zF)≤1:=by decide +kernel
     have h2:=h.b
     have h3:=ZlK B T
     simp only[Option.getD_none];omega
   | some f =>
     obtain⟨u,_,rfl⟩:=Zi2 (ZaI hx)
     simp only[Option.getD_some,Zav]
     exact Zhf h hr hg _ (Ya4 _) u
  have:=ZBb _ hb goal fun t ht=>⟨(Za7 hg ht).2.2.1,h.g.2 t ht⟩
  rw[← Zcv]at this
  simp only[Zfa]
  exact this
 ·exact Yb0 _
theorem fin_g(h:Fit s goal B T)(hr:Zax s=true)(hg:Zah goal s.n=true):∀ j,j<(fin s goal).n→szQ ((fin s goal).g j)≤Dic.grow B T:=(ZcV h hr hg).g
theorem Zw7(h:Fit s goal B T)(hN:(s.n.toNat+1)*(Dic.grow B T+B+1)≤262144)(hL:(goal.length+1)*(Dic.grow B T+B+1)≤262144)(hr:Zax s=true)(hg:Zah goal s.n=true):tnO (ZaH s goal):=by
 have hn:=h.n hr
 have hn0:=(Zb9 hr).1
 have hl:=h.l
 have hG:=h.gl
 have nil:tnFs []:=⟨by decide,fun t ht=>by cases ht⟩
 have z:tnF zF:=by show(szF zF:Int)≤262144;decide
 have hf0:=h.nil
 have hg0:Zah [] s.n=true:=by simp only[Zah,Ya2,decide_eq_true_eq];exact⟨hn0,rfl⟩
 unfold ZaH
 have ref:∀ g,Fit s g B T→Zah g s.n=true→∀ r,r<(fin s g).m→tnFs (Zaj s.r.length (refK (fin s g) (ZbE s g) r s.n.toNat)):=by
  intro g hg1 hg2 r hrm
  refine ZfN (by omega) fun u=>?_
  have:=Zsi (fin s g) (ZbE s g) r (B:=Dic.grow B T) (by have:=h.b;have:=ZlK B T;omega) (fun j hj=>(ZcV hg1 hr hg2).a r j hrm hj) s.n.toNat (by rw[ZcO];exact Ya4 _) u
  have hm:=Nat.mul_le_mul_left (s.n.toNat+1) (show Dic.grow B T+1+1≤Dic.grow B T+B+1 by have:=h.b;omega)
  rw[Nat.mul_succ]at hm
  omega
 cases hnx:next (fin s goal)with
 | ex r c=>exact⟨z,nil,nil,nil⟩
 | best =>
   have hv:(szF (ZbX goal (Zaj s.n.toNat (Za4 (fin s goal) (fin s goal).m))).1:Int)≤262144:=by have:=ZyC h hr hg;rw[Nat.add_mul]at hL;omega
   refine⟨hv,ZfN (by omega) fun u=>by have:=Zhf h hr hg _ (Ya4 _) u;omega,ZfN (by omega) fun u=>?_,nil⟩
   have:=ZiI (fin s goal) (ZbE s goal) (B:=Dic.grow B T) (fin_g h hr hg) s.n.toNat (by rw[ZcO];exact Ya4 _) u
   have hm:=Nat.mul_le_mul_left (s.n.toNat+1) (show Dic.grow B T+1+1≤Dic.grow B T+B+1 by have:=h.b;omega)
   rw[Nat.mul_succ,Nat.add_mul,Nat.one_mul]at hm
   omega
 | row r=>exact⟨z,nil,ref goal h hg r (ZfT hnx).1,nil⟩
 | col c =>
   have hc:=(Ziq hnx).1
   have hray:tnFs (Zaj s.n.toNat (rayK (fin s goal) c (fin s goal).m)):=ZfN (by omega) fun u=>by have:=ZAK h hr hg hc _ (Ya4 _) u;omega
   have hpt:tnFs (Zaj s.n.toNat (Za4 (fin s []) (fin s []).m)):=ZfN (by omega) fun u=>by have:=Zhf hf0 hr hg0 _ (Ya4 _) u;omega
   simp only
   cases hnE:next (fin s [])with
   | ex r c=>exact⟨z,hpt,nil,hray⟩
   | best=>exact⟨z,hpt,nil,hray⟩
   | col c=>exact⟨z,hpt,nil,hray⟩
   | row r=>exact⟨z,nil,ref [] hf0 hg0 r (ZfT hnE).1,nil⟩
end
def oppT(goal:List TermD):List TermD:=Zf8 goal (ofQ ((-1:Int):Rat))
structure BdD where
 l:FracD
 h:FracD
 lo:Bool
 hi:Bool
theorem ZqW:szF (ofQ ((-1:Int):Rat))≤1∧okF (ofQ ((-1:Int):Rat))=true∧(sgnD (ofQ ((-1:Int):Rat)) !=0)=true∧qOf (ofQ ((-1:Int):Rat)) = -1 :=
 ⟨by decide +kernel,by decide +kernel,by decide +kernel,by rw[Zav];rfl⟩
theorem Zdj{goal:List TermD}{n:Int}(h:Zah goal n=true):Zah (oppT goal) n=true:=Zo8 h
theorem ZqS{goal:List TermD}{n:Int}(h:Zah goal n=true)(hn:n≤1500)(g:Int→Rat):dotS g (oppT goal) = -(dotS g goal):=by
 unfold oppT
 rw[ZtJ (Zc3 (n':=1500) hn h) ZqW.2.1,ZqW.2.2.2];grind
theorem ZD7(goal:List TermD){B:Nat}(hz:∀ t∈goal,szF t.f≤B):(oppT goal).length≤goal.length∧∀ t∈oppT goal,szF t.f≤B:=by
 unfold oppT Zf8
 split
 ·rename_i h
  simp only[Ya2]at h
  refine⟨by simp,fun t ht=>?_⟩
  obtain⟨u,hu,rfl⟩:=List.mem_map.1 ht
  show szF (ofQ _)≤_
  rw[ZqW.2.2.2,show qOf u.f * -1 = -(qOf u.f) by grind,Zfa,Zde,Zch (Za7 h.1 hu).2.2.1]
  exact hz u hu
 ·exact⟨by simp,fun t ht=>by simp at ht⟩
theorem Fit.opp{s:SysD}{goal:List TermD}{B T:Nat}(h:Fit s goal B T):Fit s (oppT goal) B T:=by
 obtain⟨z1,z2⟩:=ZD7 goal h.g.2
 exact⟨h.l,h.n,h.t,h.w,⟨by have:=h.g.1;omega,z2⟩,h.b,h.gl⟩
structure BdOk (s:SysD) (goal:List TermD) (b:BdD):Prop where
 lo:b.lo=true→∃ q x,b.l=ofQ q∧Zal s x=true∧dotD goal x=q∧∀ z,Zal s z=true→q≤dotD goal z
 nl:b.lo=false→b.l=zF∧∀ q:Rat,∃ x,Zal s x=true∧dotD goal x≤q
 hi:b.hi=true→∃ q x,b.h=ofQ q∧Zal s x=true∧dotD goal x=q∧∀ z,Zal s z=true→dotD goal z≤q
 nh:b.hi=false→b.h=zF∧∀ q:Rat,∃ x,Zal s x=true∧q≤dotD goal x
theorem ZBV{s:SysD}{goal:List TermD}{x d:List FracD}(hx:Zal s x=true)(hd:rayD s goal d=true)(q:Rat):∃ z,Zal s z=true∧dotD goal z≤q:=by
 have hneg:=(Zhd.1 hd).2.2.2.2.2.2
 rw[Ze1]at hneg
 by_cases hq:dotD goal x≤q
 ·exact⟨x,hx,hq⟩
 ·obtain⟨_,ln,_,_,_⟩:=Za2.1 hx
  obtain⟨_,_,ld,_⟩:=Zhd.1 hd
  have hp:0 < -dotD goal d:=by grind
  have hk:0≤(dotD goal x-q) / (-dotD goal d):=by
   rw[Rat.div_def]
   exact Rat.mul_nonneg (by grind) (Rat.le_of_lt (Rat.inv_pos.2 hp))
  refine⟨_,ZkH hx hd hk,?_⟩
  rw[ZxQ (by omega)]
  have h2:(dotD goal x-q) / (-dotD goal d)*dotD goal d = -(dotD goal x-q):=by
   rw[Rat.div_def]
   have:(-dotD goal d)*(-dotD goal d)⁻¹=1:=Rat.mul_inv_cancel _ (by grind)
   grind
  rw[h2]
  grind
theorem ZmV{s:SysD}{goal:List TermD}{A:OptD}(h:Zqb s goal A=true) :
 (A.k=0∧∃ q x,A.v=ofQ q∧Zal s x=true∧dotD goal x=q∧∀ z,Zal s z=true→q≤dotD goal z)∨(A.k=1∧∀ x,Zal s x=false)∨(A.k=2∧∀ q:Rat,∃ x,Zal s x=true∧dotD goal x≤q):=by
 rcases ZeO h with⟨a0,a1,a2,a3,a4,_⟩|⟨a0,a1,_⟩|⟨a0,a1,a2,_⟩
 ·exact .inl ⟨a0,_,_,a3,a2,rfl,fun z hz=>by have:=Zty a1 hz;grind⟩
 ·exact .inr (.inl ⟨a0,fun x=>Zfq a1⟩)
 ·exact .inr (.inr ⟨a0,fun q=>ZBV a1 a2 q⟩)
theorem Zhg{s:SysD}{goal:List TermD}(hs:Zax s=true)(hg:Zah goal s.n=true)(x:List FracD):dotD (oppT goal) x = -(dotD goal x):=by
 rw[Zcv,Zcv,ZqS hg (Zb9 hs).2]
section
variable {s:SysD} {goal:List TermD} (hs:Zax s=true) (hg:Zah goal s.n=true)
include hs hg
end
theorem ZCZ(a b:Rat):0≤cmpD (ofQ a) (ofQ b)↔b≤a:=by
 rw[Zoy]
 rcases Zfl (a-b)with⟨h,e⟩|⟨h,e⟩|⟨h,e⟩<;>rw[e]<;>constructor<;>intro h1<;>grind
noncomputable def solD (s:SysD):List FracD×List FracD×Bool:=if Zax s then(if (ZaH s []).k=1 then([],(ZaH s []).y,false)else((ZaH s []).x,[],true))else([],[],false)
theorem Zjx{s:SysD}(hr:Zax s=true):Zah [] s.n=true:=by
 have:=(Zb9 hr).1
 simp only[Zah,Ya2,decide_eq_true_eq];exact⟨this,rfl⟩
theorem Zmq(s:SysD){B T:Nat}(h:Fit s [] B T):Zaf Tryz.prog 41 [encS s] (.tup [ZaQ (solD s).1,ZaQ (solD s).2.1,dB (solD s).2.2]):=by
 have hres:=Tryz.results41
 have kl:=Zn5 s [] h
 cases hr:Zax s
 ·rw[show ZbV s []=(⟨0,zF,[],[],[]⟩,1) by unfold ZbV;rw[hr];rfl]at kl
  have e1:solD s=([],[],false):=by unfold solD;rw[hr];rfl
  rw[e1]
  refine inC Tryz.func41 rfl Tryz.ntmps41 ?_
  have b1:((1:Int) !=0)=true:=rfl
  refine aGo (cj2 hres b1) ?_
  repeat with_reducible intro K hK
  rfl
 rw[show ZbV s []=(ZaH s [],0) by unfold ZbV;rw[hr,Zjx hr];rfl]at kl
 by_cases h1:(ZaH s []).k=1
 ·have e1:solD s=([],(ZaH s []).y,false):=by unfold solD;rw[hr,if_pos h1];rfl
  rw[e1]
  have e2:((ZaH s []).k==1)=true:=by rw[h1];rfl
  refine inC Tryz.func41 rfl Tryz.ntmps41 ?_
  refine aGo (cj2 hres e2) ?_
  repeat with_reducible intro K hK
  rfl
 ·have e1:solD s=((ZaH s []).x,[],true):=by unfold solD;rw[hr,if_neg h1];rfl
  rw[e1]
  have e2:((ZaH s []).k==1)=false:=by simp[h1]
  refine inC Tryz.func41 rfl Tryz.ntmps41 ?_
  refine aGo (cj2 hres e2) ?_
  repeat with_reducible intro K hK
  rfl
noncomputable def maxO (s:SysD) (g:List TermD):OptD:=(ZbV s (oppT g)).1
noncomputable def maxX (s:SysD) (g:List TermD):List FracD:=if (maxO s g).k=2 then onD 1 (maxO s g).x (maxO s g).d else(maxO s g).x
noncomputable def maxY (s:SysD) (g:List TermD):List FracD:=if (maxO s g).k=2 then []else(maxO s g).y
theorem Zel{s:SysD}{g:List TermD}(hs:Zax s=true)(hg:Zah g s.n=true):maxO s g=ZaH s (oppT g):=by
 unfold maxO ZbV
 rw[hs,Zdj hg];rfl
theorem ZnZ{s:SysD}{g:List TermD}(hs:Zax s=true)(hg:Zah g s.n=true)(hp0:∀ x,Zal s x=true→0≤atG x g) :
 ((∀ x,Zal s x=false)∧maxX s g=[])∨(Zal s (maxX s g)=true∧∀ x,Zal s x=true→0<atG x g→0<atG (maxX s g) g):=by
 have hc:=ZdD hs (Zdj hg)
 unfold maxX
 rw[Zel hs hg]
 rcases ZeO hc with⟨a0,a1,a2,a3,a4,_⟩|⟨a0,a1,a2,_⟩|⟨a0,a1,a2,_⟩
 ·right
  rw[if_neg (by omega)]
  refine⟨a2,fun x hx hp=>?_⟩
  have:=Zty a1 hx
  rw[← a4,Zhg hs hg,Zhg hs hg]at this
  unfold atG at hp ⊢
  grind
 ·left
  rw[if_neg (by omega)]
  exact⟨fun x=>Zfq a1,a2⟩
 ·right
  rw[if_pos a0]
  have hx:=ZkH a1 a2 (show(0:Rat)≤1 by decide)
  refine⟨hx,fun _ _ _=>?_⟩
  obtain⟨_,l1,_⟩:=Za2.1 a1
  have hd:=Zhd.1 a2
  have hneg:=hd.2.2.2.2.2.2
  rw[Ze1,Zhg hs hg]at hneg
  have h0:=hp0 _ a1
  unfold atG at h0 ⊢
  rw[ZxQ (by omega)]
  grind
theorem ZCq{s:SysD}{g:List TermD}(hs:Zax s=true)(hg:Zah g s.n=true)(hx:∃ x,Zal s x=true):((maxX s g).length:Int)=s.n∧okP (maxX s g)=true:=by
 have hc:=ZdD hs (Zdj hg)
 have:Zal s (maxX s g)=true:=by
  unfold maxX
  rw[Zel hs hg]
  rcases ZeO hc with⟨a0,a1,a2,a3,a4,_⟩|⟨a0,a1,a2,_⟩|⟨a0,a1,a2,_⟩
  ·rw[if_neg (by omega)];exact a2
  ·obtain⟨x,hx⟩:=hx
   rw[Zfq a1]at hx;cases hx
  ·rw[if_pos a0];exact ZkH a1 a2 (show(0:Rat)≤1 by decide)
 obtain⟨_,a,b,_⟩:=Za2.1 this
 exact⟨a,b⟩
def posD(g:List TermD)(x:List FracD):Bool:=decide (0<sgnD (ZbX g x).1)
theorem ZkB{g:List TermD}{x:List FracD}{n:Int}(hg:Zah g n=true)(hl:(x.length:Int)=n)(ho:okP x=true):posD g x=true↔0<atG x g:=by
 unfold posD
 rw[Zjl (by rw[hl,hg,ho];rfl),decide_eq_true_eq,ZbN,ZcS];rfl
theorem Zwk{g:List TermD}:posD g []=false:=by
 unfold posD ZbX
 cases h:Zah g (([]:List FracD).length:Nat)&&okP []
 ·rw[if_neg Bool.false_ne_true];decide
 ·rw[if_pos rfl]
  have hg:g=[]:=by
   cases g with
   | nil=>rfl
   | cons t l =>
     exfalso
     simp only[Zah,goR,Ya2,decide_eq_true_eq,List.length_nil]at h
     omega
  subst hg
  simp only[dotD,List.foldl_nil,ZbN]
  decide
def sumG:List (List TermD)→List Bool→List TermD→List TermD
 | g ::l,o ::out,a=>sumG l out (if o then a else ZhF a g)
 | _,_,a=>a
def ZeT(x:List FracD):List (List TermD)→List Bool→Rat
 | g ::l,o ::out=>(if o then 0 else atG x g)+ZeT x l out
 | _,_=>0
theorem Zjp{n:Int}(hn:n≤1500):∀ (l:List (List TermD)) (out:List Bool) (a:List TermD),Zah a n=true→(∀ g∈l,Zah g n=true)→Zah (sumG l out a) n=true
 | [],_,a,ha,_=>ha
 | g ::l,[],a,ha,_=>ha
 | g ::l,o ::out,a,ha,hl=>by
   refine Zjp hn l out _ ?_ fun g hg=>hl g (Yb6 _ hg)
   split
   ·exact ha
   ·exact Zh0 hn ha (hl g Yb7)
theorem Zqu{n:Int}(hn:n≤1500)(x:List FracD):∀ (l:List (List TermD)) (out:List Bool) (a:List TermD),Zah a n=true→(∀ g∈l,Zah g n=true)→atG x (sumG l out a)=atG x a+ZeT x l out
 | [],_,a,ha,_=>by simp only[sumG,ZeT];grind
 | g ::l,[],a,ha,_=>by simp only[sumG,ZeT];grind
 | g ::l,o ::out,a,ha,hl=>by
   have hg:=hl g Yb7
   have hl':∀ g∈l,Zah g n=true:=fun g hg=>hl g (Yb6 _ hg)
   cases o
   ·have hd:atG x (ZhF a g)=atG x a+atG x g:=by
     unfold atG
     rw[Zcv,Zcv,Zcv,Zpo (Zc3 hn ha) (Zc3 hn hg)]
    show atG x (sumG l out (ZhF a g))=_
    rw[Zqu hn x l out _ (Zh0 hn ha hg) hl',hd]
    simp only[ZeT,Bool.false_eq_true,if_false]
    grind
   ·show atG x (sumG l out a)=_
    rw[Zqu hn x l out a ha hl']
    simp only[ZeT,if_true]
    grind
theorem Zh2{x:List FracD}:∀ (l:List (List TermD)) (out:List Bool),(∀ g∈l,0≤atG x g)→0≤ZeT x l out
 | [],_,_=>by simp[ZeT]
 | g ::l,[],_=>by simp[ZeT]
 | g ::l,o ::out,h=>by
   have ih:=Zh2 (x:=x) l out fun g hg=>h g (Yb6 _ hg)
   have:=h g Yb7
   cases o<;>simp only[ZeT,Bool.false_eq_true,if_false,if_true]<;>grind
theorem Zv3{x:List FracD}:∀ (l:List (List TermD)) (out:List Bool),(∀ g∈l,0≤atG x g)→∀ (i:Nat)(g:List TermD),l[i]? =some g→out[i]? =some false→atG x g≤ZeT x l out
 | [],_,_,i,g,hg,_=>by simp at hg
 | u ::l,[],_,i,g,_,ho=>by simp at ho
 | u ::l,o ::out,h,i,g,hg,ho=>by
   have hl:∀ g∈l,0≤atG x g:=fun g hg=>h g (Yb6 _ hg)
   have ih:=Zh2 (x:=x) l out hl
   have hu:=h u Yb7
   cases i with
   | zero =>
     simp only[List.getElem?_cons_zero,Ya1]at hg ho
     subst hg ho
     simp only[ZeT,Bool.false_eq_true,if_false]
     grind
   | succ i =>
     simp only[List.getElem?_cons_succ]at hg ho
     have:=Zv3 (x:=x) l out hl i g hg ho
     cases o<;>simp only[ZeT,Bool.false_eq_true,if_false,if_true]<;>grind
theorem Zo9{x:List FracD}:∀ (l:List (List TermD)) (out:List Bool),(∀ (i:Nat)(g:List TermD),l[i]? =some g→out[i]? =some false→atG x g≤0)→ZeT x l out≤0
 | [],_,_=>by simp[ZeT]
 | g ::l,[],_=>by simp[ZeT]
 | g ::l,o ::out,h=>by
   have ih:=Zo9 (x:=x) l out fun i g hg ho=>h (i+1) g (by simpa using hg) (by simpa using ho)
   cases o
   ·have:=h 0 g rfl rfl
    simp only[ZeT,Bool.false_eq_true,if_false];grind
   ·simp only[ZeT,if_true];grind
def Zfc(x:List FracD)(l:List (List TermD))(out:List Bool):List Bool:=List.zipWith (fun g o=>o||posD g x) l out
def Zkn(x:List FracD)(l:List (List TermD))(out:List Bool):Bool:=(l.zip out).any fun p=> !p.2&&posD p.1 x
def addO(sum:Option (List FracD))(x:List FracD):List FracD:=match sum with
 | none=>x
 | some z=>onD 1 z x
def Zr9(n:Nat)(z:List FracD):List FracD:=z.map fun f=>ofQ (qOf f*(1 / ((n:Rat)+1)))
noncomputable def Zlk (s:SysD) (l:List (List TermD)):Nat→Nat→List Bool→Option (List FracD)→List Bool×List FracD
 | 0,_,out,_=>(out,[])
 | k+1,n,out,sum =>
   if Zkn (maxX s (sumG l out [])) l out then Zlk s l k (n+1) (Zfc (maxX s (sumG l out [])) l out) (some (addO sum (maxX s (sumG l out []))))
   else(out,Zr9 n (addO sum (maxX s (sumG l out []))))
noncomputable def Ze4 (s:SysD) (l:List (List TermD)):List Bool×List FracD:=Zlk s l (l.length+1) 0 (List.replicate l.length false) none
def Zko(out:List Bool):Nat:=out.countP (! ·)
structure OutOk (s:SysD) (l:List (List TermD)) (out:List Bool):Prop where
 len:out.length=l.length
 ok:∀ (i:Nat)(g:List TermD),l[i]? =some g→out[i]? =some true→∃ x,Zal s x=true∧0<atG x g
section
variable {s:SysD} {l:List (List TermD)} (hs:Zax s=true) (hl:∀ g∈l,Zah g s.n=true) (hp:∀ x,Zal s x=true→∀ g∈l,0≤atG x g)
include hs hl hp
theorem Zr0(out:List Bool):((∀ x,Zal s x=false)∧maxX s (sumG l out [])=[])∨(Zal s (maxX s (sumG l out []))=true∧∀ x,Zal s x=true→0<ZeT x l out→0<ZeT (maxX s (sumG l out [])) l out):=by
 have hn:=(Zb9 hs).2
 have h0:Zah [] s.n=true:=Zjx hs
 have e:∀ x,atG x (sumG l out [])=ZeT x l out:=fun x=>by
  rw[Zqu hn x l out [] h0 hl]
  show 0+ZeT x l out=_
  grind
 have:=ZnZ hs (Zjp hn l out [] h0 hl) fun x hx=>by rw[e];exact Zh2 l out (hp x hx)
 simp only[e]at this
 exact this
theorem ZBB{out:List Bool}(h:OutOk s l out):OutOk s l (Zfc (maxX s (sumG l out [])) l out):=by
 refine⟨by unfold Zfc;rw[List.length_zipWith,h.len,Nat.min_self],fun i g hg ho=>?_⟩
 unfold Zfc at ho
 rw[List.getElem?_zipWith,hg]at ho
 cases hi:out[i]? with
 | none=>rw[hi]at ho;cases ho
 | some o =>
   rw[hi]at ho
   simp only[Ya1,Bool.or_eq_true]at ho
   rcases ho with rfl|ho
   ·exact h.ok i g hg hi
   ·rcases Zr0 hs hl hp out with⟨_,e⟩|⟨e,_⟩
    ·rw[e,Zwk]at ho;cases ho
    ·obtain⟨_,a,b,_⟩:=Za2.1 e
     exact⟨_,e,(ZkB (hl g (Ya7 hg)) a b).1 ho⟩
theorem ZCy{out:List Bool}(h:OutOk s l out)(hm:Zkn (maxX s (sumG l out [])) l out=false)(i:Nat)(g:List TermD)(hg:l[i]? =some g):∃ o,out[i]? =some o∧(o=true↔∃ x,Zal s x=true∧0<atG x g):=by
 have hi:i<out.length:=by rw[h.len];exact(Ya3.1 hg).1
 obtain⟨o,ho⟩:∃ o,out[i]? =some o:=⟨_,Ya0 hi⟩
 refine⟨o,ho,?_⟩
 cases o
 ·refine⟨fun e=>(by cases e),?_⟩
  rintro⟨y,hy,hpos⟩
  exfalso
  have hne:∀ (i:Nat)(g:List TermD),l[i]? =some g→out[i]? =some false→posD g (maxX s (sumG l out []))=false:=fun i g hg ho=>by
   have hz:(l.zip out)[i]? =some (g,false):=by rw[List.getElem?_zip_eq_some];exact⟨hg,ho⟩
   have:=(List.any_eq_false.1 hm) _ (Ya7 hz)
   simpa using this
  rcases Zr0 hs hl hp out with⟨e,_⟩|⟨e,e2⟩
  ·rw[e y]at hy;cases hy
  ·obtain⟨_,a,b,_⟩:=Za2.1 e
   have h1:=Zv3 l out (hp y hy) i g hg ho
   have h2:=e2 y hy (by grind)
   have h3:=Zo9 (x:=maxX s (sumG l out [])) l out fun i g hg ho=>by
    have:=mt (ZkB (hl g (Ya7 hg)) a b).2 (by rw[hne i g hg ho];decide)
    grind
   grind
 ·exact⟨fun _=>h.ok i g hg ho,fun _=>rfl⟩
omit hs hl hp in
theorem ZjI{x:List FracD}:∀ (l:List (List TermD)) (out:List Bool),out.length=l.length→Zko (Zfc x l out)≤Zko out∧(Zkn x l out=true→Zko (Zfc x l out)<Zko out)
 | [],[],_=>⟨Ya4 _,fun h=>by cases h⟩
 | [],o ::out,h=>by cases h
 | g ::l,[],h=>by cases h
 | g ::l,o ::out,h=>by
   obtain⟨a,b⟩:=ZjI (x:=x) l out (by simpa using h)
   have e1:Zfc x (g ::l) (o ::out)=(o||posD g x) ::Zfc x l out:=rfl
   have e2:Zkn x (g ::l) (o ::out)=(!o&&posD g x||Zkn x l out):=rfl
   rw[e1,e2]
   unfold Zko at a b ⊢
   cases o<;>cases hp:posD g x<;>simp only[List.countP_cons,Bool.or_true,Bool.or_false,Bool.not_true,Bool.not_false,Bool.false_eq_true,if_false,if_true,Bool.and_self,Bool.and_false,Bool.false_and,Bool.true_and,Bool.false_or,Bool.true_or,Bool.and_true]<;>refine⟨by omega,fun h=>?_⟩<;>first|omega|(have:=b h;omega)
theorem Zlj:∀ (k n:Nat)(out:List Bool) (sum:Option (List FracD)),OutOk s l out→Zko out<k→(Zlk s l k n out sum).1.length=l.length∧∀ (i:Nat)(g:List TermD),l[i]? =some g→∃ o,(Zlk s l k n out sum).1[i]? =some o∧(o=true↔∃ x,Zal s x=true∧0<atG x g)
 | 0,_,_,_,_,h=>by omega
 | k+1,n,out,sum,hO,h=>by
   unfold Zlk
   split
   ·rename_i hm
    have:=(ZjI l out hO.len).2 hm
    exact Zlj k (n+1) _ _ (ZBB hs hl hp hO) (by omega)
   ·rename_i hm
    exact⟨hO.len,fun i g hg=>ZCy hs hl hp hO (by simpa using hm) i g hg⟩
theorem Zpg:(Ze4 s l).1.length=l.length∧∀ (i:Nat)(g:List TermD),l[i]? =some g→∃ o,(Ze4 s l).1[i]? =some o∧(o=true↔∃ x,Zal s x=true∧0<atG x g):=by
 refine Zlj hs hl hp _ _ _ _ ⟨by simp,fun i g _ ho=>?_⟩ ?_
 ·rw[List.getElem?_replicate]at ho
  split at ho<;>cases ho
 ·unfold Zko
  have:=List.countP_le_length (p:=(! ·)) (l:=List.replicate l.length false)
  simp only[List.length_replicate]at this
  omega
end
def ZcG:Nat→(Nat→Nat)→Nat
 | 0,_=>0
 | n+1,f=>ZcG n f+f n
theorem Zjo(f g:Nat→Nat):∀ n,ZcG n (fun i=>f i+g i)=ZcG n f+ZcG n g
 | 0=>rfl
 | n+1=>by simp only[ZcG,Zjo f g n];omega
theorem Zk0{f g:Nat→Nat}:∀ n,(∀ i,i<n→f i≤g i)→ZcG n f≤ZcG n g
 | 0,_=>Ya4 _
 | n+1,h=>by
   have:=Zk0 n fun i hi=>h i (by omega)
   have:=h n (by omega)
   simp only[ZcG];omega
theorem ZkZ:∀ n,ZcG n (fun _=>0)=0
 | 0=>rfl
 | n+1=>by simp only[ZcG,ZkZ n]
theorem Zmm(v:Int):∀ n:Nat,ZcG n (fun i=>if v==(i:Int)then 1 else 0)≤1∧((n:Int)≤v→ZcG n (fun i=>if v==(i:Int)then 1 else 0)=0)
 | 0=>⟨Yb0 _,fun _=>rfl⟩
 | n+1=>by
   obtain⟨a,b⟩:=Zmm v n
   simp only[ZcG]
   by_cases h:v==(n:Int)
   ·have hv:v=n:=by simpa using h
    rw[if_pos h,b (by omega)]
    exact⟨by omega,fun h=>by omega⟩
   ·rw[if_neg h]
    exact⟨by omega,fun h=>by rw[b (by omega)]⟩
theorem ZkI{α:Type}(p:α→Bool)(key:α→Int)(n:Nat):∀ l:List α,ZcG n (fun i=>(l.filter fun x=>p x&&key x==(i:Int)).length)≤l.length
 | []=>by simp only[List.filter_nil,List.length_nil,ZkZ];omega
 | x ::l=>by
   have ih:=ZkI p key n l
   have h1:=(Zmm (key x) n).1
   have h2:ZcG n (fun i=>((x ::l).filter fun x=>p x&&key x==(i:Int)).length)≤ZcG n (fun i=>(l.filter fun x=>p x&&key x==(i:Int)).length+if key x==(i:Int)then 1 else 0):=Zk0 n fun i _=>by
    rw[List.filter_cons]
    cases p x<;>cases key x==(i:Int)<;>simp
   rw[Zjo]at h2
   simp only[List.length_cons]
   omega
def Zds(t:TrD):TrD:={t with fi:=[]}
def Zau(e:EvD):List Nat:=(List.range e.mv.length).filter (ZbK e)
def Zga(e:EvD)(lift:Nat):List RowD:=((Zau e).filter fun i=>i !=lift).map fun i=>oneR i 2 (ofQ 0)
def ZaG(t:TrD)(kind:Int)(lift:Nat):SysD:=⟨t.e.mv.length,ZbS (Zds t) kind t.e.mv.length++Zga t.e lift⟩
theorem ZgG{e:EvD}{i:Nat}:i∈Zau e↔i<e.mv.length∧ZbK e i=true:=by simp[Zau]
theorem Zo5(t:TrD)(kind:Int):∀ n,(ZbS t kind n).length≤2*n+ZcG n (fun i=>(finK t kind i).length+cleK t kind i)
 | 0=>by simp[ZbS]
 | n+1=>by
   have ih:=Zo5 t kind n
   have h1:(if ZbK t.e n=true then []else [ZcR t.e n]).length≤1:=by split<;>simp
   have h2:(if (hiI t.e (mvAt t.e n)).2=true then [oneR n 1 (hiI t.e (mvAt t.e n)).1]else []).length≤1:=by split<;>simp
   simp only[ZbS,ZhD,List.length_append,List.length_map,List.length_replicate,ZcG]
   omega
theorem Zlc{t:TrD}{kind:Int}{n:Int}{i:Nat}(hi:(i:Int)<n){w:RowD}(hw:w∈ZhD t kind i):Zdw n w=true:=by
 rcases ZdT.1 hw with⟨_,rfl⟩|⟨hc,rfl⟩|⟨g,_,rfl⟩|⟨_,rfl⟩
 ·exact Zqw hi
 ·exact ZgB hi (by decide) (by decide) (ZEq _ _ hc)
 ·exact ZgB hi (by decide) (by decide) (Zbw _)
 ·exact ZgB hi (by decide) (by decide) (Zbw _)
theorem Zg9(t:TrD)(kind:Int):(ZbS t kind t.e.mv.length).length≤2*t.e.mv.length+t.fi.length+t.cl.length:=by
 have h:=Zo5 t kind t.e.mv.length
 rw[Zjo]at h
 have h1:ZcG t.e.mv.length (fun i=>(finK t kind i).length)≤t.fi.length:=by
  have:=ZkI (fun f:FiD=>f.k==kind) FiD.v t.e.mv.length t.fi
  simpa only[finK,List.length_map]using this
 have h2:ZcG t.e.mv.length (cleK t kind)≤t.cl.length:=ZkI (fun f:ClD=>f.k==kind) ClD.v t.e.mv.length t.cl
 omega
theorem Zft(e:EvD):(Zau e).length≤e.mv.length:=by
 have:=Yb1 (ZbK e) (List.range e.mv.length)
 simpa[Zau]using this
theorem Zpp(e:EvD)(lift:Nat):(Zga e lift).length≤e.mv.length:=by
 have:=Yb1 (fun i=>i !=lift) (Zau e)
 have:=Zft e
 simp only[Zga,List.length_map]
 omega
theorem Zle{n:Nat}{r:List RowD}(h1:n≤1500)(h2:r.length≤6000)(h3:∀ w∈r,Zdw n w=true):Zax ⟨n,r⟩=true:=by
 have a1:decide (0≤(n:Int))=true:=decide_eq_true (by omega)
 have a2:decide ((n:Int)≤1500)=true:=decide_eq_true (by omega)
 have a3:decide ((r.length:Int)≤6000)=true:=decide_eq_true (by omega)
 unfold Zax
 simp only[a1,a2,a3,Bool.and_self,Bool.true_and]
 exact Ya6.2 h3
theorem ZaU{t:TrD}(R:RightTr t)(kind:Int):Zax (sysT t kind)=true:=by
 have h1:=R.e.lm
 have h2:=R.lf
 have h3:=R.lc
 have h4:=Zg9 t kind
 refine Zle (by omega) (by omega) fun w hw=>?_
 obtain⟨i,hi,hw⟩:=(ZeB _).1 hw
 exact Zlc (by omega) hw
theorem Zdd{t:TrD}(R:RightTr t):RightTr (Zds t):=⟨R.e,by simp[Zds],R.lc,fun x hx=>(by cases hx),R.cl⟩
theorem Zc9{t:TrD}(R:RightTr t)(kind:Int)(lift:Nat):Zax (ZaG t kind lift)=true:=by
 have h1:=R.e.lm
 have h3:=R.lc
 have h4:=Zg9 (Zds t) kind
 have h5:=Zpp t.e lift
 have h6:(Zds t).fi.length=0:=rfl
 have h7:(Zds t).cl=t.cl:=rfl
 have h8:(Zds t).e=t.e:=rfl
 rw[h6,h7,h8]at h4
 refine Zle (by omega) (by rw[List.length_append];omega) fun w hw=>?_
 rcases List.mem_append.1 hw with hw|hw
 ·obtain⟨i,hi,hw⟩:=(ZeB _).1 hw
  exact Zlc (by omega) hw
 ·simp only[Zga,List.mem_map,List.mem_filter]at hw
  obtain⟨i,⟨hi,_⟩,rfl⟩:=hw
  have:=(ZgG.1 hi).1
  exact ZgB (by omega) (by decide) (by decide) (Zbw _)
theorem Zih{t:TrD}(R:RightTr t){kind:Int}{lift:Nat}{x:List FracD}:Zal (ZaG t kind lift) x=true↔Zal (sysT (Zds t) kind) x=true∧∀ i,i<t.e.mv.length→ZbK t.e i=true→i≠lift→atP x (i:Nat)=0:=by
 have hr:=Zc9 R kind lift
 have hr2:=ZaU (Zdd R) kind
 rw[Za2,Za2,hr,hr2]
 show(_∧(x.length:Int)=(t.e.mv.length:Int)∧_∧_∧(ZbS (Zds t) kind t.e.mv.length++Zga t.e lift).all _=true)↔((_∧(x.length:Int)=(t.e.mv.length:Int)∧_∧_∧(ZbS (Zds t) kind t.e.mv.length).all _=true)∧_)
 rw[List.all_append,Ya2]
 have h:(Zga t.e lift).all (fun w=>ZeF w x)=true↔∀ i,i<t.e.mv.length→ZbK t.e i=true→i≠lift→atP x (i:Nat)=0:=by
  rw[Ya6]
  constructor
  ·intro h i h1 h2 h3
   have:=h (oneR i 2 (ofQ 0)) (List.mem_map.2 ⟨i,List.mem_filter.2 ⟨ZgG.2 ⟨h1,h2⟩,by simpa using h3⟩,rfl⟩)
   have:=((ZcU (by decide) (by decide)).1 this).2.2 rfl
   rwa [Zav]at this
  ·intro h w hw
   simp only[Zga,List.mem_map,List.mem_filter]at hw
   obtain⟨i,⟨hi,h3⟩,rfl⟩:=hw
   obtain⟨h1,h2⟩:=ZgG.1 hi
   refine(ZcU (by decide) (by decide)).2 ⟨fun e=>by omega,fun e=>by omega,fun _=>?_⟩
   rw[Zav]
   exact h i h1 h2 (by simpa using h3)
 rw[h]
 constructor
 ·rintro⟨a,b,c,d,e,f⟩;exact⟨⟨a,b,c,d,e⟩,f⟩
 ·rintro⟨⟨a,b,c,d,e⟩,f⟩;exact⟨a,b,c,d,e,f⟩
structure ResD where
 l:Nat
 is:List Bool
 z:List FracD
noncomputable def Zc4 (t:TrD) (kind:Int) (lift:Nat):ResD:=⟨lift,(Ze4 (ZaG t kind lift) (Zcu t.e)).1,(Ze4 (ZaG t kind lift) (Zcu t.e)).2⟩
noncomputable def Zbs (t:TrD) (f:FiD):List ResD:=((Zau t.e).map (Zc4 t f.k)).filter fun r=>(r.is[f.v.toNat]?).getD false
theorem Zhb{t:TrD}(R:RightTr t)(kind:Int)(lift:Nat):(Zc4 t kind lift).is.length=t.e.mv.length+t.e.pl.length∧∀ (i:Nat)(g:List TermD),(Zcu t.e)[i]? =some g→(((Zc4 t kind lift).is[i]?).getD false=true↔∃ x,Zal (ZaG t kind lift) x=true∧0<atG x g):=by
 have hs:=Zc9 R kind lift
 obtain⟨a,b⟩:=Zpg (s:=ZaG t kind lift) (l:=Zcu t.e) hs (fun g hg=>ZlL hg) fun x hx g hg=>by
  have h1:=(Zih R).1 hx
  have h2:=((ZcN (ZaU (Zdd R) kind)).1 h1.1).2.2
  exact ZpQ (t:=Zds t) R.e h2 hg
 refine⟨a.trans (ZpR _),fun i g hg=>?_⟩
 obtain⟨o,h1,h2⟩:=b i g hg
 unfold Zc4
 simp only[h1,Option.getD_some]
 exact h2
theorem Zsh{t:TrD}(R:RightTr t){kind:Int}{lift i:Nat}(hi:i<t.e.mv.length):((Zc4 t kind lift).is[i]?).getD false=true↔∃ x,Zal (ZaG t kind lift) x=true∧0<atP x (i:Nat):=by
 rw[(Zhb R kind lift).2 i _ (ZuC hi)]
 simp only[Zej]
 constructor<;>rintro⟨x,a,b⟩<;>exact⟨x,a,by grind⟩
def hasR(l:List ResD)(i:Nat):Bool:=l.any fun r=>(r.is[i]?).getD false
section
variable {t:TrD} (R:RightTr t)
include R
theorem Zh8{f:FiD}{r:ResD}(h:r∈Zbs t f):∃ l,l<t.e.mv.length∧ZbK t.e l=true∧r=Zc4 t f.k l:=by
 simp only[Zbs,List.mem_filter,List.mem_map]at h
 obtain⟨⟨l,hl,rfl⟩,_⟩:=h
 obtain⟨a,b⟩:=ZgG.1 hl
 exact⟨l,a,b,rfl⟩
end
structure VerD where
 h:Int
 s:Int
 w:List FracD
 o:List FracD
 p:List FracD
abbrev cV(v:VerD):List D:=[dI v.h,dI v.s,ZaQ v.w,ZaQ v.o,ZaQ v.p]
abbrev ZAf(l:List VerD):D:=.sl (l.map cV)
def Zie(e:EvD)(h m lo hi:Int)(x:MvD):Bool :=
 Zct e x.f==0&&((((e.pl[x.f.toNat]?).map PlD.h).getD (-1))==h&&((m == -1||(((e.pl[x.f.toNat]?).map PlD.m).getD (-1))==m)&&(decide (lo≤x.d)&&decide (x.d≤hi))))
def ZgE(e:EvD)(n:Int)(p:MvD→Bool):List Nat:=(List.range e.mv.length).filter fun(i:Nat)=>decide ((i:Int)<n)&&p (mvAt e i)
def ownL(e:EvD)(h:Int):List Nat:=ZgE e e.mv.length (Zie e h (-1) 0 100000)
def ownH(e:EvD)(h:Int)(i:Nat):Rat:=if Zie e h (-1) 0 100000 (mvAt e i)=true then 1 else 0
def ZbW(e:EvD)(h:Int):List TermD:=ZaS e.mv.length (ownH e h)
theorem ZlA{e:EvD}{h:Int}{i:Nat}:i∈ownL e h↔i<e.mv.length∧Zie e h (-1) 0 100000 (mvAt e i)=true:=by
 simp only[ownL,ZgE,List.mem_filter,List.mem_range,Ya2,decide_eq_true_eq]
 exact⟨fun⟨a,_,b⟩=>⟨a,b⟩,fun⟨a,b⟩=>⟨a,by omega,b⟩⟩
theorem ZeG(e:EvD)(h:Int):Zah (ZbW e h) e.mv.length=true:=ZcA (Int.le_refl _)
theorem ZzV(e:EvD)(h:Int)(x:List FracD):atG x (ZbW e h)=sumN e.mv.length fun i=>ownH e h i*atP x (i:Nat):=by
 unfold atG ZbW
 rw[Zcv,Zc1]
theorem ZhX{f:Nat→Rat}:∀ n,(∀ i,i<n→0≤f i)→0≤sumN n f
 | 0,_=>Rat.le_refl
 | n+1,h=>by
   have:=ZhX n fun i hi=>h i (by omega)
   have:=h n (by omega)
   rw[Zk2];grind
theorem Zr1{f:Nat→Rat}:∀ n,(∀ i,i<n→0≤f i)→(0<sumN n f↔∃ i,i<n∧0<f i)
 | 0,_=>⟨fun h=>absurd (show(0:Rat)<0 from h) (by decide),fun⟨i,h,_⟩=>by omega⟩
 | n+1,h=>by
   have h0:=ZhX n fun i hi=>h i (by omega)
   have h1:=h n (by omega)
   have ih:=Zr1 n fun i hi=>h i (by omega)
   rw[Zk2]
   constructor
   ·intro hp
    by_cases hn:0<f n
    ·exact⟨n,by omega,hn⟩
    ·obtain⟨i,a,b⟩:=ih.1 (by grind)
     exact⟨i,by omega,b⟩
   ·rintro⟨i,a,b⟩
    by_cases hi:i=n
    ·subst hi;grind
    ·have:=ih.2 ⟨i,by omega,b⟩
     grind
theorem ZpS{e:EvD}{h:Int}{x:List FracD}(h0:∀ i,i<e.mv.length→0≤atP x (i:Nat)):0≤atG x (ZbW e h)∧(0<atG x (ZbW e h)↔∃ i,i∈ownL e h∧0<atP x (i:Nat)):=by
 have hn:∀ i,i<e.mv.length→0≤ownH e h i*atP x (i:Nat):=fun i hi=>by
  have:=h0 i hi
  unfold ownH
  split<;>grind
 rw[ZzV]
 refine⟨ZhX _ hn,(Zr1 _ hn).trans ?_⟩
 constructor
 ·rintro⟨i,a,b⟩
  refine⟨i,?_,?_⟩
  ·rw[ZlA]
   refine⟨a,?_⟩
   cases hb:Zie e h (-1) 0 100000 (mvAt e i)
   ·unfold ownH at b
    rw[hb,if_neg Bool.false_ne_true]at b
    exact absurd b (by grind)
   ·rfl
  ·unfold ownH at b
   split at b<;>grind
 ·rintro⟨i,a,b⟩
  obtain⟨a1,a2⟩:=ZlA.1 a
  refine⟨i,a1,?_⟩
  unfold ownH
  rw[if_pos a2];grind
noncomputable def ZcL (s:SysD) (g:List TermD) (h:Int):VerD :=
 if 0<sgnD (ZbV s g).1.v then⟨h,2,(ZbV s g).1.x,[],(ZbV s g).1.y++[ofQ (-1)]⟩
 else if (maxO s g).k=2 then⟨h,1,onD 1 (maxO s g).x (maxO s g).d,(ZbV s g).1.x,[]⟩
 else if sgnD (maxO s g).v<0 then⟨h,1,(maxO s g).x,(ZbV s g).1.x,[]⟩
 else⟨h,0,[],(ZbV s g).1.x,(maxO s g).y⟩
section
variable {s:SysD} {g:List TermD} {h:Int} (hs:Zax s=true) (hg:Zah g s.n=true) (hx:∃ x,Zal s x=true) (h0:∀ x,Zal s x=true→0≤atG x g)
include hs hg hx h0
theorem Ziu:((ZcL s g h).s=2↔∀ x,Zal s x=true→0<atG x g)∧((ZcL s g h).s=0↔∀ x,Zal s x=true→atG x g≤0)∧((ZcL s g h).s=0∨(ZcL s g h).s=1∨(ZcL s g h).s=2)∧(ZcL s g h).h=h:=by
 obtain⟨x0,hx0⟩:=hx
 have el:ZbV s g=(ZaH s g,0):=by unfold ZbV;rw[hs,hg];rfl
 have em:=Zel hs hg
 have lo:=ZmV (ZdD hs hg)
 have hi:=ZmV (ZdD hs (Zdj hg))
 obtain⟨q,x1,v1,h1,d1,m1⟩:∃ q x,(ZaH s g).v=ofQ q∧Zal s x=true∧dotD g x=q∧∀ z,Zal s z=true→q≤dotD g z:=by
  rcases lo with⟨_,a⟩|⟨_,a⟩|⟨_,a⟩
  ·exact a
  ·rw[a x0]at hx0;cases hx0
  ·obtain⟨x,a,b⟩:=a (-1)
   have:=h0 x a
   unfold atG at this
   exact absurd b (by grind)
 unfold ZcL
 rw[el,em,v1,ZbN]
 by_cases hq:0<sgQ q
 ·rw[if_pos hq]
  rw[ZcS]at hq
  refine⟨⟨fun _ x hx=>?_,fun _=>rfl⟩,⟨fun e=>absurd (show(2:Int)=0 from e) (by decide),fun e=>?_⟩,.inr (.inr rfl),rfl⟩
  ·have:=m1 x hx
   unfold atG;grind
  ·have:=e x1 h1
   unfold atG at this
   exact absurd this (by grind)
 ·rw[if_neg hq]
  rw[ZcS]at hq
  have no2:¬ ∀ x,Zal s x=true→0<atG x g:=fun e=>by
   have:=e x1 h1
   unfold atG at this
   exact absurd this (by grind)
  have one:(∃ x,Zal s x=true∧0<atG x g)→((1:Int)=2↔∀ x,Zal s x=true→0<atG x g)∧((1:Int)=0↔∀ x,Zal s x=true→atG x g≤0):=fun⟨x,a,b⟩ =>
   ⟨⟨fun e=>absurd e (by decide),fun e=>absurd e no2⟩,⟨fun e=>absurd e (by decide),fun e=>absurd (e x a) (by grind)⟩⟩
  rcases hi with⟨k,q2,x2,v2,h2,d2,m2⟩|⟨k,a⟩|⟨k,a⟩
  ·rw[if_neg (by omega),v2,ZbN]
   rw[Zhg hs hg]at d2
   by_cases hq2:sgQ q2<0
   ·rw[if_pos hq2]
    rw[Ze1]at hq2
    obtain⟨a,b⟩:=one ⟨x2,h2,by unfold atG;grind⟩
    exact⟨a,b,.inr (.inl rfl),rfl⟩
   ·rw[if_neg hq2]
    rw[Ze1]at hq2
    refine⟨⟨fun e=>absurd (show(0:Int)=2 from e) (by decide),fun e=>absurd e no2⟩,⟨fun _ x hx=>?_,fun _=>rfl⟩,.inl rfl,rfl⟩
    have:=m2 x hx
    rw[Zhg hs hg]at this
    unfold atG;grind
  ·rw[a x0]at hx0;cases hx0
  ·rw[if_pos k]
   obtain⟨x,b,c⟩:=a (-1)
   rw[Zhg hs hg]at c
   obtain⟨a,b⟩:=one ⟨x,b,by unfold atG;grind⟩
   exact⟨a,b,.inr (.inl rfl),rfl⟩
end
def natI(l:List Nat):List Int:=l.map fun(i:Nat)=>(i:Int)
def upN(e:EvD)(n:Int)(p:MvD→Bool)(k:Nat):List Nat:=(List.range k).filter fun(i:Nat)=>decide ((i:Int)<n)&&p (mvAt e i)
theorem ZyD(e:EvD)(n:Int)(p:MvD→Bool)(k:Nat):upN e n p (k+1)=upN e n p k++if decide ((k:Int)<n)&&p (mvAt e k)then [k]else []:=by
 unfold upN
 rw[List.range_succ,List.filter_append]
 cases h:decide ((k:Int)<n)&&p (mvAt e k)<;>simp[h]
theorem ZBn(e:EvD)(n:Int)(p:MvD→Bool)(k:Nat):(upN e n p k).length≤k:=by
 have:=Yb1 (fun(i:Nat)=>decide ((i:Int)<n)&&p (mvAt e i)) (List.range k)
 unfold upN;simpa using this
theorem ZzA(e:EvD)(L:LenE e)(n:Int)(h m lo hi:Int)(p:MvD→Bool)(hc:∀ x∈e.mv,Zaa Tryz.prog 92 [.agg (cMv x),.ep [cEv e] 0 0,.ep [[dI h]] 0 0,.ep [[dI m]] 0 0,.ep [[dI lo]] 0 0,.ep [[dI hi]] 0 0] (dB (p x))) :
 Zaa Tryz.prog 61 [Zio e,dI n,.clo 92 [.ep [cEv e] 0 0,.ep [[dI h]] 0 0,.ep [[dI m]] 0 0,.ep [[dI lo]] 0 0,.ep [[dI hi]] 0 0]] (Zab (natI (if Zgg e=0 then ZgE e n p else []))):=by
 have hres:=Tryz.results61
 have kf:=ZA2 e L
 have hmv:=L.mv
 refine inN Tryz.func61 rfl Tryz.ntmps61 fun I=>?_
 by_cases hf:Zgg e=0
 rotate_left
 ·have h1:(Zgg e !=0)=true:=by simpa using hf
  refine aGo (cj2 hres h1) ?_
  repeat with_reducible intro K hK
  rw[if_neg hf];rfl
 rw[hf]at kf
 rw[if_pos hf]
 refine aGo hres ?_
 repeat with_reducible intro K hK
 refine aLe (ZcT 7 3 1 rfl) ?_
 simp only[go_sem]
 refine Zat (fun(k:Nat)=>[(1,dI n),(2,.clo 92 [.ep [cEv e] 0 0,.ep [[dI h]] 0 0,.ep [[dI m]] 0 0,.ep [[dI lo]] 0 0,.ep [[dI hi]] 0 0]),(3,.lp 0 0 0 0),(7,.ls 1 (upN e n p k).length),(14,ZhR e.mv),(15,dI e.mv.length),(16,dI k)]) (fun k=>[(0,⟨28,0,8,[cEv e],0,false⟩),(1,⟨3,(upN e n p k).length,1,(natI (upN e n p k)).map fun x=>[dI x],0,false⟩)]) 2 0 (fun k=>k≤e.mv.length) (fun k=>e.mv.length-k) 0 (by omega) ?_ ?_
 ·have e0:upN e n p 0=[]:=rfl
  have e1:natI []=[]:=rfl
  exact leGo (cj2 e0 e1)
 rintro k hk
 obtain⟨hw,h0⟩:=ZaM k
 have eN:=ZyD e n p k
 have lN:=ZBn e n p k
 have lI:(natI (upN e n p k)).length=(upN e n p k).length:=by simp[natI]
 by_cases h1:(k:Int)<e.mv.length
 rotate_left
 ·obtain rfl:k=e.mv.length:=by omega
  refine aGo (cj2 hres h1) ?_
  repeat with_reducible intro K hK
  exact congrArg D.sl (Zan (fun _=>rfl) _)
 obtain⟨x,hx⟩:∃ x,e.mv[k]? =some x:=⟨_,Ya0 (by omega)⟩
 have ex:mvAt e k=x:=by unfold mvAt;rw[hx];rfl
 have kc:=hc x (Ya7 hx)
 rw[ex]at eN
 by_cases h2:(k:Int)<n
 rotate_left
 ·rw[decide_eq_false h2,Bool.false_and,if_neg Bool.false_ne_true,List.append_nil]at eN
  refine aGo (cj4 hres h0 h1 (cj3 h2 hx hw)) ?_
  repeat with_reducible intro K hK
  exact Zac (k+1) (by omega) (by omega) (by exact leGo eN)
 rw[decide_eq_true h2,Bool.true_and]at eN
 cases h3:p x
 ·rw[h3,if_neg Bool.false_ne_true,List.append_nil]at eN
  rw[h3]at kc
  refine aGo (cj4 hres h0 h1 (cj3 h2 hx hw)) ?_
  repeat with_reducible intro K hK
  exact Zac (k+1) (by omega) (by omega) (by exact leGo eN)
 ·rw[h3,if_pos rfl]at eN
  rw[h3]at kc
  have eI:natI (upN e n p (k+1))=natI (upN e n p k)++[(k:Int)]:=by rw[eN];simp[natI]
  have eL:(upN e n p (k+1)).length=(upN e n p k).length+1:=by rw[eN];simp
  clear eN
  generalize natI (upN e n p k)=A at *
  generalize (upN e n p k).length=B at *
  refine aGo (cj4 hres h0 h1 (cj3 h2 hx hw)) ?_
  repeat with_reducible intro K hK
  exact Zac (k+1) (by omega) (by omega) (by exact leGo (cj2 eI eL))
theorem ZzH(e:EvD)(h m lo hi:Int)(x:MvD)(hx:0≤x.f∧x.f<e.pl.length):Zaa Tryz.prog 92 [.agg (cMv x),.ep [cEv e] 0 0,.ep [[dI h]] 0 0,.ep [[dI m]] 0 0,.ep [[dI lo]] 0 0,.ep [[dI hi]] 0 0] (dB (Zie e h m lo hi x)):=by
 have hres:=Tryz.results92
 refine inN Tryz.func92 rfl Tryz.ntmps92 fun I=>?_
 obtain⟨p,hp⟩:∃ p,e.pl[x.f.toNat]? =some p:=⟨_,Ya0 (by omega)⟩
 have f0:=hx.1
 have k1:=Znh x.d lo hi
 have el:Zie e h m lo hi x=(p.k==0&&(p.h==h&&((m == -1||p.m==m)&&(decide (lo≤x.d)&&decide (x.d≤hi))))):=by
  unfold Zie;rw[ZjK hp,hp];rfl
 rw[el]
 clear el
 cases h1:(p.k==0)
 ·exact aGo (cj4 hres f0 hp h1) trivial
 cases h2:(p.h==h)
 ·exact aGo (cj4 hres f0 hp (cj2 h1 h2)) trivial
 cases h3:(m == -1)
 ·cases h4:(p.m==m)
  ·exact aGo (cj4 hres f0 hp (cj4 h1 h2 h3 h4)) trivial
  ·exact aGo (cj4 hres f0 hp (cj4 h1 h2 h3 h4)) trivial
 ·refine aGo (cj4 hres f0 hp (cj3 h1 h2 h3)) ?_
  repeat with_reducible intro K hK
  exact Zai (by simp)
theorem Zrb(e:EvD)(L:LenE e)(h m lo hi:Int)(hr:∀ x∈e.mv,0≤x.f∧x.f<e.pl.length):Zaa Tryz.prog 46 [Zio e,dI h,dI m,dI lo,dI hi] (Zab (natI (if Zgg e=0 then ZgE e e.mv.length (Zie e h m lo hi)else []))):=by
 have hres:=Tryz.results46
 have k1:=ZzA e L e.mv.length h m lo hi (Zie e h m lo hi) fun x hx=>ZzH e h m lo hi x (hr x hx)
 refine inN Tryz.func46 rfl Tryz.ntmps46 fun I=>?_
 exact aGo hres trivial
theorem ZAW(e:EvD)(v k:Int):Zaa Tryz.prog 53 [Zio e,dI v,dI k] (dI (ZeC e v k)):=by
 have hres:=Tryz.results53
 refine inN Tryz.func53 rfl Tryz.ntmps53 fun I=>?_
 by_cases h1:v<0
 ·refine aGo (cj2 hres h1) ?_
  repeat with_reducible intro K hK
  exact ZaX (by rw[ZeC,if_pos (Or.inl h1)])
 by_cases h2:v≥e.mv.length
 ·refine aGo (cj3 hres h1 h2) ?_
  repeat with_reducible intro K hK
  exact ZaX (by rw[ZeC,if_pos (Or.inr h2)])
 have e0:ZeC e v k=if k<0∨k≥8 then 1 else 0:=by rw[ZeC,if_neg (by omega)]
 by_cases h3:k<0
 ·refine aGo (cj4 hres h1 h2 h3) ?_
  repeat with_reducible intro K hK
  exact ZaX (by rw[e0,if_pos (Or.inl h3)])
 by_cases h4:k≥8
 ·refine aGo (cj4 hres h1 h2 (cj2 h3 h4)) ?_
  repeat with_reducible intro K hK
  exact ZaX (by rw[e0,if_pos (Or.inr h4)])
 refine aGo (cj4 hres h1 h2 (cj2 h3 h4)) ?_
 repeat with_reducible intro K hK
 exact ZaX (by rw[e0,if_neg (by omega)])
structure LenT (t:TrD):Prop where
 e:LenE t.e
 fi:(t.fi.length:Int)≤1099511627776
 cl:(t.cl.length:Int)≤1099511627776
theorem Zz5{e:EvD}{l:List FiD}{k:Nat}{x:FiD}(hx:l[k]? =some x):Zdc e (l.drop k)=if ZeC e x.v x.k=0 then(if x.g<1∨x.g>1099511627776 then 3 else Zdc e (l.drop (k+1)))else ZeC e x.v x.k:=by
 obtain⟨hi,rfl⟩:=Ya3.1 hx
 rw[List.drop_eq_getElem_cons hi];rfl
theorem Zx5{e:EvD}{l:List ClD}{k:Nat}{x:ClD}(hx:l[k]? =some x):ZcP e (l.drop k)=if ZeC e x.v x.k=0 then ZcP e (l.drop (k+1))else ZeC e x.v x.k:=by
 obtain⟨hi,rfl⟩:=Ya3.1 hx
 rw[List.drop_eq_getElem_cons hi];rfl
theorem ZhU(t:TrD)(L:LenT t):Zaa Tryz.prog 16 [ZbC t] (dI (ZaZ t)):=by
 have hres:=Tryz.results16
 have kf:=ZA2 t.e L.e
 obtain⟨-,l1,l2⟩:=L
 by_cases h1:Zgg t.e=0
 rotate_left
 ·have h1':(Zgg t.e !=0)=true:=by simpa using h1
  refine inN Tryz.func16 rfl Tryz.ntmps16 fun I=>?_
  refine aGo (cj2 hres h1') ?_
  repeat with_reducible intro K hK
  exact ZaX (by rw[ZaZ,if_neg h1])
 rw[h1]at kf
 have e0:ZaZ t=if (t.fi.length:Int)>20∨(t.cl.length:Int)>50 then 6 else if Zdc t.e t.fi=0 then ZcP t.e t.cl else Zdc t.e t.fi:=by rw[ZaZ,if_pos h1]
 by_cases h2:(t.fi.length:Int)>20
 ·refine inN Tryz.func16 rfl Tryz.ntmps16 fun I=>?_
  refine aGo (cj2 hres h2) ?_
  repeat with_reducible intro K hK
  exact ZaX (by rw[e0,if_pos (Or.inl h2)])
 by_cases h3:(t.cl.length:Int)>50
 ·refine inN Tryz.func16 rfl Tryz.ntmps16 fun I=>?_
  refine aGo (cj3 hres h2 h3) ?_
  repeat with_reducible intro K hK
  exact ZaX (by rw[e0,if_pos (Or.inr h3)])
 rw[if_neg (by omega)]at e0
 generalize ZaZ t=out at *
 refine inN Tryz.func16 rfl Tryz.ntmps16 fun I=>?_
 refine aGo (cj3 hres h2 h3) ?_
 repeat with_reducible intro K hK
 refine Zat (fun(k:Nat)=>[(1,.lp 0 0 0 0),(27,Zke t.fi),(28,dI t.fi.length),(29,dI k)]) (fun _=>[(0,⟨32,0,10,[cTr t],0,false⟩)]) 1 0 (fun k=>k≤t.fi.length∧Zdc t.e t.fi=Zdc t.e (t.fi.drop k)) (fun k=>t.fi.length-k) 0 ⟨by omega,rfl⟩ ?_ ?_
 ·exact leGo trivial
 rintro k ⟨hk,hg⟩
 obtain⟨hw,h0⟩:=ZaM k
 by_cases h4:(k:Int)<t.fi.length
 ·obtain⟨x,hx⟩:∃ p,t.fi[k]? =some p:=⟨_,Ya0 (by omega)⟩
  have km:=ZAW t.e x.v x.k
  have hs:=Zz5 (e:=t.e) hx
  by_cases h5:ZeC t.e x.v x.k=0
  rotate_left
  ·have h5':(ZeC t.e x.v x.k !=0)=true:=by simpa using h5
   rw[if_neg h5]at hs
   refine aGo (cj4 hres h0 h4 (cj3 hx hw h5')) ?_
   repeat with_reducible intro K hK
   exact ZaX (by rw[e0,hg,hs,if_neg h5])
  rw[h5]at km
  rw[if_pos h5]at hs
  by_cases h6:x.g<1
  ·rw[if_pos (Or.inl h6)]at hs
   refine aGo (cj4 hres h0 h4 (cj3 hx hw h6)) ?_
   repeat with_reducible intro K hK
   exact ZaX (by rw[e0,hg,hs];rfl)
  by_cases h7:x.g>1099511627776
  ·rw[if_pos (Or.inr h7)]at hs
   refine aGo (cj4 hres h0 h4 (cj4 hx hw h6 h7)) ?_
   repeat with_reducible intro K hK
   exact ZaX (by rw[e0,hg,hs];rfl)
  rw[if_neg (by omega)]at hs
  refine aGo (cj4 hres h0 h4 (cj4 hx hw h6 h7)) ?_
  repeat with_reducible intro K hK
  exact Zac (k+1) ⟨by omega,hg.trans hs⟩ (by omega) (by exact leGo trivial)
 rw[show t.fi.drop k=[] by rw[List.drop_eq_nil_iff];omega]at hg
 rw[hg]at e0
 have e1:out=ZcP t.e t.cl:=e0
 clear e0 hg h0 hw
 refine aGo (cj2 hres h4) ?_
 repeat with_reducible intro K hK
 refine Zat (fun(k:Nat)=>[(1,.lp 0 0 0 0),(53,Zja t.cl),(54,dI t.cl.length),(55,dI k)]) (fun _=>[(0,⟨32,0,10,[cTr t],0,false⟩)]) 1 0 (fun k=>k≤t.cl.length∧ZcP t.e t.cl=ZcP t.e (t.cl.drop k)) (fun k=>t.cl.length-k) 0 ⟨by omega,rfl⟩ ?_ ?_
 ·exact leGo trivial
 rintro k ⟨hk,hg⟩
 obtain⟨hw,h0⟩:=ZaM k
 by_cases h5:(k:Int)<t.cl.length
 ·obtain⟨x,hx⟩:∃ p,t.cl[k]? =some p:=⟨_,Ya0 (by omega)⟩
  have km:=ZAW t.e x.v x.k
  have hs:=Zx5 (e:=t.e) hx
  by_cases h6:ZeC t.e x.v x.k=0
  rotate_left
  ·have h6':(ZeC t.e x.v x.k !=0)=true:=by simpa using h6
   rw[if_neg h6]at hs
   refine aGo (cj4 hres h0 h5 (cj3 hx hw h6')) ?_
   repeat with_reducible intro K hK
   exact ZaX (by rw[e1,hg,hs])
  rw[h6]at km
  rw[if_pos h6]at hs
  refine aGo (cj4 hres h0 h5 (cj2 hx hw)) ?_
  repeat with_reducible intro K hK
  exact Zac (k+1) ⟨by omega,hg.trans hs⟩ (by omega) (by exact leGo trivial)
 rw[show t.cl.drop k=[] by rw[List.drop_eq_nil_iff];omega]at hg
 refine aGo (cj2 hres h5) ?_
 repeat with_reducible intro K hK
 exact ZaX (by rw[e1,hg];rfl)
def hiP(e:EvD)(k u:Nat):List D:=if u<k∧(mvAt e u).s ≠ -1 then cF (hiI e (mvAt e u)).1++[dB (hiI e (mvAt e u)).2]else [dI 0,.nil,dI 0,.nil,dB false]
def abL(e:EvD)(k:Nat)(c:Nat→D)(l:Nat→Int):List (List D):=tabL e.mv.length fun u=>hiP e k u++[c u,dI (l u)]
theorem ZrH(e:EvD)(k:Nat)(c:Nat→D)(l:Nat→Int):(abL e k c l).length=e.mv.length:=Zc2 _ _
theorem ZEZ{keep:Nat→Bool}{e:EvD}{k:Nat}{c:Nat→D}{l:Nat→Int}(hc:∀ u,u<e.mv.length→okD keep (c u)=true):∀ x∈abL e k c l,okDs keep x=true:=by
 intro x hx
 obtain⟨u,hu,rfl⟩:=List.mem_map.1 hx
 unfold hiP
 split<;>simp[okDs,okD,hc u (List.mem_range.1 hu)]
theorem ZrI{e:EvD}{k v:Nat}{c:Nat→D}{l:Nat→Int}(h:v<e.mv.length):(abL e k c l)[v]? =some (hiP e k v++[c v,dI (l v)]):=Zbu _ h
theorem Zrn{e:EvD}{k u:Nat}(h:k≤u):hiP e k u=[dI 0,.nil,dI 0,.nil,dB false]:=by unfold hiP;rw[if_neg (by omega)]
theorem Zs0{e:EvD}{k u:Nat}(h:u≠k):hiP e (k+1) u=hiP e k u:=by
 have h1:u<k+1↔u<k:=by omega
 unfold hiP
 simp only[h1]
theorem Zxk(e:EvD)(k u:Nat):∃ a b c d x,hiP e k u=[a,b,c,d,x]:=by
 unfold hiP
 split
 ·exact⟨_,_,_,_,_,rfl⟩
 ·exact⟨_,_,_,_,_,rfl⟩
structure KnAt (t:TrD) (m:Mem) (nx:Nat) (f:Nat→List Int) (l:Nat→Int) (c:Nat→D):Prop where
 tr:m 0=some ⟨32,0,10,[cTr t],0,false⟩
 row:m 2=some ⟨88,1,7,abL t.e t.e.mv.length c l,0,false⟩
 lt:2<nx
 cell:∀ u,u<t.e.mv.length→(c u = .nil∧f u=[])∨∃ id ver,c u = .ls id ver∧2<id∧id<nx∧m id=some ⟨3,ver,1,(f u).map fun x=>[dI x],0,false⟩
 inj:∀ u v id ver id' ver',u<t.e.mv.length→v<t.e.mv.length→u≠v→c u = .ls id ver→c v = .ls id' ver'→id≠id'
theorem KnAt.grow{t:TrD}{m m':Mem}{nx nx':Nat}{f:Nat→List Int}{l:Nat→Int}{c:Nat→D}(h:KnAt t m nx f l c)(hm:∀ id,id<nx→m' id=m id)(hn:nx≤nx'):KnAt t m' nx' f l c :=
 ⟨(hm 0 (by have:=h.lt;omega)).trans h.tr,(hm 2 h.lt).trans h.row,by have:=h.lt;omega,fun u hu=>(h.cell u hu).imp id fun⟨i,v,h1,h2,h3,h4⟩=>⟨i,v,h1,h2,by omega,(hm i h3).trans h4⟩,h.inj⟩
def finU(t:TrD)(kind:Int)(k u:Nat):List Int:=((t.fi.take k).filter fun f=>f.k==kind&&f.v==(u:Int)).map FiD.g
theorem ZCM{t:TrD}{kind:Int}{k:Nat}{x:FiD}(hx:t.fi[k]? =some x)(h:(x.k==kind)=false):finU t kind (k+1)=finU t kind k:=by
 funext u
 unfold finU
 rw[Yb4,hx]
 simp[h]
theorem Zz7{t:TrD}{kind:Int}{k v:Nat}{x:FiD}(hx:t.fi[k]? =some x)(h:(x.k==kind)=true)(hv:x.v=v):finU t kind (k+1)=fun u=>if u=v then finU t kind k u++[x.g]else finU t kind k u:=by
 funext u
 unfold finU
 rw[Yb4,hx]
 by_cases e:u=v
 ·subst e;simp[h,hv]
 ·rw[if_neg e]
  have:¬ (v:Int)=(u:Int):=by omega
  simp[h,hv,this]
def clU(t:TrD)(kind:Int)(k u:Nat):Int:=(((t.cl.take k).filter fun f=>f.k==kind&&f.v==(u:Int)).length:Nat)
theorem ZEV{t:TrD}{kind:Int}{k:Nat}{x:ClD}(hx:t.cl[k]? =some x)(h:(x.k==kind)=false):clU t kind (k+1)=clU t kind k:=by
 funext u
 unfold clU
 rw[Yb4,hx]
 simp[h]
theorem ZC1{t:TrD}{kind:Int}{k v:Nat}{x:ClD}(hx:t.cl[k]? =some x)(h:(x.k==kind)=true)(hv:x.v=v):clU t kind (k+1)=fun u=>if u=v then clU t kind k u+1 else clU t kind k u:=by
 funext u
 unfold clU
 rw[Yb4,hx]
 by_cases e:u=v
 ·subst e;simp[h,hv]
 ·rw[if_neg e]
  have:¬ (v:Int)=(u:Int):=by omega
  simp[h,hv,this]
theorem ZEW{t:TrD}{kind:Int}{k u:Nat}:0≤clU t kind k u∧clU t kind k u≤t.cl.length:=by
 unfold clU
 have q1:=Yb1 (fun f:ClD=>f.k==kind&&f.v==(u:Int)) (t.cl.take k)
 have q2:=List.length_take_le k t.cl
 have q3:=List.length_take_le' k t.cl
 omega
abbrev cAb(a:AbD):List D:=[dI a.hi.p.s,Zab a.hi.p.d,dI a.hi.q.s,Zab a.hi.q.d,dB a.cap,Zab a.fi,dI a.cl]
def abK(t:TrD)(kind:Int)(u:Nat):AbD:=⟨(hiI t.e (mvAt t.e u)).1,(hiI t.e (mvAt t.e u)).2,finK t kind u,cleK t kind u⟩
def Zb7(t:TrD)(kind:Int):List AbD:=(List.range t.e.mv.length).map (abK t kind)
abbrev Zgc(l:List AbD):D:=.sl (l.map cAb)
theorem KnAt.fz{t:TrD}{kind:Int}{m:Mem}{nx:Nat}{c:Nat→D}(h:KnAt t m nx (finU t kind t.fi.length) (clU t kind t.cl.length) c)(j:Nat):List.map (List.map (fzT true m (j+3))) (abL t.e t.e.mv.length c (clU t kind t.cl.length))=(Zb7 t kind).map cAb:=by
 unfold abL tabL Zb7
 rw[List.map_map,List.map_map]
 refine List.map_congr_left fun u hu=>?_
 have hu:=List.mem_range.1 hu
 have e1:finU t kind t.fi.length u=finK t kind u:=by unfold finU finK;rw[List.take_length]
 have e2:clU t kind t.cl.length u=cleK t kind u:=by unfold clU cleK;rw[List.take_length]
 have e3:fzT true m (j+3) (c u)=Zab (finK t kind u):=by
  rcases h.cell u hu with⟨g1,g2⟩|⟨id,ver,g1,g2,g3,g4⟩
  ·rw[g1,← e1,g2];rfl
  ·rw[g1,← e1]
   simp only[fzT,ZbU,g4,if_true]
   exact congrArg D.sl (Zan (fun _=>rfl) _)
 have e4:List.map (fzT true m (j+3)) (hiP t.e t.e.mv.length u)=cF (hiI t.e (mvAt t.e u)).1++[dB (hiI t.e (mvAt t.e u)).2]:=by
  unfold hiP
  by_cases hs:(mvAt t.e u).s = -1
  ·rw[if_neg (fun g=>g.2 hs)]
   unfold hiI;rw[if_pos hs];rfl
  ·rw[if_pos ⟨hu,hs⟩];rfl
 simp only[Function.comp_apply,List.map_append,e4,List.map_cons,List.map_nil,e3,e2]
 rfl
theorem Zrf(t:TrD)(R:RightTr t)(kind:Int):Zaf Tryz.prog 33 [ZbC t,dI kind] (Zgc (Zb7 t kind)):=by
 have hres:=Tryz.results33
 have L1:=R.e.lm
 have L2:=R.e.lc
 have L3:=R.e.lr
 have L4:=R.lf
 have L5:=R.lc
 refine inC Tryz.func33 rfl Tryz.ntmps33 ?_
 have n0:(0:Int)≤(t.e.mv.length:Int):=by omega
 have n1:64*(t.e.mv.length:Int)≤140737488355328:=by omega
 have n2:(t.e.mv.length:Int)≤9007199254740992:=by omega
 refine aGo (cj4 hres n0 n1 n2) ?_
 repeat with_reducible intro K hK
 obtain⟨F,hF⟩:∃ F:Nat→List (List D),F=fun k=>abL t.e k (fun _=>.nil) (fun _=>0):=⟨_,rfl⟩
 have F0:List.replicate t.e.mv.length [D.v (.int .i64 0),.nil,D.v (.int .i64 0),.nil,D.v (.bool false),.nil,D.v (.int .i64 0)]=F 0:=by
  rw[hF,Zvh]
  exact Zbn fun u hu=>by rw[Zrn (Yb0 u)];rfl
 have Fo:∀ k keep,∀ x∈F k,okDs keep x=true:=fun k keep=>by rw[hF];exact ZEZ fun _ _=>rfl
 refine Zat (fun(k:Nat)=>[(1,dI kind),(2,.lp 0 0 0 0),(5,.lp 1 0 0 0),(6,.ls 2 1),(20,ZhR t.e.mv),(21,dI t.e.mv.length),(22,dI k)]) (fun k=>[(0,⟨32,0,10,[cTr t],0,false⟩),(1,⟨28,0,8,[cEv t.e],0,false⟩),(2,⟨88,1,7,F k,0,false⟩)]) 3 0 (fun k=>k≤t.e.mv.length) (fun k=>t.e.mv.length-k) 0 (by omega) ?_ ?_
 ·refine Zag _ _ _ ?_ ?_ ?_ ?_ ?_ (.inl rfl)<;>simp[go_sem,F0,okD,okDs,Zap]<;>exact Fo _ _
 rintro k hk
 obtain⟨hw,h0⟩:=ZaM k
 by_cases h1:(k:Int)<t.e.mv.length
 ·obtain⟨x,hx⟩:∃ x,t.e.mv[k]? =some x:=⟨_,Ya0 (by omega)⟩
  have ex:mvAt t.e k=x:=by unfold mvAt;rw[hx];rfl
  have hg:(F k)[k]? =some [dI 0,.nil,dI 0,.nil,dB false,.nil,dI 0]:=by
   rw[hF]
   show(abL t.e k _ _)[k]? =_
   rw[ZrI (by omega),Zrn (Ya4 k)];rfl
  have hl:(F k).length=t.e.mv.length:=by rw[hF];exact ZrH _ _ _ _
  have ki:=ZCB t.e.ce t.e.re x.s x.r x.d (by omega) (by omega)
  have hz:(0:Nat)≤k:=Yb0 _
  have hkn:k<t.e.mv.length:=by omega
  cases h2:(x.s != -1)
  ·have e1:F k=F (k+1):=by
    rw[hF]
    refine Zbn fun u hu=>?_
    by_cases huk:u=k
    ·subst huk
     have:¬ ((mvAt t.e u).s ≠ -1):=by rw[ex];simpa using h2
     rw[Zrn (Ya4 u)];unfold hiP;rw[if_neg (fun h=>this h.2)]
    ·rw[Zs0 huk]
   refine aGo (cj4 hres h0 h1 (cj4 h2 hx hw (cj2 hl hg))) ?_
   repeat with_reducible intro K hK
   exact Zac (k+1) (by omega) (by omega) (by refine Zag _ _ _ ?_ ?_ ?_ ?_ ?_ (.inl rfl)<;>simp[go_sem,e1,okD,okDs,Zap]<;>exact Fo _ _)
  ·have hI:hiI t.e x=((intD t.e.ce t.e.re x.s x.r x.d).hi,(intD t.e.ce t.e.re x.s x.r x.d).ok):=by unfold hiI;rw[if_neg (by simpa using h2)]
   generalize intD t.e.ce t.e.re x.s x.r x.d=y at ki hI
   obtain⟨M1,hM1⟩:∃ M,(F k).set k [dI y.hi.p.s,Zab y.hi.p.d,dI y.hi.q.s,Zab y.hi.q.d,dB false,.nil,dI 0]=M:=⟨_,rfl⟩
   have hg1:M1[k]? =some [dI y.hi.p.s,Zab y.hi.p.d,dI y.hi.q.s,Zab y.hi.q.d,dB false,.nil,dI 0]:=by rw[← hM1,List.getElem?_set_self (by omega)]
   have hl1:M1.length=t.e.mv.length:=by rw[← hM1,List.length_set,hl]
   have hM2:M1.set k [dI y.hi.p.s,Zab y.hi.p.d,dI y.hi.q.s,Zab y.hi.q.d,dB y.ok,.nil,dI 0]=F (k+1):=by
    rw[← hM1,List.set_set,hF]
    show(tabL _ _).set k _=tabL _ _
    rw[Zgn]
    refine Zbn fun u hu=>?_
    by_cases huk:u=k
    ·subst huk
     rw[if_pos rfl]
     unfold hiP
     rw[if_pos ⟨Nat.lt_succ_self _,by rw[ex];simpa using h2⟩,ex,hI];rfl
    ·rw[if_neg huk,Zs0 huk]
   refine aGo (cj4 hres h0 h1 (cj4 h2 hx hw (cj4 hl hg hz (cj4 hM1 hg1 hl1 hM2)))) ?_
   repeat with_reducible intro K hK
   exact Zac (k+1) (by omega) (by omega) (by refine Zag _ _ _ ?_ ?_ ?_ ?_ ?_ (.inl rfl)<;>simp[go_sem,okD,okDs,Zap]<;>exact Fo _ _)
 obtain rfl:k=t.e.mv.length:=by omega
 refine aGo (cj2 hres h1) ?_
 repeat with_reducible intro K hK
 have Fm:=hF
 refine ZcW (fun(x:Nat×(Nat→D))=>[(1,dI kind),(2,.lp 0 0 0 0),(6,.ls 2 1),(55,Zke t.fi),(56,dI t.fi.length),(57,dI x.1)]) 0 (fun x m nx=>x.1≤t.fi.length∧KnAt t m nx (finU t kind x.1) (fun _=>0) x.2) (fun x=>t.fi.length-x.1) (0,fun _=>.nil) ?_ ?_ ?_ ?_
 ·simp only[ZaC]
  refine⟨Yb0 _,⟨rfl,by rw[Fm];rfl,by omega,fun u hu=>.inl ⟨rfl,rfl⟩,fun u v _ _ _ _ _ _ _ h=>by cases h⟩⟩
 ·rfl
 ·simp[go_sem]
 rintro⟨k,c⟩ m1 nx1 ⟨hk2,hm⟩
 simp only at hk2 hm
 clear h1 hw h0
 obtain⟨hw,h0⟩:=ZaM k
 obtain⟨mt,mr,ml,mc,mi⟩:=hm
 have x0:(0:Nat)≠nx1:=by omega
 have x2:(2:Nat)≠nx1:=by omega
 have y0:nx1≠0:=by omega
 have y1:nx1≠1:=by omega
 have y2:nx1≠2:=by omega
 by_cases h1:(k:Int)<t.fi.length
 ·obtain⟨x,hx⟩:∃ x,t.fi[k]? =some x:=⟨_,Ya0 (by omega)⟩
  cases h2:(x.k==kind)
  ·refine aGoM (cj4 hres mt mr (cj4 hx h0 h1 (cj4 h2 hw x0 x2))) ?_
   repeat with_reducible intro K hK
   refine Zas (k+1,c) ⟨by show k+1≤_;omega,?_⟩ (by show t.fi.length-(k+1)<t.fi.length-k;omega) rfl (by simp[go_sem])
   show KnAt t _ _ (finU t kind (k+1)) _ c
   rw[ZCM hx h2]
   exact KnAt.grow ⟨mt,mr,ml,mc,mi⟩ (fun id hid=>by simp only[ZaC];rw[if_neg (by omega),if_neg (by omega)]) (Nat.le_succ _)
  ·obtain⟨⟨v0,v1⟩,-,-⟩:=R.fi x (Ya7 hx)
   obtain⟨v,hv⟩:∃ v:Nat,x.v=v:=⟨x.v.toNat,by omega⟩
   have vl:v<t.e.mv.length:=by omega
   have hfin:=Zz7 hx h2 hv
   obtain⟨q1,q2,q3,q4,q5,hq⟩:=Zxk t.e t.e.mv.length v
   have hg:(abL t.e t.e.mv.length c (fun _=>0))[v]? =some [q1,q2,q3,q4,q5,c v,dI 0]:=by rw[ZrI vl,hq];rfl
   have hl:=ZrH t.e t.e.mv.length c (fun _=>0)
   have vz:(0:Nat)≤v:=Yb0 _
   have vi:(0:Int)≤v:=by omega
   rcases mc v vl with⟨hc,hf⟩|⟨id,ver,hc,i2,i3,hi⟩
   ·rw[hc]at hg
    refine aGoS (cj4 hres mt mr (cj4 hx h0 h1 (cj4 h2 hw x0 (cj4 x2 hv hg (cj4 hl vz vi (cj3 y0 y1 y2)))))) ?_
    repeat with_reducible intro K hK
    with_reducible apply useE
    with_reducible assumption
    exact Zci [2,nx1,nx1+1,nx1+1+1] (by simp;omega) [([],[]),([],[]),([1],[]),([],[]),([],[]),([1],[]),([0],[]),([],[]),([0],[]),([],[]),([1],[]),([2,2],[2]),([2,3,3],[3]),([0],[]),([],[]),([0,0],[0])] rfl rfl (by kernel_rfl)
    exact Zay rfl
    refine aGoM (cj2 hw h1) ?_
    repeat with_reducible intro K hK
    refine Zas (k+1,fun u=>if u=v then .ls (nx1+1+1) 1 else c u) ⟨by show k+1≤_;omega,?_⟩ (by show t.fi.length-(k+1)<t.fi.length-k;omega) rfl (by simp[go_sem])
    have hset:(abL t.e t.e.mv.length c fun _=>0).set v [q1,q2,q3,q4,q5,.ls (nx1+1+1) 1,dI 0]=abL t.e t.e.mv.length (fun u=>if u=v then .ls (nx1+1+1) 1 else c u) fun _=>0:=by
     show(tabL _ _).set v _=tabL _ _
     rw[Zgn]
     refine Zbn fun u hu=>?_
     by_cases e:u=v
     ·subst e;simp[hq]
     ·simp[e]
    show KnAt t _ _ (finU t kind (k+1)) _ _
    rw[hset,hfin]
    refine⟨?_,?_,by show 2<nx1+3;omega,fun u hu=>?_,fun u u' i w i' w' hu hu' hne hcu hcu'=>?_⟩
    ·simp only[ZaC];rw[if_neg (by omega),if_neg (by omega),if_neg (by omega),if_neg (by omega),if_neg (by omega)];exact mt
    ·simp only[ZaC,if_true]
    ·by_cases e:u=v
     ·subst e
      refine .inr ⟨nx1+1+1,1,by simp,by omega,by show nx1+1+1<nx1+3;omega,?_⟩
      simp only[ZaC,if_true]
      rw[if_neg (by omega),hf];rfl
     ·simp only[e,if_false]
      refine(mc u hu).imp id fun⟨i,w,g1,g2,g3,g4⟩=>⟨i,w,g1,g2,by show i<nx1+3;omega,?_⟩
      simp only[ZaC]
      rw[if_neg (by omega),if_neg (by omega),if_neg (by omega),if_neg (by omega),if_neg (by omega)]
      exact g4
    ·by_cases e:u=v
     ·subst e
      rcases mc u' hu' with⟨g,_⟩|⟨i2,w2,g,_,g3,_⟩
      ·simp[Ne.symm hne,g]at hcu'
      ·simp[Ne.symm hne,g]at hcu' hcu
       omega
     ·by_cases e':u'=v
      ·subst e'
       rcases mc u hu with⟨g,_⟩|⟨i2,w2,g,_,g3,_⟩
       ·simp[hne,g]at hcu
       ·simp[hne,g]at hcu' hcu
        omega
      ·simp only[e,e',if_false]at hcu hcu'
       exact mi u u' i w i' w' hu hu' hne hcu hcu'
   ·rw[hc]at hg
    have z0:id≠0:=by omega
    have z1:id≠1:=by omega
    have z2:id≠2:=by omega
    have z3:id≠nx1:=by omega
    have z4:id≠nx1+1:=by omega
    have z5:nx1≠id:=by omega
    have z6:(2:Nat)≠id:=by omega
    refine aGoS (cj4 hres mt mr (cj4 hx h0 h1 (cj4 h2 hw x0 (cj4 x2 hv hg (cj4 hl vz vi (cj4 y0 y1 y2 (cj4 hi z0 z1 (cj4 z2 z3 z4 (cj2 z5 z6))))))))) ?_
    repeat with_reducible intro K hK
    have hfl:(finU t kind k v).length≤20:=by
     have q1:=Yb1 (fun f:FiD=>f.k==kind&&f.v==(v:Int)) (t.fi.take k)
     have q2:=List.length_take_le k t.fi
     unfold finU
     rw[List.length_map];omega
    refine⟨⟨by omega,by omega⟩,by omega,by omega,?_⟩
    with_reducible apply useE
    with_reducible assumption
    exact Zci [2,nx1,id,nx1+1] (by simp;omega) [([],[]),([],[]),([1],[]),([],[]),([],[]),([1],[]),([0],[]),([],[]),([0],[]),([],[]),([1],[]),([3,3],[3]),([2,3,2],[2]),([0],[]),([],[]),([0,0],[0])] rfl rfl (by kernel_rfl)
    exact Zay rfl
    refine aGoM (cj2 hw h1) ?_
    repeat with_reducible intro K hK
    refine Zas (k+1,fun u=>if u=v then .ls id (ver+1)else c u) ⟨by show k+1≤_;omega,?_⟩ (by show t.fi.length-(k+1)<t.fi.length-k;omega) rfl (by simp[go_sem])
    have hset:(abL t.e t.e.mv.length c fun _=>0).set v [q1,q2,q3,q4,q5,.ls id (ver+1),dI 0]=abL t.e t.e.mv.length (fun u=>if u=v then .ls id (ver+1)else c u) fun _=>0:=by
     show(tabL _ _).set v _=tabL _ _
     rw[Zgn]
     refine Zbn fun u hu=>?_
     by_cases e:u=v
     ·subst e;simp[hq]
     ·simp[e]
    show KnAt t _ _ (finU t kind (k+1)) _ _
    rw[hset,hfin]
    have hother:∀ u,u<t.e.mv.length→u≠v→∀ i w,c u = .ls i w→i≠id:=fun u hu hne i w g=>mi u v i w id ver hu vl hne g hc
    refine⟨?_,?_,by show 2<nx1+2;omega,fun u hu=>?_,fun u u' i w i' w' hu hu' hne hcu hcu'=>?_⟩
    ·simp only[ZaC];rw[if_neg (by omega),if_neg (by omega),if_neg (by omega),if_neg (by omega),if_neg (by omega)];exact mt
    ·simp only[ZaC,if_true]
    ·by_cases e:u=v
     ·subst e
      refine .inr ⟨id,ver+1,by simp,by omega,by show id<nx1+2;omega,?_⟩
      simp only[ZaC,if_true]
      rw[if_neg (by omega)];simp
     ·simp only[e,if_false]
      refine(mc u hu).imp (fun h=>h) fun⟨i,w,g1,g2,g3,g4⟩=>⟨i,w,g1,g2,by show i<nx1+2;omega,?_⟩
      have:=hother u hu e i w g1
      simp only[ZaC]
      rw[if_neg (by omega),if_neg (by omega),if_neg (by omega),if_neg (by omega),if_neg (by omega)]
      exact g4
    ·by_cases e:u=v
     ·subst e
      have e':¬ u'=u:=fun h=>hne h.symm
      simp only[e',if_false,if_true,D.ls.injEq]at hcu hcu'
      have:=hother u' hu' e' _ _ hcu'
      omega
     ·by_cases e':u'=v
      ·subst e'
       simp only[e,if_false,if_true,D.ls.injEq]at hcu hcu'
       have:=hother u hu e _ _ hcu
       omega
      ·simp only[e,e',if_false]at hcu hcu'
       exact mi u u' i w i' w' hu hu' hne hcu hcu'
 refine aGoM (cj3 hres h1 mt) ?_
 repeat with_reducible intro K hK
 obtain rfl:k=t.fi.length:=by omega
 have hm:KnAt t m1 nx1 (finU t kind t.fi.length) (fun _=>0) c:=⟨mt,mr,ml,mc,mi⟩
 clear mt mr ml mc mi x0 x2 y0 y1 y2 h0 h1 hw hk hk2
 refine ZcW (fun(k:Nat)=>[(1,dI kind),(2,.lp 0 0 0 0),(6,.ls 2 1),(82,Zja t.cl),(83,dI t.cl.length),(84,dI k)]) 0 (fun k m nx=>k≤t.cl.length∧KnAt t m nx (finU t kind t.fi.length) (clU t kind k) c) (fun k=>t.cl.length-k) 0 ?_ ?_ ?_ ?_
 ·exact⟨Yb0 _,hm⟩
 ·rfl
 ·simp[go_sem]
 rintro k m2 nx2 ⟨hk2,hm2⟩
 obtain⟨hw,h0⟩:=ZaM k
 obtain⟨mt,mr,ml,mc,mi⟩:=hm2
 have x0:(0:Nat)≠nx2:=by omega
 have x2:(2:Nat)≠nx2:=by omega
 have y0:nx2≠0:=by omega
 have y2:nx2≠2:=by omega
 by_cases h1:(k:Int)<t.cl.length
 ·obtain⟨x,hx⟩:∃ x,t.cl[k]? =some x:=⟨_,Ya0 (by omega)⟩
  cases h2:(x.k==kind)
  ·refine aGoM (cj4 hres mt mr (cj4 hx h0 h1 (cj4 h2 hw x0 x2))) ?_
   repeat with_reducible intro K hK
   refine Zas (k+1) ⟨by omega,?_⟩ (by omega) rfl (by simp[go_sem])
   rw[ZEV hx h2]
   exact KnAt.grow ⟨mt,mr,ml,mc,mi⟩ (fun id hid=>by simp only[ZaC];rw[if_neg (by omega),if_neg (by omega)]) (Nat.le_succ _)
  ·obtain⟨⟨v0,v1⟩,-⟩:=R.cl x (Ya7 hx)
   obtain⟨v,hv⟩:∃ v:Nat,x.v=v:=⟨x.v.toNat,by omega⟩
   have vl:v<t.e.mv.length:=by omega
   have hcl:=ZC1 hx h2 hv
   obtain⟨q1,q2,q3,q4,q5,hq⟩:=Zxk t.e t.e.mv.length v
   have hg:(abL t.e t.e.mv.length c (clU t kind k))[v]? =some [q1,q2,q3,q4,q5,c v,dI (clU t kind k v)]:=by rw[ZrI vl,hq];rfl
   have hl:=ZrH t.e t.e.mv.length c (clU t kind k)
   have vz:(0:Nat)≤v:=Yb0 _
   have vi:(0:Int)≤v:=by omega
   have hcb:=ZEW (t:=t) (kind:=kind) (k:=k) (u:=v)
   have hw2:IntKind.i64.wrap (clU t kind k v+1)=clU t kind k v+1:=ZaD (by omega) (by omega)
   refine aGoM (cj4 hres mt mr (cj4 hx h0 h1 (cj4 h2 hw x0 (cj4 x2 hv hg (cj4 hl vz vi (cj3 y0 y2 hw2)))))) ?_
   repeat with_reducible intro K hK
   refine Zas (k+1) ⟨by omega,?_⟩ (by omega) rfl (by simp[go_sem])
   have hset:(abL t.e t.e.mv.length c (clU t kind k)).set v [q1,q2,q3,q4,q5,c v,dI (clU t kind k v+1)]=abL t.e t.e.mv.length c (clU t kind (k+1)):=by
    show(tabL _ _).set v _=tabL _ _
    rw[Zgn,hcl]
    refine Zbn fun u hu=>?_
    by_cases e:u=v
    ·subst e;simp[hq]
    ·simp[e]
   refine⟨?_,?_,by show 2<nx2+1;omega,fun u hu=>?_,mi⟩
   ·simp only[ZaC];rw[if_neg (by omega),if_neg (by omega),if_neg (by omega)];exact mt
   ·simp only[ZaC,if_true];rw[← hset]
   ·refine(mc u hu).imp (fun h=>h) fun⟨i,w,g1,g2,g3,g4⟩=>⟨i,w,g1,g2,by show i<nx2+1;omega,?_⟩
    simp only[ZaC]
    rw[if_neg (by omega),if_neg (by omega),if_neg (by omega)]
    exact g4
 obtain rfl:k=t.cl.length:=by omega
 have hfin:=KnAt.fz (nx:=nx2) (c:=c) ⟨mt,mr,ml,mc,mi⟩ 4
 refine aGoM (cj3 hres h1 mr) ?_
 exact congrArg D.sl hfin
theorem Zlx{e:EvD}{i:Nat}(h:i<e.mv.length):e.mv[i]? =some (mvAt e i):=by unfold mvAt;rw[Ya0 h];rfl
theorem ZC9(e:EvD)(R:RightE e)(i:Nat)(hi:i<e.mv.length):Zaa Tryz.prog 36 [Zio e,dI i] (dB (ZbK e i)):=by
 have hres:=Tryz.results36
 have hx:=Zlx hi
 obtain⟨f0,f1⟩:=(R.mv _ (ZiP hi)).f
 obtain⟨p,hp⟩:∃ p,e.pl[(mvAt e i).f.toNat]? =some p:=⟨_,Ya0 (by omega)⟩
 rw[show ZbK e i=(p.k==0) by unfold ZbK;rw[ZjK hp]]
 generalize mvAt e i=x at *
 have h0:(0:Int)≤i:=by omega
 refine inN Tryz.func36 rfl Tryz.ntmps36 fun I=>?_
 exact aGo (cj4 hres hx hp (cj2 f0 h0)) trivial
theorem ZC4(n:Nat)(c:Nat→Rat):(ZaS (n+1) c).map cT=(ZaS n c).map cT++(if c n=0 then []else [cT ⟨(n:Int),ofQ (c n)⟩]):=by
 rw[Zcq,List.map_append]
 by_cases h:c n=0
 ·rw[if_pos h,if_pos h];rfl
 ·rw[if_neg h,if_neg h];rfl
theorem Zvt(e:EvD)(R:RightE e)(i:Nat)(hi:i<e.mv.length):Zaa Tryz.prog 86 [Zio e,dI i] (encW (ZcR e i)):=by
 have hres:=Tryz.results86
 have hx:=Zlx hi
 have k0:=nZ_c
 have k1:=nO_c
 have k2:=ZhN (-1) (by decide) (by decide)
 rw[show(((-1:Int)):Rat) = -1 from rfl]at k2
 have h0:(0:Int)≤i:=by omega
 have hl:(i:Int)≤e.mv.length:=by omega
 obtain⟨x,ex⟩:∃ x,mvAt e i=x:=⟨_,rfl⟩
 rw[ex]at hx
 obtain⟨kd,hkd⟩:∃ kd:Int,(if x.a then(2:Int)else 0)=kd:=⟨_,rfl⟩
 have hw0:ZcR e i=⟨ZaS (i+1) (stC e i),kd,ofQ 0⟩:=by unfold ZcR;rw[ex,hkd]
 rw[hw0]
 cases ha:x.a
 all_goals
  rw[ha]at hkd
  simp at hkd
  refine inN Tryz.func86 rfl Tryz.ntmps86 fun I=>?_
  refine aGo (cj4 hres hx h0 (cj2 hl ha)) ?_
  repeat with_reducible intro K hK
  refine aLe (ZdK 3 0 0 151 5 rfl rfl rfl) ?_
  simp only[go_sem]
  obtain⟨F,hF⟩:∃ F:Nat→List (List D),F=fun k=>(ZaS k (stC e i)).map cT:=⟨_,rfl⟩
  obtain⟨V,hV⟩:∃ V:Nat→Nat,V=fun k=>(ZaS k (stC e i)).length:=⟨_,rfl⟩
  have F0:F 0=[]:=by rw[hF];rfl
  have V0:V 0=0:=by rw[hV];rfl
  have Fo:∀ k keep,∀ x∈F k,okDs keep x=true:=fun k keep x hx=>by
   rw[hF]at hx
   obtain⟨u,_,rfl⟩:=List.mem_map.1 hx
   rfl
  have hmin:min i e.mv.length=i:=by omega
  have FV:∀ k,(F k).length=V k:=fun k=>by rw[hF,hV];simp
  have Vk:∀ k,V k≤k:=fun k=>by rw[hV];exact Zeq _ _
  have Lm:=R.lm
  refine Zat (fun(k:Nat)=>[(1,dI i),(2,.lp 0 0 0 0),(4,.lp 1 0 0 0),(5,.lp 2 0 0 0),(6,.lp 3 0 0 0),(22,.sl ((e.mv.take i).map cMv)),(23,dI i),(24,dI k)]) (fun k=>[(0,⟨28,0,8,[cEv e],0,false⟩),(1,⟨153,0,6,[[.nil,dI 0,dI 0,.nil,dI 0,.nil]],0,false⟩),(2,⟨90,0,6,[cMv x],0,false⟩),(3,⟨153,0,6,[.ls 4 (V k) ::dI kd ::cF (ofQ 0)],0,false⟩),(4,⟨151,V k,5,F k,0,false⟩)]) 5 0 (fun k=>k≤i) (fun k=>i-k) 0 (by omega) ?_ ?_
  ·refine Zag _ _ _ ?_ ?_ ?_ ?_ ?_ (.inl rfl)<;>simp[go_sem,okD,okDs,Zap,F0,V0,ha,hkd,hmin]
  rintro k hk
  obtain⟨hw,z0⟩:=ZaM k
  have fv:=FV k
  have vk:=Vk k
  have fo:=Fo k
  have eF:F (k+1)=F k++(if stC e i k=0 then []else [cT ⟨(k:Int),ofQ (stC e i k)⟩]):=by rw[hF];exact ZC4 k _
  have eV:V (k+1)=V k+(if stC e i k=0 then 0 else 1):=by
   rw[← FV,← FV,eF]
   by_cases h:stC e i k=0
   ·rw[if_pos h,if_pos h];simp
   ·rw[if_neg h,if_neg h];simp
  by_cases h1:(k:Int)<i
  ·have hy:=Zlx (e:=e) (i:=k) (by omega)
   have hyt:(e.mv.take i)[k]? =some (mvAt e k):=by rw[List.getElem?_take,if_pos (by omega)];exact hy
   have es:stC e i k=if (mvAt e k).t=x.f then 1 else if (mvAt e k).f=x.f then -1 else 0:=by unfold stC;rw[if_pos (by omega),ex]
   generalize mvAt e k=y at hy hyt es
   cases h2:(x.f==y.t)
   rotate_left
   ·have h2':y.t=x.f:=by simpa using Eq.symm (by simpa using h2)
    rw[if_pos h2']at es
    rw[es,if_neg (by decide)]at eF eV
    refine aGo (cj4 hres z0 h1 (cj4 hyt hw h2 fv)) ?_
    repeat with_reducible intro K hK
    exact Zac (k+1) (by omega) (by omega) (by refine Zag _ _ _ ?_ ?_ ?_ ?_ ?_ (.inl rfl)<;>simp[go_sem,okD,okDs,Zap,eF,eV]<;>(rintro e (h|rfl);exact fo _ _ h;rfl))
   have h2':¬ y.t=x.f:=by simp at h2;exact fun h=>h2 h.symm
   rw[if_neg h2']at es
   cases h3:(x.f==y.f)
   rotate_left
   ·have h3':y.f=x.f:=by simpa using Eq.symm (by simpa using h3)
    rw[if_pos h3']at es
    rw[es,if_neg (by decide)]at eF eV
    refine aGo (cj4 hres z0 h1 (cj4 hyt hw h2 (cj2 h3 fv))) ?_
    repeat with_reducible intro K hK
    exact Zac (k+1) (by omega) (by omega) (by refine Zag _ _ _ ?_ ?_ ?_ ?_ ?_ (.inl rfl)<;>simp[go_sem,okD,okDs,Zap,eF,eV]<;>(rintro e (h|rfl);exact fo _ _ h;rfl))
   have h3':¬ y.f=x.f:=by simp at h3;exact fun h=>h3 h.symm
   rw[if_neg h3']at es
   rw[es,if_pos rfl]at eF eV
   refine aGo (cj4 hres z0 h1 (cj4 hyt hw h2 h3)) ?_
   repeat with_reducible intro K hK
   exact Zac (k+1) (by omega) (by omega) (by refine Zag _ _ _ ?_ ?_ ?_ ?_ ?_ (.inl rfl)<;>simp[go_sem,okD,okDs,Zap,eF,eV]<;>exact fo _)
  ·obtain rfl:k=i:=by omega
   have es:stC e k k = -1:=by unfold stC;rw[if_neg (by omega)]
   rw[es,if_neg (by decide)]at eF
   have e9:∀ M:Mem,List.map (List.map (fzT true M 6)) (F k++[D.v (.int .i64 (k:Int)) ::cF (ofQ (-1))])=(ZaS (k+1) (stC e k)).map cT:=fun M=>by
    rw[show F k++[D.v (.int .i64 (k:Int)) ::cF (ofQ (-1))]=F (k+1)from eF.symm,hF]
    exact Zan (fun _=>rfl) _
   refine aGo (cj3 hres h1 fv) ?_
   repeat with_reducible intro K hK
   rw[e9]
def Zdk(kind:Int):Bool:=decide (0≤kind)&&decide (kind<8)
def Zed(e:EvD):List Nat:=List.range e.h.toNat
noncomputable def ZbL (t:TrD) (kind:Int):List VerD×Int :=
 if ZaZ t=0∧Zdk kind=true then(if (solD (sysT t kind)).2.2 then((Zed t.e).map (fun(h:Nat)=>ZcL (sysT t kind) (ZbW t.e h) h),0)else([],15))else([],1)
noncomputable def ZhW (t:TrD) (kind:Int):List Int×Int :=
 if (ZbL t kind).2=0 then(if (((ZbL t kind).1.filter fun v=>v.s !=0).length:Int)>8 then([],6)else(((ZbL t kind).1.filter fun v=>v.s !=0).map VerD.h,0))else([],(ZbL t kind).2)
def Ze7:List Int→Nat→List (List Int)
 | _,0=>[[]]
 | [],_+1=>[]
 | x ::l,n+1=>(Ze7 l n).map (x::·)++Ze7 l (n+1)
def Zu0(e:EvD)(h:Int):List RowD:=(ownL e h).map fun i=>oneR i 2 (ofQ 0)
def ZdM(e:EvD)(set:List Int):Nat→List RowD
 | 0=>[]
 | h+1=>ZdM e set h++(if set.contains (h:Int)then []else Zu0 e h)
def ZfC(t:TrD)(kind:Int)(set:List Int):SysD:=⟨t.e.mv.length,ZbS t kind t.e.mv.length++ZdM t.e set t.e.h.toNat⟩
noncomputable def ZfD (t:TrD) (kind:Int) (set:List Int):Bool:=(solD (ZfC t kind set)).2.2&&Zal (ZfC t kind set) (solD (ZfC t kind set)).1
def ZhO(h:Int):Int→List Int→Bool
 | _,[]=>true
 | last,x ::l=>decide (last<x)&&(decide (x<h)&&ZhO h x l)
noncomputable def ZgM (t:TrD) (kind:Int) (set:List Int):Bool:=decide (ZaZ t=0)&&(Zdk kind&&(ZhO t.e.h (-1) set&&ZfD t kind set))
noncomputable def Zim (t:TrD) (kind:Int) (l:List Int):Nat→Nat→List (List Int)
 | 0,_=>[]
 | k+1,n=>if ((Ze7 l n).filter (ZfD t kind)).isEmpty then Zim t kind l k (n+1)else(Ze7 l n).filter (ZfD t kind)
noncomputable def ZaJ (t:TrD) (kind:Int):List (List Int)×Int :=
 if (ZhW t kind).2=0 then(Zim t kind (ZhW t kind).1 ((ZhW t kind).1.length+1) 0,0)else([],(ZhW t kind).2)
theorem ZgF{e:EvD}{set:List Int}{w:RowD}:∀ n,w∈ZdM e set n↔∃ h,h<n∧set.contains (h:Int)=false∧∃ i∈ownL e h,w=oneR i 2 (ofQ 0)
 | 0=>⟨fun h=>(by cases h),fun⟨i,h,_⟩=>(by omega)⟩
 | n+1=>by
   simp only[ZdM,List.mem_append,ZgF n]
   constructor
   ·rintro(⟨h,a,b⟩|h)
    ·exact⟨h,by omega,b⟩
    ·cases hc:set.contains (n:Int)
     ·rw[hc,if_neg Bool.false_ne_true]at h
      obtain⟨i,hi,rfl⟩:=List.mem_map.1 h
      exact⟨n,by omega,hc,i,hi,rfl⟩
     ·rw[hc,if_pos rfl]at h;cases h
   ·rintro⟨h,a,b,i,hi,rfl⟩
    by_cases e:h=n
    ·subst e
     right;rw[b,if_neg Bool.false_ne_true]
     exact List.mem_map.2 ⟨i,hi,rfl⟩
    ·exact .inl ⟨h,by omega,b,i,hi,rfl⟩
theorem ZqP(e:EvD)(h:Int):(ownL e h).length≤e.mv.length:=by
 have:=Yb1 (fun(i:Nat)=>decide ((i:Int)<e.mv.length)&&Zie e h (-1) 0 100000 (mvAt e i)) (List.range e.mv.length)
 simpa[ownL,ZgE]using this
theorem ZoH(e:EvD)(set:List Int):∀ n,(ZdM e set n).length≤n*e.mv.length
 | 0=>by simp[ZdM]
 | n+1=>by
   have ih:=ZoH e set n
   have:=ZqP e n
   have h1:(if set.contains (n:Int)=true then []else Zu0 e n).length≤e.mv.length:=by
    split
    ·simp
    ·simpa[Zu0]using this
   simp only[ZdM,List.length_append,Nat.add_mul]
   omega
section
variable {t:TrD} (R:RightTr t) {kind:Int} {set:List Int} (hl:2*t.e.mv.length+t.fi.length+t.cl.length+t.e.h.toNat*t.e.mv.length≤6000)
include R hl
theorem ZjQ:Zax (ZfC t kind set)=true:=by
 have h1:=R.e.lm
 have h4:=Zg9 t kind
 have h5:=ZoH t.e set t.e.h.toNat
 refine Zle (by omega) (by rw[List.length_append];omega) fun w hw=>?_
 rcases List.mem_append.1 hw with hw|hw
 ·obtain⟨i,hi,hw⟩:=(ZeB _).1 hw
  exact Zlc (by omega) hw
 ·obtain⟨h,_,_,i,hi,rfl⟩:=(ZgF _).1 hw
  have:=(ZlA.1 hi).1
  exact ZgB (by omega) (by decide) (by decide) (Zbw _)
theorem Zm2{x:List FracD}:Zal (ZfC t kind set) x=true↔Zal (sysT t kind) x=true∧∀ h:Nat,h<t.e.h.toNat→set.contains (h:Int)=false→∀ i∈ownL t.e h,atP x (i:Nat)=0:=by
 have hr:=ZjQ R (kind:=kind) (set:=set) hl
 have hr2:=ZaU R kind
 rw[Za2,Za2,hr,hr2]
 show(_∧(x.length:Int)=(t.e.mv.length:Int)∧_∧_∧(ZbS t kind t.e.mv.length++ZdM t.e set t.e.h.toNat).all _=true)↔((_∧(x.length:Int)=(t.e.mv.length:Int)∧_∧_∧(ZbS t kind t.e.mv.length).all _=true)∧_)
 rw[List.all_append,Ya2]
 have h:(ZdM t.e set t.e.h.toNat).all (fun w=>ZeF w x)=true↔∀ h:Nat,h<t.e.h.toNat→set.contains (h:Int)=false→∀ i∈ownL t.e h,atP x (i:Nat)=0:=by
  rw[Ya6]
  constructor
  ·intro h n h1 h2 i hi
   have:=h (oneR i 2 (ofQ 0)) ((ZgF _).2 ⟨n,h1,h2,i,hi,rfl⟩)
   have:=((ZcU (by decide) (by decide)).1 this).2.2 rfl
   rwa [Zav]at this
  ·intro h w hw
   obtain⟨n,h1,h2,i,hi,rfl⟩:=(ZgF _).1 hw
   refine(ZcU (by decide) (by decide)).2 ⟨fun e=>by omega,fun e=>by omega,fun _=>?_⟩
   rw[Zav]
   exact h n h1 h2 i hi
 rw[h]
 constructor
 ·rintro⟨a,b,c,d,e,f⟩;exact⟨⟨a,b,c,d,e⟩,f⟩
 ·rintro⟨⟨a,b,c,d,e⟩,f⟩;exact⟨a,b,c,d,e,f⟩
omit R hl in
theorem Zno{s:SysD}(hs:Zax s=true):((solD s).2.2=true∧Zal s (solD s).1=true)∨((solD s).2.2=false∧∀ x,Zal s x=false):=by
 have hn:=Zjx hs
 have hc:=ZdD hs hn
 unfold solD
 rw[hs,if_pos rfl]
 rcases ZeO hc with⟨a0,_,a2,_⟩|⟨a0,a1,_⟩|⟨a0,a1,a2,_⟩
 ·left;rw[if_neg (by omega)];exact⟨rfl,a2⟩
 ·right;rw[if_pos a0];exact⟨rfl,fun x=>Zfq a1⟩
 ·left;rw[if_neg (by omega)];exact⟨rfl,a1⟩
theorem Zta:ZfD t kind set=true↔∃ x,Zal (sysT t kind) x=true∧∀ h:Nat,h<t.e.h.toNat→set.contains (h:Int)=false→∀ i∈ownL t.e h,atP x (i:Nat)=0:=by
 unfold ZfD
 rcases Zno (ZjQ R (kind:=kind) (set:=set) hl)with⟨a,b⟩|⟨a,b⟩
 ·rw[a,b]
  exact⟨fun _=>⟨_,(Zm2 R hl).1 b⟩,fun _=>rfl⟩
 ·rw[a,Bool.false_and]
  refine⟨fun h=>(by cases h),fun⟨x,hx⟩=>?_⟩
  have:=(Zm2 R hl).2 hx
  rw[b]at this;cases this
end
set_option maxHeartbeats 16000000
theorem ZlE{s s' u:St}(e:s=s')(h:StLe s' u):StLe s u:=e▸h
theorem ZvU(t:TrD)(R:RightTr t)(kind:Int)(i:Nat):(ZhD t kind i).length≤72:=by
 have l4:=R.lf
 have l5:=R.lc
 have q1:=Yb1 (fun f:FiD=>f.k==kind&&f.v==(i:Int)) t.fi
 have q2:=Yb1 (fun f:ClD=>f.k==kind&&f.v==(i:Int)) t.cl
 unfold ZhD finK cleK
 simp only[List.length_append,List.length_map,List.length_replicate]
 split<;>split<;>simp only[List.length_nil,List.length_cons]<;>omega
theorem Zha(t:TrD)(R:RightTr t)(kind:Int):∀ k,(ZbS t kind k).length≤72*k
 | 0=>Yb0 _
 | k+1=>by
   have h1:=Zha t R kind k
   have h2:=ZvU t R kind k
   simp only[ZbS,List.length_append];omega
theorem ZbQ(A:List RowD)(keep:Nat→Bool):∀ x∈A.map cW,okDs keep x=true:=fun x hx=>by
 obtain⟨u,_,rfl⟩:=List.mem_map.1 hx
 rfl
theorem sys_c(t:TrD)(R:RightTr t)(h1:ZaZ t=0)(L:LenT t)(kind:Int)(hk:Zdk kind=true):Zaf Tryz.prog 40 [ZbC t,dI kind] (.tup [encS (sysT t kind),dI 0]):=by
 have hres:=Tryz.results40
 have hresR:=Tryz.results85
 have k1:=ZhU t L
 have k2:=Zrf t R kind
 have k3:=nZ_c
 have k4:=nO_c
 have Lm:=R.e.lm
 rw[h1]at k1
 simp only[Zdk,Ya2,decide_eq_true_eq]at hk
 have h2:¬ kind<0:=by omega
 have h3:¬ kind≥8:=by omega
 refine inC Tryz.func40 rfl Tryz.ntmps40 ?_
 refine aGo (cj3 hres h2 h3) ?_
 repeat with_reducible intro K hK
 have kl:(Zb7 t kind).length=t.e.mv.length:=by simp[Zb7]
 refine aLe (ZdK 3 0 1 153 6 rfl rfl rfl) ?_
 simp only[go_sem]
 refine Zat (fun(x:Nat×Nat)=>[(2,.lp 0 0 0 0),(4,.lp 1 0 0 0),(6,.lp 2 0 0 0),(7,.lp 3 0 0 0),(8,.clo 85 [.lp 3 0 0 0]),(34,Zgc (Zb7 t kind)),(35,dI t.e.mv.length),(36,dI x.1)]) (fun x=>[(0,⟨32,0,10,[cTr t],0,false⟩),(1,⟨99,0,2,[[dI 0,.nil]],0,false⟩),(2,⟨28,0,8,[cEv t.e],0,false⟩),(3,⟨99,0,2,[[dI t.e.mv.length,.ls 4 x.2]],0,false⟩),(4,⟨153,x.2,6,(ZbS t kind x.1).map cW,0,false⟩)]) 5 0 (fun x=>x.1≤t.e.mv.length) (fun x=>t.e.mv.length-x.1) (0,0) (by show 0≤t.e.mv.length;omega) ?_ ?_
 ·have e0:ZbS t kind 0=[]:=rfl
  refine Zag _ _ _ ?_ ?_ ?_ ?_ ?_ (.inl rfl)<;>simp[go_sem,okD,okDs,Zap,e0,kl]
 rintro⟨k,V⟩ hk2
 simp only at hk2
 obtain⟨hw,h0⟩:=ZaM k
 have hA:=Zha t R kind k
 have hA2:=Zha t R kind (k+1)
 have eR:ZbS t kind (k+1)=ZbS t kind k++ZhD t kind k:=rfl
 by_cases h4:(k:Int)<t.e.mv.length
 ·have hka:(Zb7 t kind)[k]? =some (abK t kind k):=by unfold Zb7;rw[List.getElem?_map,List.getElem?_range (by omega)];rfl
  have kb:=ZC9 t.e R.e k (by omega)
  have ks:=Zvt t.e R.e k (by omega)
  have eK:ZhD t kind k=(if ZbK t.e k then []else [ZcR t.e k])++((if (abK t kind k).cap then [oneR k 1 (abK t kind k).hi]else [])++((abK t kind k).fi.map (fun(g:Int)=>oneR k 0 (ofQ (g:Rat)))++List.replicate (abK t kind k).cl.toNat (oneR k 2 (ofQ 0)))):=by
   unfold ZhD abK;rfl
  have hcl:0≤(abK t kind k).cl∧(abK t kind k).cl≤50:=by
   have q2:=Yb1 (fun f:ClD=>f.k==kind&&f.v==(k:Int)) t.cl
   have l5:=R.lc
   unfold abK cleK
   simp only;omega
  have hfi:(abK t kind k).fi.length≤20∧∀ g∈(abK t kind k).fi,1≤g∧g≤1099511627776:=by
   have q2:=Yb1 (fun f:FiD=>f.k==kind&&f.v==(k:Int)) t.fi
   have l4:=R.lf
   refine⟨by unfold abK finK;simp only[List.length_map];omega,fun g hg=>?_⟩
   obtain⟨f,hf,rfl⟩:=List.mem_map.1 hg
   exact(R.fi f (List.mem_filter.1 hf).1).2.2
  generalize abK t kind k=ab at hka hcl hfi eK
  obtain⟨hi,cap,fi,cl⟩:=ab
  dsimp only at eK hcl hfi
  rw[eK]at eR
  clear eK
  obtain⟨A,eA⟩:∃ A,ZbS t kind k=A:=⟨_,rfl⟩
  obtain⟨A',eA'⟩:∃ A,ZbS t kind (k+1)=A:=⟨_,rfl⟩
  rw[eA]at hA
  rw[eA']at hA2
  rw[eA,eA']at eR
  generalize ZbK t.e k=b at kb eR
  rw[eA]
  refine aGo (cj4 hres h0 h4 hka) ?_
  repeat with_reducible intro K hK
  have Zgh:∀ (A1 A2:List RowD),A'=A1++A2→A1.length≤14400:=fun A1 A2 h=>by
   have:=congrArg List.length h
   rw[List.length_append]at this;omega
  have r1:∀ (A1:List RowD)(V1:Nat),A'=A1++((if cap then [oneR k 1 hi]else [])++(fi.map (fun(g:Int)=>oneR k 0 (ofQ (g:Rat)))++List.replicate cl.toNat (oneR k 2 (ofQ 0))))→∀ st,StLe st ⟨tabT [(2,.lp 0 0 0 0),(4,.lp 1 0 0 0),(6,.lp 2 0 0 0),(7,.lp 3 0 0 0),(8,.clo 85 [.lp 3 0 0 0]),(34,Zgc (Zb7 t kind)),(35,dI t.e.mv.length),(36,dI k),(9,dI k),(10,.lp 5 0 0 0)],tabM [(0,⟨32,0,10,[cTr t],0,false⟩),(1,⟨99,0,2,[[dI 0,.nil]],0,false⟩),(2,⟨28,0,8,[cEv t.e],0,false⟩),(3,⟨99,0,2,[[dI t.e.mv.length,.ls 4 V1]],0,false⟩),(4,⟨153,V1,6,A1.map cW,0,false⟩),(5,⟨88,0,7,[cAb ⟨hi,cap,fi,cl⟩],0,false⟩)],6,0⟩→K st:=by
   clear eR hA
   intro A1 V1 e1 st hle
   refine hK _ (aLe hle ?_)
   clear hle hK
   have bA1:=Zgh A1 _ e1
   refine aGo hres ?_
   repeat with_reducible intro K hK
   have r2:∀ (A2:List RowD)(V2:Nat),A'=A2++(fi.map (fun(g:Int)=>oneR k 0 (ofQ (g:Rat)))++List.replicate cl.toNat (oneR k 2 (ofQ 0)))→∀ st,StLe st ⟨tabT [(2,.lp 0 0 0 0),(4,.lp 1 0 0 0),(6,.lp 2 0 0 0),(7,.lp 3 0 0 0),(8,.clo 85 [.lp 3 0 0 0]),(34,Zgc (Zb7 t kind)),(35,dI t.e.mv.length),(36,dI k),(9,dI k),(10,.lp 5 0 0 0)],tabM [(0,⟨32,0,10,[cTr t],0,false⟩),(1,⟨99,0,2,[[dI 0,.nil]],0,false⟩),(2,⟨28,0,8,[cEv t.e],0,false⟩),(3,⟨99,0,2,[[dI t.e.mv.length,.ls 4 V2]],0,false⟩),(4,⟨153,V2,6,A2.map cW,0,false⟩),(5,⟨88,0,7,[cAb ⟨hi,cap,fi,cl⟩],0,false⟩)],6,0⟩→K st:=by
    clear e1 bA1
    intro A2 V2 e2 st hle
    refine hK _ (aLe hle ?_)
    clear hle hK
    refine aGo hres ?_
    repeat with_reducible intro K hK
    obtain⟨F,hF⟩:∃ F:Nat→List RowD,F=fun j=>A2++(fi.take j).map (fun(g:Int)=>oneR k 0 (ofQ (g:Rat))):=⟨_,rfl⟩
    have F0:F 0=A2:=by rw[hF];simp
    have Fn:F fi.length=A2++fi.map (fun(g:Int)=>oneR k 0 (ofQ (g:Rat))):=by rw[hF];simp
    have Fs:∀ (j:Nat)(g:Int),fi[j]? =some g→F (j+1)=F j++[oneR k 0 (ofQ (g:Rat))]:=fun j g hg=>by rw[hF];simp only;rw[Yb4,hg];simp
    have bA2:=Zgh A2 _ e2
    have Fl:∀ j:Nat,j≤fi.length→(F j).length≤14420:=fun j hj=>by rw[hF];simp;omega
    refine Zat (fun(x:Nat×Nat)=>[(2,.lp 0 0 0 0),(4,.lp 1 0 0 0),(6,.lp 2 0 0 0),(7,.lp 3 0 0 0),(8,.clo 85 [.lp 3 0 0 0]),(34,Zgc (Zb7 t kind)),(35,dI t.e.mv.length),(36,dI k),(9,dI k),(10,.lp 5 0 0 0),(61,Zab fi),(62,dI fi.length),(63,dI x.1)]) (fun x=>[(0,⟨32,0,10,[cTr t],0,false⟩),(1,⟨99,0,2,[[dI 0,.nil]],0,false⟩),(2,⟨28,0,8,[cEv t.e],0,false⟩),(3,⟨99,0,2,[[dI t.e.mv.length,.ls 4 x.2]],0,false⟩),(4,⟨153,x.2,6,(F x.1).map cW,0,false⟩),(5,⟨88,0,7,[cAb ⟨hi,cap,fi,cl⟩],0,false⟩)]) 6 0 (fun x=>x.1≤fi.length) (fun x=>fi.length-x.1) (0,V2) (by show 0≤fi.length;omega) ?_ ?_
    ·refine Zag _ _ _ ?_ ?_ ?_ ?_ ?_ (.inl rfl)<;>simp[go_sem,okD,okDs,Zap,F0]<;>exact ZbQ _ _
    rintro⟨j,W⟩ hj
    simp only at hj
    obtain⟨hwj,j0⟩:=ZaM j
    by_cases h5:(j:Int)<fi.length
    ·obtain⟨g,hg⟩:∃ g,fi[j]? =some g:=⟨_,Ya0 (by omega)⟩
     obtain⟨g1,g2⟩:=hfi.2 g (Ya7 hg)
     have kg:=ZhN g (by omega) (by omega)
     have eB:=Fs j g hg
     have bl:=Fl j hj
     generalize F j=B at eB bl
     have ew:cW (oneR k 0 (ofQ (g:Rat)))=[.sl [cT ⟨k,ofQ 1⟩],dI 0,dI (ofQ (g:Rat)).p.s,Zab (ofQ (g:Rat)).p.d,dI (ofQ (g:Rat)).q.s,Zab (ofQ (g:Rat)).q.d]:=rfl
     refine aGo (cj4 hres j0 h5 hg) ?_
     repeat with_reducible intro K hK
     refine Zbf Tryz.func85 rfl (by kernel_rfl) (by kernel_rfl) (by kernel_rfl) ?_
     rw[Tryz.ntmps85]
     refine aGo (cj3 hres hresR hwj) ?_
     repeat with_reducible intro K hK
     refine Zac (j+1,W+1) ?_ ?_ ?_
     ·show j+1≤fi.length;omega
     ·show fi.length-(j+1)<fi.length-j;omega
     have ez:∀ M:Mem,List.map (List.map (fzT false M 4)) (B.map cW)=B.map cW:=fun M=>Zan (fun _=>rfl) _
     refine StLe.trans (ZcM 7 rfl) (StLe.trans (ZcY 4 4 rfl) (ZlE (by simp only[go_sem,fzT,ez];exact rfl) ?_))
     refine Zag _ _ _ ?_ ?_ ?_ ?_ ?_ (.inl rfl)<;>simp[go_sem,okD,okDs,Zap,ew,eB]
     all_goals (rintro e (⟨a,_,rfl⟩|rfl)<;>rfl)
    obtain rfl:j=fi.length:=by omega
    have e3:A'=F fi.length++List.replicate cl.toNat (oneR k 2 (ofQ 0)):=by rw[Fn,e2,List.append_assoc]
    have bF:=Fl fi.length (Ya4 _)
    generalize F fi.length=A3 at e3 bF
    clear Fs Fn F0 hF e2 Fl bA2
    refine aGo (cj2 hres h5) ?_
    repeat with_reducible intro K hK
    obtain⟨G,hG⟩:∃ G:Nat→List RowD,G=fun j=>A3++List.replicate j (oneR k 2 (ofQ 0)):=⟨_,rfl⟩
    have G0:G 0=A3:=by rw[hG];simp
    have Gs:∀ j:Nat,G (j+1)=G j++[oneR k 2 (ofQ 0)]:=fun j=>by rw[hG];simp only;rw[List.replicate_succ',List.append_assoc]
    have Gl:∀ j:Nat,j≤50→(G j).length≤14470:=fun j hj=>by rw[hG];simp at bF ⊢;omega
    refine Zat (fun(x:Nat×Nat)=>[(2,.lp 0 0 0 0),(4,.lp 1 0 0 0),(6,.lp 2 0 0 0),(7,.lp 3 0 0 0),(8,.clo 85 [.lp 3 0 0 0]),(34,Zgc (Zb7 t kind)),(35,dI t.e.mv.length),(36,dI k),(9,dI k),(10,.lp 5 0 0 0),(74,dI cl),(75,dI x.1)]) (fun x=>[(0,⟨32,0,10,[cTr t],0,false⟩),(1,⟨99,0,2,[[dI 0,.nil]],0,false⟩),(2,⟨28,0,8,[cEv t.e],0,false⟩),(3,⟨99,0,2,[[dI t.e.mv.length,.ls 4 x.2]],0,false⟩),(4,⟨153,x.2,6,(G x.1).map cW,0,false⟩),(5,⟨88,0,7,[cAb ⟨hi,cap,fi,cl⟩],0,false⟩)]) 6 0 (fun x=>(x.1:Int)≤cl) (fun x=>cl.toNat-x.1) (0,W) (by show((0:Nat):Int)≤cl;omega) ?_ ?_
    ·refine Zag _ _ _ ?_ ?_ ?_ ?_ ?_ (.inl rfl)<;>simp[go_sem,okD,okDs,Zap,G0]<;>exact ZbQ _ _
    clear h5 hwj j0 W
    rintro⟨j,W⟩ hj
    simp only at hj
    have hwj:=ZtF j
    by_cases h5:(j:Int)<cl
    ·have eB:=Gs j
     have bl:=Gl j (by omega)
     generalize G j=B at eB bl
     have ew:cW (oneR k 2 (ofQ 0))=[.sl [cT ⟨k,ofQ 1⟩],dI 2,dI (ofQ 0).p.s,Zab (ofQ 0).p.d,dI (ofQ 0).q.s,Zab (ofQ 0).q.d]:=rfl
     refine aGo (cj2 hres h5) ?_
     repeat with_reducible intro K hK
     refine Zbf Tryz.func85 rfl (by kernel_rfl) (by kernel_rfl) (by kernel_rfl) ?_
     rw[Tryz.ntmps85]
     refine aGo (cj3 hres hresR hwj) ?_
     repeat with_reducible intro K hK
     refine Zac (j+1,W+1) ?_ ?_ ?_
     ·show((j+1:Nat):Int)≤cl;omega
     ·show cl.toNat-(j+1)<cl.toNat-j;omega
     have ez:∀ M:Mem,List.map (List.map (fzT false M 4)) (B.map cW)=B.map cW:=fun M=>Zan (fun _=>rfl) _
     refine StLe.trans (ZcM 7 rfl) (StLe.trans (ZcY 4 4 rfl) (ZlE (by simp only[go_sem,fzT,ez];exact rfl) ?_))
     refine Zag _ _ _ ?_ ?_ ?_ ?_ ?_ (.inl rfl)<;>simp[go_sem,okD,okDs,Zap,ew,eB]
     all_goals (rintro e (⟨a,_,rfl⟩|rfl)<;>rfl)
    have e4:ZbS t kind (k+1)=G j:=by rw[eA',e3,hG];simp only;congr 2;omega
    refine aGo (cj3 hres h5 hw) ?_
    repeat with_reducible intro K hK
    exact Zac (k+1,W) (by show k+1≤t.e.mv.length;omega) (by show t.e.mv.length-(k+1)<t.e.mv.length-k;omega) (by refine Zag _ _ _ ?_ ?_ ?_ ?_ ?_ (.inl rfl)<;>simp[go_sem,okD,okDs,Zap,e4]<;>exact ZbQ _ _)
   clear hK
   cases cap
   ·rw[if_neg Bool.false_ne_true,List.nil_append]at e1
    refine aGo hres ?_
    repeat with_reducible intro K hK
    exact r2 A1 V1 e1 _ (by refine Zag _ _ _ ?_ ?_ ?_ ?_ ?_ (.inl rfl)<;>simp[go_sem,okD,okDs,Zap]<;>exact ZbQ _ _)
   ·rw[if_pos rfl,List.cons_append,List.nil_append]at e1
    have ew:cW (oneR k 1 hi)=[.sl [cT ⟨k,ofQ 1⟩],dI 1,dI hi.p.s,Zab hi.p.d,dI hi.q.s,Zab hi.q.d]:=rfl
    have bl:(A1.map cW).length≤14400:=by simpa using bA1
    refine aGo hres ?_
    repeat with_reducible intro K hK
    refine Zbf Tryz.func85 rfl (by kernel_rfl) (by kernel_rfl) (by kernel_rfl) ?_
    rw[Tryz.ntmps85]
    refine aGo hresR ?_
    repeat with_reducible intro K hK
    refine r2 (A1++[oneR k 1 hi]) (V1+1) (by rw[e1];simp) _ ?_
    have ez:∀ M:Mem,List.map (List.map (fzT false M 4)) (A1.map cW)=A1.map cW:=fun M=>Zan (fun _=>rfl) _
    refine StLe.trans (ZcM 7 rfl) (StLe.trans (ZcY 4 4 rfl) (ZlE (by simp only[go_sem,fzT,ez];exact rfl) ?_))
    refine Zag _ _ _ ?_ ?_ ?_ ?_ ?_ (.inl rfl)<;>simp[go_sem,okD,okDs,Zap,ew]
    all_goals (rintro e (⟨a,_,rfl⟩|rfl)<;>rfl)
  clear hK
  cases b
  ·rw[if_neg Bool.false_ne_true]at eR
   refine aGo hres ?_
   repeat with_reducible intro K hK
   exact r1 (A++[ZcR t.e k]) (V+1) (by rw[eR];simp) _ (by refine Zag _ _ _ ?_ ?_ ?_ ?_ ?_ (.inl rfl)<;>simp[go_sem,okD,okDs,Zap]<;>(rintro e (⟨a,_,rfl⟩|rfl)<;>rfl))
  ·rw[if_pos rfl,List.nil_append]at eR
   refine aGo hres ?_
   repeat with_reducible intro K hK
   exact r1 A V eR _ (by refine Zag _ _ _ ?_ ?_ ?_ ?_ ?_ (.inl rfl)<;>simp[go_sem,okD,okDs,Zap]<;>exact ZbQ _ _)
 obtain rfl:k=t.e.mv.length:=by omega
 refine aGo (cj2 hres h4) ?_
 repeat with_reducible intro K hK
 rw[Zan (fun _=>rfl)];rfl
end Go.Proofs.YtjeaacindikplaaGreat
