/-
  The examples of layer 8.
-/
import Derived.Test.YtiincpioidnciaaGreatVLib
import Derived.Test.YtiincpioidnciaaGreatVT00
import Derived.Test.YtiincpioidnciaaGreatVConv
import Derived.TacticsIn
import Derived.RangeFuncKeeps
import Derived.OrdersIn
namespace Go.Proofs.YtiincpioidnciaaGreat
set_option linter.unusedVariables false
set_option linter.unusedSimpArgs false
set_option linter.unusedSectionVars false
open Go Go.RowKit
set_option maxRecDepth 100000
set_option maxHeartbeats 4000000
set_option maxHeartbeats 8000000
def dotS(g:Int→Rat):List Zae→Rat
 | []=>0
 | t ::l=>qOf t.f*g t.v+dotS g l
theorem Zbv(g:Int→Rat):∀ l m:List Zae,dotS g (l++m)=dotS g l+dotS g m
 | [],m=>by simp[dotS];grind
 | t ::l,m=>by simp only[Yc9,dotS,Zbv g l m];grind
theorem Zce(g:Int→Rat):∀ (l:List Zae)(z:Rat),l.foldl (fun a t=>a+qOf t.f*g t.v) z=z+dotS g l
 | [],z=>by simp only[List.foldl_nil,dotS];grind
 | t ::l,z=>by simp only[List.foldl_cons,dotS];rw[Zce g l];grind
theorem Zd1(l:List Zae)(x:List Zad):dotD l x=dotS (atP x) l:=by
 unfold dotD;rw[Zce];grind
theorem Zao{n last:Int}{t:Zae}{l:List Zae}:goR n last (t ::l)=true↔last<t.v∧t.v<n∧sgnD t.f≠0∧goR n t.v l=true:=by
 simp[goR,and_assoc]
theorem ZbX{f:Zad}(h:sgnD f≠0):okF f=true∧qOf f≠0:=by
 cases ho:okF f
 ·exact absurd (Zdv ho) h
 ·refine⟨rfl,fun h0=>h ?_⟩
  simp[sgnD,ho,h0,sgQ]
theorem Zcm{q:Rat}(h:q≠0):sgnD (ofQ q)≠0:=by rw[Zei];exact fun h0=>h (Zej.1 h0)
def indI(v u:Int):Rat:=if u=v then 1 else 0
theorem ZaO{n:Int}{v:Int}:∀ (l:List Zae)(last:Int),v≤last→goR n last l=true→dotS (indI v) l=0
 | [],_,_,_=>rfl
 | t ::l,last,h,k=>by
   have k':=Zao.1 k
   have ih:=ZaO (n:=n) (v:=v) l t.v (by omega) k'.2.2.2
   simp only[dotS,ih]
   rw[show indI v t.v=0 from if_neg (by omega)];grind
theorem ZaS{n:Int}{last:Int}{t:Zae}{l:List Zae}(k:goR n last (t ::l)=true):dotS (indI t.v) (t ::l)=qOf t.f:=by
 have k':=Zao.1 k
 simp only[dotS,ZaO l t.v (Int.le_refl _) k'.2.2.2,indI,if_true];grind
theorem ZdR{n m:Int}:∀ (a b:List Zae)(la lb:Int),goR n la a=true→goR m lb b=true→(∀ g,dotS g a=dotS g b)→a=b
 | [],[],_,_,_,_,_=>rfl
 | [],y ::b,_,lb,_,hb,h=>by
   have:=h (indI y.v)
   rw[ZaS hb]at this
   exact absurd this.symm (ZbX (Zao.1 hb).2.2.1).2
 | x ::a,[],la,_,ha,_,h=>by
   have:=h (indI x.v)
   rw[ZaS ha]at this
   exact absurd this (ZbX (Zao.1 ha).2.2.1).2
 | x ::a,y ::b,la,lb,ha,hb,h=>by
   have ha':=Zao.1 ha
   have hb':=Zao.1 hb
   have fx:=ZbX ha'.2.2.1
   have fy:=ZbX hb'.2.2.1
   rcases Int.lt_trichotomy x.v y.v with hv|hv|hv
   ·have:=h (indI x.v)
    rw[ZaS ha,ZaO (n:=m) (y ::b) x.v (Int.le_refl _) (Zao.2 ⟨hv,hb'.2⟩)]at this
    exact absurd this fx.2
   ·have hq:=h (indI x.v)
    rw[ZaS ha,hv,ZaS hb]at hq
    have he:x=y:=by
     cases x with|mk u f=>cases y with|mk w g =>
     dsimp only at hv hq fx fy
     rw[ZeU fx.1,ZeU fy.1,hq,hv]
    subst he
    congr 1
    refine ZdR a b x.v x.v ha'.2.2.2 hb'.2.2.2 fun g=>?_
    have:=h g
    simp only[dotS]at this
    grind
   ·have:=h (indI y.v)
    rw[ZaS hb,ZaO (n:=n) (x ::a) y.v (Int.le_refl _) (Zao.2 ⟨hv,ha'.2⟩)]at this
    exact absurd this.symm fy.2
theorem Zc5{n m:Int}{a b:List Zae}(ha:Zai a n=true)(hb:Zai b m=true)(h:∀ g,dotS g a=dotS g b):a=b:=by
 simp only[Zai,Ya2]at ha hb
 exact ZdR a b _ _ ha.2 hb.2 h
def sumN:Nat→(Nat→Rat)→Rat
 | 0,_=>0
 | n+1,f=>sumN n f+f n
theorem Zak{f g:Nat→Rat}:∀ n,(∀ i,i<n→f i=g i)→sumN n f=sumN n g
 | 0,_=>rfl
 | n+1,h=>by simp only[sumN,Zak n (fun i hi=>h i (by omega)),h n (by omega)]
theorem Zaw:∀ n,sumN n (fun _=>0)=0
 | 0=>rfl
 | n+1=>by simp only[sumN,Zaw n];grind
theorem Zbe(f g:Nat→Rat):∀ n,sumN n (fun i=>f i+g i)=sumN n f+sumN n g
 | 0=>by simp only[sumN];grind
 | n+1=>by simp only[sumN,Zbe f g n];grind
theorem ZaP(c:Rat)(f:Nat→Rat):∀ n,sumN n (fun i=>c*f i)=c*sumN n f
 | 0=>by simp only[sumN];grind
 | n+1=>by simp only[sumN,ZaP c f n];grind
theorem Zds{f g:Nat→Rat}:∀ n,(∀ i,i<n→f i≤g i)→sumN n f≤sumN n g
 | 0,_=>by simp only[sumN];grind
 | n+1,h=>by
   have h1:=Zds n (fun i hi=>h i (by omega))
   have h2:=h n (by omega)
   simp only[sumN];grind
theorem Za1{c:Rat}{v:Nat}:∀ n,sumN n (fun i=>if i=v then c else 0)=if v<n then c else 0
 | 0=>by simp only[sumN];rw[if_neg (by omega)]
 | n+1=>by
   simp only[sumN,Za1 n]
   by_cases h:n=v
   ·subst h;rw[if_neg (by omega),if_pos rfl,if_pos (by omega)];grind
   ·rw[if_neg h]
    by_cases h2:v<n
    ·rw[if_pos h2,if_pos (by omega)];grind
    ·rw[if_neg h2,if_neg (by omega)];grind
def Zay(l:List Zae)(v:Nat):Rat:=dotS (indI v) l
theorem Zbu{N:Nat}(g:Int→Rat):∀ (l:List Zae),(∀ t∈l,0≤t.v∧t.v<N)→dotS g l=sumN N (fun v=>Zay l v*g v)
 | [],_=>by
   have:(fun v:Nat=>Zay [] v*g v)=fun _=>0:=by funext v;simp only[Zay,dotS];grind
   rw[this,Zaw];rfl
 | t ::l,h=>by
   have ht:=h t Yb7
   have ih:=Zbu g l (fun u hu=>h u (Yb6 _ hu))
   have e:(fun v:Nat=>Zay (t ::l) v*g v)=fun v=>(if v=t.v.toNat then qOf t.f*g t.v else 0)+Zay l v*g v:=by
    funext v
    simp only[Zay,dotS,indI]
    by_cases hv:v=t.v.toNat
    ·rw[if_pos (by omega),if_pos hv,show((v:Nat):Int)=t.v by omega];grind
    ·rw[if_neg (by omega),if_neg hv];grind
   rw[e,Zbe,Za1,if_pos (by omega),← ih]
   simp only[dotS]
theorem Za3{l:List Zae}{N:Nat}(h:Zai l N=true):∀ t∈l,0≤t.v∧t.v<N:=fun t ht=>⟨(ZbG h ht).1,(ZbG h ht).2.1⟩
def mixG(g:Int→Rat):List RowD→List Zad→Rat
 | w ::r,f ::y=>qOf f*dotS g w.t+mixG g r y
 | _,_=>0
def mixV:List RowD→List Zad→Rat
 | w ::r,f ::y=>qOf f*qOf w.v+mixV r y
 | _,_=>0
theorem ZcI(g:Int→Rat)(y:List Zad):mixG g [] y=0:=by cases y<;>rfl
theorem Zet(y:List Zad):mixV [] y=0:=by cases y<;>rfl
theorem ZcH{N:Nat}(g:Int→Rat):∀ (r:List RowD)(y:List Zad),(∀ w∈r,∀ t∈w.t,0≤t.v∧t.v<N)→mixG g r y=sumN N (fun v=>mixG (indI v) r y*g v)
 | [],y,_=>by simp only[ZcI];rw[show(fun v:Nat=>(0:Rat)*g v)=fun _=>0 by funext v;grind,Zaw]
 | w ::r,[],_=>by
   simp only[mixG];rw[show(fun v:Nat=>(0:Rat)*g v)=fun _=>0 by funext v;grind,Zaw]
 | w ::r,f ::y,h=>by
   have ih:=ZcH g r y (fun u hu=>h u (Yb6 _ hu))
   have e:(fun v:Nat=>mixG (indI v) (w ::r) (f ::y)*g v)=fun v=>qOf f*(Zay w.t v*g v)+mixG (indI v) r y*g v:=by
    funext v;simp only[mixG,Zay];grind
   rw[e,Zbe,ZaP,← Zbu g w.t (h w Yb7),← ih]
   simp only[mixG]
def Zav(n:Nat)(c:Nat→Rat):List Zae:=(List.range n).filterMap fun(v:Nat)=>if c v=0 then none else some ⟨(v:Int),ofQ (c v)⟩
theorem ZaI(n:Nat)(c:Nat→Rat):Zav (n+1) c=Zav n c++(if c n=0 then []else [⟨(n:Int),ofQ (c n)⟩]):=by
 unfold Zav
 rw[List.range_succ,List.filterMap_append]
 by_cases h:c n=0<;>simp[h]
theorem ZbC{c:Nat→Rat}:∀ (n:Nat),∀ t∈Zav n c,0≤t.v∧t.v<n
 | 0,t,h=>by simp[Zav]at h
 | n+1,t,h=>by
   rw[ZaI,Yd5]at h
   rcases h with h|h
   ·have:=ZbC n t h;omega
   ·split at h
    ·cases h
    ·rw[List.mem_singleton]at h;subst h;dsimp only;omega
theorem ZcK{n:Int}{t:Zae}(h2:t.v<n)(h3:sgnD t.f≠0):∀ (l:List Zae)(last:Int),goR n last l=true→last<t.v→(∀ u∈l,u.v<t.v)→goR n last (l++[t])=true
 | [],last,_,h,_=>Zao.2 ⟨h,h2,h3,rfl⟩
 | u ::l,last,k,_,hu=>by
   have k':=Zao.1 k
   exact Zao.2 ⟨k'.1,k'.2.1,k'.2.2.1,ZcK h2 h3 l u.v k'.2.2.2 (hu u Yb7) (fun w hw=>hu w (Yb6 _ hw))⟩
theorem Zbj{c:Nat→Rat}{m:Int}:∀ (n:Nat),(n:Int)≤m→goR m (-1) (Zav n c)=true
 | 0,_=>rfl
 | n+1,h=>by
   rw[ZaI]
   have ih:=Zbj (c:=c) (m:=m) n (by omega)
   split
   ·rw[List.append_nil];exact ih
   ·rename_i hc
    exact ZcK (by dsimp only;omega) (Zcm hc) _ _ ih (by dsimp only;omega) (fun u hu=>by have:=ZbC n u hu;dsimp only;omega)
theorem Za0{c:Nat→Rat}{n:Nat}{m:Int}(h:(n:Int)≤m):Zai (Zav n c) m=true:=by
 simp only[Zai,Ya2,decide_eq_true_eq]
 exact⟨by omega,Zbj n h⟩
theorem ZaC(g:Int→Rat)(c:Nat→Rat):∀ n:Nat,dotS g (Zav n c)=sumN n (fun v=>c v*g v)
 | 0=>rfl
 | n+1=>by
   rw[ZaI,Zbv,ZaC g c n]
   simp only[sumN]
   split
   ·rename_i h;rw[h];simp only[dotS];grind
   ·simp only[dotS,ZdD];grind
theorem Zb8(c:Nat→Rat)(n v:Nat):Zay (Zav n c) v=if v<n then c v else 0:=by
 unfold Zay
 rw[ZaC]
 have e:(fun u:Nat=>c u*indI v u)=fun u=>if u=v then c v else 0:=by
  funext u
  simp only[indI]
  by_cases h:u=v
  ·subst h;rw[if_pos rfl,if_pos rfl];grind
  ·rw[if_neg (by omega),if_neg h];grind
 rw[e,Za1]
theorem Zcq{l:List Zae}{n:Nat}(h:Zai l n=true):l=Zav n (Zay l) :=
 Zc5 h (Za0 (Int.le_refl _)) fun g=>by rw[ZaC,Zbu g l (Za3 h)]
theorem ZcQ{l:List Zae}{n:Nat}(h:Zai l n=true){v:Nat}(hv:n≤v):Zay l v=0:=by
 rw[Zcq h,Zb8,if_neg (by omega)]
def Ze7(a b:List Zae):Prop:=∀ v:Int,dotS (indI v) a≤dotS (indI v) b
theorem Zd0{n last v:Int}{l:List Zae}(h:goR n last l=true)(hv:v≤last):dotS (indI v) l=0:=ZaO l last hv h
def ZcT(n:Nat)(a b:List Zae):Bool:=(List.range n).all fun v=>decide (Zay a v≤Zay b v)
theorem Zdm{n:Nat}{a b:List Zae}(ha:Zai a n=true)(hb:Zai b n=true):ZcT n a b=true↔Ze7 a b:=by
 unfold ZcT
 simp only[Ya6,Yd2,decide_eq_true_eq]
 constructor
 ·intro h v
  by_cases h0:0≤v
  ·have e:((v.toNat:Nat):Int)=v:=by omega
   by_cases h1:v.toNat<n
   ·have:=h v.toNat h1;unfold Zay at this;rw[e]at this;exact this
   ·have c1:=ZcQ ha (v:=v.toNat) (by omega)
    have c2:=ZcQ hb (v:=v.toNat) (by omega)
    unfold Zay at c1 c2
    rw[e]at c1 c2
    rw[c1,c2];exact Rat.le_refl
  ·simp only[Zai,Ya2]at ha hb
   rw[Zd0 ha.2 (by omega),Zd0 hb.2 (by omega)];exact Rat.le_refl
 ·intro h v _;exact h v
set_option maxHeartbeats 16000000
theorem ZdT{k:Int}{d:Rat}(h0:0≤k)(h3:k<3):ZeF k (sgQ d)=true↔(k=0→0≤d)∧(k=1→d≤0)∧(k=2→d=0):=by
 have hk:k=0∨k=1∨k=2:=by omega
 rcases Za2 d with⟨h,e⟩|⟨h,e⟩|⟨h,e⟩<;>rw[e]<;>rcases hk with rfl|rfl|rfl<;>simp[ZeF]<;>grind
theorem Zcn{f:Zad}(h:okF f=true):0≤sgnD f↔0≤qOf f:=by
 have e:sgnD f=sgQ (qOf f):=by simp[sgnD,h]
 rw[e]
 rcases Za2 (qOf f)with⟨h,g⟩|⟨h,g⟩|⟨h,g⟩<;>rw[g]<;>constructor<;>intro h1<;>grind
structure OptD where
 k:Int
 v:Zad
 x:List Zad
 y:List Zad
 d:List Zad
def Zfl(s:SysD)(y:List Zad):Bool:=Zar s&&decide ((y.length:Int)=s.r.length)&&okP y
def ZcB(w:RowD)(f:Zad):Bool:= !(w.k==0&&decide (sgnD f<0)) && !(w.k==1&&decide (sgnD f>0))
def Zcl(s:SysD)(y:List Zad):Bool:=Zfl s y&&(s.r.zip y).all (fun p=>ZcB p.1 p.2)
def mixT(s:SysD)(y:List Zad):List Zae:=Zav s.n.toNat (fun v=>mixG (indI v) s.r y)
def ZdM(s:SysD)(goal:List Zae)(y:List Zad):Zad×Bool :=
 if Zcl s y&&Zai goal s.n&&ZcT s.n.toNat (mixT s y) goal then(ofQ (mixV s.r y),true)else(zF,false)
theorem ZdI{s:SysD}{y:List Zad}:Zfl s y=true↔Zar s=true∧y.length=s.r.length∧okP y=true:=by
 simp only[Zfl,Ya2,decide_eq_true_eq,and_assoc]
 constructor
 ·rintro⟨a,b,c⟩;exact⟨a,by omega,c⟩
 ·rintro⟨a,b,c⟩;exact⟨a,by omega,c⟩
theorem Zel{s:SysD}(h:Zar s=true):0≤s.n∧s.n≤1500:=by
 simp only[Zar,Ya2,decide_eq_true_eq]at h;exact⟨h.1.1.1,h.1.1.2⟩
theorem Za9{s:SysD}(h:Zar s=true){w:RowD}(hw:w∈s.r):Zai w.t s.n.toNat=true∧0≤w.k∧w.k<3∧okF w.v=true:=by
 have h1:=Zc6 h hw
 have:=(Zel h).1
 simp only[ZdA,Ya2,decide_eq_true_eq]at h1
 rw[show((s.n.toNat:Nat):Int)=s.n by omega]
 exact⟨h1.1.1.1,h1.1.1.2,h1.1.2,h1.2⟩
theorem Zcp{l:List Zae}{n:Int}(h:Zai l n=true):Zai l n.toNat=true:=by
 have h0:0≤n:=by simp only[Zai,Ya2,decide_eq_true_eq]at h;exact h.1
 rwa [show((n.toNat:Nat):Int)=n by omega]
theorem Zdf{s:SysD}{goal:List Zae}{y:List Zad}:(ZdM s goal y).2=true↔Zcl s y=true∧Zai goal s.n=true∧ZcT s.n.toNat (mixT s y) goal=true:=by
 unfold ZdM
 split
 ·rename_i h;simp only[Ya2]at h;simp[h.1.1,h.1.2,h.2]
 ·rename_i h
  simp only[Ya2,not_and,Bool.not_eq_true]at h
  simp only[Bool.false_eq_true,false_iff]
  rintro⟨a,b,c⟩
  rw[h ⟨a,b⟩]at c;cases c
theorem Zes{s:SysD}(h:Zar s=true):∀ w∈s.r,∀ t∈w.t,0≤t.v∧t.v<(s.n.toNat:Nat):=fun w hw t ht=>Za3 (Za9 h hw).1 t ht
theorem Zeu{s:SysD}(h:Zar s=true)(y:List Zad)(g:Int→Rat):dotS g (mixT s y)=mixG g s.r y:=by
 unfold mixT
 rw[ZaC,← ZcH g s.r y (Zes h)]
theorem ZbJ{s:SysD}(h:Zar s=true)(y:List Zad):Zai (mixT s y) s.n.toNat=true:=Za0 (Int.le_refl _)
theorem Zd8{x:List Zad}(ho:okP x=true)(hn:ZdH x=true)(v:Int):0≤atP x v:=by
 unfold atP
 cases h:x[v.toNat]? with
 | none=>simp only[Option.getD_none];decide +kernel
 | some f =>
   simp only[Option.getD_some]
   have h1:=Ya6.1 ho f (ZeX h)
   have h2:=of_decide_eq_true (Ya6.1 hn f (ZeX h))
   exact(Zcn h1).1 h2
theorem Zd6{n:Nat}{a b:List Zae}(ha:Zai a n=true)(hb:Zai b n=true)(h:Ze7 a b){g:Int→Rat}(hg:∀ v,0≤g v):dotS g a≤dotS g b:=by
 rw[Zbu g a (Za3 ha),Zbu g b (Za3 hb)]
 refine Zds n fun v _=>?_
 have h1:=h v
 have h2:=Rat.mul_nonneg (a:=Zay b v-Zay a v) (by unfold Zay;grind) (hg v)
 grind
theorem Zdu{w:RowD}{f:Zad}{d:Rat}(ho:okF f=true)(hs:ZcB w f=true)(h0:0≤w.k)(h3:w.k<3)(hd:ZeF w.k (sgQ d)=true):0≤qOf f*d:=by
 rw[ZdT h0 h3]at hd
 have e:sgnD f=sgQ (qOf f):=by simp[sgnD,ho]
 simp only[ZcB,Ya2,Bool.not_eq_true',Bool.and_eq_false_iff,beq_eq_false_iff_ne,decide_eq_false_iff_not,e]at hs
 have hk:w.k=0∨w.k=1∨w.k=2:=by omega
 rcases hk with hk|hk|hk
 ·have h1:¬ sgQ (qOf f)<0:=hs.1.resolve_left (fun h=>h hk)
  rw[Zf1]at h1
  exact Rat.mul_nonneg (by grind) (hd.1 hk)
 ·have h1:¬ sgQ (qOf f)>0:=hs.2.resolve_left (fun h=>h hk)
  rw[gt_iff_lt,Zf2]at h1
  have:=Rat.mul_nonneg (a:= -qOf f) (b:= -d) (by grind) (by have:=hd.2.1 hk;grind)
  grind
 ·rw[hd.2.2 hk];grind
theorem ZeW(x:List Zad):∀ (r:List RowD)(y:List Zad),okP y=true→(∀ w∈r,0≤w.k∧w.k<3)→(r.zip y).all (fun p=>ZcB p.1 p.2)=true→r.all (fun w=>Ze0 w x)=true→mixV r y≤mixG (atP x) r y
 | [],y,_,_,_,_=>by rw[ZcI,Zet];exact Rat.le_refl
 | _ ::_,[],_,_,_,_=>by simp only[mixG,mixV];exact Rat.le_refl
 | w ::r,f ::y,ho,hk,hs,hh=>by
   simp only[okP,List.all_cons,Ya2]at ho
   simp only[List.zip_cons_cons,List.all_cons,Ya2]at hs hh
   have ih:=ZeW x r y ho.2 (fun u hu=>hk u (Yb6 _ hu)) hs.2 hh.2
   have h1:=Zdu ho.1 hs.1 (hk w Yb7).1 (hk w Yb7).2 hh.1
   rw[Zd1]at h1
   simp only[mixG,mixV]
   grind
theorem bounds{s:SysD}{goal:List Zae}{y x:List Zad}(hl:(ZdM s goal y).2=true)(hx:ZaM s x=true):mixV s.r y≤dotD goal x:=by
 obtain⟨h1,h2,h3⟩:=Zdf.1 hl
 simp only[Zcl,Ya2]at h1
 obtain⟨hr,hlen,ho⟩:=ZdI.1 h1.1
 simp only[ZaM,Ya2,decide_eq_true_eq]at hx
 have a:=ZeW x s.r y ho (fun w hw=>⟨(Za9 hr hw).2.1,(Za9 hr hw).2.2.1⟩) h1.2 hx.2
 have hg:=Zcp h2
 have b:=Zd6 (ZbJ hr y) hg ((Zdm (ZbJ hr y) hg).1 h3) (fun v=>Zd8 hx.1.1.2 hx.1.2 v)
 rw[Zeu hr]at b
 rw[Zd1]
 grind
structure PlD where
 k:Int
 h:Int
 m:Int
structure MvD where
 d:Int
 f:Int
 t:Int
 s:Int
 r:Int
 a:Bool
structure PuD where
 v:Int
 m:Int
 lo:Int
 hi:Int
structure EvD where
 m:Int
 h:Int
 s:Int
 pl:List PlD
 mv:List MvD
 ce:List ZaW
 re:List RecD
 pu:List PuD
structure FiD where
 v:Int
 k:Int
 g:Int
structure ClD where
 v:Int
 k:Int
structure TrD where
 e:EvD
 fi:List FiD
 cl:List ClD
abbrev cPl(p:PlD):List D:=[dI p.k,dI p.h,dI p.m]
abbrev cMv(x:MvD):List D:=[dI x.d,dI x.f,dI x.t,dI x.s,dI x.r,dB x.a]
abbrev cPu(x:PuD):List D:=[dI x.v,dI x.m,dI x.lo,dI x.hi]
abbrev Zgl(l:List PlD):D:=.sl (l.map cPl)
abbrev Zgm(l:List MvD):D:=.sl (l.map cMv)
abbrev Zgk(l:List PuD):D:=.sl (l.map cPu)
def idx(i n:Int):Bool:=decide (0≤i)&&decide (i<n)
def fullE(e:EvD):Bool:=decide (e.m>6)||(decide (e.h>100)||(decide (e.s>30)||(decide ((e.pl.length:Int)>100)||(decide ((e.mv.length:Int)>200)||(decide ((e.ce.length:Int)>100)||(decide ((e.re.length:Int)>30)||decide ((e.pu.length:Int)>200)))))))
def okPl(h m:Int)(p:PlD):Bool:=idx p.k 7&&(if p.k=0 then idx p.h h&&idx p.m m else p.h == -1&&p.m == -1)
def Za6(e:EvD)(p:Int):Int:=((e.pl[p.toNat]?).map PlD.k).getD (-1)
def okMv(e:EvD)(x:MvD):Bool :=
 idx x.f e.pl.length&&(idx x.t e.pl.length&&(x.f !=x.t&&(!(Za6 e x.f==5)&&(!(Za6 e x.f==6)&&(!(Za6 e x.f==0&&x.a)&&(!(Za6 e x.t==0) &&
 (if x.s = -1 then x.r==0 else idx x.s e.s&&(decide (0≤x.r)&&decide (x.r≤1099511627776)))))))))
def okCe(s:Int)(c:ZaW):Bool:=(decide (0≤c.f)&&(decide (c.f≤c.u)&&decide (c.u≤100000)))&&(idx c.s s&&((decide (0≤c.g)&&decide (c.g≤1099511627776))&&((decide (0≤c.p)&&decide (c.p≤1000))&&(decide (0≤c.d)&&decide (c.d≤10000000)))))
def okRe(s:Int)(c:RecD):Bool:=idx c.s s&&(decide (0≤c.d)&&decide (c.d≤100000))
def okPu(n m:Int)(p:PuD):Bool:=idx p.v n&&(idx p.m m&&(decide (0≤p.lo)&&(decide (p.lo≤p.hi)&&decide (p.hi≤1000))))
def saidE(e:EvD):Bool:=e.ce.all (okCe e.s)&&(e.re.all (okRe e.s)&&e.pu.all (okPu e.mv.length e.m))
def ZdJ(e:EvD):Int→List MvD→Int
 | _,[]=>0
 | last,x ::l=>if x.d<last∨x.d>100000 then 17 else if okMv e x=true then ZdJ e x.d l else 1
def argE(e:EvD):Bool:=decide (1≤e.m)&&(decide (0≤e.h)&&(decide (0≤e.s)&&e.pl.all (okPl e.h e.m)))
def Zge(e:EvD):Int:=if fullE e then 6 else if argE e then(if ZdJ e 0 e.mv=0 then(if saidE e then 0 else 1)else ZdJ e 0 e.mv)else 1
structure OkMv (e:EvD) (x:MvD):Prop where
 f:0≤x.f∧x.f<e.pl.length
 t:0≤x.t∧x.t<e.pl.length
 ne:x.f≠x.t
 k5:Za6 e x.f≠5
 bin:Za6 e x.f=0→x.a=false
 tob:Za6 e x.t≠0
 s:x.s ≠ -1→(0≤x.s∧x.s<e.s)∧0≤x.r∧x.r≤1099511627776
 d:0≤x.d∧x.d≤100000
structure Zeb (e:EvD):Prop where
 m:1≤e.m∧e.m≤6
 h:0≤e.h∧e.h≤100
 s:0≤e.s∧e.s≤30
 lp:(e.pl.length:Int)≤100
 lm:(e.mv.length:Int)≤200
 lc:(e.ce.length:Int)≤100
 lr:(e.re.length:Int)≤30
 lu:(e.pu.length:Int)≤200
 pl:∀ p∈e.pl,okPl e.h e.m p=true
 mv:∀ x∈e.mv,OkMv e x
 ce:∀ c∈e.ce,okCe e.s c=true
 re:∀ c∈e.re,okRe e.s c=true
 pu:∀ p∈e.pu,okPu e.mv.length e.m p=true
structure ZfF (t:TrD):Prop where
 e:Zeb t.e
 lf:(t.fi.length:Int)≤20
 lc:(t.cl.length:Int)≤50
 fi:∀ x∈t.fi,(0≤x.v∧x.v<t.e.mv.length)∧(0≤x.k∧x.k<8)∧1≤x.g∧x.g≤1099511627776
 cl:∀ x∈t.cl,(0≤x.v∧x.v<t.e.mv.length)∧0≤x.k∧x.k<8
def mvAt(e:EvD)(i:Nat):MvD:=(e.mv[i]?).getD ⟨0,0,0,0,0,false⟩
def Zcg(e:EvD)(i:Nat):Bool:=Za6 e (mvAt e i).f==0
structure AbD where
 hi:Zad
 cap:Bool
 fi:List Int
 cl:Int
def hiI(e:EvD)(x:MvD):Zad×Bool:=if x.s = -1 then(zF,false)else((intD e.ce e.re x.s x.r x.d).hi,(intD e.ce e.re x.s x.r x.d).ok)
def finK(t:TrD)(kind:Int)(i:Nat):List Int:=(t.fi.filter fun f=>f.k==kind&&f.v==(i:Int)).map FiD.g
def cleK(t:TrD)(kind:Int)(i:Nat):Nat:=(t.cl.filter fun f=>f.k==kind&&f.v==(i:Int)).length
set_option linter.constructorNameAsVariable false
section
variable {n:Nat} {x:List D}
end
section ifl
variable [Ifl]
section
variable {P:Program} {l:List Oper} {o:Oper}
end
section
variable {P:Program} {n:Nat} {Q:Exit→St→Prop} {s:St}
end
end ifl
section ifl
variable [Ifl]
section
variable {P:Program} {n:Nat} {Q:Exit→St→Prop} {s:St}
end
section
variable {P:Program} {E:Env} {B:Base} {n:Nat} {β:Bet} {s:St} {a:Act} {w:World} {T:Bet→Mem→World→Prop}
end
end ifl
section ifl
variable [Ifl]
theorem Zah.size{β m w β' m' w'}(h:Zah β m w β' m' w'):w.heap.size≤w'.heap.size:=by
 rcases Nat.eq_zero_or_pos w.heap.size with e|e
 ·omega
 ·have hl:w.heap.size-1<w.heap.size:=by omega
  have ho:w.heap[w.heap.size-1]? =some w.heap[w.heap.size-1]:=Yb5 hl
  have:w.heap.size-1<w'.heap.size:=by
   generalize hq:w.heap[w.heap.size-1]=o at ho
   by_cases hc:∃ cs T fr,o = .cells cs T fr
   ·obtain⟨cs,T,fr,rfl⟩:=hc
    exact Zbl (h.cap _ (.inl cs.size) ⟨cs,T,fr,ho,rfl⟩)
   ·exact(Ya5.1 (h.cap _ (.inr o) ⟨fun cs T fr e=>hc ⟨cs,T,fr,e⟩,ho⟩).2).1
  omega
theorem ZcE{w:World}{D:Nat}{o o':Obj}(hd:w.heap[D]? =some o)(ho:o.isCells=false) :
 (∀ (b:Nat)(x:Obj),w.heap[b]? =some x→x.isCells=true→(w.putObj D o').heap[b]? =some x)∧(∀ b k,ZaA w b k→ZaA (w.putObj D o') b k) ∧
   ∀ b o u,w.cell? ⟨b,o,none⟩=some u→(w.putObj D o').cell? ⟨b,o,none⟩=some u:=by
 have hcells:∀ (b:Nat)(x:Obj),w.heap[b]? =some x→x.isCells=true→(w.putObj D o').heap[b]? =some x:=fun b x hb hx=>by
  rw[World.putObj_heap_other (fun e=>by subst e;rw[hd]at hb;cases hb;rw[ho]at hx;cases hx)]
  exact hb
 refine⟨hcells,fun b k ⟨cs,T,fr,h1,h2⟩=>⟨cs,T,fr,hcells b _ h1 rfl,h2⟩,fun b q u hu=>?_⟩
 by_cases e:b=D
 ·subst e
  cases o<;>first|(cases ho;done)|simp[World.cell?,hd]at hu
 ·rw[World.cell?_of_block (w:=w) (a:=⟨b,q,none⟩) (World.putObj_heap_other e)]
  exact hu
theorem Zfm{E:Env}{β:Bet}{m:Mem}{nx:Nat}{w:World}(hM:Zag E β m nx w){D:Nat}{o:Obj}(o':Obj)(hD:E.w0.heap.size≤D)(hd:w.heap[D]? =some o)(ho:o.isCells=false) :
 Zag E β m nx (w.putObj D o')∧ZcW β m w β m (w.putObj D o')∧Zac (safe E β m) w (safe E β m) (w.putObj D o'):=by
 obtain⟨hcells,hc,hcell⟩:=ZcE (o':=o') hd ho
 have hs:Zac (safe E β m) w (safe E β m) (w.putObj D o'):=fun b o u h1 h2=>⟨h1,hcell b o u h2⟩
 have hm0:ZcW β m w β m (w.putObj D o'):=⟨fun _ x hx=>⟨x,hx,Ya4 _,fun _=>⟨rfl,rfl,rfl⟩⟩,hc⟩
 refine⟨⟨?_,hM.lt,hM.fz,hM.wid,hM.non,fun id blk b h1 h2=>?_,hM.inj⟩,hm0,hs⟩
 ·exact hM.below.trans ((Below.refl E.w0.heap.size w).grown (grownBy_putObj' w D _) (by have:=(Ya5.1 hd).1;have:=hM.below.size;omega) (fun k e=>by cases e;omega))
 ·obtain⟨h3,cs,h4,h5,h6⟩:=hM.row id blk b h1 h2
  refine⟨h3,cs,hcells b _ h4 rfl,h5,fun i j d hd'=>?_⟩
  obtain⟨u,h7,h8⟩:=h6 i j d hd'
  exact⟨u,h7,h8.mono0 hm0 hs⟩
theorem Zah.putObj{β m w0 β' m' w}(h:Zah β m w0 β' m' w){D:Nat}{o:Obj}(o':Obj)(hD:w0.heap.size≤D)(hd:w.heap[D]? =some o)(ho:o.isCells=false):Zah β m w0 β' m' (w.putObj D o'):=by
 obtain⟨_,hc,_⟩:=ZcE (o':=o') hd ho
 refine⟨h.blk,fun b k hk=>?_⟩
 have hlt:b<w0.heap.size:=by
  cases k with
  | inl k=>exact Zbl hk
  | inr o=>exact(Ya5.1 hk.2).1
 have hb:(w.putObj D o').heap[b]? =w.heap[b]?:=World.putObj_heap_other (by omega)
 have:=h.cap b k hk
 cases k with
 | inl k=>exact hc b k this
 | inr o=>exact⟨this.1,by rw[hb];exact this.2⟩
section
variable {P:Program} {E:Env} {B:Base} {n:Nat} {β:Bet} {s:St} {a:Act} {w:World}
theorem RelA.putObj(hB:E.w0.heap.size≤B.w.heap.size)(h:RelA E B n β s a w){D:Nat}{o:Obj}(o':Obj)(hD:B.w.heap.size≤D)(hd:w.heap[D]? =some o)(ho:o.isCells=false)(hds:ZaF B.w.heap.size a.defers (w.putObj D o')) :
 RelA E B n β s a (w.putObj D o'):=by
 obtain⟨h1,h2,h3⟩:=Zfm h.mem o' (Yc7 hB hD) hd ho
 exact⟨h1,fun k hk=>(h.tmp k hk).mono0 h2 h3,h.width,hds,h.le.putObj o' hD hd ho,h.sle.trans h3,h.lo⟩
end
def Zch(S:Nat→Nat→Prop)(w:World):Prop:=∀ b o,w.heap.size≤b→S b o
def ZeN(s s':St):Prop:=∀ E B n β a w,RelA E B n β s a w→∃ β',RelA E B n β' s' a w∧Zac (safe E β s.m) w (safe E β' s'.m) w
theorem ZeN.trans{a b c:St}(h:ZeN a b)(k:ZeN b c):ZeN a c:=fun E B n β x w hr=>by
 obtain⟨β1,h1,h2⟩:=h E B n β x w hr
 obtain⟨β2,h3,h4⟩:=k E B n β1 x w h1
 exact⟨β2,h3,h2.trans h4⟩
end ifl
section ifl
variable [Ifl]
section
variable {P:Program} {l:List Oper} {o:Oper}
end
end ifl
local instance iflIt:Ifl:=Ifl.it
structure SI where
 t:Nat→D
 I:(Nat→Nat→Prop)→World→Prop
structure RelI (S:Nat→Nat→Prop) (n:Nat) (s:SI) (a:Act) (w:World):Prop where
 tmp:∀ k,k<n→Rep noB noM S w (a.eval (.tmp k)) (s.t k)
 width:a.tmps.size=n
 defers:a.defers=[]
 fr:Zch S w
 inv:s.I S w
def PostI(n:Nat)(Q:Exit→SI→Prop)(e:Exit)(a:Act)(w:World):Prop:=e ≠ .outgrown∧∃ S s,RelI S n s a w∧Q e s
def AWI(P:Program)(n:Nat)(c:Code)(Q:Exit→SI→Prop)(s:SI):Prop :=
 ∀ S a w,RelI S n s a w→c.wpIn Fence.wide 0 P (PostI n Q) a w
def thenI(K:SI→Prop)(Q:Exit→SI→Prop):Exit→SI→Prop
 | .normal,s=>K s
 | e,s=>Q e s
def Zex(id:Nat)(Q:Exit→SI→Prop):Exit→SI→Prop
 | .exit id',s=>if id'=id then Q .normal s else Q (.exit id') s
 | e,s=>Q e s
section
variable {P:Program} {n:Nat} {Q:Exit→SI→Prop} {s:SI}
def envI(S:Nat→Nat→Prop)(w:World)(h:Zch S w):@Env Ifl.it:=@Env.mk Ifl.it S w h (fun e=>by cases e)
theorem RelI.up{S:Nat→Nat→Prop}{a:Act}{w:World}(h:RelI S n s a w):@RelA Ifl.it (envI S w h.fr) ⟨noB,noM,w⟩ n noB ⟨s.t,noM,0,0⟩ a w:=by
 refine @RelA.mk Ifl.it _ _ _ _ _ _ _ ⟨Below.refl _ _,fun _ _ h=>(by cases h),fun _ _ h=>(by cases h),fun _ _ h=>(by cases h),fun _ _ h=>(by cases h),fun _ _ _ h=>(by cases h),fun _ _ _ _ _ h=>(by cases h)⟩ (fun k hk=>?_) h.width ?_ (Zah.refl _ _ _) (Zac.refl _ _) (fun _ _ h=>by cases h)
 ·exact(h.tmp k hk).mono (Zah.refl _ _ _) fun b o u h1 h2=>⟨⟨h1,fun _ _ h=>by cases h⟩,h2⟩
 ·rw[h.defers];exact trivial
def Zgu(P:Program)(f:FuncId)(ds:List D)(I I':(Nat→Nat→Prop)→World→Prop)(d:D):Prop:=ZbO P f ∧
 ∀ S W vs,Zch S W→I S W→Reps noB noM S W vs ds→CallsIn Fence.wide 0 P f vs.toArray W fun e W'=>∃ v S',e = .returned v∧Rep noB noM S' W' v d∧I' S' W'∧Zch S' W'∧Zac S W S' W'
end
local instance iflIt2:Ifl:=Ifl.it
section
variable {P:Program} {n:Nat} {Q:Exit→SI→Prop} {s:SI}
theorem Zgu.inline {f : FuncId} {fn : Func} {c : Code} {ds : List D} {I I' : (Nat → Nat → Prop) → World → Prop} {d : D} (hf : P.funcs[f]? = some fn) (hb : fn.body = some c) (hnm : (fn.name == "runtime.NumGoroutine") = false)
 (hn:decide (ds.length≤fn.ntmps)=true) (Zr:fn.results.toList.all (Zbt fn.ntmps)=true)
 (h:∀ S0 W0,I S0 W0→AWI P fn.ntmps c (fun e s=>(e = .normal∨e = .ret)∧∃ ds',Zbd P ⟨s.t,noM,0,0⟩ fn.results.toList=some ds'∧oneD ds'=d∧∀ S w,s.I S w→I' S w∧Zac S0 W0 S w) ⟨Zb2 ds,fun S w=>I S w∧Zac S0 W0 S w⟩):Zgu P f ds I I' d:=by
 refine⟨⟨fn,c,hf,hb,hnm⟩,fun S W vs hfr hI hvs=>?_⟩
 have hn:=of_decide_eq_true hn
 have hvl:vs.length=ds.length:=hvs.1
 refine callsIn_of_wp_marks hf hb trivial (wpIn_mono (h S W hI S _ W ⟨fun k hk=>?_,?_,rfl,hfr,hI,Zac.refl _ _⟩) ?_)
 ·simp only[Act.eval,Zb2]
  by_cases hkv:k<vs.length
  ·have e:(vs.toArray++Array.replicate (fn.ntmps-vs.toArray.size) undef).getD k undef=vs[k]:=by
    rw[Array.getD_eq_getD_getElem?,Array.getElem?_append_left (by simpa using hkv)]
    simp[hkv]
   rw[e,Ya0 (by omega),Option.getD_some]
   exact hvs.2 k _ _ (Ya0 hkv) (Ya0 (by omega))
  ·have e:(vs.toArray++Array.replicate (fn.ntmps-vs.toArray.size) undef).getD k undef=undef:=by
    rw[Array.getD_eq_getD_getElem?,Array.getElem?_append_right (by simp;omega)]
    rw[Array.getElem?_replicate]
    split<;>rfl
   rw[e,List.getElem?_eq_none (by omega),Option.getD_none]
   exact .v _
 ·simp;omega
 ·rintro e a' w' ⟨ho,S',s',h1,he,ds',h2,rfl,h3⟩
  have done:LeavesInM Fence.wide 0 P fn a'.tmps (fun e W'=>∃ v S',e = .returned v∧Rep noB noM S' W' v (oneD ds')∧I' S' W'∧Zch S' W'∧Zac S W S' W') a'.defers .returning w':=by
   rw[h1.defers]
   obtain⟨v,g3,g4⟩:=ZbH (P:=P) h1.up Zr h2
   obtain⟨i1,i2⟩:=h3 _ _ h1.inv
   exact⟨v,g3,v,S',rfl,g4.mono ⟨fun _ _ h=>(by cases h),fun _ _ h=>h⟩ fun b o u q1 q2=>⟨q1.1,q2⟩,i1,h1.fr,i2⟩
  rcases he with rfl|rfl
  ·exact done
  ·exact done
end
local instance iflIt3:Ifl:=Ifl.it
section
variable {P:Program} {n:Nat} {Q:Exit→SI→Prop} {s:SI}
end
end Go.Proofs.YtiincpioidnciaaGreat
