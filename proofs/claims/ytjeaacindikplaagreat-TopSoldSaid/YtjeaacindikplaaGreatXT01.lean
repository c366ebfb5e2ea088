/-
  Holds of linear and of the reference.
-/
import Derived.Test.YtjeaacindikplaaGreatXLib
import Derived.Test.YtjeaacindikplaaGreatXT00
import Derived.Test.YtjeaacindikplaaGreatXConv
namespace Go.Proofs.YtjeaacindikplaaGreat
set_option linter.unusedVariables false
set_option linter.unusedSimpArgs false
set_option linter.unusedSectionVars false
open Go Go.RowKit
set_option maxRecDepth 100000
set_option maxHeartbeats 2000000
theorem Zi2{s:SysD}{x:List Zag}(h:(ZaB s&&decide ((x.length:Int)=s.n)&&okP x&&ZhR x)=false):D.v (.bool false)=dB (Zap s x):=Zaj (by unfold Zap;rw[h];rfl)
theorem Zm2{s:SysD}{x:List Zag}{k:Nat}{w:RowD}(hx:s.r[k]? =some w)(h:ZeC w x=false):D.v (.bool false)=dB (Zap s x):=Zaj (by unfold Zap;rw[ZeP (p:=fun w=>ZeC w x) hx h,Bool.and_false])
theorem Zxr{s:SysD}{x:List Zag}(h:ZaB s=true)(hn:(x.length:Int)=s.n){k:Nat}{w:RowD}(hx:s.r[k]? =some w):Zai w.t x.length=true∧okF w.v=true:=by
 have:=ZjB h (ZaL hx)
 simp only[Zdq,Ya2]at this
 rw[hn]
 exact⟨this.1.1.1,this.2⟩
theorem Zz0(s:SysD)(x:List Zag)(hs:smS s)(hxs:smFs x):Zah Tryz.prog 91 [encS s,Za0 x] (dB (Zap s x)):=by
 have Zr:=Tryz.results91
 have hl:=ZvO hs
 have hlx:=Zix hxs
 have k1:=ZiX s hs
 have k2:=ZsX x hxs
 cases h1:ZaB s
 ·rw[h1]at k1
  refine inC Tryz.func91 rfl Tryz.ntmps91 ?_
  refine aGo Zr ?_
  repeat with_reducible intro K hK
  exact Zi2 (by rw[h1];rfl)
 rw[h1]at k1
 cases h2:(x.length:Int) !=s.n
 rotate_left
 ·refine inC Tryz.func91 rfl Tryz.ntmps91 ?_
  refine aGo (cj2 Zr h2) ?_
  repeat with_reducible intro K hK
  exact Zi2 (by simp at h2;simp[h2])
 have hn:(x.length:Int)=s.n:=by simpa using h2
 cases h3:okP x
 ·rw[h3]at k2
  refine inC Tryz.func91 rfl Tryz.ntmps91 ?_
  refine aGo (cj2 Zr h2) ?_
  repeat with_reducible intro K hK
  exact Zi2 (by rw[h3];simp)
 rw[h3]at k2
 refine inC Tryz.func91 rfl Tryz.ntmps91 ?_
 refine aGo (cj2 Zr h2) ?_
 repeat with_reducible intro K hK
 refine Zas (fun(k:Nat)=>[(0,encS s),(1,Za0 x),(2,.lp 0 0 0 0),(25,Za0 x),(26,dI x.length),(27,dI k)]) (fun k=>[(0,⟨99,0,2,[cS s],0,false⟩)]) 1 0 (fun k=>k≤x.length∧(x.take k).all (fun f=>decide (0≤sgnD f))=true) (fun k=>x.length-k) 0 ⟨by omega,rfl⟩ ?_ ?_
 ·exact leGo trivial
 ·rintro k ⟨hk,hg⟩
  obtain⟨hw,h0⟩:=ZaO k
  by_cases h4:(k:Int)<x.length
  ·obtain⟨f,hx⟩:=getE (l:=x) (k:=k) (by omega)
   have k3:=ZeD f (Zgw (hxs.2 f (ZaL hx)))
   by_cases h5:sgnD f<0
   ·refine aGo (cj4 Zr h0 h4 (cj3 hx hw h5)) ?_
    repeat with_reducible intro K hK
    exact Zi2 (by rw[show ZhR x=false from ZeP hx (by simp;omega),Bool.and_false])
   ·refine aGo (cj4 Zr h0 h4 (cj3 hx hw h5)) ?_
    repeat with_reducible intro K hK
    exact Zad (k+1) ⟨by omega,ZaW hx hg (by simp;omega)⟩ (by omega) (by exact leGo trivial)
  ·rw[Ya8 (by omega)]at hg
   refine aGo (cj2 Zr h4) ?_
   repeat with_reducible intro K hK
   refine Zas (fun(k:Nat)=>[(1,Za0 x),(36,ZAy s.r),(37,dI s.r.length),(38,dI k)]) (fun k=>[]) 0 0 (fun k=>k≤s.r.length∧(s.r.take k).all (fun w=>ZeC w x)=true) (fun k=>s.r.length-k) 0 ⟨by omega,rfl⟩ ?_ ?_
   ·exact leGo trivial
   ·rintro k ⟨hk,hr⟩
    obtain⟨hw,h0⟩:=ZaO k
    by_cases h4:(k:Int)<s.r.length
    ·obtain⟨w,hx⟩:=getE (l:=s.r) (k:=k) (by omega)
     obtain⟨h6,h7⟩:=Zxr h1 hn hx
     have sm:=hs.2 w (ZaL hx)
     have k3:=ZsU w.t x sm.1 hxs h6 h3
     have k4:=Zeh (ofQ (dotD w.t x)) w.v (by have:=Zvw w x sm.1 hxs h6 h3;omega) (Zgw sm.2)
     rw[show cmpD (ofQ (dotD w.t x)) w.v=sgQ (dotD w.t x-qOf w.v) by simp[cmpD,Zby,Zay,h7]]at k4
     have hd:ZeC w x=ZjR w.k (sgQ (dotD w.t x-qOf w.v)):=rfl
     generalize sgQ (dotD w.t x-qOf w.v)=c at *
     by_cases g1:c<0
     ·have g3:¬ c>0:=by omega
      have g4:(c==0)=false:=by simp;omega
      cases g2:w.k !=1
      ·refine aGo (cj4 Zr h0 h4 (cj4 hx hw g1 (cj2 g2 g3))) ?_
       repeat with_reducible intro K hK
       exact Zad (k+1) ⟨by omega,ZaW hx hr (by rw[hd];simp at g2;simp[ZjR,g2];omega)⟩ (by omega) (by exact leGo trivial)
      ·refine aGo (cj4 Zr h0 h4 (cj4 hx hw g1 (cj2 g2 g3))) ?_
       repeat with_reducible intro K hK
       exact Zm2 hx (by rw[hd];simp at g2;simp[ZjR,g2];omega)
     by_cases g3:c>0
     ·cases g2:w.k !=0
      ·refine aGo (cj4 Zr h0 h4 (cj4 hx hw g1 (cj2 g2 g3))) ?_
       repeat with_reducible intro K hK
       exact Zad (k+1) ⟨by omega,ZaW hx hr (by rw[hd];simp at g2;simp[ZjR,g2];omega)⟩ (by omega) (by exact leGo trivial)
      ·refine aGo (cj4 Zr h0 h4 (cj4 hx hw g1 (cj2 g2 g3))) ?_
       repeat with_reducible intro K hK
       exact Zm2 hx (by rw[hd];simp at g2;simp[ZjR,g2];omega)
     ·refine aGo (cj4 Zr h0 h4 (cj4 hx hw g1 g3)) ?_
      repeat with_reducible intro K hK
      exact Zad (k+1) ⟨by omega,ZaW hx hr (by rw[hd];simp[ZjR];omega)⟩ (by omega) (by exact leGo trivial)
    ·refine aGo (cj2 Zr h4) ?_
     repeat with_reducible intro K hK
     rw[Ya8 (by omega)]at hr
     exact Zaj (by simp[Zap,h1,hn,h3,hr];exact hg)
def mulT(f:Zag)(t:Zaf):Zaf:=⟨t.v,ofQ (qOf t.f*qOf f)⟩
def Zge(l:List Zaf)(f:Zag):List Zaf:=if Zai l 1500&&sgnD f !=0 then l.map (mulT f)else []
theorem ZoG{l:List Zaf}{f:Zag}(h:(Zai l 1500&&sgnD f !=0)=false):D.sl []=Zbk (Zge l f):=by unfold Zge;rw[h];rfl
theorem ZtP{l:List Zaf}{f:Zag}(h1:Zai l 1500=true)(h2:(sgnD f !=0)=true):Zge l f=l.map (mulT f):=by unfold Zge;rw[h1,h2];rfl
theorem ZnR{α β:Type}(g:α→β){l:List α}{k:Nat}{x:α}(hx:l[k]? =some x):(l.take (k+1)).map g=(l.take k).map g++[g x]:=by
 rw[Yb4,hx];simp
def outT(l:List Zaf)(f:Zag)(k:Nat):List Zaf:=(l.take k).map (mulT f)
theorem ZwA{l:List Zaf}(f:Zag){k:Nat}{t:Zaf}(ht:l[k]? =some t):outT l f (k+1)=outT l f k++[⟨t.v,ofQ (qOf t.f*qOf f)⟩]:=ZnR _ ht
theorem ZzA(l:List Zaf)(f:Zag)(k:Nat):(outT l f k).length≤l.length:=by
 unfold outT;rw[Yc0];exact List.length_take_le' k l
theorem Zwz(l:List Zaf)(f:Zag):outT l f 0=[]:=rfl
theorem ZzB{l:List Zaf}{f:Zag}(h1:Zai l 1500=true)(h2:(sgnD f !=0)=true):outT l f l.length=Zge l f:=by
 unfold outT;rw[Yc2,ZtP h1 h2]
theorem Zao{α:Type}{f:α→List D}{g:D→D}(h:∀ a,List.map g (f a)=f a)(l:List α):List.map (List.map g) (List.map f l)=List.map f l:=by
 rw[List.map_map]
 exact List.map_congr_left fun a _=>h a
theorem Zs9(m:Mem)(n:Nat)(l:List Zaf):D.sl (List.map (List.map (fzT true m (n+1))) (List.map cT l))=Zbk l:=by rw[Zao (fun _=>rfl)]
theorem ZsV(l:List Zaf)(f:Zag)(hs:smT l)(hf:smF f):Zah Tryz.prog 118 [Zbk l,encF f] (Zbk (Zge l f)):=by
 have Zr:=Tryz.results118
 have hl:=Zk6 hs
 have k1:=Ze3 l 1500 hs
 have k2:=ZeD f (Zgw hf)
 cases h1:Zai l 1500
 ·rw[h1]at k1
  refine inC Tryz.func118 rfl Tryz.ntmps118 ?_
  refine aGo Zr ?_
  repeat with_reducible intro K hK
  exact ZoG (by rw[h1];rfl)
 rw[h1]at k1
 cases h2:sgnD f==0
 rotate_left
 ·refine inC Tryz.func118 rfl Tryz.ntmps118 ?_
  refine aGo (cj2 Zr h2) ?_
  repeat with_reducible intro K hK
  exact ZoG (by simp at h2;simp[h2])
 have h2':(sgnD f !=0)=true:=by simp at h2;simp[h2]
 have hok:okF f=true:=by
  cases ho:okF f
  ·rw[Zqy ho]at h2';cases h2'
  ·rfl
 refine inC Tryz.func118 rfl Tryz.ntmps118 ?_
 refine aGo (cj2 Zr h2) ?_
 repeat with_reducible intro K hK
 refine aLe (Zcs 5 151 5 rfl) ?_
 refine Zas (fun(k:Nat)=>[(3,.lp 0 0 0 0),(5,.ls 1 k),(18,Zbk l),(19,dI l.length),(20,dI k)]) (fun k=>[(0,⟨53,0,4,[cF f],0,false⟩),(1,⟨151,k,5,(outT l f k).map cT,0,false⟩)]) 2 0 (fun k=>k≤l.length) (fun k=>l.length-k) 0 (by omega) ?_ ?_
 ·exact leGo Zwz
 ·rintro k hk
  obtain⟨hw,h0⟩:=ZaO k
  by_cases h3:(k:Int)<l.length
  ·obtain⟨t,ht⟩:=getE (l:=l) (k:=k) (by omega)
   obtain⟨_,_,h4,_⟩:=Za6 h1 (ZaL ht)
   have k3:=ZxH t.f f (Zgw (hs.2 t (ZaL ht))) (Zgw hf)
   rw[show mulD t.f f=(ofQ (qOf t.f*qOf f),0) by simp[mulD,h4,hok]]at k3
   have hn:=ZwA f ht
   have hlen:(outT l f k).length≤4096:=by have:=ZzA l f k;omega
   refine aGo (cj4 Zr h0 h3 (cj2 ht hw)) ?_
   repeat with_reducible intro K hK
   exact Zad (k+1) (by omega) (by omega) (by exact leGo hn)
  ·have e:k=l.length:=by omega
   subst e
   rw[ZzB h1 h2']
   refine aGo (cj2 Zr h3) ?_
   repeat with_reducible intro K hK
   exact Zs9 _ _ _
def Zdn:Nat→List Zaf→List Zaf→List Zaf
 | 0,_,_=>[]
 | _+1,[],[]=>[]
 | n+1,x ::a,[]=>x ::Zdn n a []
 | n+1,[],y ::b=>y ::Zdn n [] b
 | n+1,x ::a,y ::b =>
   if x.v<y.v then x ::Zdn n a (y ::b)
   else if y.v<x.v then y ::Zdn n (x ::a) b
   else if qOf x.f+qOf y.f=0 then Zdn n a b
   else⟨x.v,ofQ (qOf x.f+qOf y.f)⟩ ::Zdn n a b
def sumT(a b:List Zaf):List Zaf:=Zdn (a.length+b.length) a b
def ZhI(a b:List Zaf):List Zaf:=if Zai a 1500&&Zai b 1500 then sumT a b else []
theorem ZyY:sumT [] []=[]:=rfl
theorem Zvz(x:Zaf)(a:List Zaf):sumT (x ::a) []=x ::sumT a []:=rfl
theorem Zt1(y:Zaf)(b:List Zaf):sumT [] (y ::b)=y ::sumT [] b:=by
 unfold sumT
 rw[show([]:List Zaf).length+(y ::b).length=(([]:List Zaf).length+b.length)+1 by simp]
 rfl
theorem ZBU{x y:Zaf}(a b:List Zaf)(h:x.v<y.v):sumT (x ::a) (y ::b)=x ::sumT a (y ::b):=by
 unfold sumT
 rw[show(x ::a).length+(y ::b).length=(a.length+(y ::b).length)+1 by simp;omega]
 simp only[Zdn]
 rw[if_pos h]
theorem ZBV{x y:Zaf}(a b:List Zaf)(h:y.v<x.v):sumT (x ::a) (y ::b)=y ::sumT (x ::a) b:=by
 unfold sumT
 rw[show(x ::a).length+(y ::b).length=((x ::a).length+b.length)+1 by simp;omega]
 simp only[Zdn]
 rw[if_neg (by omega),if_pos h]
theorem ZmG:∀ (n m:Nat)(a b:List Zaf),a.length+b.length≤n→a.length+b.length≤m→Zdn n a b=Zdn m a b:=by
 intro n
 induction n with
 | zero =>
   intro m a b h _
   obtain rfl:a=[]:=Ya9 (by omega)
   obtain rfl:b=[]:=Ya9 (by have:([]:List Zaf).length=0:=rfl;omega)
   cases m<;>rfl
 | succ n ih =>
   intro m a b h k
   cases m with
   | zero =>
     obtain rfl:a=[]:=Ya9 (by omega)
     obtain rfl:b=[]:=Ya9 (by have:([]:List Zaf).length=0:=rfl;omega)
     rfl
   | succ m =>
     match a,b with
     | [],[]=>rfl
     | x ::a,[]=>simp only[Zdn];rw[ih m a [] (by simp at h ⊢;omega) (by simp at k ⊢;omega)]
     | [],y ::b=>simp only[Zdn];rw[ih m [] b (by simp at h ⊢;omega) (by simp at k ⊢;omega)]
     | x ::a,y ::b =>
       simp only[List.length_cons]at h k
       simp only[Zdn]
       rw[ih m a (y ::b) (by simp;omega) (by simp;omega),ih m (x ::a) b (by simp;omega) (by simp;omega),ih m a b (by omega) (by omega)]
theorem Zvy{x y:Zaf}(a b:List Zaf)(h1:¬ x.v<y.v)(h2:¬ y.v<x.v)(h:qOf x.f+qOf y.f=0):sumT (x ::a) (y ::b)=sumT a b:=by
 have e:sumT (x ::a) (y ::b)=Zdn (a.length+b.length+1) a b:=by
  unfold sumT
  rw[show(x ::a).length+(y ::b).length=(a.length+b.length+1)+1 by simp;omega]
  simp only[Zdn]
  rw[if_neg h1,if_neg h2,if_pos h]
 rw[e]
 exact ZmG _ _ a b (by omega) (by omega)
theorem ZBW{x y:Zaf}(a b:List Zaf)(h1:¬ x.v<y.v)(h2:¬ y.v<x.v)(h:qOf x.f+qOf y.f≠0):sumT (x ::a) (y ::b)=⟨x.v,ofQ (qOf x.f+qOf y.f)⟩ ::sumT a b:=by
 have e:sumT (x ::a) (y ::b)=⟨x.v,ofQ (qOf x.f+qOf y.f)⟩ ::Zdn (a.length+b.length+1) a b:=by
  unfold sumT
  rw[show(x ::a).length+(y ::b).length=(a.length+b.length+1)+1 by simp;omega]
  simp only[Zdn]
  rw[if_neg h1,if_neg h2,if_neg h]
 rw[e,ZmG _ _ a b (by omega) (Ya4 _)]
 rfl
theorem Zss{a b:List Zaf}(h:(Zai a 1500&&Zai b 1500)=false):D.sl []=Zbk (ZhI a b):=by unfold ZhI;rw[h];rfl
theorem Zlq{a b:List Zaf}(h1:Zai a 1500=true)(h2:Zai b 1500=true):ZhI a b=sumT a b:=by unfold ZhI;rw[h1,h2];rfl
def okT(l:List Zaf):Prop:=∀ t∈l,smF t.f∧okF t.f=true
theorem ZBb{l:List Zaf}{n:Int}(hs:smT l)(h:Zai l n=true):okT l:=fun t ht=>⟨hs.2 t ht,(Za6 h ht).2.2.1⟩
theorem Zj7{x:Zaf}{l:List Zaf}(h:okT (x ::l)):okT l:=fun t ht=>h t (Yb6 _ ht)
theorem Zd1{x:Zaf}{l:List Zaf}(h:okT (x ::l)):smF x.f∧okF x.f=true:=h x Yb7
theorem Zn8(f:Zag)(hs:smF f)(h:okF f=true):Zah Tryz.prog 197 [encF f] (encF f):=by
 have Zr:=Tryz.results197
 have k1:=ZBo f (Zgw hs)
 have e:szF (negD f)=szF f:=by
  rw[show negD f=ofQ (- qOf f) by simp[negD,h],Ze8,Zdt,Zcl h]
 have k2:=ZBo (negD f) (by rw[e];exact Zgw hs)
 rw[show negD (negD f)=f by
  rw[show negD f=ofQ (- qOf f) by simp[negD,h],ZsE,show - - qOf f=qOf f by grind]
  exact(ZcF h).symm]at k2
 refine inC Tryz.func197 rfl Tryz.ntmps197 ?_
 exact aGo Zr trivial
theorem Zbm(l:List Zaf):List.take l.length (List.map cT l)=List.map cT l:=Ya8 (by simp)
structure PlusX where
 a:List Zaf
 b:List Zaf
 o:List Zaf
theorem ZCY(a b:List Zaf)(hs:smT a)(hs2:smT b):Zah Tryz.prog 162 [Zbk a,Zbk b] (Zbk (ZhI a b)):=by
 have Zr:=Tryz.results162
 have hla:=Zk6 hs
 have hlb:=Zk6 hs2
 have k1:=Ze3 a 1500 hs
 have k2:=Ze3 b 1500 hs2
 cases h1:Zai a 1500
 ·rw[h1]at k1
  refine inC Tryz.func162 rfl Tryz.ntmps162 ?_
  refine aGo Zr ?_
  repeat with_reducible intro K hK
  exact Zss (by rw[h1];rfl)
 rw[h1]at k1
 cases h2:Zai b 1500
 ·rw[h2]at k2
  refine inC Tryz.func162 rfl Tryz.ntmps162 ?_
  refine aGo Zr ?_
  repeat with_reducible intro K hK
  exact Zss (by rw[h2,Bool.and_false])
 rw[h2]at k2
 refine inC Tryz.func162 rfl Tryz.ntmps162 ?_
 refine aGo Zr ?_
 repeat with_reducible intro K hK
 refine aLe (Zcs 5 151 5 rfl) ?_
 refine Zas (fun(x:PlusX)=>[(0,Zbk x.a),(1,Zbk x.b),(5,.ls 0 x.o.length)]) (fun x=>[(0,⟨151,x.o.length,5,x.o.map cT,0,false⟩)]) 1 0 (fun x=>okT x.a∧okT x.b∧x.o++sumT x.a x.b=sumT a b∧x.o.length+x.a.length+x.b.length≤8192) (fun x=>x.a.length+x.b.length) ⟨a,b,[]⟩ ⟨ZBb hs h1,ZBb hs2 h2,rfl,by simp;omega⟩ ?_ ?_
 ·exact leGo trivial
 ·rintro⟨a',b',o⟩ ⟨ha,hb,ho,hlen⟩
  dsimp only at ha hb ho hlen ⊢
  match a',b',ha,hb,ho,hlen with
  | [],[],ha,hb,ho,hlen =>
    rw[ZyY,List.append_nil]at ho
    subst ho
    refine aGo Zr ?_
    repeat with_reducible intro K hK
    rw[Zlq h1 h2]
    exact Zs9 _ _ _
  | x ::a',[],ha,hb,ho,hlen =>
    simp only[List.length_cons,List.length_nil]at hlen
    have p1:((a'.length+1:Nat):Int)>0:=by omega
    have p2:(1:Int)≤((a'.length+1:Nat):Int):=by omega
    have kf:=Zn8 x.f (Zd1 ha).1 (Zd1 ha).2
    refine aGo (cj4 Zr Zbm p1 p2) ?_
    repeat with_reducible intro K hK
    exact Zad ⟨a',[],o++[x]⟩ ⟨Zj7 ha,hb,by rw[← ho,Zvz];simp,by simp;omega⟩ (by simp) (by exact leGo Zbm)
  | [],y ::b',ha,hb,ho,hlen =>
    simp only[List.length_cons,List.length_nil]at hlen
    have p1:((b'.length+1:Nat):Int)>0:=by omega
    have p2:(1:Int)≤((b'.length+1:Nat):Int):=by omega
    have p3:(((b'.length+1:Nat):Int)==0)=false:=by simp;omega
    have kf:=Zn8 y.f (Zd1 hb).1 (Zd1 hb).2
    refine aGo (cj4 Zr Zbm p1 (cj2 p2 p3)) ?_
    repeat with_reducible intro K hK
    exact Zad ⟨[],b',o++[y]⟩ ⟨ha,Zj7 hb,by rw[← ho,Zt1];simp,by simp;omega⟩ (by simp) (by exact leGo Zbm)
  | x ::a',y ::b',ha,hb,ho,hlen =>
    simp only[List.length_cons]at hlen
    have p1:((a'.length+1:Nat):Int)>0:=by omega
    have p2:(1:Int)≤((a'.length+1:Nat):Int):=by omega
    have p3:(((a'.length+1:Nat):Int)==0)=false:=by simp;omega
    have q1:((b'.length+1:Nat):Int)>0:=by omega
    have q2:(1:Int)≤((b'.length+1:Nat):Int):=by omega
    have q3:(((b'.length+1:Nat):Int)==0)=false:=by simp;omega
    by_cases h3:x.v<y.v
    ·have kf:=Zn8 x.f (Zd1 ha).1 (Zd1 ha).2
     refine aGo (cj4 Zr Zbm p1 (cj4 p2 p3 q1 (cj3 q2 q3 h3))) ?_
     repeat with_reducible intro K hK
     exact Zad ⟨a',y ::b',o++[x]⟩ ⟨Zj7 ha,hb,by rw[← ho,ZBU _ _ h3];simp,by simp;omega⟩ (by simp) (by exact leGo Zbm)
    by_cases h4:y.v<x.v
    ·have kf:=Zn8 y.f (Zd1 hb).1 (Zd1 hb).2
     refine aGo (cj4 Zr Zbm p1 (cj4 p2 p3 q1 (cj4 q2 q3 h3 h4))) ?_
     repeat with_reducible intro K hK
     exact Zad ⟨x ::a',b',o++[y]⟩ ⟨ha,Zj7 hb,by rw[← ho,ZBV _ _ h4];simp,by simp;omega⟩ (by simp) (by exact leGo Zbm)
    have ka:=ZxN x.f y.f (Zgw (Zd1 ha).1) (Zgw (Zd1 hb).1)
    rw[show addD x.f y.f=(ofQ (qOf x.f+qOf y.f),0) by simp[addD,(Zd1 ha).2,(Zd1 hb).2]]at ka
    have zz:=ZfP (qOf x.f) (qOf y.f)
    rw[Zcl (Zd1 ha).2,Zcl (Zd1 hb).2]at zz
    have z1:(szF x.f:Int)≤4194304:=(Zd1 ha).1
    have z2:(szF y.f:Int)≤4194304:=(Zd1 hb).1
    have ks:=ZeD (ofQ (qOf x.f+qOf y.f)) (by rw[Ze8];omega)
    rw[ZbN]at ks
    by_cases h5:qOf x.f+qOf y.f=0
    ·have h6:(sgQ (qOf x.f+qOf y.f) !=0)=false:=by simp[ZdF.2 h5]
     refine aGo (cj4 Zr Zbm p1 (cj4 p2 p3 q1 (cj4 q2 q3 h3 (cj2 h4 h6)))) ?_
     repeat with_reducible intro K hK
     exact Zad ⟨a',b',o⟩ ⟨Zj7 ha,Zj7 hb,by rw[← ho,Zvy _ _ h3 h4 h5],by dsimp only;omega⟩ (by simp;omega) (by exact leGo Zbm)
    ·have h6:(sgQ (qOf x.f+qOf y.f) !=0)=true:=by simp[ZdF,h5]
     refine aGo (cj4 Zr Zbm p1 (cj4 p2 p3 q1 (cj4 q2 q3 h3 (cj2 h4 h6)))) ?_
     repeat with_reducible intro K hK
     exact Zad ⟨a',b',o++[⟨x.v,ofQ (qOf x.f+qOf y.f)⟩]⟩ ⟨Zj7 ha,Zj7 hb,by rw[← ho,ZBW _ _ h3 h4 h5];simp,by simp;omega⟩ (by simp;omega) (by exact leGo Zbm)
set_option maxHeartbeats 4000000
structure PlusI where
 i:Nat
 k:Nat
 o:List Zaf
abbrev q1(n:Int):Rat:=Rat.divInt n 1
abbrev fq(n:Int):Zag:=ofQ (q1 n)
set_option maxHeartbeats 8000000
theorem Zfm(f:Zag):ZoV f f=true:=by cases f;simp[ZoV,ZdL]
theorem Zlb{f g:Zag}:ZoV f g=true↔f=g:=by
 cases f;cases g
 simp[ZoV,ZdL]
def dotS(g:Int→Rat):List Zaf→Rat
 | []=>0
 | t ::l=>qOf t.f*g t.v+dotS g l
theorem Zip(g:Int→Rat):∀ l m:List Zaf,dotS g (l++m)=dotS g l+dotS g m
 | [],m=>by simp[dotS];grind
 | t ::l,m=>by simp only[Yc9,dotS,Zip g l m];grind
theorem ZpK(g:Int→Rat):∀ (l:List Zaf)(z:Rat),l.foldl (fun a t=>a+qOf t.f*g t.v) z=z+dotS g l
 | [],z=>by simp only[List.foldl_nil,dotS];grind
 | t ::l,z=>by simp only[List.foldl_cons,dotS];rw[ZpK g l];grind
theorem Zcu(l:List Zaf)(x:List Zag):dotD l x=dotS (atP x) l:=by
 unfold dotD;rw[ZpK];grind
theorem Zes(g:Int→Rat):∀ (n:Nat)(a b:List Zaf),a.length+b.length≤n→dotS g (Zdn n a b)=dotS g a+dotS g b
 | 0,a,b,h=>by
   obtain rfl:a=[]:=Ya9 (by omega)
   obtain rfl:b=[]:=Ya9 (by have:([]:List Zaf).length=0:=rfl;omega)
   simp only[Zdn,dotS];grind
 | n+1,[],[],_=>by simp only[Zdn,dotS];grind
 | n+1,x ::a,[],h=>by simp only[Zdn,dotS,Zes g n a [] (by simp at h ⊢;omega)];grind
 | n+1,[],y ::b,h=>by simp only[Zdn,dotS,Zes g n [] b (by simp at h ⊢;omega)];grind
 | n+1,x ::a,y ::b,h=>by
   simp only[List.length_cons]at h
   simp only[Zdn]
   split
   ·simp only[dotS,Zes g n a (y ::b) (by simp;omega)];grind
   ·split
    ·simp only[dotS,Zes g n (x ::a) b (by simp;omega)];grind
    ·have hv:x.v=y.v:=by omega
     split
     ·rename_i hz
      rw[Zes g n a b (by omega)]
      simp only[dotS,hv]
      have:qOf x.f*g y.v+qOf y.f*g y.v=0:=by rw[← Rat.add_mul,hz,Rat.zero_mul]
      grind
     ·simp only[dotS,Zes g n a b (by omega),hv,Zay]
      grind
theorem ZyZ(g:Int→Rat)(a b:List Zaf):dotS g (sumT a b)=dotS g a+dotS g b:=Zes g _ a b (Ya4 _)
theorem Zw0(g:Int→Rat)(f:Zag):∀ l:List Zaf,dotS g (l.map (mulT f))=qOf f*dotS g l
 | []=>by simp only[List.map_nil,dotS];grind
 | t ::l=>by simp only[List.map_cons,dotS,mulT,Zay,Zw0 g f l];grind
theorem ZaH{n last:Int}{t:Zaf}{l:List Zaf}:goR n last (t ::l)=true↔last<t.v∧t.v<n∧sgnD t.f≠0∧goR n t.v l=true:=by
 simp[goR,and_assoc]
theorem Zn7{n last last':Int}(h:last'≤last):∀ {l:List Zaf},goR n last l=true→goR n last' l=true
 | [],_=>rfl
 | t ::l,k=>by
   rw[ZaH]at k ⊢
   exact⟨by omega,k.2.1,k.2.2.1,k.2.2.2⟩
theorem Zs8{n n' last:Int}(h:n≤n'):∀ {l:List Zaf} {last:Int},goR n last l=true→goR n' last l=true
 | [],_,_=>rfl
 | t ::l,_,k=>by
   rw[ZaH]at k ⊢
   exact⟨k.1,by omega,k.2.2.1,Zs8 (last:=t.v) h k.2.2.2⟩
theorem Zc1{n n':Int}(h:n≤n'){l:List Zaf}(k:Zai l n=true):Zai l n'=true:=by
 simp only[Zai,Ya2,decide_eq_true_eq]at k ⊢
 exact⟨by omega,Zs8 (last:= -1) h k.2⟩
theorem Zfa{f:Zag}(h:sgnD f≠0):okF f=true∧qOf f≠0:=by
 cases ho:okF f
 ·exact absurd (Zqy ho) h
 ·refine⟨rfl,fun h0=>h ?_⟩
  simp[sgnD,ho,h0,sgQ]
theorem ZfS{q:Rat}(h:q≠0):sgnD (ofQ q)≠0:=by rw[ZbN];exact fun h0=>h (ZdF.1 h0)
theorem Zc4{n:Int}:∀ (k:Nat)(last:Int)(a b:List Zaf),goR n last a=true→goR n last b=true→goR n last (Zdn k a b)=true
 | 0,_,_,_,_,_=>rfl
 | _+1,_,[],[],_,_=>rfl
 | k+1,last,x ::a,[],ha,hb=>by
   rw[ZaH]at ha
   simp only[Zdn]
   exact ZaH.2 ⟨ha.1,ha.2.1,ha.2.2.1,Zc4 k x.v a [] ha.2.2.2 rfl⟩
 | k+1,last,[],y ::b,ha,hb=>by
   rw[ZaH]at hb
   simp only[Zdn]
   exact ZaH.2 ⟨hb.1,hb.2.1,hb.2.2.1,Zc4 k y.v [] b rfl hb.2.2.2⟩
 | k+1,last,x ::a,y ::b,ha,hb=>by
   have ha':=ZaH.1 ha
   have hb':=ZaH.1 hb
   simp only[Zdn]
   split
   ·exact ZaH.2 ⟨ha'.1,ha'.2.1,ha'.2.2.1,Zc4 k x.v a (y ::b) ha'.2.2.2 (ZaH.2 ⟨by assumption,hb'.2.1,hb'.2.2.1,hb'.2.2.2⟩)⟩
   ·split
    ·exact ZaH.2 ⟨hb'.1,hb'.2.1,hb'.2.2.1,Zc4 k y.v (x ::a) b (ZaH.2 ⟨by assumption,ha'.2.1,ha'.2.2.1,ha'.2.2.2⟩) hb'.2.2.2⟩
    ·have hv:x.v=y.v:=by omega
     split
     ·exact Zc4 k last a b (Zn7 (by omega) ha'.2.2.2) (Zn7 (by omega) hb'.2.2.2)
     ·rename_i hz
      exact ZaH.2 ⟨ha'.1,ha'.2.1,ZfS hz,Zc4 k x.v a b ha'.2.2.2 (Zn7 (by omega) hb'.2.2.2)⟩
theorem Zpr{n:Int}{f:Zag}(hf:sgnD f≠0):∀ (l:List Zaf)(last:Int),goR n last l=true→goR n last (l.map (mulT f))=true
 | [],_,_=>rfl
 | t ::l,last,h=>by
   have h':=ZaH.1 h
   rw[List.map_cons]
   refine ZaH.2 ⟨h'.1,h'.2.1,ZfS ?_,Zpr hf l t.v h'.2.2.2⟩
   have h1:=(Zfa h'.2.2.1).2
   have h2:=(Zfa hf).2
   exact fun h0=>(Rat.mul_eq_zero.1 h0).elim h1 h2
def indI(v u:Int):Rat:=if u=v then 1 else 0
theorem ZgV{n:Int}{v:Int}:∀ (l:List Zaf)(last:Int),v≤last→goR n last l=true→dotS (indI v) l=0
 | [],_,_,_=>rfl
 | t ::l,last,h,k=>by
   have k':=ZaH.1 k
   have ih:=ZgV (n:=n) (v:=v) l t.v (by omega) k'.2.2.2
   simp only[dotS,ih]
   rw[show indI v t.v=0 from if_neg (by omega)];grind
theorem Zhu{n:Int}{last:Int}{t:Zaf}{l:List Zaf}(k:goR n last (t ::l)=true):dotS (indI t.v) (t ::l)=qOf t.f:=by
 have k':=ZaH.1 k
 simp only[dotS,ZgV l t.v (Int.le_refl _) k'.2.2.2,indI,if_true];grind
theorem Zxy{n m:Int}:∀ (a b:List Zaf)(la lb:Int),goR n la a=true→goR m lb b=true→(∀ g,dotS g a=dotS g b)→a=b
 | [],[],_,_,_,_,_=>rfl
 | [],y ::b,_,lb,_,hb,h=>by
   have:=h (indI y.v)
   rw[Zhu hb]at this
   exact absurd this.symm (Zfa (ZaH.1 hb).2.2.1).2
 | x ::a,[],la,_,ha,_,h=>by
   have:=h (indI x.v)
   rw[Zhu ha]at this
   exact absurd this (Zfa (ZaH.1 ha).2.2.1).2
 | x ::a,y ::b,la,lb,ha,hb,h=>by
   have ha':=ZaH.1 ha
   have hb':=ZaH.1 hb
   have fx:=Zfa ha'.2.2.1
   have fy:=Zfa hb'.2.2.1
   rcases Int.lt_trichotomy x.v y.v with hv|hv|hv
   ·have:=h (indI x.v)
    rw[Zhu ha,ZgV (n:=m) (y ::b) x.v (Int.le_refl _) (ZaH.2 ⟨hv,hb'.2⟩)]at this
    exact absurd this fx.2
   ·have hq:=h (indI x.v)
    rw[Zhu ha,hv,Zhu hb]at hq
    have he:x=y:=by
     cases x with|mk u f=>cases y with|mk w g =>
     dsimp only at hv hq fx fy
     rw[ZcF fx.1,ZcF fy.1,hq,hv]
    subst he
    congr 1
    refine Zxy a b x.v x.v ha'.2.2.2 hb'.2.2.2 fun g=>?_
    have:=h g
    simp only[dotS]at this
    grind
   ·have:=h (indI y.v)
    rw[Zhu hb,ZgV (n:=n) (x ::a) y.v (Int.le_refl _) (ZaH.2 ⟨hv,ha'.2⟩)]at this
    exact absurd this.symm fy.2
theorem Zmw{n m:Int}{a b:List Zaf}(ha:Zai a n=true)(hb:Zai b m=true)(h:∀ g,dotS g a=dotS g b):a=b:=by
 simp only[Zai,Ya2]at ha hb
 exact Zxy a b _ _ ha.2 hb.2 h
theorem Zh4{n:Int}{a b:List Zaf}(hn:n≤1500)(ha:Zai a n=true)(hb:Zai b n=true):Zai (ZhI a b) n=true:=by
 rw[Zlq (Zc1 hn ha) (Zc1 hn hb)]
 simp only[Zai,Ya2]at ha hb ⊢
 exact⟨ha.1,Zc4 _ _ a b ha.2 hb.2⟩
theorem Zpg{a b:List Zaf}(ha:Zai a 1500=true)(hb:Zai b 1500=true)(g:Int→Rat):dotS g (ZhI a b)=dotS g a+dotS g b:=by
 rw[Zlq ha hb,ZyZ]
theorem Zo0{n:Int}{a:List Zaf}{f:Zag}(ha:Zai a n=true):Zai (Zge a f) n=true:=by
 unfold Zge
 have h0:decide (0≤n)=true:=by simp only[Zai,Ya2]at ha;exact ha.1
 split
 ·rename_i h
  simp only[Ya2,bne_iff_ne]at h
  simp only[Zai,Ya2]at ha ⊢
  exact⟨ha.1,Zpr h.2 a _ ha.2⟩
 ·simp[Zai,goR];simpa using h0
theorem ZtQ{a:List Zaf}{f:Zag}(ha:Zai a 1500=true)(hf:okF f=true)(g:Int→Rat):dotS g (Zge a f)=qOf f*dotS g a:=by
 unfold Zge
 rw[ha,Bool.true_and]
 split
 ·exact Zw0 g f a
 ·rename_i h
  have h0:qOf f=0:=by
   have:sgnD f=0:=by simpa using h
   simp only[sgnD,hf,if_true]at this
   exact ZdF.1 this
  rw[h0];simp only[dotS];grind
def sumN:Nat→(Nat→Rat)→Rat
 | 0,_=>0
 | n+1,f=>sumN n f+f n
theorem Za5{f g:Nat→Rat}:∀ n,(∀ i,i<n→f i=g i)→sumN n f=sumN n g
 | 0,_=>rfl
 | n+1,h=>by simp only[sumN,Za5 n (fun i hi=>h i (by omega)),h n (by omega)]
theorem Zbs:∀ n,sumN n (fun _=>0)=0
 | 0=>rfl
 | n+1=>by simp only[sumN,Zbs n];grind
theorem ZfQ(f g:Nat→Rat):∀ n,sumN n (fun i=>f i+g i)=sumN n f+sumN n g
 | 0=>by simp only[sumN];grind
 | n+1=>by simp only[sumN,ZfQ f g n];grind
theorem Zd4(c:Rat)(f:Nat→Rat):∀ n,sumN n (fun i=>c*f i)=c*sumN n f
 | 0=>by simp only[sumN];grind
 | n+1=>by simp only[sumN,Zd4 c f n];grind
theorem Zk2{f g:Nat→Rat}:∀ n,(∀ i,i<n→f i≤g i)→sumN n f≤sumN n g
 | 0,_=>by simp only[sumN];grind
 | n+1,h=>by
   have h1:=Zk2 n (fun i hi=>h i (by omega))
   have h2:=h n (by omega)
   simp only[sumN];grind
theorem Zg8{c:Rat}{v:Nat}:∀ n,sumN n (fun i=>if i=v then c else 0)=if v<n then c else 0
 | 0=>by simp only[sumN];rw[if_neg (by omega)]
 | n+1=>by
   simp only[sumN,Zg8 n]
   by_cases h:n=v
   ·subst h;rw[if_neg (by omega),if_pos rfl,if_pos (by omega)];grind
   ·rw[if_neg h]
    by_cases h2:v<n
    ·rw[if_pos h2,if_pos (by omega)];grind
    ·rw[if_neg h2,if_neg (by omega)];grind
def Za4(l:List Zaf)(v:Nat):Rat:=dotS (indI v) l
theorem ZjV{N:Nat}(g:Int→Rat):∀ (l:List Zaf),(∀ t∈l,0≤t.v∧t.v<N)→dotS g l=sumN N (fun v=>Za4 l v*g v)
 | [],_=>by
   have:(fun v:Nat=>Za4 [] v*g v)=fun _=>0:=by funext v;simp only[Za4,dotS];grind
   rw[this,Zbs];rfl
 | t ::l,h=>by
   have ht:=h t Yb7
   have ih:=ZjV g l (fun u hu=>h u (Yb6 _ hu))
   have e:(fun v:Nat=>Za4 (t ::l) v*g v)=fun v=>(if v=t.v.toNat then qOf t.f*g t.v else 0)+Za4 l v*g v:=by
    funext v
    simp only[Za4,dotS,indI]
    by_cases hv:v=t.v.toNat
    ·rw[if_pos (by omega),if_pos hv,show((v:Nat):Int)=t.v by omega];grind
    ·rw[if_neg (by omega),if_neg hv];grind
   rw[e,ZfQ,Zg8,if_pos (by omega),← ih]
   simp only[dotS]
theorem ZgD{l:List Zaf}{N:Nat}(h:Zai l N=true):∀ t∈l,0≤t.v∧t.v<N:=fun t ht=>⟨(Za6 h ht).1,(Za6 h ht).2.1⟩
def mixG(g:Int→Rat):List RowD→List Zag→Rat
 | w ::r,f ::y=>qOf f*dotS g w.t+mixG g r y
 | _,_=>0
def mixV:List RowD→List Zag→Rat
 | w ::r,f ::y=>qOf f*qOf w.v+mixV r y
 | _,_=>0
theorem ZiV(g:Int→Rat)(y:List Zag):mixG g [] y=0:=by cases y<;>rfl
theorem ZkF(y:List Zag):mixV [] y=0:=by cases y<;>rfl
theorem ZiW(g:Int→Rat):∀ (r:List RowD)(y:List Zag)(k:Nat)(w:RowD)(f:Zag),r[k]? =some w→y[k]? =some f→mixG g (r.take (k+1)) (y.take (k+1))=mixG g (r.take k) (y.take k)+qOf f*dotS g w.t
 | [],_,_,_,_,h,_=>by simp at h
 | _ ::_,[],_,_,_,_,h=>by simp at h
 | u ::r,e ::y,0,w,f,h1,h2=>by
   simp at h1 h2;subst h1;subst h2
   simp only[List.take_succ_cons,List.take_zero,mixG];grind
 | u ::r,e ::y,k+1,w,f,h1,h2=>by
   have:=ZiW g r y k w f (by simpa using h1) (by simpa using h2)
   simp only[List.take_succ_cons,mixG]at this ⊢
   rw[this];grind
theorem ZkG:∀ (r:List RowD)(y:List Zag)(k:Nat)(w:RowD)(f:Zag),r[k]? =some w→y[k]? =some f→mixV (r.take (k+1)) (y.take (k+1))=mixV (r.take k) (y.take k)+qOf f*qOf w.v
 | [],_,_,_,_,h,_=>by simp at h
 | _ ::_,[],_,_,_,_,h=>by simp at h
 | u ::r,e ::y,0,w,f,h1,h2=>by
   simp at h1 h2;subst h1;subst h2
   simp only[List.take_succ_cons,List.take_zero,mixV];grind
 | u ::r,e ::y,k+1,w,f,h1,h2=>by
   have:=ZkG r y k w f (by simpa using h1) (by simpa using h2)
   simp only[List.take_succ_cons,mixV]at this ⊢
   rw[this];grind
theorem ZsL{N:Nat}(g:Int→Rat):∀ (r:List RowD)(y:List Zag),(∀ w∈r,∀ t∈w.t,0≤t.v∧t.v<N)→mixG g r y=sumN N (fun v=>mixG (indI v) r y*g v)
 | [],y,_=>by simp only[ZiV];rw[show(fun v:Nat=>(0:Rat)*g v)=fun _=>0 by funext v;grind,Zbs]
 | w ::r,[],_=>by
   simp only[mixG];rw[show(fun v:Nat=>(0:Rat)*g v)=fun _=>0 by funext v;grind,Zbs]
 | w ::r,f ::y,h=>by
   have ih:=ZsL g r y (fun u hu=>h u (Yb6 _ hu))
   have e:(fun v:Nat=>mixG (indI v) (w ::r) (f ::y)*g v)=fun v=>qOf f*(Za4 w.t v*g v)+mixG (indI v) r y*g v:=by
    funext v;simp only[mixG,Za4];grind
   rw[e,ZfQ,Zd4,← ZjV g w.t (h w Yb7),← ih]
   simp only[mixG]
def ZaS(n:Nat)(c:Nat→Rat):List Zaf:=(List.range n).filterMap fun(v:Nat)=>if c v=0 then none else some ⟨(v:Int),ofQ (c v)⟩
theorem Zcp(n:Nat)(c:Nat→Rat):ZaS (n+1) c=ZaS n c++(if c n=0 then []else [⟨(n:Int),ofQ (c n)⟩]):=by
 unfold ZaS
 rw[List.range_succ,List.filterMap_append]
 by_cases h:c n=0<;>simp[h]
theorem Zmm{c:Nat→Rat}:∀ (n:Nat),∀ t∈ZaS n c,0≤t.v∧t.v<n
 | 0,t,h=>by simp[ZaS]at h
 | n+1,t,h=>by
   rw[Zcp,Yd5]at h
   rcases h with h|h
   ·have:=Zmm n t h;omega
   ·split at h
    ·cases h
    ·rw[List.mem_singleton]at h;subst h;dsimp only;omega
theorem Zs7{n:Int}{t:Zaf}(h2:t.v<n)(h3:sgnD t.f≠0):∀ (l:List Zaf)(last:Int),goR n last l=true→last<t.v→(∀ u∈l,u.v<t.v)→goR n last (l++[t])=true
 | [],last,_,h,_=>ZaH.2 ⟨h,h2,h3,rfl⟩
 | u ::l,last,k,_,hu=>by
   have k':=ZaH.1 k
   exact ZaH.2 ⟨k'.1,k'.2.1,k'.2.2.1,Zs7 h2 h3 l u.v k'.2.2.2 (hu u Yb7) (fun w hw=>hu w (Yb6 _ hw))⟩
theorem ZkX{c:Nat→Rat}{m:Int}:∀ (n:Nat),(n:Int)≤m→goR m (-1) (ZaS n c)=true
 | 0,_=>rfl
 | n+1,h=>by
   rw[Zcp]
   have ih:=ZkX (c:=c) (m:=m) n (by omega)
   split
   ·rw[List.append_nil];exact ih
   ·rename_i hc
    exact Zs7 (by dsimp only;omega) (ZfS hc) _ _ ih (by dsimp only;omega) (fun u hu=>by have:=Zmm n u hu;dsimp only;omega)
theorem Zcy{c:Nat→Rat}{n:Nat}{m:Int}(h:(n:Int)≤m):Zai (ZaS n c) m=true:=by
 simp only[Zai,Ya2,decide_eq_true_eq]
 exact⟨by omega,ZkX n h⟩
theorem ZcY(g:Int→Rat)(c:Nat→Rat):∀ n:Nat,dotS g (ZaS n c)=sumN n (fun v=>c v*g v)
 | 0=>rfl
 | n+1=>by
   rw[Zcp,Zip,ZcY g c n]
   simp only[sumN]
   split
   ·rename_i h;rw[h];simp only[dotS];grind
   ·simp only[dotS,Zay];grind
theorem ZeY(c:Nat→Rat)(n v:Nat):Za4 (ZaS n c) v=if v<n then c v else 0:=by
 unfold Za4
 rw[ZcY]
 have e:(fun u:Nat=>c u*indI v u)=fun u=>if u=v then c v else 0:=by
  funext u
  simp only[indI]
  by_cases h:u=v
  ·subst h;rw[if_pos rfl,if_pos rfl];grind
  ·rw[if_neg (by omega),if_neg h];grind
 rw[e,Zg8]
theorem Zej(c:Nat→Rat)(n:Nat):(ZaS n c).length≤n:=by
 unfold ZaS
 have:=List.length_filterMap_le (fun v:Nat=>if c v=0 then none else some (⟨(v:Int),ofQ (c v)⟩:Zaf)) (List.range n)
 rwa [List.length_range]at this
theorem ZqB{l:List Zaf}{n:Nat}(h:Zai l n=true):l=ZaS n (Za4 l) :=
 Zmw h (Zcy (Int.le_refl _)) fun g=>by rw[ZcY,ZjV g l (ZgD h)]
theorem Ztz{l:List Zaf}{n:Nat}(h:Zai l n=true){v:Nat}(hv:n≤v):Za4 l v=0:=by
 rw[ZqB h,ZeY,if_neg (by omega)]
def Zd3(a b:List Zaf):Prop:=∀ v:Int,dotS (indI v) a≤dotS (indI v) b
theorem Zdg{n last v:Int}{l:List Zaf}(h:goR n last l=true)(hv:v≤last):dotS (indI v) l=0:=ZgV l last hv h
theorem ZcW(v:Int)(x:Zaf)(l:List Zaf):dotS (indI v) (x ::l)=(if x.v=v then qOf x.f else 0)+dotS (indI v) l:=by
 simp only[dotS,indI]
 by_cases h:x.v=v
 ·rw[if_pos h,if_pos h];grind
 ·rw[if_neg h,if_neg h];grind
theorem Zl0{n last:Int}{x:Zaf}{a b:List Zaf}(ha:goR n last (x ::a)=true)(hb:goR n x.v b=true):Zd3 (x ::a) b↔qOf x.f≤0∧Zd3 a b:=by
 have ha':=(ZaH.1 ha).2.2.2
 constructor
 ·intro h
  have h0:=h x.v
  rw[ZcW,if_pos rfl,Zdg ha' (Int.le_refl _),Zdg hb (Int.le_refl _)]at h0
  refine⟨by grind,fun v=>?_⟩
  have hv:=h v
  rw[ZcW]at hv
  by_cases e:x.v=v
  ·subst e;rw[Zdg ha' (Int.le_refl _),Zdg hb (Int.le_refl _)];exact Rat.le_refl
  ·rw[if_neg e]at hv;grind
 ·rintro⟨h0,h⟩ v
  have hv:=h v
  rw[ZcW]
  split<;>grind
theorem Zki{n last:Int}{y:Zaf}{a b:List Zaf}(ha:goR n y.v a=true)(hb:goR n last (y ::b)=true):Zd3 a (y ::b)↔0≤qOf y.f∧Zd3 a b:=by
 have hb':=(ZaH.1 hb).2.2.2
 constructor
 ·intro h
  have h0:=h y.v
  rw[ZcW,if_pos rfl,Zdg hb' (Int.le_refl _),Zdg ha (Int.le_refl _)]at h0
  refine⟨by grind,fun v=>?_⟩
  have hv:=h v
  rw[ZcW]at hv
  by_cases e:y.v=v
  ·subst e;rw[Zdg ha (Int.le_refl _),Zdg hb' (Int.le_refl _)];exact Rat.le_refl
  ·rw[if_neg e]at hv;grind
 ·rintro⟨h0,h⟩ v
  have hv:=h v
  rw[ZcW]
  split<;>grind
theorem Zu1{n la lb:Int}{x y:Zaf}{a b:List Zaf}(ha:goR n la (x ::a)=true)(hb:goR n lb (y ::b)=true)(e:x.v=y.v):Zd3 (x ::a) (y ::b)↔qOf x.f≤qOf y.f∧Zd3 a b:=by
 have ha':=(ZaH.1 ha).2.2.2
 have hb':=(ZaH.1 hb).2.2.2
 constructor
 ·intro h
  have h0:=h x.v
  rw[ZcW,ZcW,if_pos rfl,if_pos e.symm,Zdg ha' (Int.le_refl _),Zdg hb' (by omega)]at h0
  refine⟨by grind,fun v=>?_⟩
  have hv:=h v
  rw[ZcW,ZcW]at hv
  by_cases k:x.v=v
  ·rw[Zdg ha' (by omega),Zdg hb' (by omega)];exact Rat.le_refl
  ·rw[if_neg k,if_neg (by omega)]at hv;grind
 ·rintro⟨h0,h⟩ v
  have hv:=h v
  rw[ZcW,ZcW]
  by_cases k:x.v=v
  ·rw[if_pos k,if_pos (by omega)];grind
  ·rw[if_neg k,if_neg (by omega)];grind
theorem Zyw:Zd3 [] []:=fun _=>Rat.le_refl
def Zjg(n:Nat)(a b:List Zaf):Bool:=(List.range n).all fun v=>decide (Za4 a v≤Za4 b v)
theorem Zne{n:Nat}{a b:List Zaf}(ha:Zai a n=true)(hb:Zai b n=true):Zjg n a b=true↔Zd3 a b:=by
 unfold Zjg
 simp only[Ya6,Yd2,decide_eq_true_eq]
 constructor
 ·intro h v
  by_cases h0:0≤v
  ·have e:((v.toNat:Nat):Int)=v:=by omega
   by_cases h1:v.toNat<n
   ·have:=h v.toNat h1;unfold Za4 at this;rw[e]at this;exact this
   ·have c1:=Ztz ha (v:=v.toNat) (by omega)
    have c2:=Ztz hb (v:=v.toNat) (by omega)
    unfold Za4 at c1 c2
    rw[e]at c1 c2
    rw[c1,c2];exact Rat.le_refl
  ·simp only[Zai,Ya2]at ha hb
   rw[Zdg ha.2 (by omega),Zdg hb.2 (by omega)];exact Rat.le_refl
 ·intro h v _;exact h v
theorem Zvj{l:List Zaf}{x:List Zag}(h:(Zai l x.length&&okP x)=false):ZbW l x=(zF,false):=by unfold ZbW;rw[h];rfl
theorem Zjp{l:List Zaf}{x:List Zag}(h:(Zai l x.length&&okP x)=true):ZbW l x=(ofQ (dotD l x),true):=by unfold ZbW;rw[h];rfl
theorem ZEv(a b:Rat)(za:(szQ a:Int)≤549755813888)(zb:(szQ b:Int)≤549755813888):Zah Tryz.prog 39 [encF (ofQ a),encF (ofQ b)] (.tup [encF (ofQ (a+b)),dI 0]):=by
 have:=ZxN (ofQ a) (ofQ b) za zb
 rwa [Zou]at this
theorem ZEu(a b:Rat)(za:(szQ a:Int)≤549755813888)(zb:(szQ b:Int)≤549755813888):Zah Tryz.prog 164 [encF (ofQ a),encF (ofQ b)] (.tup [encF (ofQ (a*b)),dI 0]):=by
 have:=ZxH (ofQ a) (ofQ b) za zb
 rwa [ZsJ]at this
set_option maxHeartbeats 16000000
theorem Ztt(p q:Rat)(g h:Int→Rat):∀ l:List Zaf,dotS (fun v=>p*g v+q*h v) l=p*dotS g l+q*dotS h l
 | []=>by simp only[dotS];grind
 | t ::l=>by simp only[dotS,Ztt p q g h l];grind
theorem Zi6{k:Int}{d:Rat}(h0:0≤k)(h3:k<3):ZjR k (sgQ d)=true↔(k=0→0≤d)∧(k=1→d≤0)∧(k=2→d=0):=by
 have hk:k=0∨k=1∨k=2:=by omega
 rcases ZgB d with⟨h,e⟩|⟨h,e⟩|⟨h,e⟩<;>rw[e]<;>rcases hk with rfl|rfl|rfl<;>simp[ZjR]<;>grind
theorem ZfT{f:Zag}(h:okF f=true):0≤sgnD f↔0≤qOf f:=by
 have e:sgnD f=sgQ (qOf f):=by simp[sgnD,h]
 rw[e]
 rcases ZgB (qOf f)with⟨h,g⟩|⟨h,g⟩|⟨h,g⟩<;>rw[g]<;>constructor<;>intro h1<;>grind
structure OptD where
 k:Int
 v:Zag
 x:List Zag
 y:List Zag
 d:List Zag
abbrev cO(o:OptD):List D:=[dI o.k,dI o.v.p.s,Zab o.v.p.d,dI o.v.q.s,Zab o.v.q.d,Za0 o.x,Za0 o.y,Za0 o.d]
abbrev encO(o:OptD):D:=.agg (cO o)
def ZhJ(s:SysD)(y:List Zag):Bool:=ZaB s&&decide ((y.length:Int)=s.r.length)&&okP y
def ZdK(w:RowD)(f:Zag):Bool:= !(w.k==0&&decide (sgnD f<0)) && !(w.k==1&&decide (sgnD f>0))
def Zdb(s:SysD)(y:List Zag):Bool:=ZhJ s y&&(s.r.zip y).all (fun p=>ZdK p.1 p.2)
def mixT(s:SysD)(y:List Zag):List Zaf:=ZaS s.n.toNat (fun v=>mixG (indI v) s.r y)
def Zpt(s:SysD)(y:List Zag):List Zaf×Zag:=if ZhJ s y then(mixT s y,ofQ (mixV s.r y))else([],zF)
def Zb5(s:SysD)(goal:List Zaf)(y:List Zag):Zag×Bool :=
 if Zdb s y&&Zai goal s.n&&Zjg s.n.toNat (mixT s y) goal then(ofQ (mixV s.r y),true)else(zF,false)
def Zhe(s:SysD)(y:List Zag):Bool:=(Zb5 s [] y).2&&decide (sgnD (Zb5 s [] y).1>0)
def rayD(s:SysD)(goal:List Zaf)(d:List Zag):Bool :=
 ZaB s&&Zai goal s.n&&decide ((d.length:Int)=s.n)&&okP d&&ZhR d&&s.r.all (fun w=>ZjR w.k (sgQ (dotD w.t d)))&&decide (sgQ (dotD goal d)<0)
def Zp1(s:SysD)(goal:List Zaf)(o:OptD):Bool:=ZaB s&&Zai goal s.n &&
 (if o.k=0 then(Zb5 s goal o.y).2&&Zap s o.x&&ZoV (ZbW goal o.x).1 o.v&&ZoV (Zb5 s goal o.y).1 o.v&&o.d.isEmpty
  else if o.k=1 then Zhe s o.y&&o.x.isEmpty&&o.d.isEmpty&&ZoV o.v zF
  else if o.k=2 then Zap s o.x&&rayD s goal o.d&&o.y.isEmpty&&ZoV o.v zF
  else false)
theorem Zev{s:SysD}{y:List Zag}:ZhJ s y=true↔ZaB s=true∧y.length=s.r.length∧okP y=true:=by
 simp only[ZhJ,Ya2,decide_eq_true_eq,and_assoc]
 constructor
 ·rintro⟨a,b,c⟩;exact⟨a,by omega,c⟩
 ·rintro⟨a,b,c⟩;exact⟨a,by omega,c⟩
theorem Zb7{s:SysD}(h:ZaB s=true):0≤s.n∧s.n≤1500:=by
 simp only[ZaB,Ya2,decide_eq_true_eq]at h;exact⟨h.1.1.1,h.1.1.2⟩
theorem Zcz{s:SysD}(h:ZaB s=true){w:RowD}(hw:w∈s.r):Zai w.t s.n.toNat=true∧0≤w.k∧w.k<3∧okF w.v=true:=by
 have h1:=ZjB h hw
 have:=(Zb7 h).1
 simp only[Zdq,Ya2,decide_eq_true_eq]at h1
 rw[show((s.n.toNat:Nat):Int)=s.n by omega]
 exact⟨h1.1.1.1,h1.1.1.2,h1.1.2,h1.2⟩
theorem Zeo{l:List Zaf}{n:Int}(h:Zai l n=true):Zai l n.toNat=true:=by
 have h0:0≤n:=by simp only[Zai,Ya2,decide_eq_true_eq]at h;exact h.1
 rwa [show((n.toNat:Nat):Int)=n by omega]
theorem ZjJ{s:SysD}{goal:List Zaf}{y:List Zag}:(Zb5 s goal y).2=true↔Zdb s y=true∧Zai goal s.n=true∧Zjg s.n.toNat (mixT s y) goal=true:=by
 unfold Zb5
 split
 ·rename_i h;simp only[Ya2]at h;simp[h.1.1,h.1.2,h.2]
 ·rename_i h
  simp only[Ya2,not_and,Bool.not_eq_true]at h
  simp only[Bool.false_eq_true,false_iff]
  rintro⟨a,b,c⟩
  rw[h ⟨a,b⟩]at c;cases c
theorem Zef{s:SysD}{goal:List Zaf}{y:List Zag}(h:(Zb5 s goal y).2=true):(Zb5 s goal y).1=ofQ (mixV s.r y):=by
 unfold Zb5 at h ⊢
 split
 ·rfl
 ·rename_i hn;rw[if_neg hn]at h;cases h
theorem ZzT{s:SysD}(h:ZaB s=true):∀ w∈s.r,∀ t∈w.t,0≤t.v∧t.v<(s.n.toNat:Nat):=fun w hw t ht=>ZgD (Zcz h hw).1 t ht
theorem ZzU{s:SysD}(h:ZaB s=true)(y:List Zag)(g:Int→Rat):dotS g (mixT s y)=mixG g s.r y:=by
 unfold mixT
 rw[ZcY,← ZsL g s.r y (ZzT h)]
theorem Zhl{s:SysD}(h:ZaB s=true)(y:List Zag):Zai (mixT s y) s.n.toNat=true:=Zcy (Int.le_refl _)
theorem Zyz{x:List Zag}(ho:okP x=true)(hn:ZhR x=true)(v:Int):0≤atP x v:=by
 unfold atP
 cases h:x[v.toNat]? with
 | none=>simp only[Option.getD_none];decide +kernel
 | some f =>
   simp only[Option.getD_some]
   have h1:=Ya6.1 ho f (ZaL h)
   have h2:=of_decide_eq_true (Ya6.1 hn f (ZaL h))
   exact(ZfT h1).1 h2
theorem Zyx{n:Nat}{a b:List Zaf}(ha:Zai a n=true)(hb:Zai b n=true)(h:Zd3 a b){g:Int→Rat}(hg:∀ v,0≤g v):dotS g a≤dotS g b:=by
 rw[ZjV g a (ZgD ha),ZjV g b (ZgD hb)]
 refine Zk2 n fun v _=>?_
 have h1:=h v
 have h2:=Rat.mul_nonneg (a:=Za4 b v-Za4 a v) (by unfold Za4;grind) (hg v)
 grind
theorem ZvQ{w:RowD}{f:Zag}{d:Rat}(ho:okF f=true)(hs:ZdK w f=true)(h0:0≤w.k)(h3:w.k<3)(hd:ZjR w.k (sgQ d)=true):0≤qOf f*d:=by
 rw[Zi6 h0 h3]at hd
 have e:sgnD f=sgQ (qOf f):=by simp[sgnD,ho]
 simp only[ZdK,Ya2,Bool.not_eq_true',Bool.and_eq_false_iff,beq_eq_false_iff_ne,decide_eq_false_iff_not,e]at hs
 have hk:w.k=0∨w.k=1∨w.k=2:=by omega
 rcases hk with hk|hk|hk
 ·have h1:¬ sgQ (qOf f)<0:=hs.1.resolve_left (fun h=>h hk)
  rw[ZgA]at h1
  exact Rat.mul_nonneg (by grind) (hd.1 hk)
 ·have h1:¬ sgQ (qOf f)>0:=hs.2.resolve_left (fun h=>h hk)
  rw[gt_iff_lt,Zdp]at h1
  have:=Rat.mul_nonneg (a:= -qOf f) (b:= -d) (by grind) (by have:=hd.2.1 hk;grind)
  grind
 ·rw[hd.2.2 hk];grind
theorem ZBi(x:List Zag):∀ (r:List RowD)(y:List Zag),okP y=true→(∀ w∈r,0≤w.k∧w.k<3)→(r.zip y).all (fun p=>ZdK p.1 p.2)=true→r.all (fun w=>ZeC w x)=true→mixV r y≤mixG (atP x) r y
 | [],y,_,_,_,_=>by rw[ZiV,ZkF];exact Rat.le_refl
 | _ ::_,[],_,_,_,_=>by simp only[mixG,mixV];exact Rat.le_refl
 | w ::r,f ::y,ho,hk,hs,hh=>by
   simp only[okP,List.all_cons,Ya2]at ho
   simp only[List.zip_cons_cons,List.all_cons,Ya2]at hs hh
   have ih:=ZBi x r y ho.2 (fun u hu=>hk u (Yb6 _ hu)) hs.2 hh.2
   have h1:=ZvQ ho.1 hs.1 (hk w Yb7).1 (hk w Yb7).2 hh.1
   rw[Zcu]at h1
   simp only[mixG,mixV]
   grind
theorem Zp3{s:SysD}{goal:List Zaf}{y x:List Zag}(hl:(Zb5 s goal y).2=true)(hx:Zap s x=true):mixV s.r y≤dotD goal x:=by
 obtain⟨h1,h2,h3⟩:=ZjJ.1 hl
 simp only[Zdb,Ya2]at h1
 obtain⟨hr,hlen,ho⟩:=Zev.1 h1.1
 simp only[Zap,Ya2,decide_eq_true_eq]at hx
 have a:=ZBi x s.r y ho (fun w hw=>⟨(Zcz hr hw).2.1,(Zcz hr hw).2.2.1⟩) h1.2 hx.2
 have hg:=Zeo h2
 have b:=Zyx (Zhl hr y) hg ((Zne (Zhl hr y) hg).1 h3) (fun v=>Zyz hx.1.1.2 hx.1.2 v)
 rw[ZzU hr]at b
 rw[Zcu]
 grind
theorem Zfp{s:SysD}{y x:List Zag}(h:Zhe s y=true):Zap s x=false:=by
 cases hx:Zap s x
 ·rfl
 ·simp only[Zhe,Ya2,decide_eq_true_eq]at h
  have h1:=Zp3 h.1 hx
  rw[Zef h.1,ZbN,gt_iff_lt,Zdp]at h
  have:dotD [] x=0:=rfl
  grind
def onD(k:Rat)(x d:List Zag):List Zag:=List.zipWith (fun a b=>ofQ (qOf a+qOf b*k)) x d
theorem ZFv{k:Rat}{x d:List Zag}(hl:x.length=d.length)(v:Int):atP (onD k x d) v=1*atP x v+k*atP d v:=by
 unfold atP onD
 rw[List.getElem?_zipWith]
 cases hx:x[v.toNat]? with
 | none =>
   have:d[v.toNat]? =none:=List.getElem?_eq_none (by have:=List.getElem?_eq_none_iff.1 hx;omega)
   rw[this]
   have:qOf zF=0:=by decide +kernel
   simp only[Option.getD_none,this];grind
 | some f =>
   have hlt:=(Ya3.1 hx).1
   rw[Ya0 (by omega:v.toNat<d.length)]
   simp only[Option.getD_some,Zay];grind
theorem Zx2{k:Rat}{x d:List Zag}(hl:x.length=d.length)(l:List Zaf):dotD l (onD k x d)=dotD l x+k*dotD l d:=by
 rw[Zcu,Zcu,Zcu,show atP (onD k x d)=fun v=>1*atP x v+k*atP d v from funext (ZFv hl),Ztt]
 grind
theorem Zpk{k:Rat}{x d:List Zag}{f:Zag}(h:f∈onD k x d):∃ a b,a∈x∧b∈d∧f=ofQ (qOf a+qOf b*k):=by
 obtain⟨i,hi⟩:=List.getElem?_of_mem h
 unfold onD at hi
 rw[List.getElem?_zipWith]at hi
 split at hi
 ·rename_i a b ha hb;cases hi;exact⟨a,b,ZaL ha,ZaL hb,rfl⟩
 ·cases hi
theorem Zhf{s:SysD}{goal:List Zaf}{d:List Zag}:rayD s goal d=true↔ZaB s=true∧Zai goal s.n=true∧(d.length:Int)=s.n∧okP d=true∧ZhR d=true∧s.r.all (fun w=>ZjR w.k (sgQ (dotD w.t d)))=true∧sgQ (dotD goal d)<0:=by
 simp only[rayD,Ya2,decide_eq_true_eq,and_assoc]
theorem Zbb{s:SysD}{x:List Zag}:Zap s x=true↔ZaB s=true∧(x.length:Int)=s.n∧okP x=true∧ZhR x=true∧s.r.all (fun w=>ZeC w x)=true:=by
 simp only[Zap,Ya2,decide_eq_true_eq,and_assoc]
theorem ZkK{s:SysD}{goal:List Zaf}{x d:List Zag}{k:Rat}(hx:Zap s x=true)(hd:rayD s goal d=true)(hk:0≤k):Zap s (onD k x d)=true:=by
 obtain⟨hr,ln,ox,nx,rx⟩:=Zbb.1 hx
 obtain⟨_,_,ld,od,nd,rd,_⟩:=Zhf.1 hd
 have hl:x.length=d.length:=by omega
 refine Zbb.2 ⟨hr,by unfold onD;rw[List.length_zipWith];omega,?_,?_,?_⟩
 ·refine Ya6.2 fun f hf=>?_
  obtain⟨a,b,_,_,rfl⟩:=Zpk hf
  exact Zby _
 ·refine Ya6.2 fun f hf=>?_
  obtain⟨a,b,ha,hb,rfl⟩:=Zpk hf
  have na:=(ZfT (Ya6.1 ox a ha)).1 (of_decide_eq_true (Ya6.1 nx a ha))
  have nb:=(ZfT (Ya6.1 od b hb)).1 (of_decide_eq_true (Ya6.1 nd b hb))
  refine decide_eq_true ((ZfT (Zby _)).2 ?_)
  rw[Zay]
  have:=Rat.mul_nonneg nb hk
  grind
 ·refine Ya6.2 fun w hw=>?_
  have h3:=Zcz hr hw
  have a:=Ya6.1 rx w hw
  have b:=Ya6.1 rd w hw
  unfold ZeC at a ⊢
  rw[Zi6 h3.2.1 h3.2.2.1]at a b ⊢
  rw[Zx2 hl]
  refine⟨fun h=>?_,fun h=>?_,fun h=>?_⟩
  ·have:=Rat.mul_nonneg hk (b.1 h);have:=a.1 h;grind
  ·have:=Rat.mul_nonneg hk (by have:=b.2.1 h;grind:0 ≤ -dotD w.t d);have:=a.2.1 h;grind
  ·have h1:=a.2.2 h;have h2:=b.2.2 h;rw[h2];grind
theorem isEmpty_nil{α:Type}{l:List α}(h:l.isEmpty=true):l=[]:=List.isEmpty_iff.1 h
theorem ZeM{s:SysD}{goal:List Zaf}{o:OptD}(h:Zp1 s goal o=true) :
 (o.k=0∧(Zb5 s goal o.y).2=true∧Zap s o.x=true∧o.v=ofQ (dotD goal o.x)∧dotD goal o.x=mixV s.r o.y∧o.d=[]) ∨
 (o.k=1∧Zhe s o.y=true∧o.x=[]∧o.d=[]∧o.v=zF)∨(o.k=2∧Zap s o.x=true∧rayD s goal o.d=true∧o.y=[]∧o.v=zF):=by
 simp only[Zp1,Ya2]at h
 obtain⟨⟨hr,hg⟩,h⟩:=h
 split at h
 ·rename_i hk
  simp only[Ya2,Zlb]at h
  obtain⟨⟨⟨⟨h1,h2⟩,h3⟩,h4⟩,h5⟩:=h
  have hx:=Zbb.1 h2
  have hv:ZbW goal o.x=(ofQ (dotD goal o.x),true):=Zjp (by rw[hx.2.1,hg,hx.2.2.1];rfl)
  rw[hv]at h3
  rw[Zef h1]at h4
  exact .inl ⟨hk,h1,h2,h3.symm,ZCG (h3.trans h4.symm),isEmpty_nil h5⟩
 ·split at h
  ·rename_i hk
   simp only[Ya2,Zlb]at h
   exact .inr (.inl ⟨hk,h.1.1.1,isEmpty_nil h.1.1.2,isEmpty_nil h.1.2,h.2⟩)
  ·split at h
   ·rename_i hk
    simp only[Ya2,Zlb]at h
    exact .inr (.inr ⟨hk,h.1.1.1,h.1.1.2,isEmpty_nil h.1.2,h.2⟩)
   ·cases h
structure PlD where
 k:Int
 h:Int
 m:Int
structure MvD where
 d:Int
 f:Int
 t:Int
 s:Int
 r:Int
 a:Bool
structure PuD where
 v:Int
 m:Int
 lo:Int
 hi:Int
structure EvD where
 m:Int
 h:Int
 s:Int
 pl:List PlD
 mv:List MvD
 ce:List ZdD
 re:List RecD
 pu:List PuD
structure FiD where
 v:Int
 k:Int
 g:Int
structure ClD where
 v:Int
 k:Int
structure TrD where
 e:EvD
 fi:List FiD
 cl:List ClD
abbrev cPl(p:PlD):List D:=[dI p.k,dI p.h,dI p.m]
abbrev cMv(x:MvD):List D:=[dI x.d,dI x.f,dI x.t,dI x.s,dI x.r,dB x.a]
abbrev cPu(x:PuD):List D:=[dI x.v,dI x.m,dI x.lo,dI x.hi]
abbrev cFi(x:FiD):List D:=[dI x.v,dI x.k,dI x.g]
abbrev cCl(x:ClD):List D:=[dI x.v,dI x.k]
abbrev Zm7(l:List PlD):D:=.sl (l.map cPl)
abbrev Zjc(l:List MvD):D:=.sl (l.map cMv)
abbrev Ztp(l:List PuD):D:=.sl (l.map cPu)
abbrev ZxZ(l:List FiD):D:=.sl (l.map cFi)
abbrev Ztq(l:List ClD):D:=.sl (l.map cCl)
abbrev cEv(e:EvD):List D:=[dI e.m,dI e.h,dI e.s,Zm7 e.pl,Zjc e.mv,ZpV e.ce,Zjb e.re,Ztp e.pu]
abbrev Zfd(e:EvD):D:=.agg (cEv e)
abbrev cTr(t:TrD):List D:=[dI t.e.m,dI t.e.h,dI t.e.s,Zm7 t.e.pl,Zjc t.e.mv,ZpV t.e.ce,Zjb t.e.re,Ztp t.e.pu,ZxZ t.fi,Ztq t.cl]
abbrev ZcL(t:TrD):D:=.agg (cTr t)
def idx(i n:Int):Bool:=decide (0≤i)&&decide (i<n)
def ZeT(e:EvD):Bool:=decide (e.m>6)||(decide (e.h>100)||(decide (e.s>30)||(decide ((e.pl.length:Int)>100)||(decide ((e.mv.length:Int)>200)||(decide ((e.ce.length:Int)>100)||(decide ((e.re.length:Int)>30)||decide ((e.pu.length:Int)>200)))))))
def okPl(h m:Int)(p:PlD):Bool:=idx p.k 7&&(if p.k=0 then idx p.h h&&idx p.m m else p.h == -1&&p.m == -1)
def Zch(e:EvD)(p:Int):Int:=((e.pl[p.toNat]?).map PlD.k).getD (-1)
def okMv(e:EvD)(x:MvD):Bool :=
 idx x.f e.pl.length&&(idx x.t e.pl.length&&(x.f !=x.t&&(!(Zch e x.f==5)&&(!(Zch e x.f==6)&&(!(Zch e x.f==0&&x.a)&&(!(Zch e x.t==0) &&
 (if x.s = -1 then x.r==0 else idx x.s e.s&&(decide (0≤x.r)&&decide (x.r≤1099511627776)))))))))
def okCe(s:Int)(c:ZdD):Bool:=(decide (0≤c.f)&&(decide (c.f≤c.u)&&decide (c.u≤100000)))&&(idx c.s s&&((decide (0≤c.g)&&decide (c.g≤1099511627776))&&((decide (0≤c.p)&&decide (c.p≤1000))&&(decide (0≤c.d)&&decide (c.d≤10000000)))))
def okRe(s:Int)(c:RecD):Bool:=idx c.s s&&(decide (0≤c.d)&&decide (c.d≤100000))
def okPu(n m:Int)(p:PuD):Bool:=idx p.v n&&(idx p.m m&&(decide (0≤p.lo)&&(decide (p.lo≤p.hi)&&decide (p.hi≤1000))))
def Zh3(e:EvD):Bool:=e.ce.all (okCe e.s)&&(e.re.all (okRe e.s)&&e.pu.all (okPu e.mv.length e.m))
def Zd2(e:EvD):Int→List MvD→Int
 | _,[]=>0
 | last,x ::l=>if x.d<last∨x.d>100000 then 17 else if okMv e x=true then Zd2 e x.d l else 1
def argE(e:EvD):Bool:=decide (1≤e.m)&&(decide (0≤e.h)&&(decide (0≤e.s)&&e.pl.all (okPl e.h e.m)))
def Zf3(e:EvD):Int:=if ZeT e then 6 else if argE e then(if Zd2 e 0 e.mv=0 then(if Zh3 e then 0 else 1)else Zd2 e 0 e.mv)else 1
def Zf0(e:EvD)(v k:Int):Int:=if v<0∨v≥e.mv.length then 4 else if k<0∨k≥8 then 1 else 0
def Zfx(e:EvD):List FiD→Int
 | []=>0
 | x ::l=>if Zf0 e x.v x.k=0 then(if x.g<1∨x.g>1099511627776 then 3 else Zfx e l)else Zf0 e x.v x.k
def ZeL(e:EvD):List ClD→Int
 | []=>0
 | x ::l=>if Zf0 e x.v x.k=0 then ZeL e l else Zf0 e x.v x.k
def ZbX(t:TrD):Int :=
 if Zf3 t.e=0 then(if (t.fi.length:Int)>20∨(t.cl.length:Int)>50 then 6 else if Zfx t.e t.fi=0 then ZeL t.e t.cl else Zfx t.e t.fi)else Zf3 t.e
structure OkMv (e:EvD) (x:MvD):Prop where
 f:0≤x.f∧x.f<e.pl.length
 t:0≤x.t∧x.t<e.pl.length
 ne:x.f≠x.t
 k5:Zch e x.f≠5
 bin:Zch e x.f=0→x.a=false
 tob:Zch e x.t≠0
 s:x.s ≠ -1→(0≤x.s∧x.s<e.s)∧0≤x.r∧x.r≤1099511627776
 d:0≤x.d∧x.d≤100000
structure Zjl (e:EvD):Prop where
 m:1≤e.m∧e.m≤6
 h:0≤e.h∧e.h≤100
 s:0≤e.s∧e.s≤30
 lp:(e.pl.length:Int)≤100
 lm:(e.mv.length:Int)≤200
 lc:(e.ce.length:Int)≤100
 lr:(e.re.length:Int)≤30
 lu:(e.pu.length:Int)≤200
 pl:∀ p∈e.pl,okPl e.h e.m p=true
 mv:∀ x∈e.mv,OkMv e x
 ce:∀ c∈e.ce,okCe e.s c=true
 re:∀ c∈e.re,okRe e.s c=true
 pu:∀ p∈e.pu,okPu e.mv.length e.m p=true
theorem ZzI{e:EvD}{x:MvD}(h:okMv e x=true)(d0:0≤x.d)(d1:x.d≤100000):OkMv e x:=by
 simp only[okMv,idx,Ya2,decide_eq_true_eq,bne_iff_ne,Bool.not_eq_true',beq_eq_false_iff_ne,Bool.and_eq_false_iff]at h
 obtain⟨a,b,c,d,e',f,g,i⟩:=h
 refine⟨a,b,c,d,fun hk=>by rcases f with f|f;exact absurd hk f;exact f,g,fun hs=>?_,d0,d1⟩
 rw[if_neg hs]at i
 simp only[Ya2,decide_eq_true_eq]at i
 exact i
theorem ZsK{e:EvD}:∀ (l:List MvD)(last:Int),0≤last→Zd2 e last l=0→∀ x∈l,OkMv e x
 | [],_,_,_,x,hx=>by cases hx
 | y ::l,last,h0,h,x,hx=>by
   unfold Zd2 at h
   split at h
   ·omega
   ·rename_i h1
    split at h
    ·rename_i h2
     have hy:=ZzI h2 (by omega) (by omega)
     rcases List.mem_cons.1 hx with rfl|hx
     ·exact hy
     ·exact ZsK l y.d (by omega) h x hx
    ·omega
theorem ZDe{e:EvD}(h:Zf3 e=0):Zjl e:=by
 unfold Zf3 at h
 split at h
 ·omega
 rename_i h1
 split at h
 ·rename_i h2
  split at h
  ·rename_i h3
   split at h
   ·rename_i h4
    simp only[ZeT,Bool.or_eq_true,decide_eq_true_eq,not_or]at h1
    simp only[argE,Ya2,decide_eq_true_eq,Ya6]at h2
    simp only[Zh3,Ya2,Ya6]at h4
    obtain⟨a,b,c,d,e1,f,g,i⟩:=h1
    exact⟨⟨h2.1,by omega⟩,⟨h2.2.1,by omega⟩,⟨h2.2.2.1,by omega⟩,by omega,by omega,by omega,by omega,by omega,h2.2.2.2,ZsK _ 0 (Int.le_refl _) h3,h4.1,h4.2.1,h4.2.2⟩
   ·omega
  ·rename_i h3;exact absurd h h3
 ·omega
structure Zbd (t:TrD):Prop where
 e:Zjl t.e
 lf:(t.fi.length:Int)≤20
 lc:(t.cl.length:Int)≤50
 fi:∀ x∈t.fi,(0≤x.v∧x.v<t.e.mv.length)∧(0≤x.k∧x.k<8)∧1≤x.g∧x.g≤1099511627776
 cl:∀ x∈t.cl,(0≤x.v∧x.v<t.e.mv.length)∧0≤x.k∧x.k<8
theorem Zw6{e:EvD}{v k:Int}(h:Zf0 e v k=0):(0≤v∧v<e.mv.length)∧0≤k∧k<8:=by
 unfold Zf0 at h
 split at h
 ·omega
 split at h
 ·omega
 ·omega
theorem Ztf{e:EvD}:∀ l:List FiD,Zfx e l=0→∀ x∈l,(0≤x.v∧x.v<e.mv.length)∧(0≤x.k∧x.k<8)∧1≤x.g∧x.g≤1099511627776
 | [],_,x,hx=>by cases hx
 | y ::l,h,x,hx=>by
   unfold Zfx at h
   split at h
   ·rename_i h1
    split at h
    ·omega
    ·rcases List.mem_cons.1 hx with rfl|hx
     ·have:=Zw6 h1
      omega
     ·exact Ztf l h x hx
   ·rename_i h1;exact absurd h h1
theorem Zp0{e:EvD}:∀ l:List ClD,ZeL e l=0→∀ x∈l,(0≤x.v∧x.v<e.mv.length)∧0≤x.k∧x.k<8
 | [],_,x,hx=>by cases hx
 | y ::l,h,x,hx=>by
   unfold ZeL at h
   split at h
   ·rename_i h1
    rcases List.mem_cons.1 hx with rfl|hx
    ·exact Zw6 h1
    ·exact Zp0 l h x hx
   ·rename_i h1;exact absurd h h1
theorem Znk{t:TrD}(h:ZbX t=0):Zbd t:=by
 unfold ZbX at h
 split at h
 ·rename_i h1
  split at h
  ·omega
  ·rename_i h2
   split at h
   ·rename_i h3
    exact⟨ZDe h1,by omega,by omega,Ztf _ h3,Zp0 _ h⟩
   ·rename_i h3;exact absurd h h3
 ·rename_i h1;exact absurd h h1
def mvAt(e:EvD)(i:Nat):MvD:=(e.mv[i]?).getD ⟨0,0,0,0,0,false⟩
def ZcD(e:EvD)(i:Nat):Bool:=Zch e (mvAt e i).f==0
def stC(e:EvD)(i j:Nat):Rat:=if j<i then(if (mvAt e j).t=(mvAt e i).f then 1 else if (mvAt e j).f=(mvAt e i).f then -1 else 0)else -1
def ZcN(e:EvD)(i:Nat):RowD:=⟨ZaS (i+1) (stC e i),if (mvAt e i).a then 2 else 0,ofQ 0⟩
def oneR(i:Nat)(k:Int)(v:Zag):RowD:=⟨[⟨i,ofQ 1⟩],k,v⟩
structure AbD where
 hi:Zag
 cap:Bool
 fi:List Int
 cl:Int
def hiI(e:EvD)(x:MvD):Zag×Bool:=if x.s = -1 then(zF,false)else((intD e.ce e.re x.s x.r x.d).hi,(intD e.ce e.re x.s x.r x.d).ok)
def finK(t:TrD)(kind:Int)(i:Nat):List Int:=(t.fi.filter fun f=>f.k==kind&&f.v==(i:Int)).map FiD.g
def cleK(t:TrD)(kind:Int)(i:Nat):Nat:=(t.cl.filter fun f=>f.k==kind&&f.v==(i:Int)).length
def ZhG(t:TrD)(kind:Int)(i:Nat):List RowD :=
 (if ZcD t.e i then []else [ZcN t.e i])++((if (hiI t.e (mvAt t.e i)).2 then [oneR i 1 (hiI t.e (mvAt t.e i)).1]else []) ++
 ((finK t kind i).map (fun(g:Int)=>oneR i 0 (ofQ (g:Rat)))++List.replicate (cleK t kind i) (oneR i 2 (ofQ 0))))
def ZbS(t:TrD)(kind:Int):Nat→List RowD
 | 0=>[]
 | i+1=>ZbS t kind i++ZhG t kind i
def sysT(t:TrD)(kind:Int):SysD:=⟨t.e.mv.length,ZbS t kind t.e.mv.length⟩
set_option linter.constructorNameAsVariable false
section
variable {n:Nat} {x:List D}
theorem Zid{α:Type}{T e:TypeId}{f:α→List D}(hu:Tryz.prog.underlying T=some (.slice e))(he:∀ x,ZcU Tryz.prog n e x→∃ a,x=f a)(h:ZcU Tryz.prog (n+1) T x):∃ l:List α,x=[.sl (l.map f)]:=by
 unfold ZcU at h
 simp only[hu]at h
 obtain⟨es,rfl,_,h⟩:=h
 obtain⟨l,rfl⟩:=ZmS (f:=f) (fun x hx=>he x (h x hx))
 exact⟨l,rfl⟩
theorem ZAQ(h:ZcU Tryz.prog (n+1) 4 x):∃ a,x=[dB a]:=by
 unfold ZcU at h
 simp only[Tryz.underlying4]at h
 exact h
theorem Zzv(h:ZcU Tryz.prog (n+2) 72 x):∃ p,x=cPl p:=by
 unfold ZcU at h
 simp only[Tryz.underlying72,List.foldr]at h
 obtain⟨_,_,rfl,h1,_,_,rfl,h2,_,_,rfl,h3,rfl⟩:=h
 obtain⟨a,rfl⟩:=ZbV h1
 obtain⟨b,rfl⟩:=ZbV h2
 obtain⟨c,rfl⟩:=ZbV h3
 exact⟨⟨a,b,c⟩,rfl⟩
theorem ZEL(h:ZcU Tryz.prog (n+2) 90 x):∃ p,x=cMv p:=by
 unfold ZcU at h
 simp only[Tryz.underlying90,List.foldr]at h
 obtain⟨_,_,rfl,h1,_,_,rfl,h2,_,_,rfl,h3,_,_,rfl,h4,_,_,rfl,h5,_,_,rfl,h6,rfl⟩:=h
 obtain⟨a,rfl⟩:=ZbV h1
 obtain⟨b,rfl⟩:=ZbV h2
 obtain⟨c,rfl⟩:=ZbV h3
 obtain⟨d,rfl⟩:=ZbV h4
 obtain⟨e,rfl⟩:=ZbV h5
 obtain⟨f,rfl⟩:=ZAQ h6
 exact⟨⟨a,b,c,d,e,f⟩,rfl⟩
theorem ZAM(h:ZcU Tryz.prog (n+2) 187 x):∃ p,x=cC p:=by
 unfold ZcU at h
 simp only[Tryz.underlying187,List.foldr]at h
 obtain⟨_,_,rfl,h1,_,_,rfl,h2,_,_,rfl,h3,_,_,rfl,h4,_,_,rfl,h5,_,_,rfl,h6,rfl⟩:=h
 obtain⟨a,rfl⟩:=ZbV h1
 obtain⟨b,rfl⟩:=ZbV h2
 obtain⟨c,rfl⟩:=ZbV h3
 obtain⟨d,rfl⟩:=ZbV h4
 obtain⟨e,rfl⟩:=ZbV h5
 obtain⟨f,rfl⟩:=ZbV h6
 exact⟨⟨a,b,c,d,e,f⟩,rfl⟩
theorem ZCl(h:ZcU Tryz.prog (n+2) 230 x):∃ p,x=cRe p:=by
 unfold ZcU at h
 simp only[Tryz.underlying230,List.foldr]at h
 obtain⟨_,_,rfl,h1,_,_,rfl,h2,rfl⟩:=h
 obtain⟨a,rfl⟩:=ZbV h1
 obtain⟨b,rfl⟩:=ZbV h2
 exact⟨⟨a,b⟩,rfl⟩
theorem ZCp(h:ZcU Tryz.prog (n+2) 232 x):∃ p,x=cPu p:=by
 unfold ZcU at h
 simp only[Tryz.underlying232,List.foldr]at h
 obtain⟨_,_,rfl,h1,_,_,rfl,h2,_,_,rfl,h3,_,_,rfl,h4,rfl⟩:=h
 obtain⟨a,rfl⟩:=ZbV h1
 obtain⟨b,rfl⟩:=ZbV h2
 obtain⟨c,rfl⟩:=ZbV h3
 obtain⟨d,rfl⟩:=ZbV h4
 exact⟨⟨a,b,c,d⟩,rfl⟩
theorem ZDf(h:ZcU Tryz.prog (n+2) 68 x):∃ p,x=cFi p:=by
 unfold ZcU at h
 simp only[Tryz.underlying68,List.foldr]at h
 obtain⟨_,_,rfl,h1,_,_,rfl,h2,_,_,rfl,h3,rfl⟩:=h
 obtain⟨a,rfl⟩:=ZbV h1
 obtain⟨b,rfl⟩:=ZbV h2
 obtain⟨c,rfl⟩:=ZbV h3
 exact⟨⟨a,b,c⟩,rfl⟩
theorem ZAJ(h:ZcU Tryz.prog (n+2) 113 x):∃ p,x=cCl p:=by
 unfold ZcU at h
 simp only[Tryz.underlying113,List.foldr]at h
 obtain⟨_,_,rfl,h1,_,_,rfl,h2,rfl⟩:=h
 obtain⟨a,rfl⟩:=ZbV h1
 obtain⟨b,rfl⟩:=ZbV h2
 exact⟨⟨a,b⟩,rfl⟩
theorem ZDm(h:ZcU Tryz.prog (n+5) 28 x):∃ e,x=cEv e:=by
 unfold ZcU at h
 simp only[Tryz.underlying28,List.foldr]at h
 obtain⟨_,_,rfl,h1,_,_,rfl,h2,_,_,rfl,h3,_,_,rfl,h4,_,_,rfl,h5,_,_,rfl,h6,_,_,rfl,h7,_,_,rfl,h8,rfl⟩:=h
 obtain⟨a,rfl⟩:=ZbV h1
 obtain⟨b,rfl⟩:=ZbV h2
 obtain⟨c,rfl⟩:=ZbV h3
 obtain⟨d,rfl⟩:=Zid (f:=cPl) Tryz.underlying22 (fun x h=>Zzv h) h4
 obtain⟨e,rfl⟩:=Zid (f:=cMv) Tryz.underlying23 (fun x h=>ZEL h) h5
 obtain⟨f,rfl⟩:=Zid (f:=cC) Tryz.underlying24 (fun x h=>ZAM h) h6
 obtain⟨g,rfl⟩:=Zid (f:=cRe) Tryz.underlying25 (fun x h=>ZCl h) h7
 obtain⟨i,rfl⟩:=Zid (f:=cPu) Tryz.underlying26 (fun x h=>ZCp h) h8
 exact⟨⟨a,b,c,d,e,f,g,i⟩,rfl⟩
theorem ZyT(h:ZcU Tryz.prog (n+6) 32 x):∃ t,x=cTr t:=by
 unfold ZcU at h
 simp only[Tryz.underlying32,List.foldr]at h
 obtain⟨_,_,rfl,h1,_,_,rfl,h2,_,_,rfl,h3,rfl⟩:=h
 obtain⟨e,rfl⟩:=ZDm h1
 obtain⟨f,rfl⟩:=Zid (f:=cFi) Tryz.underlying29 (fun x h=>ZDf h) h2
 obtain⟨c,rfl⟩:=Zid (f:=cCl) Tryz.underlying30 (fun x h=>ZAJ h) h3
 exact⟨⟨e,f,c⟩,rfl⟩
end
def stN(e:EvD)(f:Nat→Rat)(p:Int)(n:Nat):Rat:=sumN n fun j=>if (mvAt e j).t=p then f j else if (mvAt e j).f=p then -(f j)else 0
structure SolT (t:TrD) (kind:Int) (f:Nat→Rat):Prop where
 pos:∀ i,i<t.e.mv.length→0≤f i
 st:∀ i,i<t.e.mv.length→ZcD t.e i=false→f i≤stN t.e f (mvAt t.e i).f i
 all:∀ i,i<t.e.mv.length→ZcD t.e i=false→(mvAt t.e i).a=true→f i=stN t.e f (mvAt t.e i).f i
 cap:∀ i,i<t.e.mv.length→(hiI t.e (mvAt t.e i)).2=true→f i≤qOf (hiI t.e (mvAt t.e i)).1
 fin:∀ i,i<t.e.mv.length→∀ g∈finK t kind i,(g:Rat)≤f i
 cle:∀ i,i<t.e.mv.length→0<cleK t kind i→f i=0
theorem ZBE{x:List Zag}{i:Nat}(hi:i<x.length):atP x (i:Nat)=qOf x[i]:=by unfold atP;rw[Int.toNat_natCast,Ya0 hi];rfl
theorem ZiP{x:List Zag}(ho:okP x=true):ZhR x=true↔∀ i,i<x.length→0≤atP x (i:Nat):=by
 have sg:∀ f∈x,(0≤sgnD f↔0≤qOf f):=fun f hf=>by
  obtain⟨q,rfl⟩:∃ q,f=ofQ q:=⟨_,ZcF (Ya6.1 ho f hf)⟩
  rw[ZbN,Zay]
  rcases ZgB q with⟨a,b⟩|⟨a,b⟩|⟨a,b⟩
  ·constructor<;>intro h
   ·omega
   ·grind
  ·constructor<;>intro h
   ·grind
   ·omega
  ·constructor<;>intro h
   ·grind
   ·omega
 unfold ZhR
 rw[Ya6]
 constructor
 ·intro h i hi
  rw[ZBE hi]
  have:=h _ (List.getElem_mem hi)
  simp only[decide_eq_true_eq]at this
  exact(sg _ (List.getElem_mem hi)).1 this
 ·intro h f hf
  obtain⟨i,hi,rfl⟩:=List.mem_iff_getElem.1 hf
  have:=h i hi
  rw[ZBE hi]at this
  simp only[decide_eq_true_eq]
  exact(sg _ hf).2 this
theorem Zex{t:TrD}{kind:Int}{w:RowD}:∀ n,w∈ZbS t kind n↔∃ i,i<n∧w∈ZhG t kind i
 | 0=>⟨fun h=>(by cases h),fun⟨i,h,_⟩=>(by omega)⟩
 | n+1=>by
   simp only[ZbS,Yd5,Zex n]
   constructor
   ·rintro(⟨i,h,hw⟩|h)
    ·exact⟨i,by omega,hw⟩
    ·exact⟨n,by omega,h⟩
   ·rintro⟨i,h,hw⟩
    by_cases e:i=n
    ·subst e;exact .inr hw
    ·exact .inl ⟨i,by omega,hw⟩
theorem ZdP{t:TrD}{kind:Int}{w:RowD}{i:Nat}:w∈ZhG t kind i↔(ZcD t.e i=false∧w=ZcN t.e i)∨((hiI t.e (mvAt t.e i)).2=true∧w=oneR i 1 (hiI t.e (mvAt t.e i)).1)∨(∃ g∈finK t kind i,w=oneR i 0 (ofQ (g:Rat)))∨(0<cleK t kind i∧w=oneR i 2 (ofQ 0)):=by
 unfold ZhG
 simp only[Yd5,Yc6,List.mem_replicate]
 have a1:(w∈(if ZcD t.e i=true then []else [ZcN t.e i]))↔(ZcD t.e i=false∧w=ZcN t.e i):=by
  cases ZcD t.e i<;>simp
 have a2:(w∈(if (hiI t.e (mvAt t.e i)).2=true then [oneR i 1 (hiI t.e (mvAt t.e i)).1]else []))↔((hiI t.e (mvAt t.e i)).2=true∧w=oneR i 1 (hiI t.e (mvAt t.e i)).1):=by
  cases(hiI t.e (mvAt t.e i)).2<;>simp
 rw[a1,a2]
 constructor
 ·rintro(h|h|⟨g,hg,rfl⟩|⟨h,rfl⟩)
  ·exact .inl h
  ·exact .inr (.inl h)
  ·exact .inr (.inr (.inl ⟨g,hg,rfl⟩))
  ·exact .inr (.inr (.inr ⟨by omega,rfl⟩))
 ·rintro(h|h|⟨g,hg,rfl⟩|⟨h,rfl⟩)
  ·exact .inl h
  ·exact .inr (.inl h)
  ·exact .inr (.inr (.inl ⟨g,hg,rfl⟩))
  ·exact .inr (.inr (.inr ⟨by omega,rfl⟩))
theorem Zk3(f:Nat→Rat)(n:Nat):sumN (n+1) f=sumN n f+f n:=rfl
theorem ZB4(e:EvD)(i:Nat)(f:Nat→Rat):sumN (i+1) (fun j=>stC e i j*f j)=stN e f (mvAt e i).f i-f i:=by
 rw[Zk3]
 have h1:sumN i (fun j=>stC e i j*f j)=stN e f (mvAt e i).f i:=Za5 _ fun j hj=>by
  unfold stC
  rw[if_pos hj]
  split
  ·grind
  split<;>grind
 have h2:stC e i i = -1:=by unfold stC;rw[if_neg (by omega)]
 rw[h1,h2];grind
theorem ZvD(e:EvD)(i:Nat)(x:List Zag):dotD (ZcN e i).t x=stN e (fun j=>atP x (j:Nat)) (mvAt e i).f i-atP x (i:Nat):=by
 rw[Zcu]
 show dotS _ (ZaS (i+1) (stC e i))=_
 rw[ZcY]
 exact ZB4 e i fun j=>atP x (j:Nat)
theorem ZCy(i:Nat)(k:Int)(v:Zag)(x:List Zag):dotD (oneR i k v).t x=atP x (i:Nat):=by
 rw[Zcu]
 simp only[oneR,dotS,Zay]
 grind
theorem Zsf{w:RowD}{x:List Zag}(h0:0≤w.k)(h3:w.k<3):ZeC w x=true↔(w.k=0→qOf w.v≤dotD w.t x)∧(w.k=1→dotD w.t x≤qOf w.v)∧(w.k=2→dotD w.t x=qOf w.v):=by
 unfold ZeC
 rw[Zi6 h0 h3]
 constructor
 ·rintro⟨a,b,c⟩
  exact⟨fun h=>by have:=a h;grind,fun h=>by have:=b h;grind,fun h=>by have:=c h;grind⟩
 ·rintro⟨a,b,c⟩
  exact⟨fun h=>by have:=a h;grind,fun h=>by have:=b h;grind,fun h=>by have:=c h;grind⟩
theorem ZcQ{i:Nat}{k:Int}{v:Zag}{x:List Zag}(h0:0≤k)(h3:k<3):ZeC (oneR i k v) x=true↔(k=0→qOf v≤atP x (i:Nat))∧(k=1→atP x (i:Nat)≤qOf v)∧(k=2→atP x (i:Nat)=qOf v):=by
 rw[Zsf h0 h3,ZCy];rfl
theorem Zif{e:EvD}{i:Nat}{x:List Zag}:ZeC (ZcN e i) x=true↔atP x (i:Nat)≤stN e (fun j=>atP x (j:Nat)) (mvAt e i).f i∧((mvAt e i).a=true→atP x (i:Nat)=stN e (fun j=>atP x (j:Nat)) (mvAt e i).f i):=by
 have hk:(ZcN e i).k=if (mvAt e i).a=true then 2 else 0:=rfl
 have hv:qOf (ZcN e i).v=0:=Zay 0
 rw[Zsf (by rw[hk];split<;>omega) (by rw[hk];split<;>omega),ZvD,hk,hv]
 cases(mvAt e i).a
 ·rw[if_neg Yc5]
  constructor
  ·rintro⟨a,_,_⟩
   exact⟨by have:=a rfl;grind,fun h=>by cases h⟩
  ·rintro⟨a,_⟩
   exact⟨fun _=>by grind,fun h=>by omega,fun h=>by omega⟩
 ·rw[if_pos rfl]
  constructor
  ·rintro⟨_,_,a⟩
   exact⟨by have:=a rfl;grind,fun _=>by have:=a rfl;grind⟩
  ·rintro⟨_,a⟩
   exact⟨fun h=>by omega,fun h=>by omega,fun _=>by have:=a rfl;grind⟩
theorem ZeB{t:TrD}{kind:Int}(hr:ZaB (sysT t kind)=true){x:List Zag}:Zap (sysT t kind) x=true↔x.length=t.e.mv.length∧okP x=true∧SolT t kind fun i=>atP x (i:Nat):=by
 rw[Zbb,Ya6]
 constructor
 ·rintro⟨_,hl,ho,hn,hw⟩
  have hl':x.length=t.e.mv.length:=Int.ofNat_inj.1 hl
  have hn':=(ZiP ho).1 hn
  have hrow:∀ i,i<t.e.mv.length→∀ w∈ZhG t kind i,ZeC w x=true:=fun i hi w h=>hw w ((Zex _).2 ⟨i,hi,h⟩)
  refine⟨hl',ho,fun i hi=>hn' i (by omega),fun i hi hb=>?_,fun i hi hb ha=>?_,fun i hi hc=>?_,fun i hi g hg=>?_,fun i hi hc=>?_⟩
  ·exact(Zif.1 (hrow i hi _ (ZdP.2 (.inl ⟨hb,rfl⟩)))).1
  ·exact(Zif.1 (hrow i hi _ (ZdP.2 (.inl ⟨hb,rfl⟩)))).2 ha
  ·exact((ZcQ (by decide) (by decide)).1 (hrow i hi _ (ZdP.2 (.inr (.inl ⟨hc,rfl⟩))))).2.1 rfl
  ·have:=((ZcQ (by decide) (by decide)).1 (hrow i hi _ (ZdP.2 (.inr (.inr (.inl ⟨g,hg,rfl⟩)))))).1 rfl
   rwa [Zay]at this
  ·have:=((ZcQ (by decide) (by decide)).1 (hrow i hi _ (ZdP.2 (.inr (.inr (.inr ⟨hc,rfl⟩)))))).2.2 rfl
   rwa [Zay]at this
 ·rintro⟨hl,ho,S⟩
  refine⟨hr,by rw[hl];rfl,ho,(ZiP ho).2 fun i hi=>S.pos i (by omega),fun w hw=>?_⟩
  obtain⟨i,hi,hw⟩:=(Zex _).1 hw
  rcases ZdP.1 hw with⟨hb,rfl⟩|⟨hc,rfl⟩|⟨g,hg,rfl⟩|⟨hc,rfl⟩
  ·exact Zif.2 ⟨S.st i hi hb,S.all i hi hb⟩
  ·exact(ZcQ (by decide) (by decide)).2 ⟨fun h=>by omega,fun _=>S.cap i hi hc,fun h=>by omega⟩
  ·exact(ZcQ (by decide) (by decide)).2 ⟨fun _=>by rw[Zay];exact S.fin i hi g hg,fun h=>by omega,fun h=>by omega⟩
  ·exact(ZcQ (by decide) (by decide)).2 ⟨fun h=>by omega,fun h=>by omega,fun _=>by rw[Zay];exact S.cle i hi hc⟩
theorem ZEV(e:EvD)(x:MvD)(h:(hiI e x).2=true):okF (hiI e x).1=true:=by
 unfold hiI at h ⊢
 split at h
 ·cases h
 ·rename_i h1
  rw[if_neg h1]
  unfold intD at h ⊢
  revert h
  cases ZpO e.ce x.s x.d with
  | none=>intro h;cases h
  | some b =>
    simp only
    cases e.ce[b]? with
    | none=>intro h;cases h
    | some c =>
      simp only
      split
      ·intro h;cases h
      ·intro _;exact Zby _
theorem ZgI{i:Nat}{n k:Int}{v:Zag}(hi:(i:Int)<n)(h0:0≤k)(h3:k<3)(ho:okF v=true):Zdq n (oneR i k v)=true:=by
 have hs:(sgnD (ofQ 1) !=0)=true:=by decide +kernel
 have hn:0≤n:=by omega
 have hi0:(-1:Int)<i:=by omega
 simp only[Zdq,Zai,oneR,goR,hs,ho,hn,hi0,hi,h0,h3,decide_true,Bool.and_self,Bool.and_true]
theorem Zqq{e:EvD}{i:Nat}{n:Int}(hi:(i:Int)<n):Zdq n (ZcN e i)=true:=by
 have h1:Zai (ZcN e i).t n=true:=Zcy (by omega)
 have h2:okF (ZcN e i).v=true:=Zby 0
 have h3:(ZcN e i).k=2∨(ZcN e i).k=0:=by
  show(if (mvAt e i).a=true then(2:Int)else 0)=2∨(if (mvAt e i).a=true then(2:Int)else 0)=0
  cases(mvAt e i).a
  ·exact .inr rfl
  ·exact .inl rfl
 unfold Zdq
 rw[h1,h2,Bool.true_and,Bool.and_true,Ya2,decide_eq_true_eq,decide_eq_true_eq]
 omega
structure Zow (e:EvD) (blk:Nat→Bool) (j i:Nat):Prop where
 lt:j<i
 n:i<e.mv.length
 at':(mvAt e i).f=(mvAt e j).t
 blk:blk i=false
 all:∀ k,j<k→k<i→(mvAt e k).f=(mvAt e j).t→(mvAt e k).a=false
inductive Reach (e:EvD) (blk:Nat→Bool) (l:Nat):Nat→Prop
 | refl:Reach e blk l l
 | step {j i:Nat}:Reach e blk l j→Zow e blk j i→Reach e blk l i
theorem ZwX{e:EvD}{i:Nat}{x:MvD}(h:e.mv[i]? =some x):mvAt e i=x:=by unfold mvAt;rw[h];rfl
theorem ZkE{e:EvD}{i:Nat}(h:i<e.mv.length):mvAt e i∈e.mv:=by
 rw[ZwX (Ya0 h)];exact List.getElem_mem h
section
variable {t:TrD} {kind:Int} {f:Nat→Rat} (R:Zjl t.e) (S:SolT t kind f)
include R
theorem Zjl.mvOk{i:Nat}(h:i<t.e.mv.length):OkMv t.e (mvAt t.e i):=R.mv _ (ZkE h)
include S
theorem SolT.before{p:Int}(hp:Zch t.e p≠0):∀ m,m≤t.e.mv.length→0<stN t.e f p m→∃ j,j<m∧(mvAt t.e j).t=p∧0<f j∧∀ k,j<k→k<m→(mvAt t.e k).f=p→(mvAt t.e k).a=false
 | 0,_,h=>by exact absurd h (by unfold stN sumN;decide)
 | m+1,hm,h=>by
   have hs:stN t.e f p (m+1)=stN t.e f p m+(if (mvAt t.e m).t=p then f m else if (mvAt t.e m).f=p then -(f m)else 0):=rfl
   have ok:=R.mvOk (i:=m) (by omega)
   have h0:=S.pos m (by omega)
   have more:0<stN t.e f p m→((mvAt t.e m).f=p→(mvAt t.e m).a=false)→∃ j,j<m+1∧(mvAt t.e j).t=p∧0<f j∧∀ k,j<k→k<m+1→(mvAt t.e k).f=p→(mvAt t.e k).a=false:=fun h1 h2=>by
    obtain⟨j,a,b,c,d⟩:=SolT.before hp m (by omega) h1
    refine⟨j,by omega,b,c,fun k k1 k2 k3=>?_⟩
    by_cases e:k=m
    ·subst e;exact h2 k3
    ·exact d k k1 (by omega) k3
   by_cases h1:(mvAt t.e m).t=p
   ·rw[hs,if_pos h1]at h
    by_cases h2:0<f m
    ·exact⟨m,by omega,h1,h2,fun k k1 k2=>by omega⟩
    ·refine more (by grind) fun h3=>?_
     exact absurd (h3.trans h1.symm) ok.ne
   ·rw[hs,if_neg h1]at h
    by_cases h2:(mvAt t.e m).f=p
    ·rw[if_pos h2]at h
     have hb:ZcD t.e m=false:=by unfold ZcD;rw[h2];simpa using hp
     cases ha:(mvAt t.e m).a
     ·exact more (by grind) fun _=>ha
     ·have:=S.all m (by omega) hb ha
      rw[h2]at this
      exact absurd h (by grind)
    ·rw[if_neg h2]at h
     exact more (by grind) fun h3=>absurd h3 h2
theorem SolT.from{blk:Nat→Bool}(hb:∀ i,i<t.e.mv.length→blk i=true→f i=0):∀ i,i<t.e.mv.length→0<f i→∃ l,l<t.e.mv.length∧ZcD t.e l=true∧0<f l∧blk l=false∧Reach t.e blk l i:=by
 intro i
 induction i using Nat.strongRecOn with
 | ind i ih =>
   intro hi h
   have nb:∀ i,i<t.e.mv.length→0<f i→blk i=false:=fun i hi h=>by
    cases e:blk i
    ·rfl
    ·have:=hb i hi e
     exact absurd h (by grind)
   cases hbin:ZcD t.e i
   ·have hp:Zch t.e (mvAt t.e i).f≠0:=by unfold ZcD at hbin;simpa using hbin
    have hst:=S.st i hi hbin
    obtain⟨j,a,b,c,d⟩:=S.before R hp i (by omega) (by grind)
    obtain⟨l,l1,l2,l3,l4,l5⟩:=ih j a (by omega) c
    exact⟨l,l1,l2,l3,l4,.step l5 ⟨a,hi,b.symm,nb i hi h,fun k k1 k2 k3=>d k k1 k2 (k3.trans b)⟩⟩
   ·exact⟨i,hi,hbin,h,nb i hi h,.refl⟩
theorem SolT.owed{p:Int}(hp:Zch t.e p≠0):∀ m,m≤t.e.mv.length→0≤stN t.e f p m
 | 0,_=>by unfold stN sumN;decide
 | m+1,hm=>by
   have ih:=SolT.owed hp m (by omega)
   have hs:stN t.e f p (m+1)=stN t.e f p m+(if (mvAt t.e m).t=p then f m else if (mvAt t.e m).f=p then -(f m)else 0):=rfl
   have h0:=S.pos m (by omega)
   rw[hs]
   split
   ·grind
   split
   ·rename_i h1
    have hb:ZcD t.e m=false:=by unfold ZcD;rw[h1];simpa using hp
    have:=S.st m (by omega) hb
    rw[h1]at this
    grind
   ·grind
end
def plC(e:EvD)(p:Int)(i:Nat):Rat:=if (mvAt e i).t=p then 1 else if (mvAt e i).f=p then -1 else 0
def ZaX(v:Int)(c:Rat):List Zaf:=[⟨v,ofQ c⟩]
def ZjQ(e:EvD)(p:Nat)(pl:PlD):List Zaf:=if pl.k=0 then []else ZaS e.mv.length (plC e p)
def Zct(e:EvD):List (List Zaf):=(List.range e.mv.length).map (fun(i:Nat)=>ZaX i 1)++e.pl.mapIdx (ZjQ e)
def atG(x:List Zag)(g:List Zaf):Rat:=dotD g x
theorem Zec{x:List Zag}{i:Nat}{c:Rat}:atG x (ZaX i c)=c*atP x (i:Nat):=by
 unfold atG
 rw[Zcu]
 simp only[ZaX,dotS,Zay]
 grind
theorem Zl1{x:List Zag}{e:EvD}{p:Nat}{pl:PlD}(h:pl.k≠0):atG x (ZjQ e p pl)=stN e (fun i=>atP x (i:Nat)) p e.mv.length:=by
 unfold atG ZjQ
 rw[if_neg h,Zcu,ZcY]
 refine Za5 _ fun i _=>?_
 unfold plC
 split
 ·grind
 split<;>grind
theorem ZyB{x:List Zag}{e:EvD}{p:Nat}{pl:PlD}(h:pl.k=0):atG x (ZjQ e p pl)=0:=by
 unfold atG ZjQ
 rw[if_pos h];rfl
theorem ZpI(e:EvD):(Zct e).length=e.mv.length+e.pl.length:=by simp[Zct]
theorem ZuO{e:EvD}{i:Nat}(h:i<e.mv.length):(Zct e)[i]? =some (ZaX i 1):=by
 unfold Zct
 rw[Yc3 (by simpa using h),Yb8,List.getElem?_range h];rfl
theorem Zig{e:EvD}{p:Nat}{pl:PlD}(h:e.pl[p]? =some pl):(Zct e)[e.mv.length+p]? =some (ZjQ e p pl):=by
 unfold Zct
 rw[Yc4 (by simp),List.getElem?_mapIdx]
 simp[h]
theorem Zcj{i:Nat}{n:Int}{c:Rat}(h:(i:Int)<n)(hc:c≠0):Zai (ZaX i c) n=true:=by
 have hs:(sgnD (ofQ c) !=0)=true:=by simpa using ZfS hc
 have hn:0≤n:=by omega
 have hi0:(-1:Int)<i:=by omega
 simp only[Zai,ZaX,goR,hs,hn,hi0,h,decide_true,Bool.and_self]
theorem ZlM{e:EvD}{g:List Zaf}(h:g∈Zct e):Zai g e.mv.length=true:=by
 unfold Zct at h
 rcases Yd5.1 h with h|h
 ·obtain⟨i,hi,rfl⟩:=Yc6.1 h
  have:=Yd2.1 hi
  exact Zcj (by omega) (by decide)
 ·obtain⟨p,hp,rfl⟩:=List.mem_mapIdx.1 h
  unfold ZjQ
  split
  ·rfl
  ·exact Zcy (Int.le_refl _)
theorem Zf2{e:EvD}{p:Nat}{pl:PlD}(h:e.pl[p]? =some pl):Zch e (p:Nat)=pl.k:=by unfold Zch;rw[Int.toNat_natCast,h];rfl
theorem ZpH{t:TrD}{kind:Int}{x:List Zag}(R:Zjl t.e)(S:SolT t kind fun i=>atP x (i:Nat)){g:List Zaf}(h:g∈Zct t.e):0≤atG x g:=by
 unfold Zct at h
 rcases Yd5.1 h with h|h
 ·obtain⟨i,hi,rfl⟩:=Yc6.1 h
  have:=S.pos i (Yd2.1 hi)
  rw[Zec];grind
 ·obtain⟨p,hp,rfl⟩:=List.mem_mapIdx.1 h
  by_cases hk:t.e.pl[p].k=0
  ·rw[ZyB hk];exact Rat.le_refl
  ·rw[Zl1 hk]
   exact S.owed R (by rw[Zf2 (Ya0 hp)];exact hk) _ (Ya4 _)
end Go.Proofs.YtjeaacindikplaaGreat
