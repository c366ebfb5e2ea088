/-
  Holds of linear and of the reference.
-/
import Derived.Test.YtjeaacindikplaaGreatWLib
import Derived.Test.YtjeaacindikplaaGreatWT00
import Derived.Test.YtjeaacindikplaaGreatWConv
namespace Go.Proofs.YtjeaacindikplaaGreat
set_option linter.unusedVariables false
set_option linter.unusedSimpArgs false
set_option linter.unusedSectionVars false
open Go Go.RowKit
set_option maxRecDepth 100000
set_option maxHeartbeats 2000000
theorem ZiZ{s:SysD}{x:List FracD}(h:(Zax s&&decide ((x.length:Int)=s.n)&&okP x&&ZhL x)=false):D.v (.bool false)=dB (Zal s x):=Zai (by unfold Zal;rw[h];rfl)
theorem Zm3{s:SysD}{x:List FracD}{k:Nat}{w:RowD}(hx:s.r[k]? =some w)(h:ZeF w x=false):D.v (.bool false)=dB (Zal s x):=Zai (by unfold Zal;rw[ZdH (p:=fun w=>ZeF w x) hx h,Bool.and_false])
theorem Zxi{s:SysD}{x:List FracD}(h:Zax s=true)(hn:(x.length:Int)=s.n){k:Nat}{w:RowD}(hx:s.r[k]? =some w):Zah w.t x.length=true∧okF w.v=true:=by
 have:=Zjy h (ZaI hx)
 simp only[Zdw,Ya2]at this
 rw[hn]
 exact⟨this.1.1.1,this.2⟩
theorem ZzJ(s:SysD)(x:List FracD)(hs:smS s)(hxs:smFs x):Zaf Tryz.prog 91 [encS s,ZaQ x] (dB (Zal s x)):=by
 have hres:=Tryz.results91
 have hl:=ZvH hs
 have hlx:=Zix hxs
 have k1:=ZiT s hs
 have k2:=ZsR x hxs
 cases h1:Zax s
 ·rw[h1]at k1
  refine inC Tryz.func91 rfl Tryz.ntmps91 ?_
  refine aGo hres ?_
  repeat with_reducible intro K hK
  exact ZiZ (by rw[h1];rfl)
 rw[h1]at k1
 cases h2:(x.length:Int) !=s.n
 rotate_left
 ·refine inC Tryz.func91 rfl Tryz.ntmps91 ?_
  refine aGo (cj2 hres h2) ?_
  repeat with_reducible intro K hK
  exact ZiZ (by simp at h2;simp[h2])
 have hn:(x.length:Int)=s.n:=by simpa using h2
 cases h3:okP x
 ·rw[h3]at k2
  refine inC Tryz.func91 rfl Tryz.ntmps91 ?_
  refine aGo (cj2 hres h2) ?_
  repeat with_reducible intro K hK
  exact ZiZ (by rw[h3];simp)
 rw[h3]at k2
 refine inC Tryz.func91 rfl Tryz.ntmps91 ?_
 refine aGo (cj2 hres h2) ?_
 repeat with_reducible intro K hK
 refine Zat (fun(k:Nat)=>[(0,encS s),(1,ZaQ x),(2,.lp 0 0 0 0),(25,ZaQ x),(26,dI x.length),(27,dI k)]) (fun k=>[(0,⟨99,0,2,[cS s],0,false⟩)]) 1 0 (fun k=>k≤x.length∧(x.take k).all (fun f=>decide (0≤sgnD f))=true) (fun k=>x.length-k) 0 ⟨by omega,rfl⟩ ?_ ?_
 ·exact leGo trivial
 ·rintro k ⟨hk,hg⟩
  obtain⟨hw,h0⟩:=ZaM k
  by_cases h4:(k:Int)<x.length
  ·obtain⟨f,hx⟩:=getE (l:=x) (k:=k) (by omega)
   have k3:=Zd1 f (Zgr (hxs.2 f (ZaI hx)))
   by_cases h5:sgnD f<0
   ·refine aGo (cj4 hres h0 h4 (cj3 hx hw h5)) ?_
    repeat with_reducible intro K hK
    exact ZiZ (by rw[show ZhL x=false from ZdH hx (by simp;omega),Bool.and_false])
   ·refine aGo (cj4 hres h0 h4 (cj3 hx hw h5)) ?_
    repeat with_reducible intro K hK
    exact Zac (k+1) ⟨by omega,ZaP hx hg (by simp;omega)⟩ (by omega) (by exact leGo trivial)
  ·rw[Ya8 (by omega)]at hg
   refine aGo (cj2 hres h4) ?_
   repeat with_reducible intro K hK
   refine Zat (fun(k:Nat)=>[(1,ZaQ x),(36,ZAe s.r),(37,dI s.r.length),(38,dI k)]) (fun k=>[]) 0 0 (fun k=>k≤s.r.length∧(s.r.take k).all (fun w=>ZeF w x)=true) (fun k=>s.r.length-k) 0 ⟨by omega,rfl⟩ ?_ ?_
   ·exact leGo trivial
   ·rintro k ⟨hk,hr⟩
    obtain⟨hw,h0⟩:=ZaM k
    by_cases h4:(k:Int)<s.r.length
    ·obtain⟨w,hx⟩:=getE (l:=s.r) (k:=k) (by omega)
     obtain⟨h6,h7⟩:=Zxi h1 hn hx
     have sm:=hs.2 w (ZaI hx)
     have k3:=ZsO w.t x sm.1 hxs h6 h3
     have k4:=Zeo (ofQ (dotD w.t x)) w.v (by have:=Zvl w x sm.1 hxs h6 h3;omega) (Zgr sm.2)
     rw[show cmpD (ofQ (dotD w.t x)) w.v=sgQ (dotD w.t x-qOf w.v) by simp[cmpD,Zbw,Zav,h7]]at k4
     have hd:ZeF w x=ZjN w.k (sgQ (dotD w.t x-qOf w.v)):=rfl
     generalize sgQ (dotD w.t x-qOf w.v)=c at *
     by_cases g1:c<0
     ·have g3:¬ c>0:=by omega
      have g4:(c==0)=false:=by simp;omega
      cases g2:w.k !=1
      ·refine aGo (cj4 hres h0 h4 (cj4 hx hw g1 (cj2 g2 g3))) ?_
       repeat with_reducible intro K hK
       exact Zac (k+1) ⟨by omega,ZaP hx hr (by rw[hd];simp at g2;simp[ZjN,g2];omega)⟩ (by omega) (by exact leGo trivial)
      ·refine aGo (cj4 hres h0 h4 (cj4 hx hw g1 (cj2 g2 g3))) ?_
       repeat with_reducible intro K hK
       exact Zm3 hx (by rw[hd];simp at g2;simp[ZjN,g2];omega)
     by_cases g3:c>0
     ·cases g2:w.k !=0
      ·refine aGo (cj4 hres h0 h4 (cj4 hx hw g1 (cj2 g2 g3))) ?_
       repeat with_reducible intro K hK
       exact Zac (k+1) ⟨by omega,ZaP hx hr (by rw[hd];simp at g2;simp[ZjN,g2];omega)⟩ (by omega) (by exact leGo trivial)
      ·refine aGo (cj4 hres h0 h4 (cj4 hx hw g1 (cj2 g2 g3))) ?_
       repeat with_reducible intro K hK
       exact Zm3 hx (by rw[hd];simp at g2;simp[ZjN,g2];omega)
     ·refine aGo (cj4 hres h0 h4 (cj4 hx hw g1 g3)) ?_
      repeat with_reducible intro K hK
      exact Zac (k+1) ⟨by omega,ZaP hx hr (by rw[hd];simp[ZjN];omega)⟩ (by omega) (by exact leGo trivial)
    ·refine aGo (cj2 hres h4) ?_
     repeat with_reducible intro K hK
     rw[Ya8 (by omega)]at hr
     exact Zai (by simp[Zal,h1,hn,h3,hr];exact hg)
def mulT(f:FracD)(t:TermD):TermD:=⟨t.v,ofQ (qOf t.f*qOf f)⟩
def Zf8(l:List TermD)(f:FracD):List TermD:=if Zah l 1500&&sgnD f !=0 then l.map (mulT f)else []
theorem ZoN{l:List TermD}{f:FracD}(h:(Zah l 1500&&sgnD f !=0)=false):D.sl []=Zbh (Zf8 l f):=by unfold Zf8;rw[h];rfl
theorem ZtI{l:List TermD}{f:FracD}(h1:Zah l 1500=true)(h2:(sgnD f !=0)=true):Zf8 l f=l.map (mulT f):=by unfold Zf8;rw[h1,h2];rfl
theorem Zn0{α β:Type}(g:α→β){l:List α}{k:Nat}{x:α}(hx:l[k]? =some x):(l.take (k+1)).map g=(l.take k).map g++[g x]:=by
 rw[Yb4,hx];simp
def outT(l:List TermD)(f:FracD)(k:Nat):List TermD:=(l.take k).map (mulT f)
theorem Zwt{l:List TermD}(f:FracD){k:Nat}{t:TermD}(ht:l[k]? =some t):outT l f (k+1)=outT l f k++[⟨t.v,ofQ (qOf t.f*qOf f)⟩]:=Zn0 _ ht
theorem Zzi(l:List TermD)(f:FracD)(k:Nat):(outT l f k).length≤l.length:=by
 unfold outT;rw[List.length_map];exact List.length_take_le' k l
theorem Zws(l:List TermD)(f:FracD):outT l f 0=[]:=rfl
theorem Zzj{l:List TermD}{f:FracD}(h1:Zah l 1500=true)(h2:(sgnD f !=0)=true):outT l f l.length=Zf8 l f:=by
 unfold outT;rw[List.take_length,ZtI h1 h2]
theorem Zan{α:Type}{f:α→List D}{g:D→D}(h:∀ a,List.map g (f a)=f a)(l:List α):List.map (List.map g) (List.map f l)=List.map f l:=by
 rw[List.map_map]
 exact List.map_congr_left fun a _=>h a
theorem Zs3(m:Mem)(n:Nat)(l:List TermD):D.sl (List.map (List.map (fzT true m (n+1))) (List.map cT l))=Zbh l:=by rw[Zan (fun _=>rfl)]
theorem ZsP(l:List TermD)(f:FracD)(hs:smT l)(hf:smF f):Zaf Tryz.prog 118 [Zbh l,encF f] (Zbh (Zf8 l f)):=by
 have hres:=Tryz.results118
 have hl:=Zk4 hs
 have k1:=Ze5 l 1500 hs
 have k2:=Zd1 f (Zgr hf)
 cases h1:Zah l 1500
 ·rw[h1]at k1
  refine inC Tryz.func118 rfl Tryz.ntmps118 ?_
  refine aGo hres ?_
  repeat with_reducible intro K hK
  exact ZoN (by rw[h1];rfl)
 rw[h1]at k1
 cases h2:sgnD f==0
 rotate_left
 ·refine inC Tryz.func118 rfl Tryz.ntmps118 ?_
  refine aGo (cj2 hres h2) ?_
  repeat with_reducible intro K hK
  exact ZoN (by simp at h2;simp[h2])
 have h2':(sgnD f !=0)=true:=by simp at h2;simp[h2]
 have hok:okF f=true:=by
  cases ho:okF f
  ·rw[ZqD ho]at h2';cases h2'
  ·rfl
 refine inC Tryz.func118 rfl Tryz.ntmps118 ?_
 refine aGo (cj2 hres h2) ?_
 repeat with_reducible intro K hK
 refine aLe (ZcT 5 151 5 rfl) ?_
 refine Zat (fun(k:Nat)=>[(3,.lp 0 0 0 0),(5,.ls 1 k),(18,Zbh l),(19,dI l.length),(20,dI k)]) (fun k=>[(0,⟨53,0,4,[cF f],0,false⟩),(1,⟨151,k,5,(outT l f k).map cT,0,false⟩)]) 2 0 (fun k=>k≤l.length) (fun k=>l.length-k) 0 (by omega) ?_ ?_
 ·exact leGo Zws
 ·rintro k hk
  obtain⟨hw,h0⟩:=ZaM k
  by_cases h3:(k:Int)<l.length
  ·obtain⟨t,ht⟩:=getE (l:=l) (k:=k) (by omega)
   obtain⟨_,_,h4,_⟩:=Za7 h1 (ZaI ht)
   have k3:=Zxu t.f f (Zgr (hs.2 t (ZaI ht))) (Zgr hf)
   rw[show mulD t.f f=(ofQ (qOf t.f*qOf f),0) by simp[mulD,h4,hok]]at k3
   have hn:=Zwt f ht
   have hlen:(outT l f k).length≤4096:=by have:=Zzi l f k;omega
   refine aGo (cj4 hres h0 h3 (cj2 ht hw)) ?_
   repeat with_reducible intro K hK
   exact Zac (k+1) (by omega) (by omega) (by exact leGo hn)
  ·have e:k=l.length:=by omega
   subst e
   rw[Zzj h1 h2']
   refine aGo (cj2 hres h3) ?_
   repeat with_reducible intro K hK
   exact Zs3 _ _ _
def Zdv:Nat→List TermD→List TermD→List TermD
 | 0,_,_=>[]
 | _+1,[],[]=>[]
 | n+1,x ::a,[]=>x ::Zdv n a []
 | n+1,[],y ::b=>y ::Zdv n [] b
 | n+1,x ::a,y ::b =>
   if x.v<y.v then x ::Zdv n a (y ::b)
   else if y.v<x.v then y ::Zdv n (x ::a) b
   else if qOf x.f+qOf y.f=0 then Zdv n a b
   else⟨x.v,ofQ (qOf x.f+qOf y.f)⟩ ::Zdv n a b
def sumT(a b:List TermD):List TermD:=Zdv (a.length+b.length) a b
def ZhF(a b:List TermD):List TermD:=if Zah a 1500&&Zah b 1500 then sumT a b else []
theorem ZyK:sumT [] []=[]:=rfl
theorem Zvo(x:TermD)(a:List TermD):sumT (x ::a) []=x ::sumT a []:=rfl
theorem ZtU(y:TermD)(b:List TermD):sumT [] (y ::b)=y ::sumT [] b:=by
 unfold sumT
 rw[show([]:List TermD).length+(y ::b).length=(([]:List TermD).length+b.length)+1 by simp]
 rfl
theorem ZBw{x y:TermD}(a b:List TermD)(h:x.v<y.v):sumT (x ::a) (y ::b)=x ::sumT a (y ::b):=by
 unfold sumT
 rw[show(x ::a).length+(y ::b).length=(a.length+(y ::b).length)+1 by simp;omega]
 simp only[Zdv]
 rw[if_pos h]
theorem ZBx{x y:TermD}(a b:List TermD)(h:y.v<x.v):sumT (x ::a) (y ::b)=y ::sumT (x ::a) b:=by
 unfold sumT
 rw[show(x ::a).length+(y ::b).length=((x ::a).length+b.length)+1 by simp;omega]
 simp only[Zdv]
 rw[if_neg (by omega),if_pos h]
theorem ZmF:∀ (n m:Nat)(a b:List TermD),a.length+b.length≤n→a.length+b.length≤m→Zdv n a b=Zdv m a b:=by
 intro n
 induction n with
 | zero =>
   intro m a b h _
   obtain rfl:a=[]:=Ya9 (by omega)
   obtain rfl:b=[]:=Ya9 (by have:([]:List TermD).length=0:=rfl;omega)
   cases m<;>rfl
 | succ n ih =>
   intro m a b h k
   cases m with
   | zero =>
     obtain rfl:a=[]:=Ya9 (by omega)
     obtain rfl:b=[]:=Ya9 (by have:([]:List TermD).length=0:=rfl;omega)
     rfl
   | succ m =>
     match a,b with
     | [],[]=>rfl
     | x ::a,[]=>simp only[Zdv];rw[ih m a [] (by simp at h ⊢;omega) (by simp at k ⊢;omega)]
     | [],y ::b=>simp only[Zdv];rw[ih m [] b (by simp at h ⊢;omega) (by simp at k ⊢;omega)]
     | x ::a,y ::b =>
       simp only[List.length_cons]at h k
       simp only[Zdv]
       rw[ih m a (y ::b) (by simp;omega) (by simp;omega),ih m (x ::a) b (by simp;omega) (by simp;omega),ih m a b (by omega) (by omega)]
theorem Zvn{x y:TermD}(a b:List TermD)(h1:¬ x.v<y.v)(h2:¬ y.v<x.v)(h:qOf x.f+qOf y.f=0):sumT (x ::a) (y ::b)=sumT a b:=by
 have e:sumT (x ::a) (y ::b)=Zdv (a.length+b.length+1) a b:=by
  unfold sumT
  rw[show(x ::a).length+(y ::b).length=(a.length+b.length+1)+1 by simp;omega]
  simp only[Zdv]
  rw[if_neg h1,if_neg h2,if_pos h]
 rw[e]
 exact ZmF _ _ a b (by omega) (by omega)
theorem ZBy{x y:TermD}(a b:List TermD)(h1:¬ x.v<y.v)(h2:¬ y.v<x.v)(h:qOf x.f+qOf y.f≠0):sumT (x ::a) (y ::b)=⟨x.v,ofQ (qOf x.f+qOf y.f)⟩ ::sumT a b:=by
 have e:sumT (x ::a) (y ::b)=⟨x.v,ofQ (qOf x.f+qOf y.f)⟩ ::Zdv (a.length+b.length+1) a b:=by
  unfold sumT
  rw[show(x ::a).length+(y ::b).length=(a.length+b.length+1)+1 by simp;omega]
  simp only[Zdv]
  rw[if_neg h1,if_neg h2,if_neg h]
 rw[e,ZmF _ _ a b (by omega) (Ya4 _)]
 rfl
theorem Zsr{a b:List TermD}(h:(Zah a 1500&&Zah b 1500)=false):D.sl []=Zbh (ZhF a b):=by unfold ZhF;rw[h];rfl
theorem Zln{a b:List TermD}(h1:Zah a 1500=true)(h2:Zah b 1500=true):ZhF a b=sumT a b:=by unfold ZhF;rw[h1,h2];rfl
def okT(l:List TermD):Prop:=∀ t∈l,smF t.f∧okF t.f=true
theorem ZAO{l:List TermD}{n:Int}(hs:smT l)(h:Zah l n=true):okT l:=fun t ht=>⟨hs.2 t ht,(Za7 h ht).2.2.1⟩
theorem Zj4{x:TermD}{l:List TermD}(h:okT (x ::l)):okT l:=fun t ht=>h t (Yb6 _ ht)
theorem Zd6{x:TermD}{l:List TermD}(h:okT (x ::l)):smF x.f∧okF x.f=true:=h x Yb7
theorem Zoh(f:FracD)(hs:smF f)(h:okF f=true):Zaf Tryz.prog 197 [encF f] (encF f):=by
 have hres:=Tryz.results197
 have k1:=ZA1 f (Zgr hs)
 have e:szF (negD f)=szF f:=by
  rw[show negD f=ofQ (- qOf f) by simp[negD,h],Zfa,Zde,Zch h]
 have k2:=ZA1 (negD f) (by rw[e];exact Zgr hs)
 rw[show negD (negD f)=f by
  rw[show negD f=ofQ (- qOf f) by simp[negD,h],Zsz,show - - qOf f=qOf f by grind]
  exact(Zcm h).symm]at k2
 refine inC Tryz.func197 rfl Tryz.ntmps197 ?_
 exact aGo hres trivial
theorem Zbj(l:List TermD):List.take l.length (List.map cT l)=List.map cT l:=Ya8 (by simp)
structure PlusX where
 a:List TermD
 b:List TermD
 o:List TermD
theorem ZCr(a b:List TermD)(hs:smT a)(hs2:smT b):Zaf Tryz.prog 162 [Zbh a,Zbh b] (Zbh (ZhF a b)):=by
 have hres:=Tryz.results162
 have hla:=Zk4 hs
 have hlb:=Zk4 hs2
 have k1:=Ze5 a 1500 hs
 have k2:=Ze5 b 1500 hs2
 cases h1:Zah a 1500
 ·rw[h1]at k1
  refine inC Tryz.func162 rfl Tryz.ntmps162 ?_
  refine aGo hres ?_
  repeat with_reducible intro K hK
  exact Zsr (by rw[h1];rfl)
 rw[h1]at k1
 cases h2:Zah b 1500
 ·rw[h2]at k2
  refine inC Tryz.func162 rfl Tryz.ntmps162 ?_
  refine aGo hres ?_
  repeat with_reducible intro K hK
  exact Zsr (by rw[h2,Bool.and_false])
 rw[h2]at k2
 refine inC Tryz.func162 rfl Tryz.ntmps162 ?_
 refine aGo hres ?_
 repeat with_reducible intro K hK
 refine aLe (ZcT 5 151 5 rfl) ?_
 refine Zat (fun(x:PlusX)=>[(0,Zbh x.a),(1,Zbh x.b),(5,.ls 0 x.o.length)]) (fun x=>[(0,⟨151,x.o.length,5,x.o.map cT,0,false⟩)]) 1 0 (fun x=>okT x.a∧okT x.b∧x.o++sumT x.a x.b=sumT a b∧x.o.length+x.a.length+x.b.length≤8192) (fun x=>x.a.length+x.b.length) ⟨a,b,[]⟩ ⟨ZAO hs h1,ZAO hs2 h2,rfl,by simp;omega⟩ ?_ ?_
 ·exact leGo trivial
 ·rintro⟨a',b',o⟩ ⟨ha,hb,ho,hlen⟩
  dsimp only at ha hb ho hlen ⊢
  match a',b',ha,hb,ho,hlen with
  | [],[],ha,hb,ho,hlen =>
    rw[ZyK,List.append_nil]at ho
    subst ho
    refine aGo hres ?_
    repeat with_reducible intro K hK
    rw[Zln h1 h2]
    exact Zs3 _ _ _
  | x ::a',[],ha,hb,ho,hlen =>
    simp only[List.length_cons,List.length_nil]at hlen
    have p1:((a'.length+1:Nat):Int)>0:=by omega
    have p2:(1:Int)≤((a'.length+1:Nat):Int):=by omega
    have kf:=Zoh x.f (Zd6 ha).1 (Zd6 ha).2
    refine aGo (cj4 hres Zbj p1 p2) ?_
    repeat with_reducible intro K hK
    exact Zac ⟨a',[],o++[x]⟩ ⟨Zj4 ha,hb,by rw[← ho,Zvo];simp,by simp;omega⟩ (by simp) (by exact leGo Zbj)
  | [],y ::b',ha,hb,ho,hlen =>
    simp only[List.length_cons,List.length_nil]at hlen
    have p1:((b'.length+1:Nat):Int)>0:=by omega
    have p2:(1:Int)≤((b'.length+1:Nat):Int):=by omega
    have p3:(((b'.length+1:Nat):Int)==0)=false:=by simp;omega
    have kf:=Zoh y.f (Zd6 hb).1 (Zd6 hb).2
    refine aGo (cj4 hres Zbj p1 (cj2 p2 p3)) ?_
    repeat with_reducible intro K hK
    exact Zac ⟨[],b',o++[y]⟩ ⟨ha,Zj4 hb,by rw[← ho,ZtU];simp,by simp;omega⟩ (by simp) (by exact leGo Zbj)
  | x ::a',y ::b',ha,hb,ho,hlen =>
    simp only[List.length_cons]at hlen
    have p1:((a'.length+1:Nat):Int)>0:=by omega
    have p2:(1:Int)≤((a'.length+1:Nat):Int):=by omega
    have p3:(((a'.length+1:Nat):Int)==0)=false:=by simp;omega
    have q1:((b'.length+1:Nat):Int)>0:=by omega
    have q2:(1:Int)≤((b'.length+1:Nat):Int):=by omega
    have q3:(((b'.length+1:Nat):Int)==0)=false:=by simp;omega
    by_cases h3:x.v<y.v
    ·have kf:=Zoh x.f (Zd6 ha).1 (Zd6 ha).2
     refine aGo (cj4 hres Zbj p1 (cj4 p2 p3 q1 (cj3 q2 q3 h3))) ?_
     repeat with_reducible intro K hK
     exact Zac ⟨a',y ::b',o++[x]⟩ ⟨Zj4 ha,hb,by rw[← ho,ZBw _ _ h3];simp,by simp;omega⟩ (by simp) (by exact leGo Zbj)
    by_cases h4:y.v<x.v
    ·have kf:=Zoh y.f (Zd6 hb).1 (Zd6 hb).2
     refine aGo (cj4 hres Zbj p1 (cj4 p2 p3 q1 (cj4 q2 q3 h3 h4))) ?_
     repeat with_reducible intro K hK
     exact Zac ⟨x ::a',b',o++[y]⟩ ⟨ha,Zj4 hb,by rw[← ho,ZBx _ _ h4];simp,by simp;omega⟩ (by simp) (by exact leGo Zbj)
    have ka:=ZxC x.f y.f (Zgr (Zd6 ha).1) (Zgr (Zd6 hb).1)
    rw[show addD x.f y.f=(ofQ (qOf x.f+qOf y.f),0) by simp[addD,(Zd6 ha).2,(Zd6 hb).2]]at ka
    have zz:=Zfb (qOf x.f) (qOf y.f)
    rw[Zch (Zd6 ha).2,Zch (Zd6 hb).2]at zz
    have z1:(szF x.f:Int)≤4194304:=(Zd6 ha).1
    have z2:(szF y.f:Int)≤4194304:=(Zd6 hb).1
    have ks:=Zd1 (ofQ (qOf x.f+qOf y.f)) (by rw[Zfa];omega)
    rw[ZbN]at ks
    by_cases h5:qOf x.f+qOf y.f=0
    ·have h6:(sgQ (qOf x.f+qOf y.f) !=0)=false:=by simp[Zcl.2 h5]
     refine aGo (cj4 hres Zbj p1 (cj4 p2 p3 q1 (cj4 q2 q3 h3 (cj2 h4 h6)))) ?_
     repeat with_reducible intro K hK
     exact Zac ⟨a',b',o⟩ ⟨Zj4 ha,Zj4 hb,by rw[← ho,Zvn _ _ h3 h4 h5],by dsimp only;omega⟩ (by simp;omega) (by exact leGo Zbj)
    ·have h6:(sgQ (qOf x.f+qOf y.f) !=0)=true:=by simp[Zcl,h5]
     refine aGo (cj4 hres Zbj p1 (cj4 p2 p3 q1 (cj4 q2 q3 h3 (cj2 h4 h6)))) ?_
     repeat with_reducible intro K hK
     exact Zac ⟨a',b',o++[⟨x.v,ofQ (qOf x.f+qOf y.f)⟩]⟩ ⟨Zj4 ha,Zj4 hb,by rw[← ho,ZBy _ _ h3 h4 h5];simp,by simp;omega⟩ (by simp;omega) (by exact leGo Zbj)
set_option maxHeartbeats 4000000
structure PlusI where
 i:Nat
 k:Nat
 o:List TermD
def fewF(n:Int)(f:FracD):Bool:=decide ((f.p.d.length:Int)≤n)&&decide ((f.q.d.length:Int)≤n)
def fewP(x:List FracD)(most n:Int):Bool:=decide ((x.length:Int)≤most)&&x.all (fewF n)
theorem ZCO{n:Int}{f:FracD}(h:fewF n f=true):(szF f:Int)≤n:=by
 simp only[fewF,Ya2,decide_eq_true_eq]at h
 unfold szF;omega
theorem ZCN{x:List FracD}{most n:Int}(h:fewP x most n=true):(x.length:Int)≤most∧∀ f∈x,(szF f:Int)≤n:=by
 simp only[fewP,Ya2,decide_eq_true_eq]at h
 exact⟨h.1,fun t ht=>ZCO (Ya6.1 h.2 t ht)⟩
theorem ZEz(x:List FracD)(most n:Int)(hm:0≤most∧most≤4096):Zaa Tryz.prog 7 [ZaQ x,dI most,dI n] (dB (fewP x most n)):=by
 refine Zaf.toN ?_ rfl
 refine inC Tryz.func7 rfl Tryz.ntmps7 ?_
 have hres:=Tryz.results7
 refine aGo hres ?_
 repeat with_reducible intro K hK
 refine Zat (fun(k:Nat)=>[(0,ZaQ x),(1,dI most),(2,dI n),(7,dI k)]) (fun _=>[]) 0 0 (fun k=>k≤x.length∧(k:Int)≤most+1∧(x.take k).all (fewF n)=true) (fun k=>x.length-k) 0 ⟨by omega,by omega,rfl⟩ ?_ ?_
 ·exact leGo trivial
 ·rintro k ⟨hk,hk2,hg⟩
  obtain⟨hw,h0⟩:=ZaM k
  by_cases h1:(k:Int)<x.length
  ·by_cases h2:(k:Int)≤most
   ·obtain⟨f,hx⟩:=getE (l:=x) (k:=k) (by omega)
    have hc:=(ZDS f n).toN rfl
    have hd:(decide ((f.p.d.length:Int)≤n)&&decide ((f.q.d.length:Int)≤n))=fewF n f:=rfl
    rw[hd]at hc
    cases h3:fewF n f
    ·rw[h3]at hc
     refine aGo (cj4 hres h0 h1 (cj3 h2 hx hw)) ?_
     repeat with_reducible intro K hK
     exact Zai (by simp only[fewP,ZdH hx h3,Bool.and_false])
    ·rw[h3]at hc
     refine aGo (cj4 hres h0 h1 (cj3 h2 hx hw)) ?_
     repeat with_reducible intro K hK
     exact Zac (k+1) ⟨by omega,by omega,ZaP hx hg h3⟩ (by omega) (by exact leGo trivial)
   ·have h3:¬ (x.length:Int)≤most:=by omega
    refine aGo (cj4 hres h1 h2 h3) ?_
    repeat with_reducible intro K hK
    exact Zai (by simp[fewP,h3])
  ·rw[Ya8 (by omega)]at hg
   refine aGo (cj2 hres h1) ?_
   repeat with_reducible intro K hK
   exact Zai (by simp only[fewP,hg,Bool.and_true])
abbrev q1(n:Int):Rat:=Rat.divInt n 1
abbrev fq(n:Int):FracD:=ofQ (q1 n)
set_option maxHeartbeats 8000000
theorem Zfn(f:FracD):Zo3 f f=true:=by cases f;simp[Zo3,ZdP]
theorem Zk9{f g:FracD}:Zo3 f g=true↔f=g:=by
 cases f;cases g
 simp[Zo3,ZdP]
def dotS(g:Int→Rat):List TermD→Rat
 | []=>0
 | t ::l=>qOf t.f*g t.v+dotS g l
theorem Zip(g:Int→Rat):∀ l m:List TermD,dotS g (l++m)=dotS g l+dotS g m
 | [],m=>by simp[dotS];grind
 | t ::l,m=>by simp only[List.cons_append,dotS,Zip g l m];grind
theorem ZpU(g:Int→Rat):∀ (l:List TermD)(z:Rat),l.foldl (fun a t=>a+qOf t.f*g t.v) z=z+dotS g l
 | [],z=>by simp only[List.foldl_nil,dotS];grind
 | t ::l,z=>by simp only[List.foldl_cons,dotS];rw[ZpU g l];grind
theorem Zcv(l:List TermD)(x:List FracD):dotD l x=dotS (atP x) l:=by
 unfold dotD;rw[ZpU];grind
theorem Zew(g:Int→Rat):∀ (n:Nat)(a b:List TermD),a.length+b.length≤n→dotS g (Zdv n a b)=dotS g a+dotS g b
 | 0,a,b,h=>by
   obtain rfl:a=[]:=Ya9 (by omega)
   obtain rfl:b=[]:=Ya9 (by have:([]:List TermD).length=0:=rfl;omega)
   simp only[Zdv,dotS];grind
 | n+1,[],[],_=>by simp only[Zdv,dotS];grind
 | n+1,x ::a,[],h=>by simp only[Zdv,dotS,Zew g n a [] (by simp at h ⊢;omega)];grind
 | n+1,[],y ::b,h=>by simp only[Zdv,dotS,Zew g n [] b (by simp at h ⊢;omega)];grind
 | n+1,x ::a,y ::b,h=>by
   simp only[List.length_cons]at h
   simp only[Zdv]
   split
   ·simp only[dotS,Zew g n a (y ::b) (by simp;omega)];grind
   ·split
    ·simp only[dotS,Zew g n (x ::a) b (by simp;omega)];grind
    ·have hv:x.v=y.v:=by omega
     split
     ·rename_i hz
      rw[Zew g n a b (by omega)]
      simp only[dotS,hv]
      have:qOf x.f*g y.v+qOf y.f*g y.v=0:=by rw[← Rat.add_mul,hz,Rat.zero_mul]
      grind
     ·simp only[dotS,Zew g n a b (by omega),hv,Zav]
      grind
theorem ZyL(g:Int→Rat)(a b:List TermD):dotS g (sumT a b)=dotS g a+dotS g b:=Zew g _ a b (Ya4 _)
theorem ZwV(g:Int→Rat)(f:FracD):∀ l:List TermD,dotS g (l.map (mulT f))=qOf f*dotS g l
 | []=>by simp only[List.map_nil,dotS];grind
 | t ::l=>by simp only[List.map_cons,dotS,mulT,Zav,ZwV g f l];grind
theorem ZaE{n last:Int}{t:TermD}{l:List TermD}:goR n last (t ::l)=true↔last<t.v∧t.v<n∧sgnD t.f≠0∧goR n t.v l=true:=by
 simp[goR,and_assoc]
theorem Zog{n last last':Int}(h:last'≤last):∀ {l:List TermD},goR n last l=true→goR n last' l=true
 | [],_=>rfl
 | t ::l,k=>by
   rw[ZaE]at k ⊢
   exact⟨by omega,k.2.1,k.2.2.1,k.2.2.2⟩
theorem Zs2{n n' last:Int}(h:n≤n'):∀ {l:List TermD} {last:Int},goR n last l=true→goR n' last l=true
 | [],_,_=>rfl
 | t ::l,_,k=>by
   rw[ZaE]at k ⊢
   exact⟨k.1,by omega,k.2.2.1,Zs2 (last:=t.v) h k.2.2.2⟩
theorem Zc3{n n':Int}(h:n≤n'){l:List TermD}(k:Zah l n=true):Zah l n'=true:=by
 simp only[Zah,Ya2,decide_eq_true_eq]at k ⊢
 exact⟨by omega,Zs2 (last:= -1) h k.2⟩
theorem Zfd{f:FracD}(h:sgnD f≠0):okF f=true∧qOf f≠0:=by
 cases ho:okF f
 ·exact absurd (ZqD ho) h
 ·refine⟨rfl,fun h0=>h ?_⟩
  simp[sgnD,ho,h0,sgQ]
theorem ZfR{q:Rat}(h:q≠0):sgnD (ofQ q)≠0:=by rw[ZbN];exact fun h0=>h (Zcl.1 h0)
theorem Zc6{n:Int}:∀ (k:Nat)(last:Int)(a b:List TermD),goR n last a=true→goR n last b=true→goR n last (Zdv k a b)=true
 | 0,_,_,_,_,_=>rfl
 | _+1,_,[],[],_,_=>rfl
 | k+1,last,x ::a,[],ha,hb=>by
   rw[ZaE]at ha
   simp only[Zdv]
   exact ZaE.2 ⟨ha.1,ha.2.1,ha.2.2.1,Zc6 k x.v a [] ha.2.2.2 rfl⟩
 | k+1,last,[],y ::b,ha,hb=>by
   rw[ZaE]at hb
   simp only[Zdv]
   exact ZaE.2 ⟨hb.1,hb.2.1,hb.2.2.1,Zc6 k y.v [] b rfl hb.2.2.2⟩
 | k+1,last,x ::a,y ::b,ha,hb=>by
   have ha':=ZaE.1 ha
   have hb':=ZaE.1 hb
   simp only[Zdv]
   split
   ·exact ZaE.2 ⟨ha'.1,ha'.2.1,ha'.2.2.1,Zc6 k x.v a (y ::b) ha'.2.2.2 (ZaE.2 ⟨by assumption,hb'.2.1,hb'.2.2.1,hb'.2.2.2⟩)⟩
   ·split
    ·exact ZaE.2 ⟨hb'.1,hb'.2.1,hb'.2.2.1,Zc6 k y.v (x ::a) b (ZaE.2 ⟨by assumption,ha'.2.1,ha'.2.2.1,ha'.2.2.2⟩) hb'.2.2.2⟩
    ·have hv:x.v=y.v:=by omega
     split
     ·exact Zc6 k last a b (Zog (by omega) ha'.2.2.2) (Zog (by omega) hb'.2.2.2)
     ·rename_i hz
      exact ZaE.2 ⟨ha'.1,ha'.2.1,ZfR hz,Zc6 k x.v a b ha'.2.2.2 (Zog (by omega) hb'.2.2.2)⟩
theorem Zpz{n:Int}{f:FracD}(hf:sgnD f≠0):∀ (l:List TermD)(last:Int),goR n last l=true→goR n last (l.map (mulT f))=true
 | [],_,_=>rfl
 | t ::l,last,h=>by
   have h':=ZaE.1 h
   rw[List.map_cons]
   refine ZaE.2 ⟨h'.1,h'.2.1,ZfR ?_,Zpz hf l t.v h'.2.2.2⟩
   have h1:=(Zfd h'.2.2.1).2
   have h2:=(Zfd hf).2
   exact fun h0=>(Rat.mul_eq_zero.1 h0).elim h1 h2
def indI(v u:Int):Rat:=if u=v then 1 else 0
theorem ZgQ{n:Int}{v:Int}:∀ (l:List TermD)(last:Int),v≤last→goR n last l=true→dotS (indI v) l=0
 | [],_,_,_=>rfl
 | t ::l,last,h,k=>by
   have k':=ZaE.1 k
   have ih:=ZgQ (n:=n) (v:=v) l t.v (by omega) k'.2.2.2
   simp only[dotS,ih]
   rw[show indI v t.v=0 from if_neg (by omega)];grind
theorem Zhs{n:Int}{last:Int}{t:TermD}{l:List TermD}(k:goR n last (t ::l)=true):dotS (indI t.v) (t ::l)=qOf t.f:=by
 have k':=ZaE.1 k
 simp only[dotS,ZgQ l t.v (Int.le_refl _) k'.2.2.2,indI,if_true];grind
theorem Zxp{n m:Int}:∀ (a b:List TermD)(la lb:Int),goR n la a=true→goR m lb b=true→(∀ g,dotS g a=dotS g b)→a=b
 | [],[],_,_,_,_,_=>rfl
 | [],y ::b,_,lb,_,hb,h=>by
   have:=h (indI y.v)
   rw[Zhs hb]at this
   exact absurd this.symm (Zfd (ZaE.1 hb).2.2.1).2
 | x ::a,[],la,_,ha,_,h=>by
   have:=h (indI x.v)
   rw[Zhs ha]at this
   exact absurd this (Zfd (ZaE.1 ha).2.2.1).2
 | x ::a,y ::b,la,lb,ha,hb,h=>by
   have ha':=ZaE.1 ha
   have hb':=ZaE.1 hb
   have fx:=Zfd ha'.2.2.1
   have fy:=Zfd hb'.2.2.1
   rcases Int.lt_trichotomy x.v y.v with hv|hv|hv
   ·have:=h (indI x.v)
    rw[Zhs ha,ZgQ (n:=m) (y ::b) x.v (Int.le_refl _) (ZaE.2 ⟨hv,hb'.2⟩)]at this
    exact absurd this fx.2
   ·have hq:=h (indI x.v)
    rw[Zhs ha,hv,Zhs hb]at hq
    have he:x=y:=by
     cases x with|mk u f=>cases y with|mk w g =>
     dsimp only at hv hq fx fy
     rw[Zcm fx.1,Zcm fy.1,hq,hv]
    subst he
    congr 1
    refine Zxp a b x.v x.v ha'.2.2.2 hb'.2.2.2 fun g=>?_
    have:=h g
    simp only[dotS]at this
    grind
   ·have:=h (indI y.v)
    rw[Zhs hb,ZgQ (n:=n) (x ::a) y.v (Int.le_refl _) (ZaE.2 ⟨hv,ha'.2⟩)]at this
    exact absurd this.symm fy.2
theorem Zmv{n m:Int}{a b:List TermD}(ha:Zah a n=true)(hb:Zah b m=true)(h:∀ g,dotS g a=dotS g b):a=b:=by
 simp only[Zah,Ya2]at ha hb
 exact Zxp a b _ _ ha.2 hb.2 h
theorem Zh0{n:Int}{a b:List TermD}(hn:n≤1500)(ha:Zah a n=true)(hb:Zah b n=true):Zah (ZhF a b) n=true:=by
 rw[Zln (Zc3 hn ha) (Zc3 hn hb)]
 simp only[Zah,Ya2]at ha hb ⊢
 exact⟨ha.1,Zc6 _ _ a b ha.2 hb.2⟩
theorem Zpo{a b:List TermD}(ha:Zah a 1500=true)(hb:Zah b 1500=true)(g:Int→Rat):dotS g (ZhF a b)=dotS g a+dotS g b:=by
 rw[Zln ha hb,ZyL]
theorem Zo8{n:Int}{a:List TermD}{f:FracD}(ha:Zah a n=true):Zah (Zf8 a f) n=true:=by
 unfold Zf8
 have h0:decide (0≤n)=true:=by simp only[Zah,Ya2]at ha;exact ha.1
 split
 ·rename_i h
  simp only[Ya2,bne_iff_ne]at h
  simp only[Zah,Ya2]at ha ⊢
  exact⟨ha.1,Zpz h.2 a _ ha.2⟩
 ·simp[Zah,goR];simpa using h0
theorem ZtJ{a:List TermD}{f:FracD}(ha:Zah a 1500=true)(hf:okF f=true)(g:Int→Rat):dotS g (Zf8 a f)=qOf f*dotS g a:=by
 unfold Zf8
 rw[ha,Bool.true_and]
 split
 ·exact ZwV g f a
 ·rename_i h
  have h0:qOf f=0:=by
   have:sgnD f=0:=by simpa using h
   simp only[sgnD,hf,if_true]at this
   exact Zcl.1 this
  rw[h0];simp only[dotS];grind
def sumN:Nat→(Nat→Rat)→Rat
 | 0,_=>0
 | n+1,f=>sumN n f+f n
theorem Za6{f g:Nat→Rat}:∀ n,(∀ i,i<n→f i=g i)→sumN n f=sumN n g
 | 0,_=>rfl
 | n+1,h=>by simp only[sumN,Za6 n (fun i hi=>h i (by omega)),h n (by omega)]
theorem Zbo:∀ n,sumN n (fun _=>0)=0
 | 0=>rfl
 | n+1=>by simp only[sumN,Zbo n];grind
theorem ZfP(f g:Nat→Rat):∀ n,sumN n (fun i=>f i+g i)=sumN n f+sumN n g
 | 0=>by simp only[sumN];grind
 | n+1=>by simp only[sumN,ZfP f g n];grind
theorem Zd9(c:Rat)(f:Nat→Rat):∀ n,sumN n (fun i=>c*f i)=c*sumN n f
 | 0=>by simp only[sumN];grind
 | n+1=>by simp only[sumN,Zd9 c f n];grind
theorem Zk1{f g:Nat→Rat}:∀ n,(∀ i,i<n→f i≤g i)→sumN n f≤sumN n g
 | 0,_=>by simp only[sumN];grind
 | n+1,h=>by
   have h1:=Zk1 n (fun i hi=>h i (by omega))
   have h2:=h n (by omega)
   simp only[sumN];grind
theorem Zg6{c:Rat}{v:Nat}:∀ n,sumN n (fun i=>if i=v then c else 0)=if v<n then c else 0
 | 0=>by simp only[sumN];rw[if_neg (by omega)]
 | n+1=>by
   simp only[sumN,Zg6 n]
   by_cases h:n=v
   ·subst h;rw[if_neg (by omega),if_pos rfl,if_pos (by omega)];grind
   ·rw[if_neg h]
    by_cases h2:v<n
    ·rw[if_pos h2,if_pos (by omega)];grind
    ·rw[if_neg h2,if_neg (by omega)];grind
def Za5(l:List TermD)(v:Nat):Rat:=dotS (indI v) l
theorem ZjR{N:Nat}(g:Int→Rat):∀ (l:List TermD),(∀ t∈l,0≤t.v∧t.v<N)→dotS g l=sumN N (fun v=>Za5 l v*g v)
 | [],_=>by
   have:(fun v:Nat=>Za5 [] v*g v)=fun _=>0:=by funext v;simp only[Za5,dotS];grind
   rw[this,Zbo];rfl
 | t ::l,h=>by
   have ht:=h t Yb7
   have ih:=ZjR g l (fun u hu=>h u (Yb6 _ hu))
   have e:(fun v:Nat=>Za5 (t ::l) v*g v)=fun v=>(if v=t.v.toNat then qOf t.f*g t.v else 0)+Za5 l v*g v:=by
    funext v
    simp only[Za5,dotS,indI]
    by_cases hv:v=t.v.toNat
    ·rw[if_pos (by omega),if_pos hv,show((v:Nat):Int)=t.v by omega];grind
    ·rw[if_neg (by omega),if_neg hv];grind
   rw[e,ZfP,Zg6,if_pos (by omega),← ih]
   simp only[dotS]
theorem Zgw{l:List TermD}{N:Nat}(h:Zah l N=true):∀ t∈l,0≤t.v∧t.v<N:=fun t ht=>⟨(Za7 h ht).1,(Za7 h ht).2.1⟩
def mixG(g:Int→Rat):List RowD→List FracD→Rat
 | w ::r,f ::y=>qOf f*dotS g w.t+mixG g r y
 | _,_=>0
def mixV:List RowD→List FracD→Rat
 | w ::r,f ::y=>qOf f*qOf w.v+mixV r y
 | _,_=>0
theorem ZiR(g:Int→Rat)(y:List FracD):mixG g [] y=0:=by cases y<;>rfl
theorem ZkD(y:List FracD):mixV [] y=0:=by cases y<;>rfl
theorem ZiS(g:Int→Rat):∀ (r:List RowD)(y:List FracD)(k:Nat)(w:RowD)(f:FracD),r[k]? =some w→y[k]? =some f→mixG g (r.take (k+1)) (y.take (k+1))=mixG g (r.take k) (y.take k)+qOf f*dotS g w.t
 | [],_,_,_,_,h,_=>by simp at h
 | _ ::_,[],_,_,_,_,h=>by simp at h
 | u ::r,e ::y,0,w,f,h1,h2=>by
   simp at h1 h2;subst h1;subst h2
   simp only[List.take_succ_cons,List.take_zero,mixG];grind
 | u ::r,e ::y,k+1,w,f,h1,h2=>by
   have:=ZiS g r y k w f (by simpa using h1) (by simpa using h2)
   simp only[List.take_succ_cons,mixG]at this ⊢
   rw[this];grind
theorem ZkE:∀ (r:List RowD)(y:List FracD)(k:Nat)(w:RowD)(f:FracD),r[k]? =some w→y[k]? =some f→mixV (r.take (k+1)) (y.take (k+1))=mixV (r.take k) (y.take k)+qOf f*qOf w.v
 | [],_,_,_,_,h,_=>by simp at h
 | _ ::_,[],_,_,_,_,h=>by simp at h
 | u ::r,e ::y,0,w,f,h1,h2=>by
   simp at h1 h2;subst h1;subst h2
   simp only[List.take_succ_cons,List.take_zero,mixV];grind
 | u ::r,e ::y,k+1,w,f,h1,h2=>by
   have:=ZkE r y k w f (by simpa using h1) (by simpa using h2)
   simp only[List.take_succ_cons,mixV]at this ⊢
   rw[this];grind
theorem ZsF{N:Nat}(g:Int→Rat):∀ (r:List RowD)(y:List FracD),(∀ w∈r,∀ t∈w.t,0≤t.v∧t.v<N)→mixG g r y=sumN N (fun v=>mixG (indI v) r y*g v)
 | [],y,_=>by simp only[ZiR];rw[show(fun v:Nat=>(0:Rat)*g v)=fun _=>0 by funext v;grind,Zbo]
 | w ::r,[],_=>by
   simp only[mixG];rw[show(fun v:Nat=>(0:Rat)*g v)=fun _=>0 by funext v;grind,Zbo]
 | w ::r,f ::y,h=>by
   have ih:=ZsF g r y (fun u hu=>h u (Yb6 _ hu))
   have e:(fun v:Nat=>mixG (indI v) (w ::r) (f ::y)*g v)=fun v=>qOf f*(Za5 w.t v*g v)+mixG (indI v) r y*g v:=by
    funext v;simp only[mixG,Za5];grind
   rw[e,ZfP,Zd9,← ZjR g w.t (h w Yb7),← ih]
   simp only[mixG]
def ZaS(n:Nat)(c:Nat→Rat):List TermD:=(List.range n).filterMap fun(v:Nat)=>if c v=0 then none else some ⟨(v:Int),ofQ (c v)⟩
theorem Zcq(n:Nat)(c:Nat→Rat):ZaS (n+1) c=ZaS n c++(if c n=0 then []else [⟨(n:Int),ofQ (c n)⟩]):=by
 unfold ZaS
 rw[List.range_succ,List.filterMap_append]
 by_cases h:c n=0<;>simp[h]
theorem Zml{c:Nat→Rat}:∀ (n:Nat),∀ t∈ZaS n c,0≤t.v∧t.v<n
 | 0,t,h=>by simp[ZaS]at h
 | n+1,t,h=>by
   rw[Zcq,List.mem_append]at h
   rcases h with h|h
   ·have:=Zml n t h;omega
   ·split at h
    ·cases h
    ·rw[List.mem_singleton]at h;subst h;dsimp only;omega
theorem Zs1{n:Int}{t:TermD}(h2:t.v<n)(h3:sgnD t.f≠0):∀ (l:List TermD)(last:Int),goR n last l=true→last<t.v→(∀ u∈l,u.v<t.v)→goR n last (l++[t])=true
 | [],last,_,h,_=>ZaE.2 ⟨h,h2,h3,rfl⟩
 | u ::l,last,k,_,hu=>by
   have k':=ZaE.1 k
   exact ZaE.2 ⟨k'.1,k'.2.1,k'.2.2.1,Zs1 h2 h3 l u.v k'.2.2.2 (hu u Yb7) (fun w hw=>hu w (Yb6 _ hw))⟩
theorem ZkX{c:Nat→Rat}{m:Int}:∀ (n:Nat),(n:Int)≤m→goR m (-1) (ZaS n c)=true
 | 0,_=>rfl
 | n+1,h=>by
   rw[Zcq]
   have ih:=ZkX (c:=c) (m:=m) n (by omega)
   split
   ·rw[List.append_nil];exact ih
   ·rename_i hc
    exact Zs1 (by dsimp only;omega) (ZfR hc) _ _ ih (by dsimp only;omega) (fun u hu=>by have:=Zml n u hu;dsimp only;omega)
theorem ZcA{c:Nat→Rat}{n:Nat}{m:Int}(h:(n:Int)≤m):Zah (ZaS n c) m=true:=by
 simp only[Zah,Ya2,decide_eq_true_eq]
 exact⟨by omega,ZkX n h⟩
theorem Zc1(g:Int→Rat)(c:Nat→Rat):∀ n:Nat,dotS g (ZaS n c)=sumN n (fun v=>c v*g v)
 | 0=>rfl
 | n+1=>by
   rw[Zcq,Zip,Zc1 g c n]
   simp only[sumN]
   split
   ·rename_i h;rw[h];simp only[dotS];grind
   ·simp only[dotS,Zav];grind
theorem ZeZ(c:Nat→Rat)(n v:Nat):Za5 (ZaS n c) v=if v<n then c v else 0:=by
 unfold Za5
 rw[Zc1]
 have e:(fun u:Nat=>c u*indI v u)=fun u=>if u=v then c v else 0:=by
  funext u
  simp only[indI]
  by_cases h:u=v
  ·subst h;rw[if_pos rfl,if_pos rfl];grind
  ·rw[if_neg (by omega),if_neg h];grind
 rw[e,Zg6]
theorem Zeq(c:Nat→Rat)(n:Nat):(ZaS n c).length≤n:=by
 unfold ZaS
 have:=List.length_filterMap_le (fun v:Nat=>if c v=0 then none else some (⟨(v:Int),ofQ (c v)⟩:TermD)) (List.range n)
 rwa [List.length_range]at this
theorem ZqG{l:List TermD}{n:Nat}(h:Zah l n=true):l=ZaS n (Za5 l) :=
 Zmv h (ZcA (Int.le_refl _)) fun g=>by rw[Zc1,ZjR g l (Zgw h)]
theorem Ztq{l:List TermD}{n:Nat}(h:Zah l n=true){v:Nat}(hv:n≤v):Za5 l v=0:=by
 rw[ZqG h,ZeZ,if_neg (by omega)]
def Zd8(a b:List TermD):Prop:=∀ v:Int,dotS (indI v) a≤dotS (indI v) b
theorem Zdn{n last v:Int}{l:List TermD}(h:goR n last l=true)(hv:v≤last):dotS (indI v) l=0:=ZgQ l last hv h
theorem ZcZ(v:Int)(x:TermD)(l:List TermD):dotS (indI v) (x ::l)=(if x.v=v then qOf x.f else 0)+dotS (indI v) l:=by
 simp only[dotS,indI]
 by_cases h:x.v=v
 ·rw[if_pos h,if_pos h];grind
 ·rw[if_neg h,if_neg h];grind
theorem Zl1{n last:Int}{x:TermD}{a b:List TermD}(ha:goR n last (x ::a)=true)(hb:goR n x.v b=true):Zd8 (x ::a) b↔qOf x.f≤0∧Zd8 a b:=by
 have ha':=(ZaE.1 ha).2.2.2
 constructor
 ·intro h
  have h0:=h x.v
  rw[ZcZ,if_pos rfl,Zdn ha' (Int.le_refl _),Zdn hb (Int.le_refl _)]at h0
  refine⟨by grind,fun v=>?_⟩
  have hv:=h v
  rw[ZcZ]at hv
  by_cases e:x.v=v
  ·subst e;rw[Zdn ha' (Int.le_refl _),Zdn hb (Int.le_refl _)];exact Rat.le_refl
  ·rw[if_neg e]at hv;grind
 ·rintro⟨h0,h⟩ v
  have hv:=h v
  rw[ZcZ]
  split<;>grind
theorem Zkj{n last:Int}{y:TermD}{a b:List TermD}(ha:goR n y.v a=true)(hb:goR n last (y ::b)=true):Zd8 a (y ::b)↔0≤qOf y.f∧Zd8 a b:=by
 have hb':=(ZaE.1 hb).2.2.2
 constructor
 ·intro h
  have h0:=h y.v
  rw[ZcZ,if_pos rfl,Zdn hb' (Int.le_refl _),Zdn ha (Int.le_refl _)]at h0
  refine⟨by grind,fun v=>?_⟩
  have hv:=h v
  rw[ZcZ]at hv
  by_cases e:y.v=v
  ·subst e;rw[Zdn ha (Int.le_refl _),Zdn hb' (Int.le_refl _)];exact Rat.le_refl
  ·rw[if_neg e]at hv;grind
 ·rintro⟨h0,h⟩ v
  have hv:=h v
  rw[ZcZ]
  split<;>grind
theorem ZuP{n la lb:Int}{x y:TermD}{a b:List TermD}(ha:goR n la (x ::a)=true)(hb:goR n lb (y ::b)=true)(e:x.v=y.v):Zd8 (x ::a) (y ::b)↔qOf x.f≤qOf y.f∧Zd8 a b:=by
 have ha':=(ZaE.1 ha).2.2.2
 have hb':=(ZaE.1 hb).2.2.2
 constructor
 ·intro h
  have h0:=h x.v
  rw[ZcZ,ZcZ,if_pos rfl,if_pos e.symm,Zdn ha' (Int.le_refl _),Zdn hb' (by omega)]at h0
  refine⟨by grind,fun v=>?_⟩
  have hv:=h v
  rw[ZcZ,ZcZ]at hv
  by_cases k:x.v=v
  ·rw[Zdn ha' (by omega),Zdn hb' (by omega)];exact Rat.le_refl
  ·rw[if_neg k,if_neg (by omega)]at hv;grind
 ·rintro⟨h0,h⟩ v
  have hv:=h v
  rw[ZcZ,ZcZ]
  by_cases k:x.v=v
  ·rw[if_pos k,if_pos (by omega)];grind
  ·rw[if_neg k,if_neg (by omega)];grind
theorem Zyj:Zd8 [] []:=fun _=>Rat.le_refl
def Zjd(n:Nat)(a b:List TermD):Bool:=(List.range n).all fun v=>decide (Za5 a v≤Za5 b v)
theorem Zni{n:Nat}{a b:List TermD}(ha:Zah a n=true)(hb:Zah b n=true):Zjd n a b=true↔Zd8 a b:=by
 unfold Zjd
 simp only[Ya6,List.mem_range,decide_eq_true_eq]
 constructor
 ·intro h v
  by_cases h0:0≤v
  ·have e:((v.toNat:Nat):Int)=v:=by omega
   by_cases h1:v.toNat<n
   ·have:=h v.toNat h1;unfold Za5 at this;rw[e]at this;exact this
   ·have c1:=Ztq ha (v:=v.toNat) (by omega)
    have c2:=Ztq hb (v:=v.toNat) (by omega)
    unfold Za5 at c1 c2
    rw[e]at c1 c2
    rw[c1,c2];exact Rat.le_refl
  ·simp only[Zah,Ya2]at ha hb
   rw[Zdn ha.2 (by omega),Zdn hb.2 (by omega)];exact Rat.le_refl
 ·intro h v _;exact h v
theorem Zu8{l:List TermD}{x:List FracD}(h:(Zah l x.length&&okP x)=false):ZbX l x=(zF,false):=by unfold ZbX;rw[h];rfl
theorem Zjl{l:List TermD}{x:List FracD}(h:(Zah l x.length&&okP x)=true):ZbX l x=(ofQ (dotD l x),true):=by unfold ZbX;rw[h];rfl
theorem ZD1(a b:Rat)(za:(szQ a:Int)≤549755813888)(zb:(szQ b:Int)≤549755813888):Zaf Tryz.prog 39 [encF (ofQ a),encF (ofQ b)] (.tup [encF (ofQ (a+b)),dI 0]):=by
 have:=ZxC (ofQ a) (ofQ b) za zb
 rwa [ZoC]at this
theorem ZD0(a b:Rat)(za:(szQ a:Int)≤549755813888)(zb:(szQ b:Int)≤549755813888):Zaf Tryz.prog 164 [encF (ofQ a),encF (ofQ b)] (.tup [encF (ofQ (a*b)),dI 0]):=by
 have:=Zxu (ofQ a) (ofQ b) za zb
 rwa [ZsD]at this
set_option maxHeartbeats 16000000
theorem Ztl(p q:Rat)(g h:Int→Rat):∀ l:List TermD,dotS (fun v=>p*g v+q*h v) l=p*dotS g l+q*dotS h l
 | []=>by simp only[dotS];grind
 | t ::l=>by simp only[dotS,Ztl p q g h l];grind
theorem Zi3{k:Int}{d:Rat}(h0:0≤k)(h3:k<3):ZjN k (sgQ d)=true↔(k=0→0≤d)∧(k=1→d≤0)∧(k=2→d=0):=by
 have hk:k=0∨k=1∨k=2:=by omega
 rcases Zfl d with⟨h,e⟩|⟨h,e⟩|⟨h,e⟩<;>rw[e]<;>rcases hk with rfl|rfl|rfl<;>simp[ZjN]<;>grind
theorem ZfS{f:FracD}(h:okF f=true):0≤sgnD f↔0≤qOf f:=by
 have e:sgnD f=sgQ (qOf f):=by simp[sgnD,h]
 rw[e]
 rcases Zfl (qOf f)with⟨h,g⟩|⟨h,g⟩|⟨h,g⟩<;>rw[g]<;>constructor<;>intro h1<;>grind
structure OptD where
 k:Int
 v:FracD
 x:List FracD
 y:List FracD
 d:List FracD
abbrev cO(o:OptD):List D:=[dI o.k,dI o.v.p.s,Zab o.v.p.d,dI o.v.q.s,Zab o.v.q.d,ZaQ o.x,ZaQ o.y,ZaQ o.d]
abbrev encO(o:OptD):D:=.agg (cO o)
def ZhG(s:SysD)(y:List FracD):Bool:=Zax s&&decide ((y.length:Int)=s.r.length)&&okP y
def ZdN(w:RowD)(f:FracD):Bool:= !(w.k==0&&decide (sgnD f<0)) && !(w.k==1&&decide (sgnD f>0))
def Zdg(s:SysD)(y:List FracD):Bool:=ZhG s y&&(s.r.zip y).all (fun p=>ZdN p.1 p.2)
def mixT(s:SysD)(y:List FracD):List TermD:=ZaS s.n.toNat (fun v=>mixG (indI v) s.r y)
def ZpC(s:SysD)(y:List FracD):List TermD×FracD:=if ZhG s y then(mixT s y,ofQ (mixV s.r y))else([],zF)
def Zb6(s:SysD)(goal:List TermD)(y:List FracD):FracD×Bool :=
 if Zdg s y&&Zah goal s.n&&Zjd s.n.toNat (mixT s y) goal then(ofQ (mixV s.r y),true)else(zF,false)
def Zhc(s:SysD)(y:List FracD):Bool:=(Zb6 s [] y).2&&decide (sgnD (Zb6 s [] y).1>0)
def rayD(s:SysD)(goal:List TermD)(d:List FracD):Bool :=
 Zax s&&Zah goal s.n&&decide ((d.length:Int)=s.n)&&okP d&&ZhL d&&s.r.all (fun w=>ZjN w.k (sgQ (dotD w.t d)))&&decide (sgQ (dotD goal d)<0)
def Zqb(s:SysD)(goal:List TermD)(o:OptD):Bool:=Zax s&&Zah goal s.n &&
 (if o.k=0 then(Zb6 s goal o.y).2&&Zal s o.x&&Zo3 (ZbX goal o.x).1 o.v&&Zo3 (Zb6 s goal o.y).1 o.v&&o.d.isEmpty
  else if o.k=1 then Zhc s o.y&&o.x.isEmpty&&o.d.isEmpty&&Zo3 o.v zF
  else if o.k=2 then Zal s o.x&&rayD s goal o.d&&o.y.isEmpty&&Zo3 o.v zF
  else false)
theorem ZeA{s:SysD}{y:List FracD}:ZhG s y=true↔Zax s=true∧y.length=s.r.length∧okP y=true:=by
 simp only[ZhG,Ya2,decide_eq_true_eq,and_assoc]
 constructor
 ·rintro⟨a,b,c⟩;exact⟨a,by omega,c⟩
 ·rintro⟨a,b,c⟩;exact⟨a,by omega,c⟩
theorem Zb9{s:SysD}(h:Zax s=true):0≤s.n∧s.n≤1500:=by
 simp only[Zax,Ya2,decide_eq_true_eq]at h;exact⟨h.1.1.1,h.1.1.2⟩
theorem ZcB{s:SysD}(h:Zax s=true){w:RowD}(hw:w∈s.r):Zah w.t s.n.toNat=true∧0≤w.k∧w.k<3∧okF w.v=true:=by
 have h1:=Zjy h hw
 have:=(Zb9 h).1
 simp only[Zdw,Ya2,decide_eq_true_eq]at h1
 rw[show((s.n.toNat:Nat):Int)=s.n by omega]
 exact⟨h1.1.1.1,h1.1.1.2,h1.1.2,h1.2⟩
theorem Zeu{l:List TermD}{n:Int}(h:Zah l n=true):Zah l n.toNat=true:=by
 have h0:0≤n:=by simp only[Zah,Ya2,decide_eq_true_eq]at h;exact h.1
 rwa [show((n.toNat:Nat):Int)=n by omega]
theorem ZjG{s:SysD}{goal:List TermD}{y:List FracD}:(Zb6 s goal y).2=true↔Zdg s y=true∧Zah goal s.n=true∧Zjd s.n.toNat (mixT s y) goal=true:=by
 unfold Zb6
 split
 ·rename_i h;simp only[Ya2]at h;simp[h.1.1,h.1.2,h.2]
 ·rename_i h
  simp only[Ya2,not_and,Bool.not_eq_true]at h
  simp only[Bool.false_eq_true,false_iff]
  rintro⟨a,b,c⟩
  rw[h ⟨a,b⟩]at c;cases c
theorem Zem{s:SysD}{goal:List TermD}{y:List FracD}(h:(Zb6 s goal y).2=true):(Zb6 s goal y).1=ofQ (mixV s.r y):=by
 unfold Zb6 at h ⊢
 split
 ·rfl
 ·rename_i hn;rw[if_neg hn]at h;cases h
theorem ZzC{s:SysD}(h:Zax s=true):∀ w∈s.r,∀ t∈w.t,0≤t.v∧t.v<(s.n.toNat:Nat):=fun w hw t ht=>Zgw (ZcB h hw).1 t ht
theorem ZzD{s:SysD}(h:Zax s=true)(y:List FracD)(g:Int→Rat):dotS g (mixT s y)=mixG g s.r y:=by
 unfold mixT
 rw[Zc1,← ZsF g s.r y (ZzC h)]
theorem Zhj{s:SysD}(h:Zax s=true)(y:List FracD):Zah (mixT s y) s.n.toNat=true:=ZcA (Int.le_refl _)
theorem Zym{x:List FracD}(ho:okP x=true)(hn:ZhL x=true)(v:Int):0≤atP x v:=by
 unfold atP
 cases h:x[v.toNat]? with
 | none=>simp only[Option.getD_none];decide +kernel
 | some f =>
   simp only[Option.getD_some]
   have h1:=Ya6.1 ho f (ZaI h)
   have h2:=of_decide_eq_true (Ya6.1 hn f (ZaI h))
   exact(ZfS h1).1 h2
theorem Zyk{n:Nat}{a b:List TermD}(ha:Zah a n=true)(hb:Zah b n=true)(h:Zd8 a b){g:Int→Rat}(hg:∀ v,0≤g v):dotS g a≤dotS g b:=by
 rw[ZjR g a (Zgw ha),ZjR g b (Zgw hb)]
 refine Zk1 n fun v _=>?_
 have h1:=h v
 have h2:=Rat.mul_nonneg (a:=Za5 b v-Za5 a v) (by unfold Za5;grind) (hg v)
 grind
theorem ZvJ{w:RowD}{f:FracD}{d:Rat}(ho:okF f=true)(hs:ZdN w f=true)(h0:0≤w.k)(h3:w.k<3)(hd:ZjN w.k (sgQ d)=true):0≤qOf f*d:=by
 rw[Zi3 h0 h3]at hd
 have e:sgnD f=sgQ (qOf f):=by simp[sgnD,ho]
 simp only[ZdN,Ya2,Bool.not_eq_true',Bool.and_eq_false_iff,beq_eq_false_iff_ne,decide_eq_false_iff_not,e]at hs
 have hk:w.k=0∨w.k=1∨w.k=2:=by omega
 rcases hk with hk|hk|hk
 ·have h1:¬ sgQ (qOf f)<0:=hs.1.resolve_left (fun h=>h hk)
  rw[Ze1]at h1
  exact Rat.mul_nonneg (by grind) (hd.1 hk)
 ·have h1:¬ sgQ (qOf f)>0:=hs.2.resolve_left (fun h=>h hk)
  rw[gt_iff_lt,ZcS]at h1
  have:=Rat.mul_nonneg (a:= -qOf f) (b:= -d) (by grind) (by have:=hd.2.1 hk;grind)
  grind
 ·rw[hd.2.2 hk];grind
theorem ZAV(x:List FracD):∀ (r:List RowD)(y:List FracD),okP y=true→(∀ w∈r,0≤w.k∧w.k<3)→(r.zip y).all (fun p=>ZdN p.1 p.2)=true→r.all (fun w=>ZeF w x)=true→mixV r y≤mixG (atP x) r y
 | [],y,_,_,_,_=>by rw[ZiR,ZkD];exact Rat.le_refl
 | _ ::_,[],_,_,_,_=>by simp only[mixG,mixV];exact Rat.le_refl
 | w ::r,f ::y,ho,hk,hs,hh=>by
   simp only[okP,List.all_cons,Ya2]at ho
   simp only[List.zip_cons_cons,List.all_cons,Ya2]at hs hh
   have ih:=ZAV x r y ho.2 (fun u hu=>hk u (Yb6 _ hu)) hs.2 hh.2
   have h1:=ZvJ ho.1 hs.1 (hk w Yb7).1 (hk w Yb7).2 hh.1
   rw[Zcv]at h1
   simp only[mixG,mixV]
   grind
theorem Zty{s:SysD}{goal:List TermD}{y x:List FracD}(hl:(Zb6 s goal y).2=true)(hx:Zal s x=true):mixV s.r y≤dotD goal x:=by
 obtain⟨h1,h2,h3⟩:=ZjG.1 hl
 simp only[Zdg,Ya2]at h1
 obtain⟨hr,hlen,ho⟩:=ZeA.1 h1.1
 simp only[Zal,Ya2,decide_eq_true_eq]at hx
 have a:=ZAV x s.r y ho (fun w hw=>⟨(ZcB hr hw).2.1,(ZcB hr hw).2.2.1⟩) h1.2 hx.2
 have hg:=Zeu h2
 have b:=Zyk (Zhj hr y) hg ((Zni (Zhj hr y) hg).1 h3) (fun v=>Zym hx.1.1.2 hx.1.2 v)
 rw[ZzD hr]at b
 rw[Zcv]
 grind
theorem Zfq{s:SysD}{y x:List FracD}(h:Zhc s y=true):Zal s x=false:=by
 cases hx:Zal s x
 ·rfl
 ·simp only[Zhc,Ya2,decide_eq_true_eq]at h
  have h1:=Zty h.1 hx
  rw[Zem h.1,ZbN,gt_iff_lt,ZcS]at h
  have:dotD [] x=0:=rfl
  grind
def onD(k:Rat)(x d:List FracD):List FracD:=List.zipWith (fun a b=>ofQ (qOf a+qOf b*k)) x d
theorem ZEY{k:Rat}{x d:List FracD}(hl:x.length=d.length)(v:Int):atP (onD k x d) v=1*atP x v+k*atP d v:=by
 unfold atP onD
 rw[List.getElem?_zipWith]
 cases hx:x[v.toNat]? with
 | none =>
   have:d[v.toNat]? =none:=List.getElem?_eq_none (by have:=List.getElem?_eq_none_iff.1 hx;omega)
   rw[this]
   have:qOf zF=0:=by decide +kernel
   simp only[Option.getD_none,this];grind
 | some f =>
   have hlt:=(Ya3.1 hx).1
   rw[Ya0 (by omega:v.toNat<d.length)]
   simp only[Option.getD_some,Zav];grind
theorem ZxQ{k:Rat}{x d:List FracD}(hl:x.length=d.length)(l:List TermD):dotD l (onD k x d)=dotD l x+k*dotD l d:=by
 rw[Zcv,Zcv,Zcv,show atP (onD k x d)=fun v=>1*atP x v+k*atP d v from funext (ZEY hl),Ztl]
 grind
theorem Zps{k:Rat}{x d:List FracD}{f:FracD}(h:f∈onD k x d):∃ a b,a∈x∧b∈d∧f=ofQ (qOf a+qOf b*k):=by
 obtain⟨i,hi⟩:=List.getElem?_of_mem h
 unfold onD at hi
 rw[List.getElem?_zipWith]at hi
 split at hi
 ·rename_i a b ha hb;cases hi;exact⟨a,b,ZaI ha,ZaI hb,rfl⟩
 ·cases hi
theorem Zhd{s:SysD}{goal:List TermD}{d:List FracD}:rayD s goal d=true↔Zax s=true∧Zah goal s.n=true∧(d.length:Int)=s.n∧okP d=true∧ZhL d=true∧s.r.all (fun w=>ZjN w.k (sgQ (dotD w.t d)))=true∧sgQ (dotD goal d)<0:=by
 simp only[rayD,Ya2,decide_eq_true_eq,and_assoc]
theorem Za2{s:SysD}{x:List FracD}:Zal s x=true↔Zax s=true∧(x.length:Int)=s.n∧okP x=true∧ZhL x=true∧s.r.all (fun w=>ZeF w x)=true:=by
 simp only[Zal,Ya2,decide_eq_true_eq,and_assoc]
theorem ZkH{s:SysD}{goal:List TermD}{x d:List FracD}{k:Rat}(hx:Zal s x=true)(hd:rayD s goal d=true)(hk:0≤k):Zal s (onD k x d)=true:=by
 obtain⟨hr,ln,ox,nx,rx⟩:=Za2.1 hx
 obtain⟨_,_,ld,od,nd,rd,_⟩:=Zhd.1 hd
 have hl:x.length=d.length:=by omega
 refine Za2.2 ⟨hr,by unfold onD;rw[List.length_zipWith];omega,?_,?_,?_⟩
 ·refine Ya6.2 fun f hf=>?_
  obtain⟨a,b,_,_,rfl⟩:=Zps hf
  exact Zbw _
 ·refine Ya6.2 fun f hf=>?_
  obtain⟨a,b,ha,hb,rfl⟩:=Zps hf
  have na:=(ZfS (Ya6.1 ox a ha)).1 (of_decide_eq_true (Ya6.1 nx a ha))
  have nb:=(ZfS (Ya6.1 od b hb)).1 (of_decide_eq_true (Ya6.1 nd b hb))
  refine decide_eq_true ((ZfS (Zbw _)).2 ?_)
  rw[Zav]
  have:=Rat.mul_nonneg nb hk
  grind
 ·refine Ya6.2 fun w hw=>?_
  have h3:=ZcB hr hw
  have a:=Ya6.1 rx w hw
  have b:=Ya6.1 rd w hw
  unfold ZeF at a ⊢
  rw[Zi3 h3.2.1 h3.2.2.1]at a b ⊢
  rw[ZxQ hl]
  refine⟨fun h=>?_,fun h=>?_,fun h=>?_⟩
  ·have:=Rat.mul_nonneg hk (b.1 h);have:=a.1 h;grind
  ·have:=Rat.mul_nonneg hk (by have:=b.2.1 h;grind:0 ≤ -dotD w.t d);have:=a.2.1 h;grind
  ·have h1:=a.2.2 h;have h2:=b.2.2 h;rw[h2];grind
theorem isEmpty_nil{α:Type}{l:List α}(h:l.isEmpty=true):l=[]:=List.isEmpty_iff.1 h
theorem ZeO{s:SysD}{goal:List TermD}{o:OptD}(h:Zqb s goal o=true) :
 (o.k=0∧(Zb6 s goal o.y).2=true∧Zal s o.x=true∧o.v=ofQ (dotD goal o.x)∧dotD goal o.x=mixV s.r o.y∧o.d=[]) ∨
 (o.k=1∧Zhc s o.y=true∧o.x=[]∧o.d=[]∧o.v=zF)∨(o.k=2∧Zal s o.x=true∧rayD s goal o.d=true∧o.y=[]∧o.v=zF):=by
 simp only[Zqb,Ya2]at h
 obtain⟨⟨hr,hg⟩,h⟩:=h
 split at h
 ·rename_i hk
  simp only[Ya2,Zk9]at h
  obtain⟨⟨⟨⟨h1,h2⟩,h3⟩,h4⟩,h5⟩:=h
  have hx:=Za2.1 h2
  have hv:ZbX goal o.x=(ofQ (dotD goal o.x),true):=Zjl (by rw[hx.2.1,hg,hx.2.2.1];rfl)
  rw[hv]at h3
  rw[Zem h1]at h4
  exact .inl ⟨hk,h1,h2,h3.symm,ZCc (h3.trans h4.symm),isEmpty_nil h5⟩
 ·split at h
  ·rename_i hk
   simp only[Ya2,Zk9]at h
   exact .inr (.inl ⟨hk,h.1.1.1,isEmpty_nil h.1.1.2,isEmpty_nil h.1.2,h.2⟩)
  ·split at h
   ·rename_i hk
    simp only[Ya2,Zk9]at h
    exact .inr (.inr ⟨hk,h.1.1.1,h.1.1.2,isEmpty_nil h.1.2,h.2⟩)
   ·cases h
structure PlD where
 k:Int
 h:Int
 m:Int
structure MvD where
 d:Int
 f:Int
 t:Int
 s:Int
 r:Int
 a:Bool
structure PuD where
 v:Int
 m:Int
 lo:Int
 hi:Int
structure EvD where
 m:Int
 h:Int
 s:Int
 pl:List PlD
 mv:List MvD
 ce:List CertD
 re:List RecD
 pu:List PuD
structure FiD where
 v:Int
 k:Int
 g:Int
structure ClD where
 v:Int
 k:Int
structure TrD where
 e:EvD
 fi:List FiD
 cl:List ClD
abbrev cPl(p:PlD):List D:=[dI p.k,dI p.h,dI p.m]
abbrev cMv(x:MvD):List D:=[dI x.d,dI x.f,dI x.t,dI x.s,dI x.r,dB x.a]
abbrev cPu(x:PuD):List D:=[dI x.v,dI x.m,dI x.lo,dI x.hi]
abbrev cFi(x:FiD):List D:=[dI x.v,dI x.k,dI x.g]
abbrev cCl(x:ClD):List D:=[dI x.v,dI x.k]
abbrev Zkc(l:List PlD):D:=.sl (l.map cPl)
abbrev ZhR(l:List MvD):D:=.sl (l.map cMv)
abbrev Zna(l:List PuD):D:=.sl (l.map cPu)
abbrev Zke(l:List FiD):D:=.sl (l.map cFi)
abbrev Zja(l:List ClD):D:=.sl (l.map cCl)
abbrev cEv(e:EvD):List D:=[dI e.m,dI e.h,dI e.s,Zkc e.pl,ZhR e.mv,Zmc e.ce,ZgO e.re,Zna e.pu]
abbrev Zio(e:EvD):D:=.agg (cEv e)
abbrev cTr(t:TrD):List D:=[dI t.e.m,dI t.e.h,dI t.e.s,Zkc t.e.pl,ZhR t.e.mv,Zmc t.e.ce,ZgO t.e.re,Zna t.e.pu,Zke t.fi,Zja t.cl]
abbrev ZbC(t:TrD):D:=.agg (cTr t)
def idx(i n:Int):Bool:=decide (0≤i)&&decide (i<n)
def ZeU(e:EvD):Bool:=decide (e.m>6)||(decide (e.h>100)||(decide (e.s>30)||(decide ((e.pl.length:Int)>100)||(decide ((e.mv.length:Int)>200)||(decide ((e.ce.length:Int)>100)||(decide ((e.re.length:Int)>30)||decide ((e.pu.length:Int)>200)))))))
def okPl(h m:Int)(p:PlD):Bool:=idx p.k 7&&(if p.k=0 then idx p.h h&&idx p.m m else p.h == -1&&p.m == -1)
def Zct(e:EvD)(p:Int):Int:=((e.pl[p.toNat]?).map PlD.k).getD (-1)
def okMv(e:EvD)(x:MvD):Bool :=
 idx x.f e.pl.length&&(idx x.t e.pl.length&&(x.f !=x.t&&(!(Zct e x.f==5)&&(!(Zct e x.f==6)&&(!(Zct e x.f==0&&x.a)&&(!(Zct e x.t==0) &&
 (if x.s = -1 then x.r==0 else idx x.s e.s&&(decide (0≤x.r)&&decide (x.r≤1099511627776)))))))))
def okCe(s:Int)(c:CertD):Bool:=(decide (0≤c.f)&&(decide (c.f≤c.u)&&decide (c.u≤100000)))&&(idx c.s s&&((decide (0≤c.g)&&decide (c.g≤1099511627776))&&((decide (0≤c.p)&&decide (c.p≤1000))&&(decide (0≤c.d)&&decide (c.d≤10000000)))))
def okRe(s:Int)(c:RecD):Bool:=idx c.s s&&(decide (0≤c.d)&&decide (c.d≤100000))
def okPu(n m:Int)(p:PuD):Bool:=idx p.v n&&(idx p.m m&&(decide (0≤p.lo)&&(decide (p.lo≤p.hi)&&decide (p.hi≤1000))))
def ZhZ(e:EvD):Bool:=e.ce.all (okCe e.s)&&(e.re.all (okRe e.s)&&e.pu.all (okPu e.mv.length e.m))
def Zd7(e:EvD):Int→List MvD→Int
 | _,[]=>0
 | last,x ::l=>if x.d<last∨x.d>100000 then 17 else if okMv e x=true then Zd7 e x.d l else 1
def argE(e:EvD):Bool:=decide (1≤e.m)&&(decide (0≤e.h)&&(decide (0≤e.s)&&e.pl.all (okPl e.h e.m)))
def Zgg(e:EvD):Int:=if ZeU e then 6 else if argE e then(if Zd7 e 0 e.mv=0 then(if ZhZ e then 0 else 1)else Zd7 e 0 e.mv)else 1
def ZeC(e:EvD)(v k:Int):Int:=if v<0∨v≥e.mv.length then 4 else if k<0∨k≥8 then 1 else 0
def Zdc(e:EvD):List FiD→Int
 | []=>0
 | x ::l=>if ZeC e x.v x.k=0 then(if x.g<1∨x.g>1099511627776 then 3 else Zdc e l)else ZeC e x.v x.k
def ZcP(e:EvD):List ClD→Int
 | []=>0
 | x ::l=>if ZeC e x.v x.k=0 then ZcP e l else ZeC e x.v x.k
def ZaZ(t:TrD):Int :=
 if Zgg t.e=0 then(if (t.fi.length:Int)>20∨(t.cl.length:Int)>50 then 6 else if Zdc t.e t.fi=0 then ZcP t.e t.cl else Zdc t.e t.fi)else Zgg t.e
structure OkMv (e:EvD) (x:MvD):Prop where
 f:0≤x.f∧x.f<e.pl.length
 t:0≤x.t∧x.t<e.pl.length
 ne:x.f≠x.t
 k5:Zct e x.f≠5
 bin:Zct e x.f=0→x.a=false
 tob:Zct e x.t≠0
 s:x.s ≠ -1→(0≤x.s∧x.s<e.s)∧0≤x.r∧x.r≤1099511627776
 d:0≤x.d∧x.d≤100000
structure RightE (e:EvD):Prop where
 m:1≤e.m∧e.m≤6
 h:0≤e.h∧e.h≤100
 s:0≤e.s∧e.s≤30
 lp:(e.pl.length:Int)≤100
 lm:(e.mv.length:Int)≤200
 lc:(e.ce.length:Int)≤100
 lr:(e.re.length:Int)≤30
 lu:(e.pu.length:Int)≤200
 pl:∀ p∈e.pl,okPl e.h e.m p=true
 mv:∀ x∈e.mv,OkMv e x
 ce:∀ c∈e.ce,okCe e.s c=true
 re:∀ c∈e.re,okRe e.s c=true
 pu:∀ p∈e.pu,okPu e.mv.length e.m p=true
theorem Zzr{e:EvD}{x:MvD}(h:okMv e x=true)(d0:0≤x.d)(d1:x.d≤100000):OkMv e x:=by
 simp only[okMv,idx,Ya2,decide_eq_true_eq,bne_iff_ne,Bool.not_eq_true',beq_eq_false_iff_ne,Bool.and_eq_false_iff]at h
 obtain⟨a,b,c,d,e',f,g,i⟩:=h
 refine⟨a,b,c,d,fun hk=>by rcases f with f|f;exact absurd hk f;exact f,g,fun hs=>?_,d0,d1⟩
 rw[if_neg hs]at i
 simp only[Ya2,decide_eq_true_eq]at i
 exact i
theorem ZsE{e:EvD}:∀ (l:List MvD)(last:Int),0≤last→Zd7 e last l=0→∀ x∈l,OkMv e x
 | [],_,_,_,x,hx=>by cases hx
 | y ::l,last,h0,h,x,hx=>by
   unfold Zd7 at h
   split at h
   ·omega
   ·rename_i h1
    split at h
    ·rename_i h2
     have hy:=Zzr h2 (by omega) (by omega)
     rcases List.mem_cons.1 hx with rfl|hx
     ·exact hy
     ·exact ZsE l y.d (by omega) h x hx
    ·omega
theorem ZCK{e:EvD}(h:Zgg e=0):RightE e:=by
 unfold Zgg at h
 split at h
 ·omega
 rename_i h1
 split at h
 ·rename_i h2
  split at h
  ·rename_i h3
   split at h
   ·rename_i h4
    simp only[ZeU,Bool.or_eq_true,decide_eq_true_eq,not_or]at h1
    simp only[argE,Ya2,decide_eq_true_eq,Ya6]at h2
    simp only[ZhZ,Ya2,Ya6]at h4
    obtain⟨a,b,c,d,e1,f,g,i⟩:=h1
    exact⟨⟨h2.1,by omega⟩,⟨h2.2.1,by omega⟩,⟨h2.2.2.1,by omega⟩,by omega,by omega,by omega,by omega,by omega,h2.2.2.2,ZsE _ 0 (Int.le_refl _) h3,h4.1,h4.2.1,h4.2.2⟩
   ·omega
  ·rename_i h3;exact absurd h h3
 ·omega
structure RightTr (t:TrD):Prop where
 e:RightE t.e
 lf:(t.fi.length:Int)≤20
 lc:(t.cl.length:Int)≤50
 fi:∀ x∈t.fi,(0≤x.v∧x.v<t.e.mv.length)∧(0≤x.k∧x.k<8)∧1≤x.g∧x.g≤1099511627776
 cl:∀ x∈t.cl,(0≤x.v∧x.v<t.e.mv.length)∧0≤x.k∧x.k<8
theorem Zw0{e:EvD}{v k:Int}(h:ZeC e v k=0):(0≤v∧v<e.mv.length)∧0≤k∧k<8:=by
 unfold ZeC at h
 split at h
 ·omega
 split at h
 ·omega
 ·omega
theorem Zs8{e:EvD}:∀ l:List FiD,Zdc e l=0→∀ x∈l,(0≤x.v∧x.v<e.mv.length)∧(0≤x.k∧x.k<8)∧1≤x.g∧x.g≤1099511627776
 | [],_,x,hx=>by cases hx
 | y ::l,h,x,hx=>by
   unfold Zdc at h
   split at h
   ·rename_i h1
    split at h
    ·omega
    ·rcases List.mem_cons.1 hx with rfl|hx
     ·have:=Zw0 h1
      omega
     ·exact Zs8 l h x hx
   ·rename_i h1;exact absurd h h1
theorem Zqa{e:EvD}:∀ l:List ClD,ZcP e l=0→∀ x∈l,(0≤x.v∧x.v<e.mv.length)∧0≤x.k∧x.k<8
 | [],_,x,hx=>by cases hx
 | y ::l,h,x,hx=>by
   unfold ZcP at h
   split at h
   ·rename_i h1
    rcases List.mem_cons.1 hx with rfl|hx
    ·exact Zw0 h1
    ·exact Zqa l h x hx
   ·rename_i h1;exact absurd h h1
theorem Zby{t:TrD}(h:ZaZ t=0):RightTr t:=by
 unfold ZaZ at h
 split at h
 ·rename_i h1
  split at h
  ·omega
  ·rename_i h2
   split at h
   ·rename_i h3
    exact⟨ZCK h1,by omega,by omega,Zs8 _ h3,Zqa _ h⟩
   ·rename_i h3;exact absurd h h3
 ·rename_i h1;exact absurd h h1
def mvAt(e:EvD)(i:Nat):MvD:=(e.mv[i]?).getD ⟨0,0,0,0,0,false⟩
def ZbK(e:EvD)(i:Nat):Bool:=Zct e (mvAt e i).f==0
def stC(e:EvD)(i j:Nat):Rat:=if j<i then(if (mvAt e j).t=(mvAt e i).f then 1 else if (mvAt e j).f=(mvAt e i).f then -1 else 0)else -1
def ZcR(e:EvD)(i:Nat):RowD:=⟨ZaS (i+1) (stC e i),if (mvAt e i).a then 2 else 0,ofQ 0⟩
def oneR(i:Nat)(k:Int)(v:FracD):RowD:=⟨[⟨i,ofQ 1⟩],k,v⟩
structure AbD where
 hi:FracD
 cap:Bool
 fi:List Int
 cl:Int
def hiI(e:EvD)(x:MvD):FracD×Bool:=if x.s = -1 then(zF,false)else((intD e.ce e.re x.s x.r x.d).hi,(intD e.ce e.re x.s x.r x.d).ok)
def finK(t:TrD)(kind:Int)(i:Nat):List Int:=(t.fi.filter fun f=>f.k==kind&&f.v==(i:Int)).map FiD.g
def cleK(t:TrD)(kind:Int)(i:Nat):Nat:=(t.cl.filter fun f=>f.k==kind&&f.v==(i:Int)).length
def ZhD(t:TrD)(kind:Int)(i:Nat):List RowD :=
 (if ZbK t.e i then []else [ZcR t.e i])++((if (hiI t.e (mvAt t.e i)).2 then [oneR i 1 (hiI t.e (mvAt t.e i)).1]else []) ++
 ((finK t kind i).map (fun(g:Int)=>oneR i 0 (ofQ (g:Rat)))++List.replicate (cleK t kind i) (oneR i 2 (ofQ 0))))
def ZbS(t:TrD)(kind:Int):Nat→List RowD
 | 0=>[]
 | i+1=>ZbS t kind i++ZhD t kind i
def sysT(t:TrD)(kind:Int):SysD:=⟨t.e.mv.length,ZbS t kind t.e.mv.length⟩
set_option linter.constructorNameAsVariable false
section
variable {n:Nat} {x:List D}
theorem Zid{α:Type}{T e:TypeId}{f:α→List D}(hu:Tryz.prog.underlying T=some (.slice e))(he:∀ x,Zb4 Tryz.prog n e x→∃ a,x=f a)(h:Zb4 Tryz.prog (n+1) T x):∃ l:List α,x=[.sl (l.map f)]:=by
 unfold Zb4 at h
 simp only[hu]at h
 obtain⟨es,rfl,_,h⟩:=h
 obtain⟨l,rfl⟩:=Zhk (f:=f) (fun x hx=>he x (h x hx))
 exact⟨l,rfl⟩
theorem ZAv(h:Zb4 Tryz.prog (n+1) 4 x):∃ a,x=[dB a]:=by
 unfold Zb4 at h
 simp only[Tryz.underlying4]at h
 exact h
theorem Zzd(h:Zb4 Tryz.prog (n+2) 72 x):∃ p,x=cPl p:=by
 unfold Zb4 at h
 simp only[Tryz.underlying72,List.foldr]at h
 obtain⟨_,_,rfl,h1,_,_,rfl,h2,_,_,rfl,h3,rfl⟩:=h
 obtain⟨a,rfl⟩:=ZbH h1
 obtain⟨b,rfl⟩:=ZbH h2
 obtain⟨c,rfl⟩:=ZbH h3
 exact⟨⟨a,b,c⟩,rfl⟩
theorem ZEh(h:Zb4 Tryz.prog (n+2) 90 x):∃ p,x=cMv p:=by
 unfold Zb4 at h
 simp only[Tryz.underlying90,List.foldr]at h
 obtain⟨_,_,rfl,h1,_,_,rfl,h2,_,_,rfl,h3,_,_,rfl,h4,_,_,rfl,h5,_,_,rfl,h6,rfl⟩:=h
 obtain⟨a,rfl⟩:=ZbH h1
 obtain⟨b,rfl⟩:=ZbH h2
 obtain⟨c,rfl⟩:=ZbH h3
 obtain⟨d,rfl⟩:=ZbH h4
 obtain⟨e,rfl⟩:=ZbH h5
 obtain⟨f,rfl⟩:=ZAv h6
 exact⟨⟨a,b,c,d,e,f⟩,rfl⟩
theorem ZAr(h:Zb4 Tryz.prog (n+2) 187 x):∃ p,x=cC p:=by
 unfold Zb4 at h
 simp only[Tryz.underlying187,List.foldr]at h
 obtain⟨_,_,rfl,h1,_,_,rfl,h2,_,_,rfl,h3,_,_,rfl,h4,_,_,rfl,h5,_,_,rfl,h6,rfl⟩:=h
 obtain⟨a,rfl⟩:=ZbH h1
 obtain⟨b,rfl⟩:=ZbH h2
 obtain⟨c,rfl⟩:=ZbH h3
 obtain⟨d,rfl⟩:=ZbH h4
 obtain⟨e,rfl⟩:=ZbH h5
 obtain⟨f,rfl⟩:=ZbH h6
 exact⟨⟨a,b,c,d,e,f⟩,rfl⟩
theorem ZBT(h:Zb4 Tryz.prog (n+2) 230 x):∃ p,x=cRe p:=by
 unfold Zb4 at h
 simp only[Tryz.underlying230,List.foldr]at h
 obtain⟨_,_,rfl,h1,_,_,rfl,h2,rfl⟩:=h
 obtain⟨a,rfl⟩:=ZbH h1
 obtain⟨b,rfl⟩:=ZbH h2
 exact⟨⟨a,b⟩,rfl⟩
theorem ZBX(h:Zb4 Tryz.prog (n+2) 232 x):∃ p,x=cPu p:=by
 unfold Zb4 at h
 simp only[Tryz.underlying232,List.foldr]at h
 obtain⟨_,_,rfl,h1,_,_,rfl,h2,_,_,rfl,h3,_,_,rfl,h4,rfl⟩:=h
 obtain⟨a,rfl⟩:=ZbH h1
 obtain⟨b,rfl⟩:=ZbH h2
 obtain⟨c,rfl⟩:=ZbH h3
 obtain⟨d,rfl⟩:=ZbH h4
 exact⟨⟨a,b,c,d⟩,rfl⟩
theorem ZCL(h:Zb4 Tryz.prog (n+2) 68 x):∃ p,x=cFi p:=by
 unfold Zb4 at h
 simp only[Tryz.underlying68,List.foldr]at h
 obtain⟨_,_,rfl,h1,_,_,rfl,h2,_,_,rfl,h3,rfl⟩:=h
 obtain⟨a,rfl⟩:=ZbH h1
 obtain⟨b,rfl⟩:=ZbH h2
 obtain⟨c,rfl⟩:=ZbH h3
 exact⟨⟨a,b,c⟩,rfl⟩
theorem ZAp(h:Zb4 Tryz.prog (n+2) 113 x):∃ p,x=cCl p:=by
 unfold Zb4 at h
 simp only[Tryz.underlying113,List.foldr]at h
 obtain⟨_,_,rfl,h1,_,_,rfl,h2,rfl⟩:=h
 obtain⟨a,rfl⟩:=ZbH h1
 obtain⟨b,rfl⟩:=ZbH h2
 exact⟨⟨a,b⟩,rfl⟩
theorem ZCU(h:Zb4 Tryz.prog (n+5) 28 x):∃ e,x=cEv e:=by
 unfold Zb4 at h
 simp only[Tryz.underlying28,List.foldr]at h
 obtain⟨_,_,rfl,h1,_,_,rfl,h2,_,_,rfl,h3,_,_,rfl,h4,_,_,rfl,h5,_,_,rfl,h6,_,_,rfl,h7,_,_,rfl,h8,rfl⟩:=h
 obtain⟨a,rfl⟩:=ZbH h1
 obtain⟨b,rfl⟩:=ZbH h2
 obtain⟨c,rfl⟩:=ZbH h3
 obtain⟨d,rfl⟩:=Zid (f:=cPl) Tryz.underlying22 (fun x h=>Zzd h) h4
 obtain⟨e,rfl⟩:=Zid (f:=cMv) Tryz.underlying23 (fun x h=>ZEh h) h5
 obtain⟨f,rfl⟩:=Zid (f:=cC) Tryz.underlying24 (fun x h=>ZAr h) h6
 obtain⟨g,rfl⟩:=Zid (f:=cRe) Tryz.underlying25 (fun x h=>ZBT h) h7
 obtain⟨i,rfl⟩:=Zid (f:=cPu) Tryz.underlying26 (fun x h=>ZBX h) h8
 exact⟨⟨a,b,c,d,e,f,g,i⟩,rfl⟩
theorem ZyG(h:Zb4 Tryz.prog (n+6) 32 x):∃ t,x=cTr t:=by
 unfold Zb4 at h
 simp only[Tryz.underlying32,List.foldr]at h
 obtain⟨_,_,rfl,h1,_,_,rfl,h2,_,_,rfl,h3,rfl⟩:=h
 obtain⟨e,rfl⟩:=ZCU h1
 obtain⟨f,rfl⟩:=Zid (f:=cFi) Tryz.underlying29 (fun x h=>ZCL h) h2
 obtain⟨c,rfl⟩:=Zid (f:=cCl) Tryz.underlying30 (fun x h=>ZAp h) h3
 exact⟨⟨e,f,c⟩,rfl⟩
end
end Go.Proofs.YtjeaacindikplaaGreat
