/-
  Holds of linear and of the reference.
-/
import Derived.Test.YtblamlnjbjaokaaGreatVLib
import Derived.Test.YtblamlnjbjaokaaGreatVT00
import Derived.Test.YtblamlnjbjaokaaGreatVConv
namespace Go.Proofs.YtblamlnjbjaokaaGreat
set_option linter.unusedVariables false
set_option linter.unusedSimpArgs false
set_option linter.unusedSectionVars false
open Go Go.RowKit
set_option maxRecDepth 100000
set_option maxHeartbeats 2000000
theorem Zgn{s:SysD}{x:List Zac}(h:(ZaF s&&decide ((x.length:Int)=s.n)&&okP x&&Zge x)=false):D.v (.bool false)=dB (Zba s x):=Zae (by unfold Zba;rw[h];rfl)
theorem ZjD{s:SysD}{x:List Zac}{k:Nat}{w:RowD}(hx:s.r[k]? =some w)(h:Zgm w x=false):D.v (.bool false)=dB (Zba s x):=Zae (by unfold Zba;rw[Zbf (p:=fun w=>Zgm w x) hx h,Bool.and_false])
theorem Zl3{s:SysD}{x:List Zac}(h:ZaF s=true)(hn:(x.length:Int)=s.n){k:Nat}{w:RowD}(hx:s.r[k]? =some w):Zat w.t x.length=true∧okF w.v=true:=by
 have:=Ze2 h (ZaR hx)
 simp only[Zcv,Ya2]at this
 rw[hn]
 exact⟨this.1.1.1,this.2⟩
theorem ZuI(s:SysD)(x:List Zac)(hs:smS s)(hxs:smFs x):Zag Tryz.prog 80 [encS s,ZaM x] (dB (Zba s x)):=by
 have Zr:=Tryz.results80
 have hl:=ZmY hs
 have hlx:=ZeZ hxs
 have k1:=Zgi s hs
 have k2:=ZoC x hxs
 cases h1:ZaF s
 ·rw[h1]at k1
  refine inC Tryz.func80 rfl Tryz.ntmps80 ?_
  refine aGo Zr ?_
  repeat with_reducible intro K hK
  exact Zgn (by rw[h1];rfl)
 rw[h1]at k1
 cases h2:(x.length:Int) !=s.n
 rotate_left
 ·refine inC Tryz.func80 rfl Tryz.ntmps80 ?_
  refine aGo (cj2 Zr h2) ?_
  repeat with_reducible intro K hK
  exact Zgn (by simp at h2;simp[h2])
 have hn:(x.length:Int)=s.n:=by simpa using h2
 cases h3:okP x
 ·rw[h3]at k2
  refine inC Tryz.func80 rfl Tryz.ntmps80 ?_
  refine aGo (cj2 Zr h2) ?_
  repeat with_reducible intro K hK
  exact Zgn (by rw[h3];simp)
 rw[h3]at k2
 refine inC Tryz.func80 rfl Tryz.ntmps80 ?_
 refine aGo (cj2 Zr h2) ?_
 repeat with_reducible intro K hK
 refine ZaE (fun(k:Nat)=>[(0,encS s),(1,ZaM x),(2,.lp 0 0 0 0),(25,ZaM x),(26,dI x.length),(27,dI k)]) (fun k=>[(0,⟨102,0,2,[cS s],0,false⟩)]) 1 0 (fun k=>k≤x.length∧(x.take k).all (fun f=>decide (0≤sgnD f))=true) (fun k=>x.length-k) 0 ⟨by omega,rfl⟩ ?_ ?_
 ·exact leGo trivial
 ·rintro k ⟨hk,hg⟩
  obtain⟨hw,h0⟩:=Za6 k
  by_cases h4:(k:Int)<x.length
  ·obtain⟨f,hx⟩:=getE (l:=x) (k:=k) (by omega)
   have k3:=Zc4 f (ZfC (hxs.2 f (ZaR hx)))
   by_cases h5:sgnD f<0
   ·refine aGo (cj4 Zr h0 h4 (cj3 hx hw h5)) ?_
    repeat with_reducible intro K hK
    exact Zgn (by rw[show Zge x=false from Zbf hx (by simp;omega),Bool.and_false])
   ·refine aGo (cj4 Zr h0 h4 (cj3 hx hw h5)) ?_
    repeat with_reducible intro K hK
    exact Zai (k+1) ⟨by omega,Zan hx hg (by simp;omega)⟩ (by omega) (by exact leGo trivial)
  ·rw[Ya8 (by omega)]at hg
   refine aGo (cj2 Zr h4) ?_
   repeat with_reducible intro K hK
   refine ZaE (fun(k:Nat)=>[(1,ZaM x),(36,ZsQ s.r),(37,dI s.r.length),(38,dI k)]) (fun k=>[]) 0 0 (fun k=>k≤s.r.length∧(s.r.take k).all (fun w=>Zgm w x)=true) (fun k=>s.r.length-k) 0 ⟨by omega,rfl⟩ ?_ ?_
   ·exact leGo trivial
   ·rintro k ⟨hk,hr⟩
    obtain⟨hw,h0⟩:=Za6 k
    by_cases h4:(k:Int)<s.r.length
    ·obtain⟨w,hx⟩:=getE (l:=s.r) (k:=k) (by omega)
     obtain⟨h6,h7⟩:=Zl3 h1 hn hx
     have sm:=hs.2 w (ZaR hx)
     have k3:=ZoB w.t x sm.1 hxs h6 h3
     have k4:=ZcR (ofQ (dotD w.t x)) w.v (by have:=ZmS w x sm.1 hxs h6 h3;omega) (ZfC sm.2)
     rw[show cmpD (ofQ (dotD w.t x)) w.v=sgQ (dotD w.t x-qOf w.v) by simp[cmpD,Zbj,Zbc,h7]]at k4
     have hd:Zgm w x=Zdd w.k (sgQ (dotD w.t x-qOf w.v)):=rfl
     generalize sgQ (dotD w.t x-qOf w.v)=c at *
     by_cases g1:c<0
     ·have g3:¬ c>0:=by omega
      have g4:(c==0)=false:=by simp;omega
      cases g2:w.k !=1
      ·refine aGo (cj4 Zr h0 h4 (cj4 hx hw g1 (cj2 g2 g3))) ?_
       repeat with_reducible intro K hK
       exact Zai (k+1) ⟨by omega,Zan hx hr (by rw[hd];simp at g2;simp[Zdd,g2];omega)⟩ (by omega) (by exact leGo trivial)
      ·refine aGo (cj4 Zr h0 h4 (cj4 hx hw g1 (cj2 g2 g3))) ?_
       repeat with_reducible intro K hK
       exact ZjD hx (by rw[hd];simp at g2;simp[Zdd,g2];omega)
     by_cases g3:c>0
     ·cases g2:w.k !=0
      ·refine aGo (cj4 Zr h0 h4 (cj4 hx hw g1 (cj2 g2 g3))) ?_
       repeat with_reducible intro K hK
       exact Zai (k+1) ⟨by omega,Zan hx hr (by rw[hd];simp at g2;simp[Zdd,g2];omega)⟩ (by omega) (by exact leGo trivial)
      ·refine aGo (cj4 Zr h0 h4 (cj4 hx hw g1 (cj2 g2 g3))) ?_
       repeat with_reducible intro K hK
       exact ZjD hx (by rw[hd];simp at g2;simp[Zdd,g2];omega)
     ·refine aGo (cj4 Zr h0 h4 (cj4 hx hw g1 g3)) ?_
      repeat with_reducible intro K hK
      exact Zai (k+1) ⟨by omega,Zan hx hr (by rw[hd];simp[Zdd];omega)⟩ (by omega) (by exact leGo trivial)
    ·refine aGo (cj2 Zr h4) ?_
     repeat with_reducible intro K hK
     rw[Ya8 (by omega)]at hr
     exact Zae (by simp[Zba,h1,hn,h3,hr];exact hg)
def mulT(f:Zac)(t:Zaj):Zaj:=⟨t.v,ofQ (qOf t.f*qOf f)⟩
def Zfq(l:List Zaj)(f:Zac):List Zaj:=if Zat l 1500&&sgnD f !=0 then l.map (mulT f)else []
theorem Zk6{l:List Zaj}{f:Zac}(h:(Zat l 1500&&sgnD f !=0)=false):D.sl []=ZbT (Zfq l f):=by unfold Zfq;rw[h];rfl
theorem Zpl{l:List Zaj}{f:Zac}(h1:Zat l 1500=true)(h2:(sgnD f !=0)=true):Zfq l f=l.map (mulT f):=by unfold Zfq;rw[h1,h2];rfl
theorem Zkm{α β:Type}(g:α→β){l:List α}{k:Nat}{x:α}(hx:l[k]? =some x):(l.take (k+1)).map g=(l.take k).map g++[g x]:=by
 rw[Yb4,hx];simp
def outT(l:List Zaj)(f:Zac)(k:Nat):List Zaj:=(l.take k).map (mulT f)
theorem ZrE{l:List Zaj}(f:Zac){k:Nat}{t:Zaj}(ht:l[k]? =some t):outT l f (k+1)=outT l f k++[⟨t.v,ofQ (qOf t.f*qOf f)⟩]:=Zkm _ ht
theorem Zub(l:List Zaj)(f:Zac)(k:Nat):(outT l f k).length≤l.length:=by
 unfold outT;rw[Yc0];exact List.length_take_le' k l
theorem ZrD(l:List Zaj)(f:Zac):outT l f 0=[]:=rfl
theorem Zuc{l:List Zaj}{f:Zac}(h1:Zat l 1500=true)(h2:(sgnD f !=0)=true):outT l f l.length=Zfq l f:=by
 unfold outT;rw[Yc2,Zpl h1 h2]
theorem ZbI{α:Type}{f:α→List D}{g:D→D}(h:∀ a,List.map g (f a)=f a)(l:List α):List.map (List.map g) (List.map f l)=List.map f l:=by
 rw[List.map_map]
 exact List.map_congr_left fun a _=>h a
theorem Zu2(m:Mem)(n:Nat)(l:List Zaj):D.sl (List.map (List.map (fzT true m (n+1))) (List.map cT l))=ZbT l:=by rw[ZbI (fun _=>rfl)]
theorem ZuD(l:List Zaj)(f:Zac)(hs:smT l)(hf:smF f):Zag Tryz.prog 84 [ZbT l,encF f] (ZbT (Zfq l f)):=by
 have Zr:=Tryz.results84
 have hl:=ZmX hs
 have k1:=Ze7 l 1500 hs
 have k2:=Zc4 f (ZfC hf)
 cases h1:Zat l 1500
 ·rw[h1]at k1
  refine inC Tryz.func84 rfl Tryz.ntmps84 ?_
  refine aGo Zr ?_
  repeat with_reducible intro K hK
  exact Zk6 (by rw[h1];rfl)
 rw[h1]at k1
 cases h2:sgnD f==0
 rotate_left
 ·refine inC Tryz.func84 rfl Tryz.ntmps84 ?_
  refine aGo (cj2 Zr h2) ?_
  repeat with_reducible intro K hK
  exact Zk6 (by simp at h2;simp[h2])
 have h2':(sgnD f !=0)=true:=by simp at h2;simp[h2]
 have hok:okF f=true:=by
  cases ho:okF f
  ·rw[Zm3 ho]at h2';cases h2'
  ·rfl
 refine inC Tryz.func84 rfl Tryz.ntmps84 ?_
 refine aGo (cj2 Zr h2) ?_
 repeat with_reducible intro K hK
 refine aLe (Zis 5 171 5 rfl) ?_
 refine ZaE (fun(k:Nat)=>[(3,.lp 0 0 0 0),(5,.ls 1 k),(18,ZbT l),(19,dI l.length),(20,dI k)]) (fun k=>[(0,⟨34,0,4,[cF f],0,false⟩),(1,⟨171,k,5,(outT l f k).map cT,0,false⟩)]) 2 0 (fun k=>k≤l.length) (fun k=>l.length-k) 0 (by omega) ?_ ?_
 ·exact leGo ZrD
 ·rintro k hk
  obtain⟨hw,h0⟩:=Za6 k
  by_cases h3:(k:Int)<l.length
  ·obtain⟨t,ht⟩:=getE (l:=l) (k:=k) (by omega)
   obtain⟨_,_,h4,_⟩:=ZbW h1 (ZaR ht)
   have k3:=ZsA t.f f (ZfC (hs.2 t (ZaR ht))) (ZfC hf)
   rw[show mulD t.f f=(ofQ (qOf t.f*qOf f),0) by simp[mulD,h4,hok]]at k3
   have hn:=ZrE f ht
   have hlen:(outT l f k).length≤4096:=by have:=Zub l f k;omega
   refine aGo (cj4 Zr h0 h3 (cj2 ht hw)) ?_
   repeat with_reducible intro K hK
   exact Zai (k+1) (by omega) (by omega) (by exact leGo hn)
  ·have e:k=l.length:=by omega
   subst e
   rw[Zuc h1 h2']
   refine aGo (cj2 Zr h3) ?_
   repeat with_reducible intro K hK
   exact Zu2 _ _ _
theorem ZbS(l:List Zaj):List.take l.length (List.map cT l)=List.map cT l:=Ya8 (by simp)
structure PlusX where
 a:List Zaj
 b:List Zaj
 o:List Zaj
set_option maxHeartbeats 4000000
structure PlusI where
 i:Nat
 k:Nat
 o:List Zaj
def fewF(n:Int)(f:Zac):Bool:=decide ((f.p.d.length:Int)≤n)&&decide ((f.q.d.length:Int)≤n)
def fewP(x:List Zac)(most n:Int):Bool:=decide ((x.length:Int)≤most)&&x.all (fewF n)
theorem ZsJ{n:Int}{f:Zac}(h:fewF n f=true):(szF f:Int)≤n:=by
 simp only[fewF,Ya2,decide_eq_true_eq]at h
 unfold szF;omega
theorem ZgV{x:List Zac}{most n:Int}(h:fewP x most n=true):(x.length:Int)≤most∧∀ f∈x,(szF f:Int)≤n:=by
 simp only[fewP,Ya2,decide_eq_true_eq]at h
 exact⟨h.1,fun t ht=>ZsJ (Ya6.1 h.2 t ht)⟩
theorem Zme(x:List Zac)(most n:Int)(hm:0≤most∧most≤4096):Zaa Tryz.prog 7 [ZaM x,dI most,dI n] (dB (fewP x most n)):=by
 refine Zag.toN ?_ rfl
 refine inC Tryz.func7 rfl Tryz.ntmps7 ?_
 have Zr:=Tryz.results7
 refine aGo Zr ?_
 repeat with_reducible intro K hK
 refine ZaE (fun(k:Nat)=>[(0,ZaM x),(1,dI most),(2,dI n),(7,dI k)]) (fun _=>[]) 0 0 (fun k=>k≤x.length∧(k:Int)≤most+1∧(x.take k).all (fewF n)=true) (fun k=>x.length-k) 0 ⟨by omega,by omega,rfl⟩ ?_ ?_
 ·exact leGo trivial
 ·rintro k ⟨hk,hk2,hg⟩
  obtain⟨hw,h0⟩:=Za6 k
  by_cases h1:(k:Int)<x.length
  ·by_cases h2:(k:Int)≤most
   ·obtain⟨f,hx⟩:=getE (l:=x) (k:=k) (by omega)
    have hc:=(ZvI f n).toN rfl
    have hd:(decide ((f.p.d.length:Int)≤n)&&decide ((f.q.d.length:Int)≤n))=fewF n f:=rfl
    rw[hd]at hc
    cases h3:fewF n f
    ·rw[h3]at hc
     refine aGo (cj4 Zr h0 h1 (cj3 h2 hx hw)) ?_
     repeat with_reducible intro K hK
     exact Zae (by simp only[fewP,Zbf hx h3,Bool.and_false])
    ·rw[h3]at hc
     refine aGo (cj4 Zr h0 h1 (cj3 h2 hx hw)) ?_
     repeat with_reducible intro K hK
     exact Zai (k+1) ⟨by omega,by omega,Zan hx hg h3⟩ (by omega) (by exact leGo trivial)
   ·have h3:¬ (x.length:Int)≤most:=by omega
    refine aGo (cj4 Zr h1 h2 h3) ?_
    repeat with_reducible intro K hK
    exact Zae (by simp[fewP,h3])
  ·rw[Ya8 (by omega)]at hg
   refine aGo (cj2 Zr h1) ?_
   repeat with_reducible intro K hK
   exact Zae (by simp only[fewP,hg,Bool.and_true])
abbrev q1(n:Int):Rat:=Rat.divInt n 1
abbrev fq(n:Int):Zac:=ofQ (q1 n)
set_option maxHeartbeats 8000000
theorem Zlo{f g:Zac}:Zfj f g=true↔f=g:=by
 cases f;cases g
 simp[Zfj,Zrq]
def dotS(g:Int→Rat):List Zaj→Rat
 | []=>0
 | t ::l=>qOf t.f*g t.v+dotS g l
theorem Zc8(g:Int→Rat):∀ l m:List Zaj,dotS g (l++m)=dotS g l+dotS g m
 | [],m=>by simp[dotS];grind
 | t ::l,m=>by simp only[Yc9,dotS,Zc8 g l m];grind
theorem Zl7(g:Int→Rat):∀ (l:List Zaj)(z:Rat),l.foldl (fun a t=>a+qOf t.f*g t.v) z=z+dotS g l
 | [],z=>by simp only[List.foldl_nil,dotS];grind
 | t ::l,z=>by simp only[List.foldl_cons,dotS];rw[Zl7 g l];grind
theorem ZgW(l:List Zaj)(x:List Zac):dotD l x=dotS (atP x) l:=by
 unfold dotD;rw[Zl7];grind
theorem ZrZ(g:Int→Rat)(f:Zac):∀ l:List Zaj,dotS g (l.map (mulT f))=qOf f*dotS g l
 | []=>by simp only[List.map_nil,dotS];grind
 | t ::l=>by simp only[List.map_cons,dotS,mulT,Zbc,ZrZ g f l];grind
theorem ZaH{n last:Int}{t:Zaj}{l:List Zaj}:goR n last (t ::l)=true↔last<t.v∧t.v<n∧sgnD t.f≠0∧goR n t.v l=true:=by
 simp[goR,and_assoc]
theorem Zxw{n last last':Int}(h:last'≤last):∀ {l:List Zaj},goR n last l=true→goR n last' l=true
 | [],_=>rfl
 | t ::l,k=>by
   rw[ZaH]at k ⊢
   exact⟨by omega,k.2.1,k.2.2.1,k.2.2.2⟩
theorem ZoK{n n' last:Int}(h:n≤n'):∀ {l:List Zaj} {last:Int},goR n last l=true→goR n' last l=true
 | [],_,_=>rfl
 | t ::l,_,k=>by
   rw[ZaH]at k ⊢
   exact⟨k.1,by omega,k.2.2.1,ZoK (last:=t.v) h k.2.2.2⟩
theorem Zm8{n n':Int}(h:n≤n'){l:List Zaj}(k:Zat l n=true):Zat l n'=true:=by
 simp only[Zat,Ya2,decide_eq_true_eq]at k ⊢
 exact⟨by omega,ZoK (last:= -1) h k.2⟩
theorem ZeC{f:Zac}(h:sgnD f≠0):okF f=true∧qOf f≠0:=by
 cases ho:okF f
 ·exact absurd (Zm3 ho) h
 ·refine⟨rfl,fun h0=>h ?_⟩
  simp[sgnD,ho,h0,sgQ]
theorem ZfE{q:Rat}(h:q≠0):sgnD (ofQ q)≠0:=by rw[Ze0];exact fun h0=>h (Zf3.1 h0)
def indI(v u:Int):Rat:=if u=v then 1 else 0
theorem ZeL{n:Int}{v:Int}:∀ (l:List Zaj)(last:Int),v≤last→goR n last l=true→dotS (indI v) l=0
 | [],_,_,_=>rfl
 | t ::l,last,h,k=>by
   have k':=ZaH.1 k
   have ih:=ZeL (n:=n) (v:=v) l t.v (by omega) k'.2.2.2
   simp only[dotS,ih]
   rw[show indI v t.v=0 from if_neg (by omega)];grind
theorem Zfb{n:Int}{last:Int}{t:Zaj}{l:List Zaj}(k:goR n last (t ::l)=true):dotS (indI t.v) (t ::l)=qOf t.f:=by
 have k':=ZaH.1 k
 simp only[dotS,ZeL l t.v (Int.le_refl _) k'.2.2.2,indI,if_true];grind
theorem Zsw{n m:Int}:∀ (a b:List Zaj)(la lb:Int),goR n la a=true→goR m lb b=true→(∀ g,dotS g a=dotS g b)→a=b
 | [],[],_,_,_,_,_=>rfl
 | [],y ::b,_,lb,_,hb,h=>by
   have:=h (indI y.v)
   rw[Zfb hb]at this
   exact absurd this.symm (ZeC (ZaH.1 hb).2.2.1).2
 | x ::a,[],la,_,ha,_,h=>by
   have:=h (indI x.v)
   rw[Zfb ha]at this
   exact absurd this (ZeC (ZaH.1 ha).2.2.1).2
 | x ::a,y ::b,la,lb,ha,hb,h=>by
   have ha':=ZaH.1 ha
   have hb':=ZaH.1 hb
   have fx:=ZeC ha'.2.2.1
   have fy:=ZeC hb'.2.2.1
   rcases Int.lt_trichotomy x.v y.v with hv|hv|hv
   ·have:=h (indI x.v)
    rw[Zfb ha,ZeL (n:=m) (y ::b) x.v (Int.le_refl _) (ZaH.2 ⟨hv,hb'.2⟩)]at this
    exact absurd this fx.2
   ·have hq:=h (indI x.v)
    rw[Zfb ha,hv,Zfb hb]at hq
    have he:x=y:=by
     cases x with|mk u f=>cases y with|mk w g =>
     dsimp only at hv hq fx fy
     rw[Zc1 fx.1,Zc1 fy.1,hq,hv]
    subst he
    congr 1
    refine Zsw a b x.v x.v ha'.2.2.2 hb'.2.2.2 fun g=>?_
    have:=h g
    simp only[dotS]at this
    grind
   ·have:=h (indI y.v)
    rw[Zfb hb,ZeL (n:=n) (x ::a) y.v (Int.le_refl _) (ZaH.2 ⟨hv,ha'.2⟩)]at this
    exact absurd this.symm fy.2
theorem ZpG{n m:Int}{a b:List Zaj}(ha:Zat a n=true)(hb:Zat b m=true)(h:∀ g,dotS g a=dotS g b):a=b:=by
 simp only[Zat,Ya2]at ha hb
 exact Zsw a b _ _ ha.2 hb.2 h
theorem Zpm{a:List Zaj}{f:Zac}(ha:Zat a 1500=true)(hf:okF f=true)(g:Int→Rat):dotS g (Zfq a f)=qOf f*dotS g a:=by
 unfold Zfq
 rw[ha,Bool.true_and]
 split
 ·exact ZrZ g f a
 ·rename_i h
  have h0:qOf f=0:=by
   have:sgnD f=0:=by simpa using h
   simp only[sgnD,hf,if_true]at this
   exact Zf3.1 this
  rw[h0];simp only[dotS];grind
def sumN:Nat→(Nat→Rat)→Rat
 | 0,_=>0
 | n+1,f=>sumN n f+f n
theorem Zbw{f g:Nat→Rat}:∀ n,(∀ i,i<n→f i=g i)→sumN n f=sumN n g
 | 0,_=>rfl
 | n+1,h=>by simp only[sumN,Zbw n (fun i hi=>h i (by omega)),h n (by omega)]
theorem ZcY:∀ n,sumN n (fun _=>0)=0
 | 0=>rfl
 | n+1=>by simp only[sumN,ZcY n];grind
theorem Zhx(f g:Nat→Rat):∀ n,sumN n (fun i=>f i+g i)=sumN n f+sumN n g
 | 0=>by simp only[sumN];grind
 | n+1=>by simp only[sumN,Zhx f g n];grind
theorem ZeV(c:Rat)(f:Nat→Rat):∀ n,sumN n (fun i=>c*f i)=c*sumN n f
 | 0=>by simp only[sumN];grind
 | n+1=>by simp only[sumN,ZeV c f n];grind
theorem Zq8{f g:Nat→Rat}:∀ n,(∀ i,i<n→f i≤g i)→sumN n f≤sumN n g
 | 0,_=>by simp only[sumN];grind
 | n+1,h=>by
   have h1:=Zq8 n (fun i hi=>h i (by omega))
   have h2:=h n (by omega)
   simp only[sumN];grind
theorem ZfZ{c:Rat}{v:Nat}:∀ n,sumN n (fun i=>if i=v then c else 0)=if v<n then c else 0
 | 0=>by simp only[sumN];rw[if_neg (by omega)]
 | n+1=>by
   simp only[sumN,ZfZ n]
   by_cases h:n=v
   ·subst h;rw[if_neg (by omega),if_pos rfl,if_pos (by omega)];grind
   ·rw[if_neg h]
    by_cases h2:v<n
    ·rw[if_pos h2,if_pos (by omega)];grind
    ·rw[if_neg h2,if_neg (by omega)];grind
def Zds(l:List Zaj)(v:Nat):Rat:=dotS (indI v) l
theorem ZiF{N:Nat}(g:Int→Rat):∀ (l:List Zaj),(∀ t∈l,0≤t.v∧t.v<N)→dotS g l=sumN N (fun v=>Zds l v*g v)
 | [],_=>by
   have:(fun v:Nat=>Zds [] v*g v)=fun _=>0:=by funext v;simp only[Zds,dotS];grind
   rw[this,ZcY];rfl
 | t ::l,h=>by
   have ht:=h t Yb7
   have ih:=ZiF g l (fun u hu=>h u (Yb6 _ hu))
   have e:(fun v:Nat=>Zds (t ::l) v*g v)=fun v=>(if v=t.v.toNat then qOf t.f*g t.v else 0)+Zds l v*g v:=by
    funext v
    simp only[Zds,dotS,indI]
    by_cases hv:v=t.v.toNat
    ·rw[if_pos (by omega),if_pos hv,show((v:Nat):Int)=t.v by omega];grind
    ·rw[if_neg (by omega),if_neg hv];grind
   rw[e,Zhx,ZfZ,if_pos (by omega),← ih]
   simp only[dotS]
theorem Zf5{l:List Zaj}{N:Nat}(h:Zat l N=true):∀ t∈l,0≤t.v∧t.v<N:=fun t ht=>⟨(ZbW h ht).1,(ZbW h ht).2.1⟩
def mixG(g:Int→Rat):List RowD→List Zac→Rat
 | w ::r,f ::y=>qOf f*dotS g w.t+mixG g r y
 | _,_=>0
def mixV:List RowD→List Zac→Rat
 | w ::r,f ::y=>qOf f*qOf w.v+mixV r y
 | _,_=>0
theorem ZhD(g:Int→Rat)(y:List Zac):mixG g [] y=0:=by cases y<;>rfl
theorem Zki(y:List Zac):mixV [] y=0:=by cases y<;>rfl
theorem ZhE(g:Int→Rat):∀ (r:List RowD)(y:List Zac)(k:Nat)(w:RowD)(f:Zac),r[k]? =some w→y[k]? =some f→mixG g (r.take (k+1)) (y.take (k+1))=mixG g (r.take k) (y.take k)+qOf f*dotS g w.t
 | [],_,_,_,_,h,_=>by simp at h
 | _ ::_,[],_,_,_,_,h=>by simp at h
 | u ::r,e ::y,0,w,f,h1,h2=>by
   simp at h1 h2;subst h1;subst h2
   simp only[List.take_succ_cons,List.take_zero,mixG];grind
 | u ::r,e ::y,k+1,w,f,h1,h2=>by
   have:=ZhE g r y k w f (by simpa using h1) (by simpa using h2)
   simp only[List.take_succ_cons,mixG]at this ⊢
   rw[this];grind
theorem Zkj:∀ (r:List RowD)(y:List Zac)(k:Nat)(w:RowD)(f:Zac),r[k]? =some w→y[k]? =some f→mixV (r.take (k+1)) (y.take (k+1))=mixV (r.take k) (y.take k)+qOf f*qOf w.v
 | [],_,_,_,_,h,_=>by simp at h
 | _ ::_,[],_,_,_,_,h=>by simp at h
 | u ::r,e ::y,0,w,f,h1,h2=>by
   simp at h1 h2;subst h1;subst h2
   simp only[List.take_succ_cons,List.take_zero,mixV];grind
 | u ::r,e ::y,k+1,w,f,h1,h2=>by
   have:=Zkj r y k w f (by simpa using h1) (by simpa using h2)
   simp only[List.take_succ_cons,mixV]at this ⊢
   rw[this];grind
theorem Zow{N:Nat}(g:Int→Rat):∀ (r:List RowD)(y:List Zac),(∀ w∈r,∀ t∈w.t,0≤t.v∧t.v<N)→mixG g r y=sumN N (fun v=>mixG (indI v) r y*g v)
 | [],y,_=>by simp only[ZhD];rw[show(fun v:Nat=>(0:Rat)*g v)=fun _=>0 by funext v;grind,ZcY]
 | w ::r,[],_=>by
   simp only[mixG];rw[show(fun v:Nat=>(0:Rat)*g v)=fun _=>0 by funext v;grind,ZcY]
 | w ::r,f ::y,h=>by
   have ih:=Zow g r y (fun u hu=>h u (Yb6 _ hu))
   have e:(fun v:Nat=>mixG (indI v) (w ::r) (f ::y)*g v)=fun v=>qOf f*(Zds w.t v*g v)+mixG (indI v) r y*g v:=by
    funext v;simp only[mixG,Zds];grind
   rw[e,Zhx,ZeV,← ZiF g w.t (h w Yb7),← ih]
   simp only[mixG]
def ZaV(n:Nat)(c:Nat→Rat):List Zaj:=(List.range n).filterMap fun(v:Nat)=>if c v=0 then none else some ⟨(v:Int),ofQ (c v)⟩
theorem Zcs(n:Nat)(c:Nat→Rat):ZaV (n+1) c=ZaV n c++(if c n=0 then []else [⟨(n:Int),ofQ (c n)⟩]):=by
 unfold ZaV
 rw[List.range_succ,List.filterMap_append]
 by_cases h:c n=0<;>simp[h]
theorem Zjb{c:Nat→Rat}:∀ (n:Nat),∀ t∈ZaV n c,0≤t.v∧t.v<n
 | 0,t,h=>by simp[ZaV]at h
 | n+1,t,h=>by
   rw[Zcs,Yd5]at h
   rcases h with h|h
   ·have:=Zjb n t h;omega
   ·split at h
    ·cases h
    ·rw[List.mem_singleton]at h;subst h;dsimp only;omega
theorem ZhH{n:Int}{t:Zaj}(h2:t.v<n)(h3:sgnD t.f≠0):∀ (l:List Zaj)(last:Int),goR n last l=true→last<t.v→(∀ u∈l,u.v<t.v)→goR n last (l++[t])=true
 | [],last,_,h,_=>ZaH.2 ⟨h,h2,h3,rfl⟩
 | u ::l,last,k,_,hu=>by
   have k':=ZaH.1 k
   exact ZaH.2 ⟨k'.1,k'.2.1,k'.2.2.1,ZhH h2 h3 l u.v k'.2.2.2 (hu u Yb7) (fun w hw=>hu w (Yb6 _ hw))⟩
theorem ZhZ{c:Nat→Rat}{m:Int}:∀ (n:Nat),(n:Int)≤m→goR m (-1) (ZaV n c)=true
 | 0,_=>rfl
 | n+1,h=>by
   rw[Zcs]
   have ih:=ZhZ (c:=c) (m:=m) n (by omega)
   split
   ·rw[List.append_nil];exact ih
   ·rename_i hc
    exact ZhH (by dsimp only;omega) (ZfE hc) _ _ ih (by dsimp only;omega) (fun u hu=>by have:=Zjb n u hu;dsimp only;omega)
theorem ZfW{c:Nat→Rat}{n:Nat}{m:Int}(h:(n:Int)≤m):Zat (ZaV n c) m=true:=by
 simp only[Zat,Ya2,decide_eq_true_eq]
 exact⟨by omega,ZhZ n h⟩
theorem Zd5(g:Int→Rat)(c:Nat→Rat):∀ n:Nat,dotS g (ZaV n c)=sumN n (fun v=>c v*g v)
 | 0=>rfl
 | n+1=>by
   rw[Zcs,Zc8,Zd5 g c n]
   simp only[sumN]
   split
   ·rename_i h;rw[h];simp only[dotS];grind
   ·simp only[dotS,Zbc];grind
theorem Zla(c:Nat→Rat)(n v:Nat):Zds (ZaV n c) v=if v<n then c v else 0:=by
 unfold Zds
 rw[Zd5]
 have e:(fun u:Nat=>c u*indI v u)=fun u=>if u=v then c v else 0:=by
  funext u
  simp only[indI]
  by_cases h:u=v
  ·subst h;rw[if_pos rfl,if_pos rfl];grind
  ·rw[if_neg (by omega),if_neg h];grind
 rw[e,ZfZ]
theorem ZhY(c:Nat→Rat)(n:Nat):(ZaV n c).length≤n:=by
 unfold ZaV
 have:=List.length_filterMap_le (fun v:Nat=>if c v=0 then none else some (⟨(v:Int),ofQ (c v)⟩:Zaj)) (List.range n)
 rwa [List.length_range]at this
theorem Zm7{l:List Zaj}{n:Nat}(h:Zat l n=true):l=ZaV n (Zds l) :=
 ZpG h (ZfW (Int.le_refl _)) fun g=>by rw[Zd5,ZiF g l (Zf5 h)]
theorem Zo5{l:List Zaj}{n:Nat}(h:Zat l n=true){v:Nat}(hv:n≤v):Zds l v=0:=by
 rw[Zm7 h,Zla,if_neg (by omega)]
def ZcL(a b:List Zaj):Prop:=∀ v:Int,dotS (indI v) a≤dotS (indI v) b
theorem Zb4{n last v:Int}{l:List Zaj}(h:goR n last l=true)(hv:v≤last):dotS (indI v) l=0:=ZeL l last hv h
theorem ZbR(v:Int)(x:Zaj)(l:List Zaj):dotS (indI v) (x ::l)=(if x.v=v then qOf x.f else 0)+dotS (indI v) l:=by
 simp only[dotS,indI]
 by_cases h:x.v=v
 ·rw[if_pos h,if_pos h];grind
 ·rw[if_neg h,if_neg h];grind
theorem ZiN{n last:Int}{x:Zaj}{a b:List Zaj}(ha:goR n last (x ::a)=true)(hb:goR n x.v b=true):ZcL (x ::a) b↔qOf x.f≤0∧ZcL a b:=by
 have ha':=(ZaH.1 ha).2.2.2
 constructor
 ·intro h
  have h0:=h x.v
  rw[ZbR,if_pos rfl,Zb4 ha' (Int.le_refl _),Zb4 hb (Int.le_refl _)]at h0
  refine⟨by grind,fun v=>?_⟩
  have hv:=h v
  rw[ZbR]at hv
  by_cases e:x.v=v
  ·subst e;rw[Zb4 ha' (Int.le_refl _),Zb4 hb (Int.le_refl _)];exact Rat.le_refl
  ·rw[if_neg e]at hv;grind
 ·rintro⟨h0,h⟩ v
  have hv:=h v
  rw[ZbR]
  split<;>grind
theorem Zhm{n last:Int}{y:Zaj}{a b:List Zaj}(ha:goR n y.v a=true)(hb:goR n last (y ::b)=true):ZcL a (y ::b)↔0≤qOf y.f∧ZcL a b:=by
 have hb':=(ZaH.1 hb).2.2.2
 constructor
 ·intro h
  have h0:=h y.v
  rw[ZbR,if_pos rfl,Zb4 hb' (Int.le_refl _),Zb4 ha (Int.le_refl _)]at h0
  refine⟨by grind,fun v=>?_⟩
  have hv:=h v
  rw[ZbR]at hv
  by_cases e:y.v=v
  ·subst e;rw[Zb4 ha (Int.le_refl _),Zb4 hb' (Int.le_refl _)];exact Rat.le_refl
  ·rw[if_neg e]at hv;grind
 ·rintro⟨h0,h⟩ v
  have hv:=h v
  rw[ZbR]
  split<;>grind
theorem ZqB{n la lb:Int}{x y:Zaj}{a b:List Zaj}(ha:goR n la (x ::a)=true)(hb:goR n lb (y ::b)=true)(e:x.v=y.v):ZcL (x ::a) (y ::b)↔qOf x.f≤qOf y.f∧ZcL a b:=by
 have ha':=(ZaH.1 ha).2.2.2
 have hb':=(ZaH.1 hb).2.2.2
 constructor
 ·intro h
  have h0:=h x.v
  rw[ZbR,ZbR,if_pos rfl,if_pos e.symm,Zb4 ha' (Int.le_refl _),Zb4 hb' (by omega)]at h0
  refine⟨by grind,fun v=>?_⟩
  have hv:=h v
  rw[ZbR,ZbR]at hv
  by_cases k:x.v=v
  ·rw[Zb4 ha' (by omega),Zb4 hb' (by omega)];exact Rat.le_refl
  ·rw[if_neg k,if_neg (by omega)]at hv;grind
 ·rintro⟨h0,h⟩ v
  have hv:=h v
  rw[ZbR,ZbR]
  by_cases k:x.v=v
  ·rw[if_pos k,if_pos (by omega)];grind
  ·rw[if_neg k,if_neg (by omega)];grind
theorem Ztk:ZcL [] []:=fun _=>Rat.le_refl
def ZiO(n:Nat)(a b:List Zaj):Bool:=(List.range n).all fun v=>decide (Zds a v≤Zds b v)
theorem ZjS{n:Nat}{a b:List Zaj}(ha:Zat a n=true)(hb:Zat b n=true):ZiO n a b=true↔ZcL a b:=by
 unfold ZiO
 simp only[Ya6,Yd2,decide_eq_true_eq]
 constructor
 ·intro h v
  by_cases h0:0≤v
  ·have e:((v.toNat:Nat):Int)=v:=by omega
   by_cases h1:v.toNat<n
   ·have:=h v.toNat h1;unfold Zds at this;rw[e]at this;exact this
   ·have c1:=Zo5 ha (v:=v.toNat) (by omega)
    have c2:=Zo5 hb (v:=v.toNat) (by omega)
    unfold Zds at c1 c2
    rw[e]at c1 c2
    rw[c1,c2];exact Rat.le_refl
  ·simp only[Zat,Ya2]at ha hb
   rw[Zb4 ha.2 (by omega),Zb4 hb.2 (by omega)];exact Rat.le_refl
 ·intro h v _;exact h v
theorem Zi5{l:List Zaj}{x:List Zac}(h:(Zat l x.length&&okP x)=true):Zde l x=(ofQ (dotD l x),true):=by unfold Zde;rw[h];rfl
theorem ZyR(a b:Rat)(za:(szQ a:Int)≤549755813888)(zb:(szQ b:Int)≤549755813888):Zag Tryz.prog 40 [encF (ofQ a),encF (ofQ b)] (.tup [encF (ofQ (a+b)),dI 0]):=by
 have:=ZvY (ofQ a) (ofQ b) za zb
 rwa [ZkX]at this
theorem ZyQ(a b:Rat)(za:(szQ a:Int)≤549755813888)(zb:(szQ b:Int)≤549755813888):Zag Tryz.prog 70 [encF (ofQ a),encF (ofQ b)] (.tup [encF (ofQ (a*b)),dI 0]):=by
 have:=ZsA (ofQ a) (ofQ b) za zb
 rwa [Zou]at this
set_option maxHeartbeats 16000000
theorem Zl9{k:Int}{d:Rat}(h0:0≤k)(h3:k<3):Zdd k (sgQ d)=true↔(k=0→0≤d)∧(k=1→d≤0)∧(k=2→d=0):=by
 have hk:k=0∨k=1∨k=2:=by omega
 rcases ZbC d with⟨h,e⟩|⟨h,e⟩|⟨h,e⟩<;>rw[e]<;>rcases hk with rfl|rfl|rfl<;>simp[Zdd]<;>grind
theorem Zm2{f:Zac}(h:okF f=true):0≤sgnD f↔0≤qOf f:=by
 have e:sgnD f=sgQ (qOf f):=by simp[sgnD,h]
 rw[e]
 rcases ZbC (qOf f)with⟨h,g⟩|⟨h,g⟩|⟨h,g⟩<;>rw[g]<;>constructor<;>intro h1<;>grind
structure OptD where
 k:Int
 v:Zac
 x:List Zac
 y:List Zac
 d:List Zac
abbrev cO(o:OptD):List D:=[dI o.k,dI o.v.p.s,Zah o.v.p.d,dI o.v.q.s,Zah o.v.q.d,ZaM o.x,ZaM o.y,ZaM o.d]
abbrev encO(o:OptD):D:=.agg (cO o)
def Zfm(s:SysD)(y:List Zac):Bool:=ZaF s&&decide ((y.length:Int)=s.r.length)&&okP y
def ZcF(w:RowD)(f:Zac):Bool:= !(w.k==0&&decide (sgnD f<0)) && !(w.k==1&&decide (sgnD f>0))
def ZcE(s:SysD)(y:List Zac):Bool:=Zfm s y&&(s.r.zip y).all (fun p=>ZcF p.1 p.2)
def mixT(s:SysD)(y:List Zac):List Zaj:=ZaV s.n.toNat (fun v=>mixG (indI v) s.r y)
def ZlO(s:SysD)(y:List Zac):List Zaj×Zac:=if Zfm s y then(mixT s y,ofQ (mixV s.r y))else([],zF)
def Za2(s:SysD)(goal:List Zaj)(y:List Zac):Zac×Bool :=
 if ZcE s y&&Zat goal s.n&&ZiO s.n.toNat (mixT s y) goal then(ofQ (mixV s.r y),true)else(zF,false)
def Zb1(s:SysD)(y:List Zac):Bool:=(Za2 s [] y).2&&decide (sgnD (Za2 s [] y).1>0)
def rayD(s:SysD)(goal:List Zaj)(d:List Zac):Bool :=
 ZaF s&&Zat goal s.n&&decide ((d.length:Int)=s.n)&&okP d&&Zge d&&s.r.all (fun w=>Zdd w.k (sgQ (dotD w.t d)))&&decide (sgQ (dotD goal d)<0)
def Zb7(s:SysD)(goal:List Zaj)(o:OptD):Bool:=ZaF s&&Zat goal s.n &&
 (if o.k=0 then(Za2 s goal o.y).2&&Zba s o.x&&Zfj (Zde goal o.x).1 o.v&&Zfj (Za2 s goal o.y).1 o.v&&o.d.isEmpty
  else if o.k=1 then Zb1 s o.y&&o.x.isEmpty&&o.d.isEmpty&&Zfj o.v zF
  else if o.k=2 then Zba s o.x&&rayD s goal o.d&&o.y.isEmpty&&Zfj o.v zF
  else false)
theorem ZdJ{s:SysD}{y:List Zac}:Zfm s y=true↔ZaF s=true∧y.length=s.r.length∧okP y=true:=by
 simp only[Zfm,Ya2,decide_eq_true_eq,and_assoc]
 constructor
 ·rintro⟨a,b,c⟩;exact⟨a,by omega,c⟩
 ·rintro⟨a,b,c⟩;exact⟨a,by omega,c⟩
theorem Zhz{s:SysD}(h:ZaF s=true):0≤s.n∧s.n≤1500:=by
 simp only[ZaF,Ya2,decide_eq_true_eq]at h;exact⟨h.1.1.1,h.1.1.2⟩
theorem ZdE{s:SysD}(h:ZaF s=true){w:RowD}(hw:w∈s.r):Zat w.t s.n.toNat=true∧0≤w.k∧w.k<3∧okF w.v=true:=by
 have h1:=Ze2 h hw
 have:=(Zhz h).1
 simp only[Zcv,Ya2,decide_eq_true_eq]at h1
 rw[show((s.n.toNat:Nat):Int)=s.n by omega]
 exact⟨h1.1.1.1,h1.1.1.2,h1.1.2,h1.2⟩
theorem ZfG{l:List Zaj}{n:Int}(h:Zat l n=true):Zat l n.toNat=true:=by
 have h0:0≤n:=by simp only[Zat,Ya2,decide_eq_true_eq]at h;exact h.1
 rwa [show((n.toNat:Nat):Int)=n by omega]
theorem Zp6{s:SysD}{goal:List Zaj}{y:List Zac}:(Za2 s goal y).2=true↔ZcE s y=true∧Zat goal s.n=true∧ZiO s.n.toNat (mixT s y) goal=true:=by
 unfold Za2
 split
 ·rename_i h;simp only[Ya2]at h;simp[h.1.1,h.1.2,h.2]
 ·rename_i h
  simp only[Ya2,not_and,Bool.not_eq_true]at h
  simp only[Bool.false_eq_true,false_iff]
  rintro⟨a,b,c⟩
  rw[h ⟨a,b⟩]at c;cases c
theorem Zp5{s:SysD}{goal:List Zaj}{y:List Zac}(h:(Za2 s goal y).2=true):(Za2 s goal y).1=ofQ (mixV s.r y):=by
 unfold Za2 at h ⊢
 split
 ·rfl
 ·rename_i hn;rw[if_neg hn]at h;cases h
theorem Zuz{s:SysD}(h:ZaF s=true):∀ w∈s.r,∀ t∈w.t,0≤t.v∧t.v<(s.n.toNat:Nat):=fun w hw t ht=>Zf5 (ZdE h hw).1 t ht
theorem ZuA{s:SysD}(h:ZaF s=true)(y:List Zac)(g:Int→Rat):dotS g (mixT s y)=mixG g s.r y:=by
 unfold mixT
 rw[Zd5,← Zow g s.r y (Zuz h)]
theorem Ze5{s:SysD}(h:ZaF s=true)(y:List Zac):Zat (mixT s y) s.n.toNat=true:=ZfW (Int.le_refl _)
theorem Zto{x:List Zac}(ho:okP x=true)(hn:Zge x=true)(v:Int):0≤atP x v:=by
 unfold atP
 cases h:x[v.toNat]? with
 | none=>simp only[Option.getD_none];decide +kernel
 | some f =>
   simp only[Option.getD_some]
   have h1:=Ya6.1 ho f (ZaR h)
   have h2:=of_decide_eq_true (Ya6.1 hn f (ZaR h))
   exact(Zm2 h1).1 h2
theorem Ztl{n:Nat}{a b:List Zaj}(ha:Zat a n=true)(hb:Zat b n=true)(h:ZcL a b){g:Int→Rat}(hg:∀ v,0≤g v):dotS g a≤dotS g b:=by
 rw[ZiF g a (Zf5 ha),ZiF g b (Zf5 hb)]
 refine Zq8 n fun v _=>?_
 have h1:=h v
 have h2:=Rat.mul_nonneg (a:=Zds b v-Zds a v) (by unfold Zds;grind) (hg v)
 grind
theorem Zrl{w:RowD}{f:Zac}{d:Rat}(ho:okF f=true)(hs:ZcF w f=true)(h0:0≤w.k)(h3:w.k<3)(hd:Zdd w.k (sgQ d)=true):0≤qOf f*d:=by
 rw[Zl9 h0 h3]at hd
 have e:sgnD f=sgQ (qOf f):=by simp[sgnD,ho]
 simp only[ZcF,Ya2,Bool.not_eq_true',Bool.and_eq_false_iff,beq_eq_false_iff_ne,decide_eq_false_iff_not,e]at hs
 have hk:w.k=0∨w.k=1∨w.k=2:=by omega
 rcases hk with hk|hk|hk
 ·have h1:¬ sgQ (qOf f)<0:=hs.1.resolve_left (fun h=>h hk)
  rw[ZvG]at h1
  exact Rat.mul_nonneg (by grind) (hd.1 hk)
 ·have h1:¬ sgQ (qOf f)>0:=hs.2.resolve_left (fun h=>h hk)
  rw[gt_iff_lt,Zeu]at h1
  have:=Rat.mul_nonneg (a:= -qOf f) (b:= -d) (by grind) (by have:=hd.2.1 hk;grind)
  grind
 ·rw[hd.2.2 hk];grind
theorem ZvQ(x:List Zac):∀ (r:List RowD)(y:List Zac),okP y=true→(∀ w∈r,0≤w.k∧w.k<3)→(r.zip y).all (fun p=>ZcF p.1 p.2)=true→r.all (fun w=>Zgm w x)=true→mixV r y≤mixG (atP x) r y
 | [],y,_,_,_,_=>by rw[ZhD,Zki];exact Rat.le_refl
 | _ ::_,[],_,_,_,_=>by simp only[mixG,mixV];exact Rat.le_refl
 | w ::r,f ::y,ho,hk,hs,hh=>by
   simp only[okP,List.all_cons,Ya2]at ho
   simp only[List.zip_cons_cons,List.all_cons,Ya2]at hs hh
   have ih:=ZvQ x r y ho.2 (fun u hu=>hk u (Yb6 _ hu)) hs.2 hh.2
   have h1:=Zrl ho.1 hs.1 (hk w Yb7).1 (hk w Yb7).2 hh.1
   rw[ZgW]at h1
   simp only[mixG,mixV]
   grind
theorem Ztg{s:SysD}{goal:List Zaj}{y x:List Zac}(hl:(Za2 s goal y).2=true)(hx:Zba s x=true):mixV s.r y≤dotD goal x:=by
 obtain⟨h1,h2,h3⟩:=Zp6.1 hl
 simp only[ZcE,Ya2]at h1
 obtain⟨hr,hlen,ho⟩:=ZdJ.1 h1.1
 simp only[Zba,Ya2,decide_eq_true_eq]at hx
 have a:=ZvQ x s.r y ho (fun w hw=>⟨(ZdE hr hw).2.1,(ZdE hr hw).2.2.1⟩) h1.2 hx.2
 have hg:=ZfG h2
 have b:=Ztl (Ze5 hr y) hg ((ZjS (Ze5 hr y) hg).1 h3) (fun v=>Zto hx.1.1.2 hx.1.2 v)
 rw[ZuA hr]at b
 rw[ZgW]
 grind
theorem ZpM{s:SysD}{y x:List Zac}(h:Zb1 s y=true):Zba s x=false:=by
 cases hx:Zba s x
 ·rfl
 ·simp only[Zb1,Ya2,decide_eq_true_eq]at h
  have h1:=Ztg h.1 hx
  rw[Zp5 h.1,Ze0,gt_iff_lt,Zeu]at h
  have:dotD [] x=0:=rfl
  grind
theorem Zqf{s:SysD}{x:List Zac}:Zba s x=true↔ZaF s=true∧(x.length:Int)=s.n∧okP x=true∧Zge x=true∧s.r.all (fun w=>Zgm w x)=true:=by
 simp only[Zba,Ya2,decide_eq_true_eq,and_assoc]
structure PlD where
 k:Int
 h:Int
 m:Int
structure MvD where
 d:Int
 f:Int
 t:Int
 s:Int
 r:Int
 a:Bool
structure PuD where
 v:Int
 m:Int
 lo:Int
 hi:Int
structure EvD where
 m:Int
 h:Int
 s:Int
 pl:List PlD
 mv:List MvD
 ce:List Zca
 re:List RecD
 pu:List PuD
structure FiD where
 v:Int
 k:Int
 g:Int
structure ClD where
 v:Int
 k:Int
structure TrD where
 e:EvD
 fi:List FiD
 cl:List ClD
abbrev cPl(p:PlD):List D:=[dI p.k,dI p.h,dI p.m]
abbrev cMv(x:MvD):List D:=[dI x.d,dI x.f,dI x.t,dI x.s,dI x.r,dB x.a]
abbrev cPu(x:PuD):List D:=[dI x.v,dI x.m,dI x.lo,dI x.hi]
abbrev ZoY(l:List PlD):D:=.sl (l.map cPl)
abbrev Zfv(l:List MvD):D:=.sl (l.map cMv)
abbrev ZjK(l:List PuD):D:=.sl (l.map cPu)
abbrev cEv(e:EvD):List D:=[dI e.m,dI e.h,dI e.s,ZoY e.pl,Zfv e.mv,Zmi e.ce,Zgt e.re,ZjK e.pu]
abbrev Zej(e:EvD):D:=.agg (cEv e)
def idx(i n:Int):Bool:=decide (0≤i)&&decide (i<n)
def Zdc(e:EvD):Bool:=decide (e.m>6)||(decide (e.h>100)||(decide (e.s>30)||(decide ((e.pl.length:Int)>100)||(decide ((e.mv.length:Int)>200)||(decide ((e.ce.length:Int)>100)||(decide ((e.re.length:Int)>30)||decide ((e.pu.length:Int)>200)))))))
def okPl(h m:Int)(p:PlD):Bool:=idx p.k 7&&(if p.k=0 then idx p.h h&&idx p.m m else p.h == -1&&p.m == -1)
def Zcx(e:EvD)(p:Int):Int:=((e.pl[p.toNat]?).map PlD.k).getD (-1)
def okMv(e:EvD)(x:MvD):Bool :=
 idx x.f e.pl.length&&(idx x.t e.pl.length&&(x.f !=x.t&&(!(Zcx e x.f==5)&&(!(Zcx e x.f==6)&&(!(Zcx e x.f==0&&x.a)&&(!(Zcx e x.t==0) &&
 (if x.s = -1 then x.r==0 else idx x.s e.s&&(decide (0≤x.r)&&decide (x.r≤1099511627776)))))))))
def okCe(s:Int)(c:Zca):Bool:=(decide (0≤c.f)&&(decide (c.f≤c.u)&&decide (c.u≤100000)))&&(idx c.s s&&((decide (0≤c.g)&&decide (c.g≤1099511627776))&&((decide (0≤c.p)&&decide (c.p≤1000))&&(decide (0≤c.d)&&decide (c.d≤10000000)))))
def okRe(s:Int)(c:RecD):Bool:=idx c.s s&&(decide (0≤c.d)&&decide (c.d≤100000))
def okPu(n m:Int)(p:PuD):Bool:=idx p.v n&&(idx p.m m&&(decide (0≤p.lo)&&(decide (p.lo≤p.hi)&&decide (p.hi≤1000))))
def ZfF(e:EvD):Bool:=e.ce.all (okCe e.s)&&(e.re.all (okRe e.s)&&e.pu.all (okPu e.mv.length e.m))
def ZcJ(e:EvD):Int→List MvD→Int
 | _,[]=>0
 | last,x ::l=>if x.d<last∨x.d>100000 then 17 else if okMv e x=true then ZcJ e x.d l else 1
def argE(e:EvD):Bool:=decide (1≤e.m)&&(decide (0≤e.h)&&(decide (0≤e.s)&&e.pl.all (okPl e.h e.m)))
def Zix(e:EvD):Int:=if Zdc e then 6 else if argE e then(if ZcJ e 0 e.mv=0 then(if ZfF e then 0 else 1)else ZcJ e 0 e.mv)else 1
structure OkMv (e:EvD) (x:MvD):Prop where
 f:0≤x.f∧x.f<e.pl.length
 t:0≤x.t∧x.t<e.pl.length
 ne:x.f≠x.t
 k5:Zcx e x.f≠5
 bin:Zcx e x.f=0→x.a=false
 tob:Zcx e x.t≠0
 s:x.s ≠ -1→(0≤x.s∧x.s<e.s)∧0≤x.r∧x.r≤1099511627776
 d:0≤x.d∧x.d≤100000
structure Zd2 (e:EvD):Prop where
 m:1≤e.m∧e.m≤6
 h:0≤e.h∧e.h≤100
 s:0≤e.s∧e.s≤30
 lp:(e.pl.length:Int)≤100
 lm:(e.mv.length:Int)≤200
 lc:(e.ce.length:Int)≤100
 lr:(e.re.length:Int)≤30
 lu:(e.pu.length:Int)≤200
 pl:∀ p∈e.pl,okPl e.h e.m p=true
 mv:∀ x∈e.mv,OkMv e x
 ce:∀ c∈e.ce,okCe e.s c=true
 re:∀ c∈e.re,okRe e.s c=true
 pu:∀ p∈e.pu,okPu e.mv.length e.m p=true
theorem Zum{e:EvD}{x:MvD}(h:okMv e x=true)(d0:0≤x.d)(d1:x.d≤100000):OkMv e x:=by
 simp only[okMv,idx,Ya2,decide_eq_true_eq,bne_iff_ne,Bool.not_eq_true',beq_eq_false_iff_ne,Bool.and_eq_false_iff]at h
 obtain⟨a,b,c,d,e',f,g,i⟩:=h
 refine⟨a,b,c,d,fun hk=>by rcases f with f|f;exact absurd hk f;exact f,g,fun hs=>?_,d0,d1⟩
 rw[if_neg hs]at i
 simp only[Ya2,decide_eq_true_eq]at i
 exact i
theorem Zov{e:EvD}:∀ (l:List MvD)(last:Int),0≤last→ZcJ e last l=0→∀ x∈l,OkMv e x
 | [],_,_,_,x,hx=>by cases hx
 | y ::l,last,h0,h,x,hx=>by
   unfold ZcJ at h
   split at h
   ·omega
   ·rename_i h1
    split at h
    ·rename_i h2
     have hy:=Zum h2 (by omega) (by omega)
     rcases List.mem_cons.1 hx with rfl|hx
     ·exact hy
     ·exact Zov l y.d (by omega) h x hx
    ·omega
theorem ZfP{e:EvD}(h:Zix e=0):Zd2 e:=by
 unfold Zix at h
 split at h
 ·omega
 rename_i h1
 split at h
 ·rename_i h2
  split at h
  ·rename_i h3
   split at h
   ·rename_i h4
    simp only[Zdc,Bool.or_eq_true,decide_eq_true_eq,not_or]at h1
    simp only[argE,Ya2,decide_eq_true_eq,Ya6]at h2
    simp only[ZfF,Ya2,Ya6]at h4
    obtain⟨a,b,c,d,e1,f,g,i⟩:=h1
    exact⟨⟨h2.1,by omega⟩,⟨h2.2.1,by omega⟩,⟨h2.2.2.1,by omega⟩,by omega,by omega,by omega,by omega,by omega,h2.2.2.2,Zov _ 0 (Int.le_refl _) h3,h4.1,h4.2.1,h4.2.2⟩
   ·omega
  ·rename_i h3;exact absurd h h3
 ·omega
structure Zx5 (t:TrD):Prop where
 e:Zd2 t.e
 lf:(t.fi.length:Int)≤20
 lc:(t.cl.length:Int)≤50
 fi:∀ x∈t.fi,(0≤x.v∧x.v<t.e.mv.length)∧(0≤x.k∧x.k<8)∧1≤x.g∧x.g≤1099511627776
 cl:∀ x∈t.cl,(0≤x.v∧x.v<t.e.mv.length)∧0≤x.k∧x.k<8
def mvAt(e:EvD)(i:Nat):MvD:=(e.mv[i]?).getD ⟨0,0,0,0,0,false⟩
def ZiM(e:EvD)(i:Nat):Bool:=Zcx e (mvAt e i).f==0
structure AbD where
 hi:Zac
 cap:Bool
 fi:List Int
 cl:Int
def hiI(e:EvD)(x:MvD):Zac×Bool:=if x.s = -1 then(zF,false)else((intD e.ce e.re x.s x.r x.d).hi,(intD e.ce e.re x.s x.r x.d).ok)
def finK(t:TrD)(kind:Int)(i:Nat):List Int:=(t.fi.filter fun f=>f.k==kind&&f.v==(i:Int)).map FiD.g
def cleK(t:TrD)(kind:Int)(i:Nat):Nat:=(t.cl.filter fun f=>f.k==kind&&f.v==(i:Int)).length
set_option linter.constructorNameAsVariable false
section
variable {n:Nat} {x:List D}
theorem Zir{α:Type}{T e:TypeId}{f:α→List D}(hu:Tryz.prog.underlying T=some (.slice e))(he:∀ x,Zbh Tryz.prog n e x→∃ a,x=f a)(h:Zbh Tryz.prog (n+1) T x):∃ l:List α,x=[.sl (l.map f)]:=by
 unfold Zbh at h
 simp only[hu]at h
 obtain⟨es,rfl,_,h⟩:=h
 obtain⟨l,rfl⟩:=Zcj (f:=f) (fun x hx=>he x (h x hx))
 exact⟨l,rfl⟩
theorem Zvs(h:Zbh Tryz.prog (n+1) 4 x):∃ a,x=[dB a]:=by
 unfold Zbh at h
 simp only[Tryz.underlying4]at h
 exact h
theorem Zt7(h:Zbh Tryz.prog (n+2) 154 x):∃ p,x=cPl p:=by
 unfold Zbh at h
 simp only[Tryz.underlying154,List.foldr]at h
 obtain⟨_,_,rfl,h1,_,_,rfl,h2,_,_,rfl,h3,rfl⟩:=h
 obtain⟨a,rfl⟩:=Zbg h1
 obtain⟨b,rfl⟩:=Zbg h2
 obtain⟨c,rfl⟩:=Zbg h3
 exact⟨⟨a,b,c⟩,rfl⟩
theorem Zzc(h:Zbh Tryz.prog (n+2) 93 x):∃ p,x=cMv p:=by
 unfold Zbh at h
 simp only[Tryz.underlying93,List.foldr]at h
 obtain⟨_,_,rfl,h1,_,_,rfl,h2,_,_,rfl,h3,_,_,rfl,h4,_,_,rfl,h5,_,_,rfl,h6,rfl⟩:=h
 obtain⟨a,rfl⟩:=Zbg h1
 obtain⟨b,rfl⟩:=Zbg h2
 obtain⟨c,rfl⟩:=Zbg h3
 obtain⟨d,rfl⟩:=Zbg h4
 obtain⟨e,rfl⟩:=Zbg h5
 obtain⟨f,rfl⟩:=Zvs h6
 exact⟨⟨a,b,c,d,e,f⟩,rfl⟩
theorem Zvo(h:Zbh Tryz.prog (n+2) 215 x):∃ p,x=cC p:=by
 unfold Zbh at h
 simp only[Tryz.underlying215,List.foldr]at h
 obtain⟨_,_,rfl,h1,_,_,rfl,h2,_,_,rfl,h3,_,_,rfl,h4,_,_,rfl,h5,_,_,rfl,h6,rfl⟩:=h
 obtain⟨a,rfl⟩:=Zbg h1
 obtain⟨b,rfl⟩:=Zbg h2
 obtain⟨c,rfl⟩:=Zbg h3
 obtain⟨d,rfl⟩:=Zbg h4
 obtain⟨e,rfl⟩:=Zbg h5
 obtain⟨f,rfl⟩:=Zbg h6
 exact⟨⟨a,b,c,d,e,f⟩,rfl⟩
theorem ZwD(h:Zbh Tryz.prog (n+2) 217 x):∃ p,x=cRe p:=by
 unfold Zbh at h
 simp only[Tryz.underlying217,List.foldr]at h
 obtain⟨_,_,rfl,h1,_,_,rfl,h2,rfl⟩:=h
 obtain⟨a,rfl⟩:=Zbg h1
 obtain⟨b,rfl⟩:=Zbg h2
 exact⟨⟨a,b⟩,rfl⟩
theorem ZwG(h:Zbh Tryz.prog (n+2) 158 x):∃ p,x=cPu p:=by
 unfold Zbh at h
 simp only[Tryz.underlying158,List.foldr]at h
 obtain⟨_,_,rfl,h1,_,_,rfl,h2,_,_,rfl,h3,_,_,rfl,h4,rfl⟩:=h
 obtain⟨a,rfl⟩:=Zbg h1
 obtain⟨b,rfl⟩:=Zbg h2
 obtain⟨c,rfl⟩:=Zbg h3
 obtain⟨d,rfl⟩:=Zbg h4
 exact⟨⟨a,b,c,d⟩,rfl⟩
theorem ZxC(h:Zbh Tryz.prog (n+5) 28 x):∃ e,x=cEv e:=by
 unfold Zbh at h
 simp only[Tryz.underlying28,List.foldr]at h
 obtain⟨_,_,rfl,h1,_,_,rfl,h2,_,_,rfl,h3,_,_,rfl,h4,_,_,rfl,h5,_,_,rfl,h6,_,_,rfl,h7,_,_,rfl,h8,rfl⟩:=h
 obtain⟨a,rfl⟩:=Zbg h1
 obtain⟨b,rfl⟩:=Zbg h2
 obtain⟨c,rfl⟩:=Zbg h3
 obtain⟨d,rfl⟩:=Zir (f:=cPl) Tryz.underlying22 (fun x h=>Zt7 h) h4
 obtain⟨e,rfl⟩:=Zir (f:=cMv) Tryz.underlying23 (fun x h=>Zzc h) h5
 obtain⟨f,rfl⟩:=Zir (f:=cC) Tryz.underlying24 (fun x h=>Zvo h) h6
 obtain⟨g,rfl⟩:=Zir (f:=cRe) Tryz.underlying25 (fun x h=>ZwD h) h7
 obtain⟨i,rfl⟩:=Zir (f:=cPu) Tryz.underlying26 (fun x h=>ZwG h) h8
 exact⟨⟨a,b,c,d,e,f,g,i⟩,rfl⟩
end
def stN(e:EvD)(f:Nat→Rat)(p:Int)(n:Nat):Rat:=sumN n fun j=>if (mvAt e j).t=p then f j else if (mvAt e j).f=p then -(f j)else 0
structure SolT (t:TrD) (kind:Int) (f:Nat→Rat):Prop where
 pos:∀ i,i<t.e.mv.length→0≤f i
 st:∀ i,i<t.e.mv.length→ZiM t.e i=false→f i≤stN t.e f (mvAt t.e i).f i
 all:∀ i,i<t.e.mv.length→ZiM t.e i=false→(mvAt t.e i).a=true→f i=stN t.e f (mvAt t.e i).f i
 cap:∀ i,i<t.e.mv.length→(hiI t.e (mvAt t.e i)).2=true→f i≤qOf (hiI t.e (mvAt t.e i)).1
 fin:∀ i,i<t.e.mv.length→∀ g∈finK t kind i,(g:Rat)≤f i
 cle:∀ i,i<t.e.mv.length→0<cleK t kind i→f i=0
structure NextR (e:EvD) (blk:Nat→Bool) (j i:Nat):Prop where
 lt:j<i
 n:i<e.mv.length
 at':(mvAt e i).f=(mvAt e j).t
 blk:blk i=false
 all:∀ k,j<k→k<i→(mvAt e k).f=(mvAt e j).t→(mvAt e k).a=false
inductive Reach (e:EvD) (blk:Nat→Bool) (l:Nat):Nat→Prop
 | refl:Reach e blk l l
 | step {j i:Nat}:Reach e blk l j→NextR e blk j i→Reach e blk l i
theorem ZrX{e:EvD}{i:Nat}{x:MvD}(h:e.mv[i]? =some x):mvAt e i=x:=by unfold mvAt;rw[h];rfl
theorem Zot{e:EvD}{i:Nat}(h:i<e.mv.length):mvAt e i∈e.mv:=by
 rw[ZrX (Ya0 h)];exact List.getElem_mem h
section
variable {t:TrD} {kind:Int} {f:Nat→Rat} (R:Zd2 t.e) (S:SolT t kind f)
include R
include S
end
def atG(x:List Zac)(g:List Zaj):Rat:=dotD g x
end Go.Proofs.YtblamlnjbjaokaaGreat
