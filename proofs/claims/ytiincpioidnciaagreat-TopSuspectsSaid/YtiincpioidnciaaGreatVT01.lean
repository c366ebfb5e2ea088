/-
  Holds of linear and of the reference.
-/
import Derived.Test.YtiincpioidnciaaGreatVLib
import Derived.Test.YtiincpioidnciaaGreatVT00
import Derived.Test.YtiincpioidnciaaGreatVConv
import Derived.TacticsIn
namespace Go.Proofs.YtiincpioidnciaaGreat
set_option linter.unusedVariables false
set_option linter.unusedSimpArgs false
set_option linter.unusedSectionVars false
open Go Go.RowKit
set_option maxRecDepth 100000
set_option maxHeartbeats 2000000
theorem ZhI{s:SysD}{x:List Zag}(h:(Zao s&&decide ((x.length:Int)=s.n)&&okP x&&Zee x)=false):D.v (.bool false)=dB (ZaI s x):=Zaj (by unfold ZaI;rw[h];rfl)
theorem Zll{s:SysD}{x:List Zag}{k:Nat}{w:RowD}(hx:s.r[k]? =some w)(h:Zb4 w x=false):D.v (.bool false)=dB (ZaI s x):=Zaj (by unfold ZaI;rw[ZcC (p:=fun w=>Zb4 w x) hx h,Bool.and_false])
theorem ZnC{s:SysD}{x:List Zag}(h:Zao s=true)(hn:(x.length:Int)=s.n){k:Nat}{w:RowD}(hx:s.r[k]? =some w):Zai w.t x.length=true∧okF w.v=true:=by
 have:=ZdE h (ZaK hx)
 simp only[Zcs,Ya2]at this
 rw[hn]
 exact⟨this.1.1.1,this.2⟩
theorem ZwQ(s:SysD)(x:List Zag)(hs:smS s)(hxs:smFs x):Zae Tryz.prog 92 [encS s,ZbW x] (dB (ZaI s x)):=by
 have Zr:=Tryz.results92
 have hl:=Zoz hs
 have hlx:=Zge hxs
 have k1:=ZdS s hs
 have k2:=ZqC x hxs
 cases h1:Zao s
 ·rw[h1]at k1
  refine inC Tryz.func92 rfl Tryz.ntmps92 ?_
  refine aGo Zr ?_
  repeat with_reducible intro K hK
  exact ZhI (by rw[h1];rfl)
 rw[h1]at k1
 cases h2:(x.length:Int) !=s.n
 rotate_left
 ·refine inC Tryz.func92 rfl Tryz.ntmps92 ?_
  refine aGo (cj2 Zr h2) ?_
  repeat with_reducible intro K hK
  exact ZhI (by simp at h2;simp[h2])
 have hn:(x.length:Int)=s.n:=by simpa using h2
 cases h3:okP x
 ·rw[h3]at k2
  refine inC Tryz.func92 rfl Tryz.ntmps92 ?_
  refine aGo (cj2 Zr h2) ?_
  repeat with_reducible intro K hK
  exact ZhI (by rw[h3];simp)
 rw[h3]at k2
 refine inC Tryz.func92 rfl Tryz.ntmps92 ?_
 refine aGo (cj2 Zr h2) ?_
 repeat with_reducible intro K hK
 refine ZaF (fun(k:Nat)=>[(0,encS s),(1,ZbW x),(2,.lp 0 0 0 0),(25,ZbW x),(26,dI x.length),(27,dI k)]) (fun k=>[(0,⟨88,0,2,[cS s],0,false⟩)]) 1 0 (fun k=>k≤x.length∧(x.take k).all (fun f=>decide (0≤sgnD f))=true) (fun k=>x.length-k) 0 ⟨by omega,rfl⟩ ?_ ?_
 ·exact leGo trivial
 ·rintro k ⟨hk,hg⟩
  obtain⟨hw,h0⟩:=ZaR k
  by_cases h4:(k:Int)<x.length
  ·obtain⟨f,hx⟩:=getE (l:=x) (k:=k) (by omega)
   have k3:=ZdU f (ZgP (hxs.2 f (ZaK hx)))
   by_cases h5:sgnD f<0
   ·refine aGo (cj4 Zr h0 h4 (cj3 hx hw h5)) ?_
    repeat with_reducible intro K hK
    exact ZhI (by rw[show Zee x=false from ZcC hx (by simp;omega),Bool.and_false])
   ·refine aGo (cj4 Zr h0 h4 (cj3 hx hw h5)) ?_
    repeat with_reducible intro K hK
    exact Zaf (k+1) ⟨by omega,ZaH hx hg (by simp;omega)⟩ (by omega) (by exact leGo trivial)
  ·rw[Ya8 (by omega)]at hg
   refine aGo (cj2 Zr h4) ?_
   repeat with_reducible intro K hK
   refine ZaF (fun(k:Nat)=>[(1,ZbW x),(36,Zsn s.r),(37,dI s.r.length),(38,dI k)]) (fun k=>[]) 0 0 (fun k=>k≤s.r.length∧(s.r.take k).all (fun w=>Zb4 w x)=true) (fun k=>s.r.length-k) 0 ⟨by omega,rfl⟩ ?_ ?_
   ·exact leGo trivial
   ·rintro k ⟨hk,hr⟩
    obtain⟨hw,h0⟩:=ZaR k
    by_cases h4:(k:Int)<s.r.length
    ·obtain⟨w,hx⟩:=getE (l:=s.r) (k:=k) (by omega)
     obtain⟨h6,h7⟩:=ZnC h1 hn hx
     have sm:=hs.2 w (ZaK hx)
     have k3:=ZqA w.t x sm.1 hxs h6 h3
     have k4:=ZdG (ofQ (dotD w.t x)) w.v (by have:=Zos w x sm.1 hxs h6 h3;omega) (ZgP sm.2)
     rw[show cmpD (ofQ (dotD w.t x)) w.v=sgQ (dotD w.t x-qOf w.v) by simp[cmpD,Zbi,ZaE,h7]]at k4
     have hd:Zb4 w x=Zdy w.k (sgQ (dotD w.t x-qOf w.v)):=rfl
     generalize sgQ (dotD w.t x-qOf w.v)=c at *
     by_cases g1:c<0
     ·have g3:¬ c>0:=by omega
      have g4:(c==0)=false:=by simp;omega
      cases g2:w.k !=1
      ·refine aGo (cj4 Zr h0 h4 (cj4 hx hw g1 (cj2 g2 g3))) ?_
       repeat with_reducible intro K hK
       exact Zaf (k+1) ⟨by omega,ZaH hx hr (by rw[hd];simp at g2;simp[Zdy,g2];omega)⟩ (by omega) (by exact leGo trivial)
      ·refine aGo (cj4 Zr h0 h4 (cj4 hx hw g1 (cj2 g2 g3))) ?_
       repeat with_reducible intro K hK
       exact Zll hx (by rw[hd];simp at g2;simp[Zdy,g2];omega)
     by_cases g3:c>0
     ·cases g2:w.k !=0
      ·refine aGo (cj4 Zr h0 h4 (cj4 hx hw g1 (cj2 g2 g3))) ?_
       repeat with_reducible intro K hK
       exact Zaf (k+1) ⟨by omega,ZaH hx hr (by rw[hd];simp at g2;simp[Zdy,g2];omega)⟩ (by omega) (by exact leGo trivial)
      ·refine aGo (cj4 Zr h0 h4 (cj4 hx hw g1 (cj2 g2 g3))) ?_
       repeat with_reducible intro K hK
       exact Zll hx (by rw[hd];simp at g2;simp[Zdy,g2];omega)
     ·refine aGo (cj4 Zr h0 h4 (cj4 hx hw g1 g3)) ?_
      repeat with_reducible intro K hK
      exact Zaf (k+1) ⟨by omega,ZaH hx hr (by rw[hd];simp[Zdy];omega)⟩ (by omega) (by exact leGo trivial)
    ·refine aGo (cj2 Zr h4) ?_
     repeat with_reducible intro K hK
     rw[Ya8 (by omega)]at hr
     exact Zaj (by simp[ZaI,h1,hn,h3,hr];exact hg)
def mulT(f:Zag)(t:Zah):Zah:=⟨t.v,ofQ (qOf t.f*qOf f)⟩
def Zfy(l:List Zah)(f:Zag):List Zah:=if Zai l 1500&&sgnD f !=0 then l.map (mulT f)else []
theorem ZmD{l:List Zah}{f:Zag}(h:(Zai l 1500&&sgnD f !=0)=false):D.sl []=Zbs (Zfy l f):=by unfold Zfy;rw[h];rfl
theorem Zrj{l:List Zah}{f:Zag}(h1:Zai l 1500=true)(h2:(sgnD f !=0)=true):Zfy l f=l.map (mulT f):=by unfold Zfy;rw[h1,h2];rfl
theorem Zl5{α β:Type}(g:α→β){l:List α}{k:Nat}{x:α}(hx:l[k]? =some x):(l.take (k+1)).map g=(l.take k).map g++[g x]:=by
 rw[Yb4,hx];simp
def outT(l:List Zah)(f:Zag)(k:Nat):List Zah:=(l.take k).map (mulT f)
theorem ZtO{l:List Zah}(f:Zag){k:Nat}{t:Zah}(ht:l[k]? =some t):outT l f (k+1)=outT l f k++[⟨t.v,ofQ (qOf t.f*qOf f)⟩]:=Zl5 _ ht
theorem Zwp(l:List Zah)(f:Zag)(k:Nat):(outT l f k).length≤l.length:=by
 unfold outT;rw[Yc0];exact List.length_take_le' k l
theorem ZtN(l:List Zah)(f:Zag):outT l f 0=[]:=rfl
theorem Zwq{l:List Zah}{f:Zag}(h1:Zai l 1500=true)(h2:(sgnD f !=0)=true):outT l f l.length=Zfy l f:=by
 unfold outT;rw[Yc2,Zrj h1 h2]
theorem ZaG{α:Type}{f:α→List D}{g:D→D}(h:∀ a,List.map g (f a)=f a)(l:List α):List.map (List.map g) (List.map f l)=List.map f l:=by
 rw[List.map_map]
 exact List.map_congr_left fun a _=>h a
theorem Zxa(m:Mem)(n:Nat)(l:List Zah):D.sl (List.map (List.map (fzT true m (n+1))) (List.map cT l))=Zbs l:=by rw[ZaG (fun _=>rfl)]
theorem ZqB(l:List Zah)(f:Zag)(hs:smT l)(hf:smF f):Zae Tryz.prog 96 [Zbs l,encF f] (Zbs (Zfy l f)):=by
 have Zr:=Tryz.results96
 have hl:=Zoy hs
 have k1:=Zfm l 1500 hs
 have k2:=ZdU f (ZgP hf)
 cases h1:Zai l 1500
 ·rw[h1]at k1
  refine inC Tryz.func96 rfl Tryz.ntmps96 ?_
  refine aGo Zr ?_
  repeat with_reducible intro K hK
  exact ZmD (by rw[h1];rfl)
 rw[h1]at k1
 cases h2:sgnD f==0
 rotate_left
 ·refine inC Tryz.func96 rfl Tryz.ntmps96 ?_
  refine aGo (cj2 Zr h2) ?_
  repeat with_reducible intro K hK
  exact ZmD (by simp at h2;simp[h2])
 have h2':(sgnD f !=0)=true:=by simp at h2;simp[h2]
 have hok:okF f=true:=by
  cases ho:okF f
  ·rw[ZoE ho]at h2';cases h2'
  ·rfl
 refine inC Tryz.func96 rfl Tryz.ntmps96 ?_
 refine aGo (cj2 Zr h2) ?_
 repeat with_reducible intro K hK
 refine aLe (Zef 5 144 5 rfl) ?_
 refine ZaF (fun(k:Nat)=>[(3,.lp 0 0 0 0),(5,.ls 1 k),(18,Zbs l),(19,dI l.length),(20,dI k)]) (fun k=>[(0,⟨35,0,4,[cF f],0,false⟩),(1,⟨144,k,5,(outT l f k).map cT,0,false⟩)]) 2 0 (fun k=>k≤l.length) (fun k=>l.length-k) 0 (by omega) ?_ ?_
 ·exact leGo ZtN
 ·rintro k hk
  obtain⟨hw,h0⟩:=ZaR k
  by_cases h3:(k:Int)<l.length
  ·obtain⟨t,ht⟩:=getE (l:=l) (k:=k) (by omega)
   obtain⟨_,_,h4,_⟩:=ZaY h1 (ZaK ht)
   have k3:=ZuG t.f f (ZgP (hs.2 t (ZaK ht))) (ZgP hf)
   rw[show mulD t.f f=(ofQ (qOf t.f*qOf f),0) by simp[mulD,h4,hok]]at k3
   have hn:=ZtO f ht
   have hlen:(outT l f k).length≤4096:=by have:=Zwp l f k;omega
   refine aGo (cj4 Zr h0 h3 (cj2 ht hw)) ?_
   repeat with_reducible intro K hK
   exact Zaf (k+1) (by omega) (by omega) (by exact leGo hn)
  ·have e:k=l.length:=by omega
   subst e
   rw[Zwq h1 h2']
   refine aGo (cj2 Zr h3) ?_
   repeat with_reducible intro K hK
   exact Zxa _ _ _
theorem Zcy(l:List Zah):List.take l.length (List.map cT l)=List.map cT l:=Ya8 (by simp)
structure PlusX where
 a:List Zah
 b:List Zah
 o:List Zah
set_option maxHeartbeats 4000000
structure PlusI where
 i:Nat
 k:Nat
 o:List Zah
abbrev q1(n:Int):Rat:=Rat.divInt n 1
abbrev fq(n:Int):Zag:=ofQ (q1 n)
set_option maxHeartbeats 8000000
theorem Zc4(f:Zag):Zeq f f=true:=by cases f;simp[Zeq,ZeH]
theorem Zhe{f g:Zag}:Zeq f g=true↔f=g:=by
 cases f;cases g
 simp[Zeq,ZeH]
def dotS(g:Int→Rat):List Zah→Rat
 | []=>0
 | t ::l=>qOf t.f*g t.v+dotS g l
theorem ZdZ(g:Int→Rat):∀ l m:List Zah,dotS g (l++m)=dotS g l+dotS g m
 | [],m=>by simp[dotS];grind
 | t ::l,m=>by simp only[Yc9,dotS,ZdZ g l m];grind
theorem ZnH(g:Int→Rat):∀ (l:List Zah)(z:Rat),l.foldl (fun a t=>a+qOf t.f*g t.v) z=z+dotS g l
 | [],z=>by simp only[List.foldl_nil,dotS];grind
 | t ::l,z=>by simp only[List.foldl_cons,dotS];rw[ZnH g l];grind
theorem Zc9(l:List Zah)(x:List Zag):dotD l x=dotS (atP x) l:=by
 unfold dotD;rw[ZnH];grind
theorem Zuc(g:Int→Rat)(f:Zag):∀ l:List Zah,dotS g (l.map (mulT f))=qOf f*dotS g l
 | []=>by simp only[List.map_nil,dotS];grind
 | t ::l=>by simp only[List.map_cons,dotS,mulT,ZaE,Zuc g f l];grind
theorem ZaN{n last:Int}{t:Zah}{l:List Zah}:goR n last (t ::l)=true↔last<t.v∧t.v<n∧sgnD t.f≠0∧goR n t.v l=true:=by
 simp[goR,and_assoc]
theorem ZzO{n last last':Int}(h:last'≤last):∀ {l:List Zah},goR n last l=true→goR n last' l=true
 | [],_=>rfl
 | t ::l,k=>by
   rw[ZaN]at k ⊢
   exact⟨by omega,k.2.1,k.2.2.1,k.2.2.2⟩
theorem ZqM{n n' last:Int}(h:n≤n'):∀ {l:List Zah} {last:Int},goR n last l=true→goR n' last l=true
 | [],_,_=>rfl
 | t ::l,_,k=>by
   rw[ZaN]at k ⊢
   exact⟨k.1,by omega,k.2.2.1,ZqM (last:=t.v) h k.2.2.2⟩
theorem ZoI{n n':Int}(h:n≤n'){l:List Zah}(k:Zai l n=true):Zai l n'=true:=by
 simp only[Zai,Ya2,decide_eq_true_eq]at k ⊢
 exact⟨by omega,ZqM (last:= -1) h k.2⟩
theorem Zeo{f:Zag}(h:sgnD f≠0):okF f=true∧qOf f≠0:=by
 cases ho:okF f
 ·exact absurd (ZoE ho) h
 ·refine⟨rfl,fun h0=>h ?_⟩
  simp[sgnD,ho,h0,sgQ]
theorem Zff{q:Rat}(h:q≠0):sgnD (ofQ q)≠0:=by rw[Zcw];exact fun h0=>h (Zfh.1 h0)
theorem Znp{n:Int}{f:Zag}(hf:sgnD f≠0):∀ (l:List Zah)(last:Int),goR n last l=true→goR n last (l.map (mulT f))=true
 | [],_,_=>rfl
 | t ::l,last,h=>by
   have h':=ZaN.1 h
   rw[List.map_cons]
   refine ZaN.2 ⟨h'.1,h'.2.1,Zff ?_,Znp hf l t.v h'.2.2.2⟩
   have h1:=(Zeo h'.2.2.1).2
   have h2:=(Zeo hf).2
   exact fun h0=>(Rat.mul_eq_zero.1 h0).elim h1 h2
def indI(v u:Int):Rat:=if u=v then 1 else 0
theorem Zf2{n:Int}{v:Int}:∀ (l:List Zah)(last:Int),v≤last→goR n last l=true→dotS (indI v) l=0
 | [],_,_,_=>rfl
 | t ::l,last,h,k=>by
   have k':=ZaN.1 k
   have ih:=Zf2 (n:=n) (v:=v) l t.v (by omega) k'.2.2.2
   simp only[dotS,ih]
   rw[show indI v t.v=0 from if_neg (by omega)];grind
theorem Zgu{n:Int}{last:Int}{t:Zah}{l:List Zah}(k:goR n last (t ::l)=true):dotS (indI t.v) (t ::l)=qOf t.f:=by
 have k':=ZaN.1 k
 simp only[dotS,Zf2 l t.v (Int.le_refl _) k'.2.2.2,indI,if_true];grind
theorem ZuA{n m:Int}:∀ (a b:List Zah)(la lb:Int),goR n la a=true→goR m lb b=true→(∀ g,dotS g a=dotS g b)→a=b
 | [],[],_,_,_,_,_=>rfl
 | [],y ::b,_,lb,_,hb,h=>by
   have:=h (indI y.v)
   rw[Zgu hb]at this
   exact absurd this.symm (Zeo (ZaN.1 hb).2.2.1).2
 | x ::a,[],la,_,ha,_,h=>by
   have:=h (indI x.v)
   rw[Zgu ha]at this
   exact absurd this (Zeo (ZaN.1 ha).2.2.1).2
 | x ::a,y ::b,la,lb,ha,hb,h=>by
   have ha':=ZaN.1 ha
   have hb':=ZaN.1 hb
   have fx:=Zeo ha'.2.2.1
   have fy:=Zeo hb'.2.2.1
   rcases Int.lt_trichotomy x.v y.v with hv|hv|hv
   ·have:=h (indI x.v)
    rw[Zgu ha,Zf2 (n:=m) (y ::b) x.v (Int.le_refl _) (ZaN.2 ⟨hv,hb'.2⟩)]at this
    exact absurd this fx.2
   ·have hq:=h (indI x.v)
    rw[Zgu ha,hv,Zgu hb]at hq
    have he:x=y:=by
     cases x with|mk u f=>cases y with|mk w g =>
     dsimp only at hv hq fx fy
     rw[ZfS fx.1,ZfS fy.1,hq,hv]
    subst he
    congr 1
    refine ZuA a b x.v x.v ha'.2.2.2 hb'.2.2.2 fun g=>?_
    have:=h g
    simp only[dotS]at this
    grind
   ·have:=h (indI y.v)
    rw[Zgu hb,Zf2 (n:=n) (x ::a) y.v (Int.le_refl _) (ZaN.2 ⟨hv,ha'.2⟩)]at this
    exact absurd this.symm fy.2
theorem ZrK{n m:Int}{a b:List Zah}(ha:Zai a n=true)(hb:Zai b m=true)(h:∀ g,dotS g a=dotS g b):a=b:=by
 simp only[Zai,Ya2]at ha hb
 exact ZuA a b _ _ ha.2 hb.2 h
theorem Zm2{n:Int}{a:List Zah}{f:Zag}(ha:Zai a n=true):Zai (Zfy a f) n=true:=by
 unfold Zfy
 have h0:decide (0≤n)=true:=by simp only[Zai,Ya2]at ha;exact ha.1
 split
 ·rename_i h
  simp only[Ya2,bne_iff_ne]at h
  simp only[Zai,Ya2]at ha ⊢
  exact⟨ha.1,Znp h.2 a _ ha.2⟩
 ·simp[Zai,goR];simpa using h0
theorem Zrk{a:List Zah}{f:Zag}(ha:Zai a 1500=true)(hf:okF f=true)(g:Int→Rat):dotS g (Zfy a f)=qOf f*dotS g a:=by
 unfold Zfy
 rw[ha,Bool.true_and]
 split
 ·exact Zuc g f a
 ·rename_i h
  have h0:qOf f=0:=by
   have:sgnD f=0:=by simpa using h
   simp only[sgnD,hf,if_true]at this
   exact Zfh.1 this
  rw[h0];simp only[dotS];grind
def sumN:Nat→(Nat→Rat)→Rat
 | 0,_=>0
 | n+1,f=>sumN n f+f n
theorem ZaX{f g:Nat→Rat}:∀ n,(∀ i,i<n→f i=g i)→sumN n f=sumN n g
 | 0,_=>rfl
 | n+1,h=>by simp only[sumN,ZaX n (fun i hi=>h i (by omega)),h n (by omega)]
theorem Zbe:∀ n,sumN n (fun _=>0)=0
 | 0=>rfl
 | n+1=>by simp only[sumN,Zbe n];grind
theorem Zfe(f g:Nat→Rat):∀ n,sumN n (fun i=>f i+g i)=sumN n f+sumN n g
 | 0=>by simp only[sumN];grind
 | n+1=>by simp only[sumN,Zfe f g n];grind
theorem Zdv(c:Rat)(f:Nat→Rat):∀ n,sumN n (fun i=>c*f i)=c*sumN n f
 | 0=>by simp only[sumN];grind
 | n+1=>by simp only[sumN,Zdv c f n];grind
theorem ZjE{f g:Nat→Rat}:∀ n,(∀ i,i<n→f i≤g i)→sumN n f≤sumN n g
 | 0,_=>by simp only[sumN];grind
 | n+1,h=>by
   have h1:=ZjE n (fun i hi=>h i (by omega))
   have h2:=h n (by omega)
   simp only[sumN];grind
theorem Zgc{c:Rat}{v:Nat}:∀ n,sumN n (fun i=>if i=v then c else 0)=if v<n then c else 0
 | 0=>by simp only[sumN];rw[if_neg (by omega)]
 | n+1=>by
   simp only[sumN,Zgc n]
   by_cases h:n=v
   ·subst h;rw[if_neg (by omega),if_pos rfl,if_pos (by omega)];grind
   ·rw[if_neg h]
    by_cases h2:v<n
    ·rw[if_pos h2,if_pos (by omega)];grind
    ·rw[if_neg h2,if_neg (by omega)];grind
def ZaU(l:List Zah)(v:Nat):Rat:=dotS (indI v) l
theorem Zio{N:Nat}(g:Int→Rat):∀ (l:List Zah),(∀ t∈l,0≤t.v∧t.v<N)→dotS g l=sumN N (fun v=>ZaU l v*g v)
 | [],_=>by
   have:(fun v:Nat=>ZaU [] v*g v)=fun _=>0:=by funext v;simp only[ZaU,dotS];grind
   rw[this,Zbe];rfl
 | t ::l,h=>by
   have ht:=h t Yb7
   have ih:=Zio g l (fun u hu=>h u (Yb6 _ hu))
   have e:(fun v:Nat=>ZaU (t ::l) v*g v)=fun v=>(if v=t.v.toNat then qOf t.f*g t.v else 0)+ZaU l v*g v:=by
    funext v
    simp only[ZaU,dotS,indI]
    by_cases hv:v=t.v.toNat
    ·rw[if_pos (by omega),if_pos hv,show((v:Nat):Int)=t.v by omega];grind
    ·rw[if_neg (by omega),if_neg hv];grind
   rw[e,Zfe,Zgc,if_pos (by omega),← ih]
   simp only[dotS]
theorem ZfO{l:List Zah}{N:Nat}(h:Zai l N=true):∀ t∈l,0≤t.v∧t.v<N:=fun t ht=>⟨(ZaY h ht).1,(ZaY h ht).2.1⟩
def mixG(g:Int→Rat):List RowD→List Zag→Rat
 | w ::r,f ::y=>qOf f*dotS g w.t+mixG g r y
 | _,_=>0
def mixV:List RowD→List Zag→Rat
 | w ::r,f ::y=>qOf f*qOf w.v+mixV r y
 | _,_=>0
theorem Zgj(g:Int→Rat)(y:List Zag):mixG g [] y=0:=by cases y<;>rfl
theorem Zhz(y:List Zag):mixV [] y=0:=by cases y<;>rfl
theorem ZhA(g:Int→Rat):∀ (r:List RowD)(y:List Zag)(k:Nat)(w:RowD)(f:Zag),r[k]? =some w→y[k]? =some f→mixG g (r.take (k+1)) (y.take (k+1))=mixG g (r.take k) (y.take k)+qOf f*dotS g w.t
 | [],_,_,_,_,h,_=>by simp at h
 | _ ::_,[],_,_,_,_,h=>by simp at h
 | u ::r,e ::y,0,w,f,h1,h2=>by
   simp at h1 h2;subst h1;subst h2
   simp only[List.take_succ_cons,List.take_zero,mixG];grind
 | u ::r,e ::y,k+1,w,f,h1,h2=>by
   have:=ZhA g r y k w f (by simpa using h1) (by simpa using h2)
   simp only[List.take_succ_cons,mixG]at this ⊢
   rw[this];grind
theorem Zjc:∀ (r:List RowD)(y:List Zag)(k:Nat)(w:RowD)(f:Zag),r[k]? =some w→y[k]? =some f→mixV (r.take (k+1)) (y.take (k+1))=mixV (r.take k) (y.take k)+qOf f*qOf w.v
 | [],_,_,_,_,h,_=>by simp at h
 | _ ::_,[],_,_,_,_,h=>by simp at h
 | u ::r,e ::y,0,w,f,h1,h2=>by
   simp at h1 h2;subst h1;subst h2
   simp only[List.take_succ_cons,List.take_zero,mixV];grind
 | u ::r,e ::y,k+1,w,f,h1,h2=>by
   have:=Zjc r y k w f (by simpa using h1) (by simpa using h2)
   simp only[List.take_succ_cons,mixV]at this ⊢
   rw[this];grind
theorem Zqv{N:Nat}(g:Int→Rat):∀ (r:List RowD)(y:List Zag),(∀ w∈r,∀ t∈w.t,0≤t.v∧t.v<N)→mixG g r y=sumN N (fun v=>mixG (indI v) r y*g v)
 | [],y,_=>by simp only[Zgj];rw[show(fun v:Nat=>(0:Rat)*g v)=fun _=>0 by funext v;grind,Zbe]
 | w ::r,[],_=>by
   simp only[mixG];rw[show(fun v:Nat=>(0:Rat)*g v)=fun _=>0 by funext v;grind,Zbe]
 | w ::r,f ::y,h=>by
   have ih:=Zqv g r y (fun u hu=>h u (Yb6 _ hu))
   have e:(fun v:Nat=>mixG (indI v) (w ::r) (f ::y)*g v)=fun v=>qOf f*(ZaU w.t v*g v)+mixG (indI v) r y*g v:=by
    funext v;simp only[mixG,ZaU];grind
   rw[e,Zfe,Zdv,← Zio g w.t (h w Yb7),← ih]
   simp only[mixG]
def Zbh(n:Nat)(c:Nat→Rat):List Zah:=(List.range n).filterMap fun(v:Nat)=>if c v=0 then none else some ⟨(v:Int),ofQ (c v)⟩
theorem Zdf(n:Nat)(c:Nat→Rat):Zbh (n+1) c=Zbh n c++(if c n=0 then []else [⟨(n:Int),ofQ (c n)⟩]):=by
 unfold Zbh
 rw[List.range_succ,List.filterMap_append]
 by_cases h:c n=0<;>simp[h]
theorem ZkO{c:Nat→Rat}:∀ (n:Nat),∀ t∈Zbh n c,0≤t.v∧t.v<n
 | 0,t,h=>by simp[Zbh]at h
 | n+1,t,h=>by
   rw[Zdf,Yd5]at h
   rcases h with h|h
   ·have:=ZkO n t h;omega
   ·split at h
    ·cases h
    ·rw[List.mem_singleton]at h;subst h;dsimp only;omega
theorem Zjg{n:Int}{t:Zah}(h2:t.v<n)(h3:sgnD t.f≠0):∀ (l:List Zah)(last:Int),goR n last l=true→last<t.v→(∀ u∈l,u.v<t.v)→goR n last (l++[t])=true
 | [],last,_,h,_=>ZaN.2 ⟨h,h2,h3,rfl⟩
 | u ::l,last,k,_,hu=>by
   have k':=ZaN.1 k
   exact ZaN.2 ⟨k'.1,k'.2.1,k'.2.2.1,Zjg h2 h3 l u.v k'.2.2.2 (hu u Yb7) (fun w hw=>hu w (Yb6 _ hw))⟩
theorem ZjB{c:Nat→Rat}{m:Int}:∀ (n:Nat),(n:Int)≤m→goR m (-1) (Zbh n c)=true
 | 0,_=>rfl
 | n+1,h=>by
   rw[Zdf]
   have ih:=ZjB (c:=c) (m:=m) n (by omega)
   split
   ·rw[List.append_nil];exact ih
   ·rename_i hc
    exact Zjg (by dsimp only;omega) (Zff hc) _ _ ih (by dsimp only;omega) (fun u hu=>by have:=ZkO n u hu;dsimp only;omega)
theorem Zhb{c:Nat→Rat}{n:Nat}{m:Int}(h:(n:Int)≤m):Zai (Zbh n c) m=true:=by
 simp only[Zai,Ya2,decide_eq_true_eq]
 exact⟨by omega,ZjB n h⟩
theorem Zfc(g:Int→Rat)(c:Nat→Rat):∀ n:Nat,dotS g (Zbh n c)=sumN n (fun v=>c v*g v)
 | 0=>rfl
 | n+1=>by
   rw[Zdf,ZdZ,Zfc g c n]
   simp only[sumN]
   split
   ·rename_i h;rw[h];simp only[dotS];grind
   ·simp only[dotS,ZaE];grind
theorem ZfH(c:Nat→Rat)(n v:Nat):ZaU (Zbh n c) v=if v<n then c v else 0:=by
 unfold ZaU
 rw[Zfc]
 have e:(fun u:Nat=>c u*indI v u)=fun u=>if u=v then c v else 0:=by
  funext u
  simp only[indI]
  by_cases h:u=v
  ·subst h;rw[if_pos rfl,if_pos rfl];grind
  ·rw[if_neg (by omega),if_neg h];grind
 rw[e,Zgc]
theorem ZjA(c:Nat→Rat)(n:Nat):(Zbh n c).length≤n:=by
 unfold Zbh
 have:=List.length_filterMap_le (fun v:Nat=>if c v=0 then none else some (⟨(v:Int),ofQ (c v)⟩:Zah)) (List.range n)
 rwa [List.length_range]at this
theorem ZoG{l:List Zah}{n:Nat}(h:Zai l n=true):l=Zbh n (ZaU l) :=
 ZrK h (Zhb (Int.le_refl _)) fun g=>by rw[Zfc,Zio g l (ZfO h)]
theorem Zq5{l:List Zah}{n:Nat}(h:Zai l n=true){v:Nat}(hv:n≤v):ZaU l v=0:=by
 rw[ZoG h,ZfH,if_neg (by omega)]
def Zdu(a b:List Zah):Prop:=∀ v:Int,dotS (indI v) a≤dotS (indI v) b
theorem ZcO{n last v:Int}{l:List Zah}(h:goR n last l=true)(hv:v≤last):dotS (indI v) l=0:=Zf2 l last hv h
theorem Zcx(v:Int)(x:Zah)(l:List Zah):dotS (indI v) (x ::l)=(if x.v=v then qOf x.f else 0)+dotS (indI v) l:=by
 simp only[dotS,indI]
 by_cases h:x.v=v
 ·rw[if_pos h,if_pos h];grind
 ·rw[if_neg h,if_neg h];grind
theorem Zkv{n last:Int}{x:Zah}{a b:List Zah}(ha:goR n last (x ::a)=true)(hb:goR n x.v b=true):Zdu (x ::a) b↔qOf x.f≤0∧Zdu a b:=by
 have ha':=(ZaN.1 ha).2.2.2
 constructor
 ·intro h
  have h0:=h x.v
  rw[Zcx,if_pos rfl,ZcO ha' (Int.le_refl _),ZcO hb (Int.le_refl _)]at h0
  refine⟨by grind,fun v=>?_⟩
  have hv:=h v
  rw[Zcx]at hv
  by_cases e:x.v=v
  ·subst e;rw[ZcO ha' (Int.le_refl _),ZcO hb (Int.le_refl _)];exact Rat.le_refl
  ·rw[if_neg e]at hv;grind
 ·rintro⟨h0,h⟩ v
  have hv:=h v
  rw[Zcx]
  split<;>grind
theorem ZiT{n last:Int}{y:Zah}{a b:List Zah}(ha:goR n y.v a=true)(hb:goR n last (y ::b)=true):Zdu a (y ::b)↔0≤qOf y.f∧Zdu a b:=by
 have hb':=(ZaN.1 hb).2.2.2
 constructor
 ·intro h
  have h0:=h y.v
  rw[Zcx,if_pos rfl,ZcO hb' (Int.le_refl _),ZcO ha (Int.le_refl _)]at h0
  refine⟨by grind,fun v=>?_⟩
  have hv:=h v
  rw[Zcx]at hv
  by_cases e:y.v=v
  ·subst e;rw[ZcO ha (Int.le_refl _),ZcO hb' (Int.le_refl _)];exact Rat.le_refl
  ·rw[if_neg e]at hv;grind
 ·rintro⟨h0,h⟩ v
  have hv:=h v
  rw[Zcx]
  split<;>grind
theorem Zsy{n la lb:Int}{x y:Zah}{a b:List Zah}(ha:goR n la (x ::a)=true)(hb:goR n lb (y ::b)=true)(e:x.v=y.v):Zdu (x ::a) (y ::b)↔qOf x.f≤qOf y.f∧Zdu a b:=by
 have ha':=(ZaN.1 ha).2.2.2
 have hb':=(ZaN.1 hb).2.2.2
 constructor
 ·intro h
  have h0:=h x.v
  rw[Zcx,Zcx,if_pos rfl,if_pos e.symm,ZcO ha' (Int.le_refl _),ZcO hb' (by omega)]at h0
  refine⟨by grind,fun v=>?_⟩
  have hv:=h v
  rw[Zcx,Zcx]at hv
  by_cases k:x.v=v
  ·rw[ZcO ha' (by omega),ZcO hb' (by omega)];exact Rat.le_refl
  ·rw[if_neg k,if_neg (by omega)]at hv;grind
 ·rintro⟨h0,h⟩ v
  have hv:=h v
  rw[Zcx,Zcx]
  by_cases k:x.v=v
  ·rw[if_pos k,if_pos (by omega)];grind
  ·rw[if_neg k,if_neg (by omega)];grind
theorem Zvl:Zdu [] []:=fun _=>Rat.le_refl
def ZhV(n:Nat)(a b:List Zah):Bool:=(List.range n).all fun v=>decide (ZaU a v≤ZaU b v)
theorem Ze9{n:Nat}{a b:List Zah}(ha:Zai a n=true)(hb:Zai b n=true):ZhV n a b=true↔Zdu a b:=by
 unfold ZhV
 simp only[Ya6,Yd2,decide_eq_true_eq]
 constructor
 ·intro h v
  by_cases h0:0≤v
  ·have e:((v.toNat:Nat):Int)=v:=by omega
   by_cases h1:v.toNat<n
   ·have:=h v.toNat h1;unfold ZaU at this;rw[e]at this;exact this
   ·have c1:=Zq5 ha (v:=v.toNat) (by omega)
    have c2:=Zq5 hb (v:=v.toNat) (by omega)
    unfold ZaU at c1 c2
    rw[e]at c1 c2
    rw[c1,c2];exact Rat.le_refl
  ·simp only[Zai,Ya2]at ha hb
   rw[ZcO ha.2 (by omega),ZcO hb.2 (by omega)];exact Rat.le_refl
 ·intro h v _;exact h v
theorem Zh5{l:List Zah}{x:List Zag}(h:(Zai l x.length&&okP x)=true):Zco l x=(ofQ (dotD l x),true):=by unfold Zco;rw[h];rfl
theorem ZA0(a b:Rat)(za:(szQ a:Int)≤549755813888)(zb:(szQ b:Int)≤549755813888):Zae Tryz.prog 171 [encF (ofQ a),encF (ofQ b)] (.tup [encF (ofQ (a+b)),dI 0]):=by
 have:=Zyg (ofQ a) (ofQ b) za zb
 rwa [Zmy]at this
theorem ZAZ(a b:Rat)(za:(szQ a:Int)≤549755813888)(zb:(szQ b:Int)≤549755813888):Zae Tryz.prog 127 [encF (ofQ a),encF (ofQ b)] (.tup [encF (ofQ (a*b)),dI 0]):=by
 have:=ZuG (ofQ a) (ofQ b) za zb
 rwa [Zqs]at this
set_option maxHeartbeats 16000000
theorem ZqZ(p q:Rat)(g h:Int→Rat):∀ l:List Zah,dotS (fun v=>p*g v+q*h v) l=p*dotS g l+q*dotS h l
 | []=>by simp only[dotS];grind
 | t ::l=>by simp only[dotS,ZqZ p q g h l];grind
theorem ZhL{k:Int}{d:Rat}(h0:0≤k)(h3:k<3):Zdy k (sgQ d)=true↔(k=0→0≤d)∧(k=1→d≤0)∧(k=2→d=0):=by
 have hk:k=0∨k=1∨k=2:=by omega
 rcases ZeE d with⟨h,e⟩|⟨h,e⟩|⟨h,e⟩<;>rw[e]<;>rcases hk with rfl|rfl|rfl<;>simp[Zdy]<;>grind
theorem Zfg{f:Zag}(h:okF f=true):0≤sgnD f↔0≤qOf f:=by
 have e:sgnD f=sgQ (qOf f):=by simp[sgnD,h]
 rw[e]
 rcases ZeE (qOf f)with⟨h,g⟩|⟨h,g⟩|⟨h,g⟩<;>rw[g]<;>constructor<;>intro h1<;>grind
structure OptD where
 k:Int
 v:Zag
 x:List Zag
 y:List Zag
 d:List Zag
abbrev cO(o:OptD):List D:=[dI o.k,dI o.v.p.s,Zad o.v.p.d,dI o.v.q.s,Zad o.v.q.d,ZbW o.x,ZbW o.y,ZbW o.d]
abbrev encO(o:OptD):D:=.agg (cO o)
def ZgD(s:SysD)(y:List Zag):Bool:=Zao s&&decide ((y.length:Int)=s.r.length)&&okP y
def ZcI(w:RowD)(f:Zag):Bool:= !(w.k==0&&decide (sgnD f<0)) && !(w.k==1&&decide (sgnD f>0))
def Zcp(s:SysD)(y:List Zag):Bool:=ZgD s y&&(s.r.zip y).all (fun p=>ZcI p.1 p.2)
def mixT(s:SysD)(y:List Zag):List Zah:=Zbh s.n.toNat (fun v=>mixG (indI v) s.r y)
def Znr(s:SysD)(y:List Zag):List Zah×Zag:=if ZgD s y then(mixT s y,ofQ (mixV s.r y))else([],zF)
def Zbf(s:SysD)(goal:List Zah)(y:List Zag):Zag×Bool :=
 if Zcp s y&&Zai goal s.n&&ZhV s.n.toNat (mixT s y) goal then(ofQ (mixV s.r y),true)else(zF,false)
def ZbM(s:SysD)(y:List Zag):Bool:=(Zbf s [] y).2&&decide (sgnD (Zbf s [] y).1>0)
def rayD(s:SysD)(goal:List Zah)(d:List Zag):Bool :=
 Zao s&&Zai goal s.n&&decide ((d.length:Int)=s.n)&&okP d&&Zee d&&s.r.all (fun w=>Zdy w.k (sgQ (dotD w.t d)))&&decide (sgQ (dotD goal d)<0)
def Zch(s:SysD)(goal:List Zah)(o:OptD):Bool:=Zao s&&Zai goal s.n &&
 (if o.k=0 then(Zbf s goal o.y).2&&ZaI s o.x&&Zeq (Zco goal o.x).1 o.v&&Zeq (Zbf s goal o.y).1 o.v&&o.d.isEmpty
  else if o.k=1 then ZbM s o.y&&o.x.isEmpty&&o.d.isEmpty&&Zeq o.v zF
  else if o.k=2 then ZaI s o.x&&rayD s goal o.d&&o.y.isEmpty&&Zeq o.v zF
  else false)
theorem ZcL{s:SysD}{y:List Zag}:ZgD s y=true↔Zao s=true∧y.length=s.r.length∧okP y=true:=by
 simp only[ZgD,Ya2,decide_eq_true_eq,and_assoc]
 constructor
 ·rintro⟨a,b,c⟩;exact⟨a,by omega,c⟩
 ·rintro⟨a,b,c⟩;exact⟨a,by omega,c⟩
theorem ZbL{s:SysD}(h:Zao s=true):0≤s.n∧s.n≤1500:=by
 simp only[Zao,Ya2,decide_eq_true_eq]at h;exact⟨h.1.1.1,h.1.1.2⟩
theorem ZbC{s:SysD}(h:Zao s=true){w:RowD}(hw:w∈s.r):Zai w.t s.n.toNat=true∧0≤w.k∧w.k<3∧okF w.v=true:=by
 have h1:=ZdE h hw
 have:=(ZbL h).1
 simp only[Zcs,Ya2,decide_eq_true_eq]at h1
 rw[show((s.n.toNat:Nat):Int)=s.n by omega]
 exact⟨h1.1.1.1,h1.1.1.2,h1.1.2,h1.2⟩
theorem Zca{l:List Zah}{n:Int}(h:Zai l n=true):Zai l n.toNat=true:=by
 have h0:0≤n:=by simp only[Zai,Ya2,decide_eq_true_eq]at h;exact h.1
 rwa [show((n.toNat:Nat):Int)=n by omega]
theorem ZeV{s:SysD}{goal:List Zah}{y:List Zag}:(Zbf s goal y).2=true↔Zcp s y=true∧Zai goal s.n=true∧ZhV s.n.toNat (mixT s y) goal=true:=by
 unfold Zbf
 split
 ·rename_i h;simp only[Ya2]at h;simp[h.1.1,h.1.2,h.2]
 ·rename_i h
  simp only[Ya2,not_and,Bool.not_eq_true]at h
  simp only[Bool.false_eq_true,false_iff]
  rintro⟨a,b,c⟩
  rw[h ⟨a,b⟩]at c;cases c
theorem ZeU{s:SysD}{goal:List Zah}{y:List Zag}(h:(Zbf s goal y).2=true):(Zbf s goal y).1=ofQ (mixV s.r y):=by
 unfold Zbf at h ⊢
 split
 ·rfl
 ·rename_i hn;rw[if_neg hn]at h;cases h
theorem ZwL{s:SysD}(h:Zao s=true):∀ w∈s.r,∀ t∈w.t,0≤t.v∧t.v<(s.n.toNat:Nat):=fun w hw t ht=>ZfO (ZbC h hw).1 t ht
theorem Zjd{s:SysD}(h:Zao s=true)(y:List Zag)(g:Int→Rat):dotS g (mixT s y)=mixG g s.r y:=by
 unfold mixT
 rw[Zfc,← Zqv g s.r y (ZwL h)]
theorem ZcE{s:SysD}(h:Zao s=true)(y:List Zag):Zai (mixT s y) s.n.toNat=true:=Zhb (Int.le_refl _)
theorem Zoe{x:List Zag}(ho:okP x=true)(hn:Zee x=true)(v:Int):0≤atP x v:=by
 unfold atP
 cases h:x[v.toNat]? with
 | none=>simp only[Option.getD_none];decide +kernel
 | some f =>
   simp only[Option.getD_some]
   have h1:=Ya6.1 ho f (ZaK h)
   have h2:=of_decide_eq_true (Ya6.1 hn f (ZaK h))
   exact(Zfg h1).1 h2
theorem Zoc{n:Nat}{a b:List Zah}(ha:Zai a n=true)(hb:Zai b n=true)(h:Zdu a b){g:Int→Rat}(hg:∀ v,0≤g v):dotS g a≤dotS g b:=by
 rw[Zio g a (ZfO ha),Zio g b (ZfO hb)]
 refine ZjE n fun v _=>?_
 have h1:=h v
 have h2:=Rat.mul_nonneg (a:=ZaU b v-ZaU a v) (by unfold ZaU;grind) (hg v)
 grind
theorem ZmU{w:RowD}{f:Zag}{d:Rat}(ho:okF f=true)(hs:ZcI w f=true)(h0:0≤w.k)(h3:w.k<3)(hd:Zdy w.k (sgQ d)=true):0≤qOf f*d:=by
 rw[ZhL h0 h3]at hd
 have e:sgnD f=sgQ (qOf f):=by simp[sgnD,ho]
 simp only[ZcI,Ya2,Bool.not_eq_true',Bool.and_eq_false_iff,beq_eq_false_iff_ne,decide_eq_false_iff_not,e]at hs
 have hk:w.k=0∨w.k=1∨w.k=2:=by omega
 rcases hk with hk|hk|hk
 ·have h1:¬ sgQ (qOf f)<0:=hs.1.resolve_left (fun h=>h hk)
  rw[ZjF]at h1
  exact Rat.mul_nonneg (by grind) (hd.1 hk)
 ·have h1:¬ sgQ (qOf f)>0:=hs.2.resolve_left (fun h=>h hk)
  rw[gt_iff_lt,Zdr]at h1
  have:=Rat.mul_nonneg (a:= -qOf f) (b:= -d) (by grind) (by have:=hd.2.1 hk;grind)
  grind
 ·rw[hd.2.2 hk];grind
theorem Zx8(x:List Zag):∀ (r:List RowD)(y:List Zag),okP y=true→(∀ w∈r,0≤w.k∧w.k<3)→(r.zip y).all (fun p=>ZcI p.1 p.2)=true→r.all (fun w=>Zb4 w x)=true→mixV r y≤mixG (atP x) r y
 | [],y,_,_,_,_=>by rw[Zgj,Zhz];exact Rat.le_refl
 | _ ::_,[],_,_,_,_=>by simp only[mixG,mixV];exact Rat.le_refl
 | w ::r,f ::y,ho,hk,hs,hh=>by
   simp only[okP,List.all_cons,Ya2]at ho
   simp only[List.zip_cons_cons,List.all_cons,Ya2]at hs hh
   have ih:=Zx8 x r y ho.2 (fun u hu=>hk u (Yb6 _ hu)) hs.2 hh.2
   have h1:=ZmU ho.1 hs.1 (hk w Yb7).1 (hk w Yb7).2 hh.1
   rw[Zc9]at h1
   simp only[mixG,mixV]
   grind
theorem Zyo{s:SysD}{goal:List Zah}{y x:List Zag}(hl:(Zbf s goal y).2=true)(hx:ZaI s x=true):mixV s.r y≤dotD goal x:=by
 obtain⟨h1,h2,h3⟩:=ZeV.1 hl
 simp only[Zcp,Ya2]at h1
 obtain⟨hr,hlen,ho⟩:=ZcL.1 h1.1
 simp only[ZaI,Ya2,decide_eq_true_eq]at hx
 have a:=Zx8 x s.r y ho (fun w hw=>⟨(ZbC hr hw).2.1,(ZbC hr hw).2.2.1⟩) h1.2 hx.2
 have hg:=Zca h2
 have b:=Zoc (ZcE hr y) hg ((Ze9 (ZcE hr y) hg).1 h3) (fun v=>Zoe hx.1.1.2 hx.1.2 v)
 rw[Zjd hr]at b
 rw[Zc9]
 grind
theorem ZrP{s:SysD}{y x:List Zag}(h:ZbM s y=true):ZaI s x=false:=by
 cases hx:ZaI s x
 ·rfl
 ·simp only[ZbM,Ya2,decide_eq_true_eq]at h
  have h1:=Zyo h.1 hx
  rw[ZeU h.1,Zcw,gt_iff_lt,Zdr]at h
  have:dotD [] x=0:=rfl
  grind
def onD(k:Rat)(x d:List Zag):List Zag:=List.zipWith (fun a b=>ofQ (qOf a+qOf b*k)) x d
theorem at_on{k:Rat}{x d:List Zag}(hl:x.length=d.length)(v:Int):atP (onD k x d) v=1*atP x v+k*atP d v:=by
 unfold atP onD
 rw[List.getElem?_zipWith]
 cases hx:x[v.toNat]? with
 | none =>
   have:d[v.toNat]? =none:=List.getElem?_eq_none (by have:=List.getElem?_eq_none_iff.1 hx;omega)
   rw[this]
   have:qOf zF=0:=by decide +kernel
   simp only[Option.getD_none,this];grind
 | some f =>
   have hlt:=(Ya3.1 hx).1
   rw[Ya0 (by omega:v.toNat<d.length)]
   simp only[Option.getD_some,ZaE];grind
theorem Zym{k:Rat}{x d:List Zag}(hl:x.length=d.length)(l:List Zah):dotD l (onD k x d)=dotD l x+k*dotD l d:=by
 rw[Zc9,Zc9,Zc9,show atP (onD k x d)=fun v=>1*atP x v+k*atP d v from funext (at_on hl),ZqZ]
 grind
theorem Zx2{k:Rat}{x d:List Zag}{f:Zag}(h:f∈onD k x d):∃ a b,a∈x∧b∈d∧f=ofQ (qOf a+qOf b*k):=by
 obtain⟨i,hi⟩:=List.getElem?_of_mem h
 unfold onD at hi
 rw[List.getElem?_zipWith]at hi
 split at hi
 ·rename_i a b ha hb;cases hi;exact⟨a,b,ZaK ha,ZaK hb,rfl⟩
 ·cases hi
theorem ZlM{s:SysD}{goal:List Zah}{d:List Zag}:rayD s goal d=true↔Zao s=true∧Zai goal s.n=true∧(d.length:Int)=s.n∧okP d=true∧Zee d=true∧s.r.all (fun w=>Zdy w.k (sgQ (dotD w.t d)))=true∧sgQ (dotD goal d)<0:=by
 simp only[rayD,Ya2,decide_eq_true_eq,and_assoc]
theorem Zb1{s:SysD}{x:List Zag}:ZaI s x=true↔Zao s=true∧(x.length:Int)=s.n∧okP x=true∧Zee x=true∧s.r.all (fun w=>Zb4 w x)=true:=by
 simp only[ZaI,Ya2,decide_eq_true_eq,and_assoc]
theorem Zw0{s:SysD}{goal:List Zah}{x d:List Zag}{k:Rat}(hx:ZaI s x=true)(hd:rayD s goal d=true)(hk:0≤k):ZaI s (onD k x d)=true:=by
 obtain⟨hr,ln,ox,nx,rx⟩:=Zb1.1 hx
 obtain⟨_,_,ld,od,nd,rd,_⟩:=ZlM.1 hd
 have hl:x.length=d.length:=by omega
 refine Zb1.2 ⟨hr,by unfold onD;rw[List.length_zipWith];omega,?_,?_,?_⟩
 ·refine Ya6.2 fun f hf=>?_
  obtain⟨a,b,_,_,rfl⟩:=Zx2 hf
  exact Zbi _
 ·refine Ya6.2 fun f hf=>?_
  obtain⟨a,b,ha,hb,rfl⟩:=Zx2 hf
  have na:=(Zfg (Ya6.1 ox a ha)).1 (of_decide_eq_true (Ya6.1 nx a ha))
  have nb:=(Zfg (Ya6.1 od b hb)).1 (of_decide_eq_true (Ya6.1 nd b hb))
  refine decide_eq_true ((Zfg (Zbi _)).2 ?_)
  rw[ZaE]
  have:=Rat.mul_nonneg nb hk
  grind
 ·refine Ya6.2 fun w hw=>?_
  have h3:=ZbC hr hw
  have a:=Ya6.1 rx w hw
  have b:=Ya6.1 rd w hw
  unfold Zb4 at a ⊢
  rw[ZhL h3.2.1 h3.2.2.1]at a b ⊢
  rw[Zym hl]
  refine⟨fun h=>?_,fun h=>?_,fun h=>?_⟩
  ·have:=Rat.mul_nonneg hk (b.1 h);have:=a.1 h;grind
  ·have:=Rat.mul_nonneg hk (by have:=b.2.1 h;grind:0 ≤ -dotD w.t d);have:=a.2.1 h;grind
  ·have h1:=a.2.2 h;have h2:=b.2.2 h;rw[h2];grind
theorem Zfo{α:Type}{l:List α}(h:l.isEmpty=true):l=[]:=List.isEmpty_iff.1 h
theorem Zg5{s:SysD}{goal:List Zah}{o:OptD}(h:Zch s goal o=true) :
 (o.k=0∧(Zbf s goal o.y).2=true∧ZaI s o.x=true∧o.v=ofQ (dotD goal o.x)∧dotD goal o.x=mixV s.r o.y∧o.d=[]) ∨
 (o.k=1∧ZbM s o.y=true∧o.x=[]∧o.d=[]∧o.v=zF)∨(o.k=2∧ZaI s o.x=true∧rayD s goal o.d=true∧o.y=[]∧o.v=zF):=by
 simp only[Zch,Ya2]at h
 obtain⟨⟨hr,hg⟩,h⟩:=h
 split at h
 ·rename_i hk
  simp only[Ya2,Zhe]at h
  obtain⟨⟨⟨⟨h1,h2⟩,h3⟩,h4⟩,h5⟩:=h
  have hx:=Zb1.1 h2
  have hv:Zco goal o.x=(ofQ (dotD goal o.x),true):=Zh5 (by rw[hx.2.1,hg,hx.2.2.1];rfl)
  rw[hv]at h3
  rw[ZeU h1]at h4
  exact .inl ⟨hk,h1,h2,h3.symm,Zzm (h3.trans h4.symm),Zfo h5⟩
 ·split at h
  ·rename_i hk
   simp only[Ya2,Zhe]at h
   exact .inr (.inl ⟨hk,h.1.1.1,Zfo h.1.1.2,Zfo h.1.2,h.2⟩)
  ·split at h
   ·rename_i hk
    simp only[Ya2,Zhe]at h
    exact .inr (.inr ⟨hk,h.1.1.1,h.1.1.2,Zfo h.1.2,h.2⟩)
   ·cases h
structure PlD where
 k:Int
 h:Int
 m:Int
structure MvD where
 d:Int
 f:Int
 t:Int
 s:Int
 r:Int
 a:Bool
structure PuD where
 v:Int
 m:Int
 lo:Int
 hi:Int
structure EvD where
 m:Int
 h:Int
 s:Int
 pl:List PlD
 mv:List MvD
 ce:List ZcT
 re:List RecD
 pu:List PuD
structure FiD where
 v:Int
 k:Int
 g:Int
structure ClD where
 v:Int
 k:Int
structure TrD where
 e:EvD
 fi:List FiD
 cl:List ClD
abbrev cPl(p:PlD):List D:=[dI p.k,dI p.h,dI p.m]
abbrev cMv(x:MvD):List D:=[dI x.d,dI x.f,dI x.t,dI x.s,dI x.r,dB x.a]
abbrev cPu(x:PuD):List D:=[dI x.v,dI x.m,dI x.lo,dI x.hi]
abbrev ZiN(l:List PlD):D:=.sl (l.map cPl)
abbrev Zeg(l:List MvD):D:=.sl (l.map cMv)
abbrev ZhQ(l:List PuD):D:=.sl (l.map cPu)
abbrev cEv(e:EvD):List D:=[dI e.m,dI e.h,dI e.s,ZiN e.pl,Zeg e.mv,Zi0 e.ce,ZfB e.re,ZhQ e.pu]
abbrev Zb3(e:EvD):D:=.agg (cEv e)
def idx(i n:Int):Bool:=decide (0≤i)&&decide (i<n)
def Zc7(e:EvD):Bool:=decide (e.m>6)||(decide (e.h>100)||(decide (e.s>30)||(decide ((e.pl.length:Int)>100)||(decide ((e.mv.length:Int)>200)||(decide ((e.ce.length:Int)>100)||(decide ((e.re.length:Int)>30)||decide ((e.pu.length:Int)>200)))))))
def okPl(h m:Int)(p:PlD):Bool:=idx p.k 7&&(if p.k=0 then idx p.h h&&idx p.m m else p.h == -1&&p.m == -1)
def Zfz(e:EvD)(p:Int):Int:=((e.pl[p.toNat]?).map PlD.k).getD (-1)
def okMv(e:EvD)(x:MvD):Bool :=
 idx x.f e.pl.length&&(idx x.t e.pl.length&&(x.f !=x.t&&(!(Zfz e x.f==5)&&(!(Zfz e x.f==6)&&(!(Zfz e x.f==0&&x.a)&&(!(Zfz e x.t==0) &&
 (if x.s = -1 then x.r==0 else idx x.s e.s&&(decide (0≤x.r)&&decide (x.r≤1099511627776)))))))))
def okCe(s:Int)(c:ZcT):Bool:=(decide (0≤c.f)&&(decide (c.f≤c.u)&&decide (c.u≤100000)))&&(idx c.s s&&((decide (0≤c.g)&&decide (c.g≤1099511627776))&&((decide (0≤c.p)&&decide (c.p≤1000))&&(decide (0≤c.d)&&decide (c.d≤10000000)))))
def okRe(s:Int)(c:RecD):Bool:=idx c.s s&&(decide (0≤c.d)&&decide (c.d≤100000))
def okPu(n m:Int)(p:PuD):Bool:=idx p.v n&&(idx p.m m&&(decide (0≤p.lo)&&(decide (p.lo≤p.hi)&&decide (p.hi≤1000))))
def Zfi(e:EvD):Bool:=e.ce.all (okCe e.s)&&(e.re.all (okRe e.s)&&e.pu.all (okPu e.mv.length e.m))
def ZbV(e:EvD):Int→List MvD→Int
 | _,[]=>0
 | last,x ::l=>if x.d<last∨x.d>100000 then 17 else if okMv e x=true then ZbV e x.d l else 1
def argE(e:EvD):Bool:=decide (1≤e.m)&&(decide (0≤e.h)&&(decide (0≤e.s)&&e.pl.all (okPl e.h e.m)))
def Zb5(e:EvD):Int:=if Zc7 e then 6 else if argE e then(if ZbV e 0 e.mv=0 then(if Zfi e then 0 else 1)else ZbV e 0 e.mv)else 1
structure OkMv (e:EvD) (x:MvD):Prop where
 f:0≤x.f∧x.f<e.pl.length
 t:0≤x.t∧x.t<e.pl.length
 ne:x.f≠x.t
 k5:Zfz e x.f≠5
 bin:Zfz e x.f=0→x.a=false
 tob:Zfz e x.t≠0
 s:x.s ≠ -1→(0≤x.s∧x.s<e.s)∧0≤x.r∧x.r≤1099511627776
 d:0≤x.d∧x.d≤100000
structure Zd7 (e:EvD):Prop where
 m:1≤e.m∧e.m≤6
 h:0≤e.h∧e.h≤100
 s:0≤e.s∧e.s≤30
 lp:(e.pl.length:Int)≤100
 lm:(e.mv.length:Int)≤200
 lc:(e.ce.length:Int)≤100
 lr:(e.re.length:Int)≤30
 lu:(e.pu.length:Int)≤200
 pl:∀ p∈e.pl,okPl e.h e.m p=true
 mv:∀ x∈e.mv,OkMv e x
 ce:∀ c∈e.ce,okCe e.s c=true
 re:∀ c∈e.re,okRe e.s c=true
 pu:∀ p∈e.pu,okPu e.mv.length e.m p=true
theorem Zwy{e:EvD}{x:MvD}(h:okMv e x=true)(d0:0≤x.d)(d1:x.d≤100000):OkMv e x:=by
 simp only[okMv,idx,Ya2,decide_eq_true_eq,bne_iff_ne,Bool.not_eq_true',beq_eq_false_iff_ne,Bool.and_eq_false_iff]at h
 obtain⟨a,b,c,d,e',f,g,i⟩:=h
 refine⟨a,b,c,d,fun hk=>by rcases f with f|f;exact absurd hk f;exact f,g,fun hs=>?_,d0,d1⟩
 rw[if_neg hs]at i
 simp only[Ya2,decide_eq_true_eq]at i
 exact i
theorem Zqt{e:EvD}:∀ (l:List MvD)(last:Int),0≤last→ZbV e last l=0→∀ x∈l,OkMv e x
 | [],_,_,_,x,hx=>by cases hx
 | y ::l,last,h0,h,x,hx=>by
   unfold ZbV at h
   split at h
   ·omega
   ·rename_i h1
    split at h
    ·rename_i h2
     have hy:=Zwy h2 (by omega) (by omega)
     rcases List.mem_cons.1 hx with rfl|hx
     ·exact hy
     ·exact Zqt l y.d (by omega) h x hx
    ·omega
theorem Zc8{e:EvD}(h:Zb5 e=0):Zd7 e:=by
 unfold Zb5 at h
 split at h
 ·omega
 rename_i h1
 split at h
 ·rename_i h2
  split at h
  ·rename_i h3
   split at h
   ·rename_i h4
    simp only[Zc7,Bool.or_eq_true,decide_eq_true_eq,not_or]at h1
    simp only[argE,Ya2,decide_eq_true_eq,Ya6]at h2
    simp only[Zfi,Ya2,Ya6]at h4
    obtain⟨a,b,c,d,e1,f,g,i⟩:=h1
    exact⟨⟨h2.1,by omega⟩,⟨h2.2.1,by omega⟩,⟨h2.2.2.1,by omega⟩,by omega,by omega,by omega,by omega,by omega,h2.2.2.2,Zqt _ 0 (Int.le_refl _) h3,h4.1,h4.2.1,h4.2.2⟩
   ·omega
  ·rename_i h3;exact absurd h h3
 ·omega
structure ZAi (t:TrD):Prop where
 e:Zd7 t.e
 lf:(t.fi.length:Int)≤20
 lc:(t.cl.length:Int)≤50
 fi:∀ x∈t.fi,(0≤x.v∧x.v<t.e.mv.length)∧(0≤x.k∧x.k<8)∧1≤x.g∧x.g≤1099511627776
 cl:∀ x∈t.cl,(0≤x.v∧x.v<t.e.mv.length)∧0≤x.k∧x.k<8
def mvAt(e:EvD)(i:Nat):MvD:=(e.mv[i]?).getD ⟨0,0,0,0,0,false⟩
def Zku(e:EvD)(i:Nat):Bool:=Zfz e (mvAt e i).f==0
structure AbD where
 hi:Zag
 cap:Bool
 fi:List Int
 cl:Int
def hiI(e:EvD)(x:MvD):Zag×Bool:=if x.s = -1 then(zF,false)else((intD e.ce e.re x.s x.r x.d).hi,(intD e.ce e.re x.s x.r x.d).ok)
def finK(t:TrD)(kind:Int)(i:Nat):List Int:=(t.fi.filter fun f=>f.k==kind&&f.v==(i:Int)).map FiD.g
def cleK(t:TrD)(kind:Int)(i:Nat):Nat:=(t.cl.filter fun f=>f.k==kind&&f.v==(i:Int)).length
set_option linter.constructorNameAsVariable false
section
variable {n:Nat} {x:List D}
theorem Zj5{α:Type}{T e:TypeId}{f:α→List D}(hu:Tryz.prog.underlying T=some (.slice e))(he:∀ x,Zdo Tryz.prog n e x→∃ a,x=f a)(h:Zdo Tryz.prog (n+1) T x):∃ l:List α,x=[.sl (l.map f)]:=by
 unfold Zdo at h
 simp only[hu]at h
 obtain⟨es,rfl,_,h⟩:=h
 obtain⟨l,rfl⟩:=Zlc (f:=f) (fun x hx=>he x (h x hx))
 exact⟨l,rfl⟩
theorem ZxF(h:Zdo Tryz.prog (n+1) 4 x):∃ a,x=[dB a]:=by
 unfold Zdo at h
 simp only[Tryz.underlying4]at h
 exact h
theorem Zwm(h:Zdo Tryz.prog (n+2) 101 x):∃ p,x=cPl p:=by
 unfold Zdo at h
 simp only[Tryz.underlying101,List.foldr]at h
 obtain⟨_,_,rfl,h1,_,_,rfl,h2,_,_,rfl,h3,rfl⟩:=h
 obtain⟨a,rfl⟩:=Zcf h1
 obtain⟨b,rfl⟩:=Zcf h2
 obtain⟨c,rfl⟩:=Zcf h3
 exact⟨⟨a,b,c⟩,rfl⟩
theorem ZBp(h:Zdo Tryz.prog (n+2) 55 x):∃ p,x=cMv p:=by
 unfold Zdo at h
 simp only[Tryz.underlying55,List.foldr]at h
 obtain⟨_,_,rfl,h1,_,_,rfl,h2,_,_,rfl,h3,_,_,rfl,h4,_,_,rfl,h5,_,_,rfl,h6,rfl⟩:=h
 obtain⟨a,rfl⟩:=Zcf h1
 obtain⟨b,rfl⟩:=Zcf h2
 obtain⟨c,rfl⟩:=Zcf h3
 obtain⟨d,rfl⟩:=Zcf h4
 obtain⟨e,rfl⟩:=Zcf h5
 obtain⟨f,rfl⟩:=ZxF h6
 exact⟨⟨a,b,c,d,e,f⟩,rfl⟩
theorem ZxB(h:Zdo Tryz.prog (n+2) 105 x):∃ p,x=cC p:=by
 unfold Zdo at h
 simp only[Tryz.underlying105,List.foldr]at h
 obtain⟨_,_,rfl,h1,_,_,rfl,h2,_,_,rfl,h3,_,_,rfl,h4,_,_,rfl,h5,_,_,rfl,h6,rfl⟩:=h
 obtain⟨a,rfl⟩:=Zcf h1
 obtain⟨b,rfl⟩:=Zcf h2
 obtain⟨c,rfl⟩:=Zcf h3
 obtain⟨d,rfl⟩:=Zcf h4
 obtain⟨e,rfl⟩:=Zcf h5
 obtain⟨f,rfl⟩:=Zcf h6
 exact⟨⟨a,b,c,d,e,f⟩,rfl⟩
theorem Zy3(h:Zdo Tryz.prog (n+2) 58 x):∃ p,x=cRe p:=by
 unfold Zdo at h
 simp only[Tryz.underlying58,List.foldr]at h
 obtain⟨_,_,rfl,h1,_,_,rfl,h2,rfl⟩:=h
 obtain⟨a,rfl⟩:=Zcf h1
 obtain⟨b,rfl⟩:=Zcf h2
 exact⟨⟨a,b⟩,rfl⟩
theorem Zy8(h:Zdo Tryz.prog (n+2) 109 x):∃ p,x=cPu p:=by
 unfold Zdo at h
 simp only[Tryz.underlying109,List.foldr]at h
 obtain⟨_,_,rfl,h1,_,_,rfl,h2,_,_,rfl,h3,_,_,rfl,h4,rfl⟩:=h
 obtain⟨a,rfl⟩:=Zcf h1
 obtain⟨b,rfl⟩:=Zcf h2
 obtain⟨c,rfl⟩:=Zcf h3
 obtain⟨d,rfl⟩:=Zcf h4
 exact⟨⟨a,b,c,d⟩,rfl⟩
theorem ZzV(h:Zdo Tryz.prog (n+5) 28 x):∃ e,x=cEv e:=by
 unfold Zdo at h
 simp only[Tryz.underlying28,List.foldr]at h
 obtain⟨_,_,rfl,h1,_,_,rfl,h2,_,_,rfl,h3,_,_,rfl,h4,_,_,rfl,h5,_,_,rfl,h6,_,_,rfl,h7,_,_,rfl,h8,rfl⟩:=h
 obtain⟨a,rfl⟩:=Zcf h1
 obtain⟨b,rfl⟩:=Zcf h2
 obtain⟨c,rfl⟩:=Zcf h3
 obtain⟨d,rfl⟩:=Zj5 (f:=cPl) Tryz.underlying22 (fun x h=>Zwm h) h4
 obtain⟨e,rfl⟩:=Zj5 (f:=cMv) Tryz.underlying23 (fun x h=>ZBp h) h5
 obtain⟨f,rfl⟩:=Zj5 (f:=cC) Tryz.underlying24 (fun x h=>ZxB h) h6
 obtain⟨g,rfl⟩:=Zj5 (f:=cRe) Tryz.underlying25 (fun x h=>Zy3 h) h7
 obtain⟨i,rfl⟩:=Zj5 (f:=cPu) Tryz.underlying26 (fun x h=>Zy8 h) h8
 exact⟨⟨a,b,c,d,e,f,g,i⟩,rfl⟩
end
section ifl
variable [Ifl]
section
variable {P:Program} {l:List Oper} {o:Oper}
end
section
variable {P:Program} {n:Nat} {Q:Exit→St→Prop} {s:St}
end
end ifl
section ifl
variable [Ifl]
def Zkx(E:Env)(T:Bet→Mem→World→Prop):Prop:=∀ β m w β' m' w',Za7 β m w β' m' w'→Zaw (safe E β m) w (safe E β' m') w'→T β m w→T β' m' w'
def AWR(P:Program)(n:Nat)(c:Code)(Q:Exit→St→Prop)(s:St):Prop :=
 ∀ (l:Nat)(E:Env)(T:Bet→Mem→World→Prop),Zkx E T→∀ B β a w,RelA E B n β s a w→T β s.m w→c.wpIn (Fence.wide.inRound l) 0 P (fun e a' w'=>∃ s' β',RelA E B n β' s' a' w'∧T β' s'.m w'∧Q e s') a w
section
variable {P:Program} {n:Nat} {Q:Exit→St→Prop} {s:St}
theorem rSkip(h:Q .normal s):AWR P n .skip Q s:=fun l E T hT B β a w hr ht=>wpIn_skip ⟨s,β,hr,ht,h⟩
theorem rExit{id:Nat}(h:Q (.exit id) s):AWR P n (.exit id) Q s:=fun l E T hT B β a w hr ht=>wpIn_exit ⟨s,β,hr,ht,h⟩
theorem rSeq{x y:Code}(h:∀ K:St→Prop,(∀ s,AWR P n y Q s→K s)→AWR P n x (Zrl K Q) s):AWR P n (.seq x y) Q s:=by
 intro l E T hT B β a w hr ht
 refine wpIn_seq (wpIn_mono (h _ (fun _ h=>h) l E T hT B β a w hr ht) ?_)
 rintro e a' w' ⟨s',β',h1,ht',h2⟩
 cases e with
 | normal=>exact h2 l E T hT B β' a' w' h1 ht'
 | _=>exact⟨s',β',h1,ht',h2⟩
theorem ZAY{id:Nat}{c:Code}(h:AWR P n c (Zgm id Q) s):AWR P n (.block id c) Q s:=by
 intro l E T hT B β a w hr ht
 refine wpIn_block (wpIn_mono (h l E T hT B β a w hr ht) ?_)
 rintro e a' w' ⟨s',β',h1,ht',h2⟩
 cases e with
 | exit id' =>
   simp only[Exit.inBlock,Zgm]at h2 ⊢
   split
   ·rename_i he;rw[if_pos he]at h2;exact⟨s',β',h1,ht',h2⟩
   ·rename_i he;rw[if_neg he]at h2;exact⟨s',β',h1,ht',h2⟩
 | _=>exact⟨s',β',h1,ht',h2⟩
theorem ZAX{c:Operand}{x y:Code}{b:Bool}(hf:ZdW n c=true)(hc:rd s.t c = .v (.bool b))(h1:b=true→AWR P n x Q s)(h2:b=false→AWR P n y Q s):AWR P n (.cond c x y) Q s:=by
 intro l E T hT B β a w hr ht
 have hv:Rep β s.m (safe E β s.m) w (a.eval c) (rd s.t c):=ZiA fun k hk=>hr.tmp k (by rw[hk]at hf;simpa[ZdW]using hf)
 rw[hc]at hv
 refine wpIn_cond_split hv.inv_v (fun hb=>h1 hb l E T hT B β a w hr ht) (fun hb=>h2 hb l E T hT B β a w hr ht)
theorem ZAV{c:Operand}{x y:Code}(hf:ZdW n c=true)(hc:rd s.t c = .v (.bool true))(h:AWR P n x Q s):AWR P n (.cond c x y) Q s:=ZAX hf hc (fun _=>h) (fun e=>by cases e)
theorem ZAW{c:Operand}{x y:Code}(hf:ZdW n c=true)(hc:rd s.t c = .v (.bool false))(h:AWR P n y Q s):AWR P n (.cond c x y) Q s:=ZAX hf hc (fun e=>by cases e) (fun _=>h)
end
section
variable {P:Program} {E:Env} {B:Base} {n:Nat} {β:Bet} {s:St} {a:Act} {w:World} {T:Bet→Mem→World→Prop}
theorem RelA.putT(hT:Zkx E T)(h:RelA E B n β s a w)(ht:T β s.m w){dst:Option Tmp}{m':Mem}{nx':Nat}{v:Value}{d:D}{w':World}(ha:ZbU E β s.m nx' w m' v d w') :
 ∃ β',RelA E B n β' {s with t:=putT s.t dst d,m:=m',nx:=nx'} (a.put dst v) w'∧T β' m' w':=by
 obtain⟨β',h1,h2,h3,h4⟩:=ha
 refine⟨β',⟨h1,fun k hk=>?_,?_,?_,h.le.trans h2,h.sle.trans h3,h.lo⟩,hT _ _ _ _ _ _ h2 h3 ht⟩
 ·rw[eval_put (by rw[h.width];exact hk)]
  cases dst with
  | none=>rw[if_neg (by simp)];exact(h.tmp k hk).mono h2 h3
  | some j =>
    by_cases e:j=k
    ·subst e;rw[if_pos rfl];simp only[Go.Proofs.YtiincpioidnciaaGreat.putT,Zac];exact h4
    ·rw[if_neg (by simpa using e)]
     simp only[Go.Proofs.YtiincpioidnciaaGreat.putT,Zab _ _ (Ne.symm e)]
     exact(h.tmp k hk).mono h2 h3
 ·cases dst<;>simp[Act.put,h.width]
 ·rw[Zgg];exact h.defers.le h2
theorem Zze(l:Nat)(hT:Zkx E T){o:Oper}{K:St→Prop}{K':Act→World→Prop}{Q:Exit→Act→World→Prop}(hf:ZbA n o=true)(h:RelA E B n β s a w)(ht:T β s.m w)(hA:opA P o s K)
 (hK:∀ s' β' a' w',RelA E B n β' s' a' w'→T β' s'.m w'→K s'→K' a' w'):o.wpIn (Fence.wide.inRound l) 0 P a w K' Q:=by
 refine⟨fun _ _=>trivial,?_⟩
 unfold opA at hA
 have hop:=ZjT hf h
 split at hA
 ·rename_i r hr
  obtain⟨h1,h2,h3⟩:=hA
  have hnd:∀ c,o.op ≠ .defer c:=fun c e=>by rw[e]at hr;simp[opF]at hr
  have hM:ZaL E β s.m (s.nx+r.new.length) w:=h.mem.mono_nx (Nat.le_add_right _ _)
  obtain⟨v,nn,w',g1,g2,g3⟩:=ZoZ hr h1 hM (fun i hi=>by
   rcases h2 with h2|h2
   ·rw[h2]at hi;simp at hi
   ·rw[h2]at hi ⊢
    simp at hi
    subst hi
    exact⟨h.mem.none,by simp⟩) hop
  rw[show(Fence.wide.inRound l).round=some l from rfl,Oper.semAt_some l _ _ hnd,g1]
  obtain⟨β',h4,h5⟩:=h.putT hT ht (dst:=o.dst) g3
  have:=hK _ β' _ _ h4 h5 h3
  rcases g2 with rfl|⟨rfl,rfl⟩
  ·exact this
  ·exact this
 ·split at hA
  ·rename_i f ds hc
   obtain⟨hb,hA⟩:=hA
   have hnd:∀ c,o.op ≠ .defer c:=fun c e=>by rw[e]at hc;simp[ZgH]at hc
   obtain⟨vs,h1,h2⟩:=ZhU (P:=P) hc hb hop
   rw[show(Fence.wide.inRound l).round=some l from rfl,Oper.semAt_some l _ _ hnd,h2,Oper.uponIn_enter]
   refine⟨fun e=>(by cases e),?_⟩
   refine(CallsIn.inRound l (callsIn_wide.2 (hA E β w vs h.mem h1))).mono ?_
   rintro e w' ⟨v,d,m',nx',rfl,ha,hk⟩
   obtain⟨β',h4,h5⟩:=h.putT hT ht (dst:=o.dst) ha
   exact hK _ β' _ _ h4 h5 hk
  ·exact hA.elim
theorem ZlP(l:Nat)(hT:Zkx E T){ops:Array Oper}{K:St→Prop}{Q:Exit→Act→World→Prop}(hall:ops.all (ZbA n)=true)(hQ:∀ s' β' a' w',RelA E B n β' s' a' w'→T β' s'.m w'→K s'→Q .normal a' w') :
 ∀ (L:List Oper)(s:St)(β:Bet)(a:Act)(w:World),L.all (ZbA n)=true→RelA E B n β s a w→T β s.m w→opsA P ops L s K→wpListIn (Fence.wide.inRound l) 0 P ops Q L a w
 | [],s,β,a,w,_,h,ht,hA=>hQ s β a w h ht hA
 | o ::rest,s,β,a,w,hl,h,ht,hA=>by
   rw[List.all_cons,Ya2]at hl
   unfold opsA at hA
   split at hA
   ·rename_i g hg
    have hw:=Zme hg (Znt hall hl.1 h)
    unfold wpListIn
    rw[hw]
    cases g with
    | true =>
      rw[if_pos rfl]
      exact Zze l hT hl.1 h ht (hA.1 rfl) fun s' β' a' w' h' ht' hk=>ZlP l hT hall hQ rest s' β' a' w' hl.2 h' ht' hk
    | false =>
      rw[if_neg (by simp)]
      have ha:=ZbU.same h.mem (Rep.inv_undef:Rep β s.m (safe E β s.m) w undef (.v undef))
      obtain⟨β',h',ht'⟩:=h.putT hT ht (dst:=o.dst) ha
      exact⟨fun _ _=>trivial,ZlP l hT hall hQ rest _ β' _ w hl.2 h' ht' (hA.2 rfl)⟩
   ·exact hA.elim
end
theorem rOps{P:Program}{n:Nat}{Q:Exit→St→Prop}{s:St}{id:Nat}{L:List Oper}(ds:List (Option Tmp))(hds:L.map (·.dst)=ds)(hf:L.toArray.all (ZbA n)=true)(h:opsL P ds (L.map ZgO) s (Q .normal)):AWR P n (.region id L.toArray false) Q s:=by
 intro l E T hT B β a w hr ht
 have h:=Zdj (ops:=L.toArray) L s (by subst hds;exact h)
 refine wpIn_region_lit (ZlP l hT hf (fun s' β' a' w' h1 h2 h3=>⟨s',β',h1,h2,h3⟩) L s β a w ?_ hr ht h)
 rw[← hf];simp
end ifl
end Go.Proofs.YtiincpioidnciaaGreat
