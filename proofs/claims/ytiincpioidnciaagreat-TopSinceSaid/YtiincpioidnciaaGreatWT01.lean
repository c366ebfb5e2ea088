/-
  Holds of linear and of the reference.
-/
import Derived.Test.YtiincpioidnciaaGreatWLib
import Derived.Test.YtiincpioidnciaaGreatWT00
import Derived.Test.YtiincpioidnciaaGreatWConv
import Derived.TacticsIn
namespace Go.Proofs.YtiincpioidnciaaGreat
set_option linter.unusedVariables false
set_option linter.unusedSimpArgs false
set_option linter.unusedSectionVars false
open Go Go.RowKit
set_option maxRecDepth 100000
set_option maxHeartbeats 2000000
theorem Zhz{s:SysD}{x:List Zaf}(h:(Zao s&&decide ((x.length:Int)=s.n)&&okP x&&ZeH x)=false):D.v (.bool false)=dB (ZaA s x):=Zaj (by unfold ZaA;rw[h];rfl)
theorem Zli{s:SysD}{x:List Zaf}{k:Nat}{w:RowD}(hx:s.r[k]? =some w)(h:Zcc w x=false):D.v (.bool false)=dB (ZaA s x):=Zaj (by unfold ZaA;rw[ZcD (p:=fun w=>Zcc w x) hx h,Bool.and_false])
theorem ZnD{s:SysD}{x:List Zaf}(h:Zao s=true)(hn:(x.length:Int)=s.n){k:Nat}{w:RowD}(hx:s.r[k]? =some w):Zai w.t x.length=true∧okF w.v=true:=by
 have:=ZeA h (ZaJ hx)
 simp only[Zct,Ya2]at this
 rw[hn]
 exact⟨this.1.1.1,this.2⟩
theorem ZwR(s:SysD)(x:List Zaf)(hs:smS s)(hxs:smFs x):Zae Tryz.prog 92 [encS s,ZbX x] (dB (ZaA s x)):=by
 have Zr:=Tryz.results92
 have hl:=Zoz hs
 have hlx:=Zf4 hxs
 have k1:=ZdR s hs
 have k2:=Zqz x hxs
 cases h1:Zao s
 ·rw[h1]at k1
  refine inC Tryz.func92 rfl Tryz.ntmps92 ?_
  refine aGo Zr ?_
  repeat with_reducible intro K hK
  exact Zhz (by rw[h1];rfl)
 rw[h1]at k1
 cases h2:(x.length:Int) !=s.n
 rotate_left
 ·refine inC Tryz.func92 rfl Tryz.ntmps92 ?_
  refine aGo (cj2 Zr h2) ?_
  repeat with_reducible intro K hK
  exact Zhz (by simp at h2;simp[h2])
 have hn:(x.length:Int)=s.n:=by simpa using h2
 cases h3:okP x
 ·rw[h3]at k2
  refine inC Tryz.func92 rfl Tryz.ntmps92 ?_
  refine aGo (cj2 Zr h2) ?_
  repeat with_reducible intro K hK
  exact Zhz (by rw[h3];simp)
 rw[h3]at k2
 refine inC Tryz.func92 rfl Tryz.ntmps92 ?_
 refine aGo (cj2 Zr h2) ?_
 repeat with_reducible intro K hK
 refine ZaH (fun(k:Nat)=>[(0,encS s),(1,ZbX x),(2,.lp 0 0 0 0),(25,ZbX x),(26,dI x.length),(27,dI k)]) (fun k=>[(0,⟨88,0,2,[cS s],0,false⟩)]) 1 0 (fun k=>k≤x.length∧(x.take k).all (fun f=>decide (0≤sgnD f))=true) (fun k=>x.length-k) 0 ⟨by omega,rfl⟩ ?_ ?_
 ·exact leGo trivial
 ·rintro k ⟨hk,hg⟩
  obtain⟨hw,h0⟩:=ZaS k
  by_cases h4:(k:Int)<x.length
  ·obtain⟨f,hx⟩:=getE (l:=x) (k:=k) (by omega)
   have k3:=ZdT f (ZgH (hxs.2 f (ZaJ hx)))
   by_cases h5:sgnD f<0
   ·refine aGo (cj4 Zr h0 h4 (cj3 hx hw h5)) ?_
    repeat with_reducible intro K hK
    exact Zhz (by rw[show ZeH x=false from ZcD hx (by simp;omega),Bool.and_false])
   ·refine aGo (cj4 Zr h0 h4 (cj3 hx hw h5)) ?_
    repeat with_reducible intro K hK
    exact Zah (k+1) ⟨by omega,ZaG hx hg (by simp;omega)⟩ (by omega) (by exact leGo trivial)
  ·rw[Ya8 (by omega)]at hg
   refine aGo (cj2 Zr h4) ?_
   repeat with_reducible intro K hK
   refine ZaH (fun(k:Nat)=>[(1,ZbX x),(36,Zsm s.r),(37,dI s.r.length),(38,dI k)]) (fun k=>[]) 0 0 (fun k=>k≤s.r.length∧(s.r.take k).all (fun w=>Zcc w x)=true) (fun k=>s.r.length-k) 0 ⟨by omega,rfl⟩ ?_ ?_
   ·exact leGo trivial
   ·rintro k ⟨hk,hr⟩
    obtain⟨hw,h0⟩:=ZaS k
    by_cases h4:(k:Int)<s.r.length
    ·obtain⟨w,hx⟩:=getE (l:=s.r) (k:=k) (by omega)
     obtain⟨h6,h7⟩:=ZnD h1 hn hx
     have sm:=hs.2 w (ZaJ hx)
     have k3:=Zqx w.t x sm.1 hxs h6 h3
     have k4:=ZcI (ofQ (dotD w.t x)) w.v (by have:=Zos w x sm.1 hxs h6 h3;omega) (ZgH sm.2)
     rw[show cmpD (ofQ (dotD w.t x)) w.v=sgQ (dotD w.t x-qOf w.v) by simp[cmpD,Zbm,ZaM,h7]]at k4
     have hd:Zcc w x=ZdA w.k (sgQ (dotD w.t x-qOf w.v)):=rfl
     generalize sgQ (dotD w.t x-qOf w.v)=c at *
     by_cases g1:c<0
     ·have g3:¬ c>0:=by omega
      have g4:(c==0)=false:=by simp;omega
      cases g2:w.k !=1
      ·refine aGo (cj4 Zr h0 h4 (cj4 hx hw g1 (cj2 g2 g3))) ?_
       repeat with_reducible intro K hK
       exact Zah (k+1) ⟨by omega,ZaG hx hr (by rw[hd];simp at g2;simp[ZdA,g2];omega)⟩ (by omega) (by exact leGo trivial)
      ·refine aGo (cj4 Zr h0 h4 (cj4 hx hw g1 (cj2 g2 g3))) ?_
       repeat with_reducible intro K hK
       exact Zli hx (by rw[hd];simp at g2;simp[ZdA,g2];omega)
     by_cases g3:c>0
     ·cases g2:w.k !=0
      ·refine aGo (cj4 Zr h0 h4 (cj4 hx hw g1 (cj2 g2 g3))) ?_
       repeat with_reducible intro K hK
       exact Zah (k+1) ⟨by omega,ZaG hx hr (by rw[hd];simp at g2;simp[ZdA,g2];omega)⟩ (by omega) (by exact leGo trivial)
      ·refine aGo (cj4 Zr h0 h4 (cj4 hx hw g1 (cj2 g2 g3))) ?_
       repeat with_reducible intro K hK
       exact Zli hx (by rw[hd];simp at g2;simp[ZdA,g2];omega)
     ·refine aGo (cj4 Zr h0 h4 (cj4 hx hw g1 g3)) ?_
      repeat with_reducible intro K hK
      exact Zah (k+1) ⟨by omega,ZaG hx hr (by rw[hd];simp[ZdA];omega)⟩ (by omega) (by exact leGo trivial)
    ·refine aGo (cj2 Zr h4) ?_
     repeat with_reducible intro K hK
     rw[Ya8 (by omega)]at hr
     exact Zaj (by simp[ZaA,h1,hn,h3,hr];exact hg)
def mulT(f:Zaf)(t:Zag):Zag:=⟨t.v,ofQ (qOf t.f*qOf f)⟩
def Zfo(l:List Zag)(f:Zaf):List Zag:=if Zai l 1500&&sgnD f !=0 then l.map (mulT f)else []
theorem ZmE{l:List Zag}{f:Zaf}(h:(Zai l 1500&&sgnD f !=0)=false):D.sl []=Zbr (Zfo l f):=by unfold Zfo;rw[h];rfl
theorem Zrj{l:List Zag}{f:Zaf}(h1:Zai l 1500=true)(h2:(sgnD f !=0)=true):Zfo l f=l.map (mulT f):=by unfold Zfo;rw[h1,h2];rfl
theorem Zl3{α β:Type}(g:α→β){l:List α}{k:Nat}{x:α}(hx:l[k]? =some x):(l.take (k+1)).map g=(l.take k).map g++[g x]:=by
 rw[Yb4,hx];simp
def outT(l:List Zag)(f:Zaf)(k:Nat):List Zag:=(l.take k).map (mulT f)
theorem ZtN{l:List Zag}(f:Zaf){k:Nat}{t:Zag}(ht:l[k]? =some t):outT l f (k+1)=outT l f k++[⟨t.v,ofQ (qOf t.f*qOf f)⟩]:=Zl3 _ ht
theorem Zwq(l:List Zag)(f:Zaf)(k:Nat):(outT l f k).length≤l.length:=by
 unfold outT;rw[Yc0];exact List.length_take_le' k l
theorem ZtM(l:List Zag)(f:Zaf):outT l f 0=[]:=rfl
theorem Zwr{l:List Zag}{f:Zaf}(h1:Zai l 1500=true)(h2:(sgnD f !=0)=true):outT l f l.length=Zfo l f:=by
 unfold outT;rw[Yc2,Zrj h1 h2]
theorem ZaF{α:Type}{f:α→List D}{g:D→D}(h:∀ a,List.map g (f a)=f a)(l:List α):List.map (List.map g) (List.map f l)=List.map f l:=by
 rw[List.map_map]
 exact List.map_congr_left fun a _=>h a
theorem Zxa(m:Mem)(n:Nat)(l:List Zag):D.sl (List.map (List.map (fzT true m (n+1))) (List.map cT l))=Zbr l:=by rw[ZaF (fun _=>rfl)]
theorem Zqy(l:List Zag)(f:Zaf)(hs:smT l)(hf:smF f):Zae Tryz.prog 96 [Zbr l,encF f] (Zbr (Zfo l f)):=by
 have Zr:=Tryz.results96
 have hl:=Zoy hs
 have k1:=Zfa l 1500 hs
 have k2:=ZdT f (ZgH hf)
 cases h1:Zai l 1500
 ·rw[h1]at k1
  refine inC Tryz.func96 rfl Tryz.ntmps96 ?_
  refine aGo Zr ?_
  repeat with_reducible intro K hK
  exact ZmE (by rw[h1];rfl)
 rw[h1]at k1
 cases h2:sgnD f==0
 rotate_left
 ·refine inC Tryz.func96 rfl Tryz.ntmps96 ?_
  refine aGo (cj2 Zr h2) ?_
  repeat with_reducible intro K hK
  exact ZmE (by simp at h2;simp[h2])
 have h2':(sgnD f !=0)=true:=by simp at h2;simp[h2]
 have hok:okF f=true:=by
  cases ho:okF f
  ·rw[ZoI ho]at h2';cases h2'
  ·rfl
 refine inC Tryz.func96 rfl Tryz.ntmps96 ?_
 refine aGo (cj2 Zr h2) ?_
 repeat with_reducible intro K hK
 refine aLe (Zd9 5 144 5 rfl) ?_
 refine ZaH (fun(k:Nat)=>[(3,.lp 0 0 0 0),(5,.ls 1 k),(18,Zbr l),(19,dI l.length),(20,dI k)]) (fun k=>[(0,⟨35,0,4,[cF f],0,false⟩),(1,⟨144,k,5,(outT l f k).map cT,0,false⟩)]) 2 0 (fun k=>k≤l.length) (fun k=>l.length-k) 0 (by omega) ?_ ?_
 ·exact leGo ZtM
 ·rintro k hk
  obtain⟨hw,h0⟩:=ZaS k
  by_cases h3:(k:Int)<l.length
  ·obtain⟨t,ht⟩:=getE (l:=l) (k:=k) (by omega)
   obtain⟨_,_,h4,_⟩:=ZaY h1 (ZaJ ht)
   have k3:=ZuG t.f f (ZgH (hs.2 t (ZaJ ht))) (ZgH hf)
   rw[show mulD t.f f=(ofQ (qOf t.f*qOf f),0) by simp[mulD,h4,hok]]at k3
   have hn:=ZtN f ht
   have hlen:(outT l f k).length≤4096:=by have:=Zwq l f k;omega
   refine aGo (cj4 Zr h0 h3 (cj2 ht hw)) ?_
   repeat with_reducible intro K hK
   exact Zah (k+1) (by omega) (by omega) (by exact leGo hn)
  ·have e:k=l.length:=by omega
   subst e
   rw[Zwr h1 h2']
   refine aGo (cj2 Zr h3) ?_
   repeat with_reducible intro K hK
   exact Zxa _ _ _
theorem Zcy(l:List Zag):List.take l.length (List.map cT l)=List.map cT l:=Ya8 (by simp)
structure PlusX where
 a:List Zag
 b:List Zag
 o:List Zag
set_option maxHeartbeats 4000000
structure PlusI where
 i:Nat
 k:Nat
 o:List Zag
abbrev q1(n:Int):Rat:=Rat.divInt n 1
abbrev fq(n:Int):Zaf:=ofQ (q1 n)
set_option maxHeartbeats 8000000
theorem Zc9(f:Zaf):Zej f f=true:=by cases f;simp[Zej,Zex]
theorem Zg7{f g:Zaf}:Zej f g=true↔f=g:=by
 cases f;cases g
 simp[Zej,Zex]
def dotS(g:Int→Rat):List Zag→Rat
 | []=>0
 | t ::l=>qOf t.f*g t.v+dotS g l
theorem ZgW(g:Int→Rat):∀ l m:List Zag,dotS g (l++m)=dotS g l+dotS g m
 | [],m=>by simp[dotS];grind
 | t ::l,m=>by simp only[Yc9,dotS,ZgW g l m];grind
theorem ZnJ(g:Int→Rat):∀ (l:List Zag)(z:Rat),l.foldl (fun a t=>a+qOf t.f*g t.v) z=z+dotS g l
 | [],z=>by simp only[List.foldl_nil,dotS];grind
 | t ::l,z=>by simp only[List.foldl_cons,dotS];rw[ZnJ g l];grind
theorem Zdr(l:List Zag)(x:List Zaf):dotD l x=dotS (atP x) l:=by
 unfold dotD;rw[ZnJ];grind
theorem Zub(g:Int→Rat)(f:Zaf):∀ l:List Zag,dotS g (l.map (mulT f))=qOf f*dotS g l
 | []=>by simp only[List.map_nil,dotS];grind
 | t ::l=>by simp only[List.map_cons,dotS,mulT,ZaM,Zub g f l];grind
theorem ZaN{n last:Int}{t:Zag}{l:List Zag}:goR n last (t ::l)=true↔last<t.v∧t.v<n∧sgnD t.f≠0∧goR n t.v l=true:=by
 simp[goR,and_assoc]
theorem ZzH{n last last':Int}(h:last'≤last):∀ {l:List Zag},goR n last l=true→goR n last' l=true
 | [],_=>rfl
 | t ::l,k=>by
   rw[ZaN]at k ⊢
   exact⟨by omega,k.2.1,k.2.2.1,k.2.2.2⟩
theorem ZqK{n n' last:Int}(h:n≤n'):∀ {l:List Zag} {last:Int},goR n last l=true→goR n' last l=true
 | [],_,_=>rfl
 | t ::l,_,k=>by
   rw[ZaN]at k ⊢
   exact⟨k.1,by omega,k.2.2.1,ZqK (last:=t.v) h k.2.2.2⟩
theorem ZoM{n n':Int}(h:n≤n'){l:List Zag}(k:Zai l n=true):Zai l n'=true:=by
 simp only[Zai,Ya2,decide_eq_true_eq]at k ⊢
 exact⟨by omega,ZqK (last:= -1) h k.2⟩
theorem Zeh{f:Zaf}(h:sgnD f≠0):okF f=true∧qOf f≠0:=by
 cases ho:okF f
 ·exact absurd (ZoI ho) h
 ·refine⟨rfl,fun h0=>h ?_⟩
  simp[sgnD,ho,h0,sgQ]
theorem Ze5{q:Rat}(h:q≠0):sgnD (ofQ q)≠0:=by rw[Zcw];exact fun h0=>h (Ze7.1 h0)
theorem Znq{n:Int}{f:Zaf}(hf:sgnD f≠0):∀ (l:List Zag)(last:Int),goR n last l=true→goR n last (l.map (mulT f))=true
 | [],_,_=>rfl
 | t ::l,last,h=>by
   have h':=ZaN.1 h
   rw[List.map_cons]
   refine ZaN.2 ⟨h'.1,h'.2.1,Ze5 ?_,Znq hf l t.v h'.2.2.2⟩
   have h1:=(Zeh h'.2.2.1).2
   have h2:=(Zeh hf).2
   exact fun h0=>(Rat.mul_eq_zero.1 h0).elim h1 h2
def indI(v u:Int):Rat:=if u=v then 1 else 0
theorem ZfT{n:Int}{v:Int}:∀ (l:List Zag)(last:Int),v≤last→goR n last l=true→dotS (indI v) l=0
 | [],_,_,_=>rfl
 | t ::l,last,h,k=>by
   have k':=ZaN.1 k
   have ih:=ZfT (n:=n) (v:=v) l t.v (by omega) k'.2.2.2
   simp only[dotS,ih]
   rw[show indI v t.v=0 from if_neg (by omega)];grind
theorem Zgk{n:Int}{last:Int}{t:Zag}{l:List Zag}(k:goR n last (t ::l)=true):dotS (indI t.v) (t ::l)=qOf t.f:=by
 have k':=ZaN.1 k
 simp only[dotS,ZfT l t.v (Int.le_refl _) k'.2.2.2,indI,if_true];grind
theorem ZuA{n m:Int}:∀ (a b:List Zag)(la lb:Int),goR n la a=true→goR m lb b=true→(∀ g,dotS g a=dotS g b)→a=b
 | [],[],_,_,_,_,_=>rfl
 | [],y ::b,_,lb,_,hb,h=>by
   have:=h (indI y.v)
   rw[Zgk hb]at this
   exact absurd this.symm (Zeh (ZaN.1 hb).2.2.1).2
 | x ::a,[],la,_,ha,_,h=>by
   have:=h (indI x.v)
   rw[Zgk ha]at this
   exact absurd this (Zeh (ZaN.1 ha).2.2.1).2
 | x ::a,y ::b,la,lb,ha,hb,h=>by
   have ha':=ZaN.1 ha
   have hb':=ZaN.1 hb
   have fx:=Zeh ha'.2.2.1
   have fy:=Zeh hb'.2.2.1
   rcases Int.lt_trichotomy x.v y.v with hv|hv|hv
   ·have:=h (indI x.v)
    rw[Zgk ha,ZfT (n:=m) (y ::b) x.v (Int.le_refl _) (ZaN.2 ⟨hv,hb'.2⟩)]at this
    exact absurd this fx.2
   ·have hq:=h (indI x.v)
    rw[Zgk ha,hv,Zgk hb]at hq
    have he:x=y:=by
     cases x with|mk u f=>cases y with|mk w g =>
     dsimp only at hv hq fx fy
     rw[ZfK fx.1,ZfK fy.1,hq,hv]
    subst he
    congr 1
    refine ZuA a b x.v x.v ha'.2.2.2 hb'.2.2.2 fun g=>?_
    have:=h g
    simp only[dotS]at this
    grind
   ·have:=h (indI y.v)
    rw[Zgk hb,ZfT (n:=n) (x ::a) y.v (Int.le_refl _) (ZaN.2 ⟨hv,ha'.2⟩)]at this
    exact absurd this.symm fy.2
theorem ZrL{n m:Int}{a b:List Zag}(ha:Zai a n=true)(hb:Zai b m=true)(h:∀ g,dotS g a=dotS g b):a=b:=by
 simp only[Zai,Ya2]at ha hb
 exact ZuA a b _ _ ha.2 hb.2 h
theorem Zm3{n:Int}{a:List Zag}{f:Zaf}(ha:Zai a n=true):Zai (Zfo a f) n=true:=by
 unfold Zfo
 have h0:decide (0≤n)=true:=by simp only[Zai,Ya2]at ha;exact ha.1
 split
 ·rename_i h
  simp only[Ya2,bne_iff_ne]at h
  simp only[Zai,Ya2]at ha ⊢
  exact⟨ha.1,Znq h.2 a _ ha.2⟩
 ·simp[Zai,goR];simpa using h0
theorem Zrk{a:List Zag}{f:Zaf}(ha:Zai a 1500=true)(hf:okF f=true)(g:Int→Rat):dotS g (Zfo a f)=qOf f*dotS g a:=by
 unfold Zfo
 rw[ha,Bool.true_and]
 split
 ·exact Zub g f a
 ·rename_i h
  have h0:qOf f=0:=by
   have:sgnD f=0:=by simpa using h
   simp only[sgnD,hf,if_true]at this
   exact Ze7.1 this
  rw[h0];simp only[dotS];grind
def sumN:Nat→(Nat→Rat)→Rat
 | 0,_=>0
 | n+1,f=>sumN n f+f n
theorem ZaX{f g:Nat→Rat}:∀ n,(∀ i,i<n→f i=g i)→sumN n f=sumN n g
 | 0,_=>rfl
 | n+1,h=>by simp only[sumN,ZaX n (fun i hi=>h i (by omega)),h n (by omega)]
theorem Zbd:∀ n,sumN n (fun _=>0)=0
 | 0=>rfl
 | n+1=>by simp only[sumN,Zbd n];grind
theorem Ze4(f g:Nat→Rat):∀ n,sumN n (fun i=>f i+g i)=sumN n f+sumN n g
 | 0=>by simp only[sumN];grind
 | n+1=>by simp only[sumN,Ze4 f g n];grind
theorem Zdw(c:Rat)(f:Nat→Rat):∀ n,sumN n (fun i=>c*f i)=c*sumN n f
 | 0=>by simp only[sumN];grind
 | n+1=>by simp only[sumN,Zdw c f n];grind
theorem Zjw{f g:Nat→Rat}:∀ n,(∀ i,i<n→f i≤g i)→sumN n f≤sumN n g
 | 0,_=>by simp only[sumN];grind
 | n+1,h=>by
   have h1:=Zjw n (fun i hi=>h i (by omega))
   have h2:=h n (by omega)
   simp only[sumN];grind
theorem Zf2{c:Rat}{v:Nat}:∀ n,sumN n (fun i=>if i=v then c else 0)=if v<n then c else 0
 | 0=>by simp only[sumN];rw[if_neg (by omega)]
 | n+1=>by
   simp only[sumN,Zf2 n]
   by_cases h:n=v
   ·subst h;rw[if_neg (by omega),if_pos rfl,if_pos (by omega)];grind
   ·rw[if_neg h]
    by_cases h2:v<n
    ·rw[if_pos h2,if_pos (by omega)];grind
    ·rw[if_neg h2,if_neg (by omega)];grind
def ZaU(l:List Zag)(v:Nat):Rat:=dotS (indI v) l
theorem Zij{N:Nat}(g:Int→Rat):∀ (l:List Zag),(∀ t∈l,0≤t.v∧t.v<N)→dotS g l=sumN N (fun v=>ZaU l v*g v)
 | [],_=>by
   have:(fun v:Nat=>ZaU [] v*g v)=fun _=>0:=by funext v;simp only[ZaU,dotS];grind
   rw[this,Zbd];rfl
 | t ::l,h=>by
   have ht:=h t Yb7
   have ih:=Zij g l (fun u hu=>h u (Yb6 _ hu))
   have e:(fun v:Nat=>ZaU (t ::l) v*g v)=fun v=>(if v=t.v.toNat then qOf t.f*g t.v else 0)+ZaU l v*g v:=by
    funext v
    simp only[ZaU,dotS,indI]
    by_cases hv:v=t.v.toNat
    ·rw[if_pos (by omega),if_pos hv,show((v:Nat):Int)=t.v by omega];grind
    ·rw[if_neg (by omega),if_neg hv];grind
   rw[e,Ze4,Zf2,if_pos (by omega),← ih]
   simp only[dotS]
theorem ZfG{l:List Zag}{N:Nat}(h:Zai l N=true):∀ t∈l,0≤t.v∧t.v<N:=fun t ht=>⟨(ZaY h ht).1,(ZaY h ht).2.1⟩
def mixG(g:Int→Rat):List RowD→List Zaf→Rat
 | w ::r,f ::y=>qOf f*dotS g w.t+mixG g r y
 | _,_=>0
def mixV:List RowD→List Zaf→Rat
 | w ::r,f ::y=>qOf f*qOf w.v+mixV r y
 | _,_=>0
theorem Zga(g:Int→Rat)(y:List Zaf):mixG g [] y=0:=by cases y<;>rfl
theorem Zhr(y:List Zaf):mixV [] y=0:=by cases y<;>rfl
theorem Zhs(g:Int→Rat):∀ (r:List RowD)(y:List Zaf)(k:Nat)(w:RowD)(f:Zaf),r[k]? =some w→y[k]? =some f→mixG g (r.take (k+1)) (y.take (k+1))=mixG g (r.take k) (y.take k)+qOf f*dotS g w.t
 | [],_,_,_,_,h,_=>by simp at h
 | _ ::_,[],_,_,_,_,h=>by simp at h
 | u ::r,e ::y,0,w,f,h1,h2=>by
   simp at h1 h2;subst h1;subst h2
   simp only[List.take_succ_cons,List.take_zero,mixG];grind
 | u ::r,e ::y,k+1,w,f,h1,h2=>by
   have:=Zhs g r y k w f (by simpa using h1) (by simpa using h2)
   simp only[List.take_succ_cons,mixG]at this ⊢
   rw[this];grind
theorem Zi6:∀ (r:List RowD)(y:List Zaf)(k:Nat)(w:RowD)(f:Zaf),r[k]? =some w→y[k]? =some f→mixV (r.take (k+1)) (y.take (k+1))=mixV (r.take k) (y.take k)+qOf f*qOf w.v
 | [],_,_,_,_,h,_=>by simp at h
 | _ ::_,[],_,_,_,_,h=>by simp at h
 | u ::r,e ::y,0,w,f,h1,h2=>by
   simp at h1 h2;subst h1;subst h2
   simp only[List.take_succ_cons,List.take_zero,mixV];grind
 | u ::r,e ::y,k+1,w,f,h1,h2=>by
   have:=Zi6 r y k w f (by simpa using h1) (by simpa using h2)
   simp only[List.take_succ_cons,mixV]at this ⊢
   rw[this];grind
theorem Zqs{N:Nat}(g:Int→Rat):∀ (r:List RowD)(y:List Zaf),(∀ w∈r,∀ t∈w.t,0≤t.v∧t.v<N)→mixG g r y=sumN N (fun v=>mixG (indI v) r y*g v)
 | [],y,_=>by simp only[Zga];rw[show(fun v:Nat=>(0:Rat)*g v)=fun _=>0 by funext v;grind,Zbd]
 | w ::r,[],_=>by
   simp only[mixG];rw[show(fun v:Nat=>(0:Rat)*g v)=fun _=>0 by funext v;grind,Zbd]
 | w ::r,f ::y,h=>by
   have ih:=Zqs g r y (fun u hu=>h u (Yb6 _ hu))
   have e:(fun v:Nat=>mixG (indI v) (w ::r) (f ::y)*g v)=fun v=>qOf f*(ZaU w.t v*g v)+mixG (indI v) r y*g v:=by
    funext v;simp only[mixG,ZaU];grind
   rw[e,Ze4,Zdw,← Zij g w.t (h w Yb7),← ih]
   simp only[mixG]
def Zbg(n:Nat)(c:Nat→Rat):List Zag:=(List.range n).filterMap fun(v:Nat)=>if c v=0 then none else some ⟨(v:Int),ofQ (c v)⟩
theorem Zdg(n:Nat)(c:Nat→Rat):Zbg (n+1) c=Zbg n c++(if c n=0 then []else [⟨(n:Int),ofQ (c n)⟩]):=by
 unfold Zbg
 rw[List.range_succ,List.filterMap_append]
 by_cases h:c n=0<;>simp[h]
theorem ZkN{c:Nat→Rat}:∀ (n:Nat),∀ t∈Zbg n c,0≤t.v∧t.v<n
 | 0,t,h=>by simp[Zbg]at h
 | n+1,t,h=>by
   rw[Zdg,Yd5]at h
   rcases h with h|h
   ·have:=ZkN n t h;omega
   ·split at h
    ·cases h
    ·rw[List.mem_singleton]at h;subst h;dsimp only;omega
theorem Zja{n:Int}{t:Zag}(h2:t.v<n)(h3:sgnD t.f≠0):∀ (l:List Zag)(last:Int),goR n last l=true→last<t.v→(∀ u∈l,u.v<t.v)→goR n last (l++[t])=true
 | [],last,_,h,_=>ZaN.2 ⟨h,h2,h3,rfl⟩
 | u ::l,last,k,_,hu=>by
   have k':=ZaN.1 k
   exact ZaN.2 ⟨k'.1,k'.2.1,k'.2.2.1,Zja h2 h3 l u.v k'.2.2.2 (hu u Yb7) (fun w hw=>hu w (Yb6 _ hw))⟩
theorem Zjt{c:Nat→Rat}{m:Int}:∀ (n:Nat),(n:Int)≤m→goR m (-1) (Zbg n c)=true
 | 0,_=>rfl
 | n+1,h=>by
   rw[Zdg]
   have ih:=Zjt (c:=c) (m:=m) n (by omega)
   split
   ·rw[List.append_nil];exact ih
   ·rename_i hc
    exact Zja (by dsimp only;omega) (Ze5 hc) _ _ ih (by dsimp only;omega) (fun u hu=>by have:=ZkN n u hu;dsimp only;omega)
theorem Zg4{c:Nat→Rat}{n:Nat}{m:Int}(h:(n:Int)≤m):Zai (Zbg n c) m=true:=by
 simp only[Zai,Ya2,decide_eq_true_eq]
 exact⟨by omega,Zjt n h⟩
theorem Ze2(g:Int→Rat)(c:Nat→Rat):∀ n:Nat,dotS g (Zbg n c)=sumN n (fun v=>c v*g v)
 | 0=>rfl
 | n+1=>by
   rw[Zdg,ZgW,Ze2 g c n]
   simp only[sumN]
   split
   ·rename_i h;rw[h];simp only[dotS];grind
   ·simp only[dotS,ZaM];grind
theorem Zfz(c:Nat→Rat)(n v:Nat):ZaU (Zbg n c) v=if v<n then c v else 0:=by
 unfold ZaU
 rw[Ze2]
 have e:(fun u:Nat=>c u*indI v u)=fun u=>if u=v then c v else 0:=by
  funext u
  simp only[indI]
  by_cases h:u=v
  ·subst h;rw[if_pos rfl,if_pos rfl];grind
  ·rw[if_neg (by omega),if_neg h];grind
 rw[e,Zf2]
theorem Zjs(c:Nat→Rat)(n:Nat):(Zbg n c).length≤n:=by
 unfold Zbg
 have:=List.length_filterMap_le (fun v:Nat=>if c v=0 then none else some (⟨(v:Int),ofQ (c v)⟩:Zag)) (List.range n)
 rwa [List.length_range]at this
theorem ZoK{l:List Zag}{n:Nat}(h:Zai l n=true):l=Zbg n (ZaU l) :=
 ZrL h (Zg4 (Int.le_refl _)) fun g=>by rw[Ze2,Zij g l (ZfG h)]
theorem Zq3{l:List Zag}{n:Nat}(h:Zai l n=true){v:Nat}(hv:n≤v):ZaU l v=0:=by
 rw[ZoK h,Zfz,if_neg (by omega)]
def Zdv(a b:List Zag):Prop:=∀ v:Int,dotS (indI v) a≤dotS (indI v) b
theorem ZcR{n last v:Int}{l:List Zag}(h:goR n last l=true)(hv:v≤last):dotS (indI v) l=0:=ZfT l last hv h
theorem Zcx(v:Int)(x:Zag)(l:List Zag):dotS (indI v) (x ::l)=(if x.v=v then qOf x.f else 0)+dotS (indI v) l:=by
 simp only[dotS,indI]
 by_cases h:x.v=v
 ·rw[if_pos h,if_pos h];grind
 ·rw[if_neg h,if_neg h];grind
theorem Zku{n last:Int}{x:Zag}{a b:List Zag}(ha:goR n last (x ::a)=true)(hb:goR n x.v b=true):Zdv (x ::a) b↔qOf x.f≤0∧Zdv a b:=by
 have ha':=(ZaN.1 ha).2.2.2
 constructor
 ·intro h
  have h0:=h x.v
  rw[Zcx,if_pos rfl,ZcR ha' (Int.le_refl _),ZcR hb (Int.le_refl _)]at h0
  refine⟨by grind,fun v=>?_⟩
  have hv:=h v
  rw[Zcx]at hv
  by_cases e:x.v=v
  ·subst e;rw[ZcR ha' (Int.le_refl _),ZcR hb (Int.le_refl _)];exact Rat.le_refl
  ·rw[if_neg e]at hv;grind
 ·rintro⟨h0,h⟩ v
  have hv:=h v
  rw[Zcx]
  split<;>grind
theorem ZiP{n last:Int}{y:Zag}{a b:List Zag}(ha:goR n y.v a=true)(hb:goR n last (y ::b)=true):Zdv a (y ::b)↔0≤qOf y.f∧Zdv a b:=by
 have hb':=(ZaN.1 hb).2.2.2
 constructor
 ·intro h
  have h0:=h y.v
  rw[Zcx,if_pos rfl,ZcR hb' (Int.le_refl _),ZcR ha (Int.le_refl _)]at h0
  refine⟨by grind,fun v=>?_⟩
  have hv:=h v
  rw[Zcx]at hv
  by_cases e:y.v=v
  ·subst e;rw[ZcR ha (Int.le_refl _),ZcR hb' (Int.le_refl _)];exact Rat.le_refl
  ·rw[if_neg e]at hv;grind
 ·rintro⟨h0,h⟩ v
  have hv:=h v
  rw[Zcx]
  split<;>grind
theorem Zsx{n la lb:Int}{x y:Zag}{a b:List Zag}(ha:goR n la (x ::a)=true)(hb:goR n lb (y ::b)=true)(e:x.v=y.v):Zdv (x ::a) (y ::b)↔qOf x.f≤qOf y.f∧Zdv a b:=by
 have ha':=(ZaN.1 ha).2.2.2
 have hb':=(ZaN.1 hb).2.2.2
 constructor
 ·intro h
  have h0:=h x.v
  rw[Zcx,Zcx,if_pos rfl,if_pos e.symm,ZcR ha' (Int.le_refl _),ZcR hb' (by omega)]at h0
  refine⟨by grind,fun v=>?_⟩
  have hv:=h v
  rw[Zcx,Zcx]at hv
  by_cases k:x.v=v
  ·rw[ZcR ha' (by omega),ZcR hb' (by omega)];exact Rat.le_refl
  ·rw[if_neg k,if_neg (by omega)]at hv;grind
 ·rintro⟨h0,h⟩ v
  have hv:=h v
  rw[Zcx,Zcx]
  by_cases k:x.v=v
  ·rw[if_pos k,if_pos (by omega)];grind
  ·rw[if_neg k,if_neg (by omega)];grind
theorem Zvk:Zdv [] []:=fun _=>Rat.le_refl
def ZhM(n:Nat)(a b:List Zag):Bool:=(List.range n).all fun v=>decide (ZaU a v≤ZaU b v)
theorem ZeZ{n:Nat}{a b:List Zag}(ha:Zai a n=true)(hb:Zai b n=true):ZhM n a b=true↔Zdv a b:=by
 unfold ZhM
 simp only[Ya6,Yd2,decide_eq_true_eq]
 constructor
 ·intro h v
  by_cases h0:0≤v
  ·have e:((v.toNat:Nat):Int)=v:=by omega
   by_cases h1:v.toNat<n
   ·have:=h v.toNat h1;unfold ZaU at this;rw[e]at this;exact this
   ·have c1:=Zq3 ha (v:=v.toNat) (by omega)
    have c2:=Zq3 hb (v:=v.toNat) (by omega)
    unfold ZaU at c1 c2
    rw[e]at c1 c2
    rw[c1,c2];exact Rat.le_refl
  ·simp only[Zai,Ya2]at ha hb
   rw[ZcR ha.2 (by omega),ZcR hb.2 (by omega)];exact Rat.le_refl
 ·intro h v _;exact h v
theorem ZhW{l:List Zag}{x:List Zaf}(h:(Zai l x.length&&okP x)=true):Zcn l x=(ofQ (dotD l x),true):=by unfold Zcn;rw[h];rfl
theorem ZAT(a b:Rat)(za:(szQ a:Int)≤549755813888)(zb:(szQ b:Int)≤549755813888):Zae Tryz.prog 171 [encF (ofQ a),encF (ofQ b)] (.tup [encF (ofQ (a+b)),dI 0]):=by
 have:=Zyf (ofQ a) (ofQ b) za zb
 rwa [Zmy]at this
theorem ZAS(a b:Rat)(za:(szQ a:Int)≤549755813888)(zb:(szQ b:Int)≤549755813888):Zae Tryz.prog 127 [encF (ofQ a),encF (ofQ b)] (.tup [encF (ofQ (a*b)),dI 0]):=by
 have:=ZuG (ofQ a) (ofQ b) za zb
 rwa [Zqp]at this
set_option maxHeartbeats 16000000
theorem ZqX(p q:Rat)(g h:Int→Rat):∀ l:List Zag,dotS (fun v=>p*g v+q*h v) l=p*dotS g l+q*dotS h l
 | []=>by simp only[dotS];grind
 | t ::l=>by simp only[dotS,ZqX p q g h l];grind
theorem ZhB{k:Int}{d:Rat}(h0:0≤k)(h3:k<3):ZdA k (sgQ d)=true↔(k=0→0≤d)∧(k=1→d≤0)∧(k=2→d=0):=by
 have hk:k=0∨k=1∨k=2:=by omega
 rcases Zev d with⟨h,e⟩|⟨h,e⟩|⟨h,e⟩<;>rw[e]<;>rcases hk with rfl|rfl|rfl<;>simp[ZdA]<;>grind
theorem Ze6{f:Zaf}(h:okF f=true):0≤sgnD f↔0≤qOf f:=by
 have e:sgnD f=sgQ (qOf f):=by simp[sgnD,h]
 rw[e]
 rcases Zev (qOf f)with⟨h,g⟩|⟨h,g⟩|⟨h,g⟩<;>rw[g]<;>constructor<;>intro h1<;>grind
structure OptD where
 k:Int
 v:Zaf
 x:List Zaf
 y:List Zaf
 d:List Zaf
abbrev cO(o:OptD):List D:=[dI o.k,dI o.v.p.s,Zad o.v.p.d,dI o.v.q.s,Zad o.v.q.d,ZbX o.x,ZbX o.y,ZbX o.d]
abbrev encO(o:OptD):D:=.agg (cO o)
def Zgu(s:SysD)(y:List Zaf):Bool:=Zao s&&decide ((y.length:Int)=s.r.length)&&okP y
def ZcM(w:RowD)(f:Zaf):Bool:= !(w.k==0&&decide (sgnD f<0)) && !(w.k==1&&decide (sgnD f>0))
def Zcq(s:SysD)(y:List Zaf):Bool:=Zgu s y&&(s.r.zip y).all (fun p=>ZcM p.1 p.2)
def mixT(s:SysD)(y:List Zaf):List Zag:=Zbg s.n.toNat (fun v=>mixG (indI v) s.r y)
def Zns(s:SysD)(y:List Zaf):List Zag×Zaf:=if Zgu s y then(mixT s y,ofQ (mixV s.r y))else([],zF)
def Zbe(s:SysD)(goal:List Zag)(y:List Zaf):Zaf×Bool :=
 if Zcq s y&&Zai goal s.n&&ZhM s.n.toNat (mixT s y) goal then(ofQ (mixV s.r y),true)else(zF,false)
def ZbM(s:SysD)(y:List Zaf):Bool:=(Zbe s [] y).2&&decide (sgnD (Zbe s [] y).1>0)
def rayD(s:SysD)(goal:List Zag)(d:List Zaf):Bool :=
 Zao s&&Zai goal s.n&&decide ((d.length:Int)=s.n)&&okP d&&ZeH d&&s.r.all (fun w=>ZdA w.k (sgQ (dotD w.t d)))&&decide (sgQ (dotD goal d)<0)
def Zcf(s:SysD)(goal:List Zag)(o:OptD):Bool:=Zao s&&Zai goal s.n &&
 (if o.k=0 then(Zbe s goal o.y).2&&ZaA s o.x&&Zej (Zcn goal o.x).1 o.v&&Zej (Zbe s goal o.y).1 o.v&&o.d.isEmpty
  else if o.k=1 then ZbM s o.y&&o.x.isEmpty&&o.d.isEmpty&&Zej o.v zF
  else if o.k=2 then ZaA s o.x&&rayD s goal o.d&&o.y.isEmpty&&Zej o.v zF
  else false)
theorem ZcP{s:SysD}{y:List Zaf}:Zgu s y=true↔Zao s=true∧y.length=s.r.length∧okP y=true:=by
 simp only[Zgu,Ya2,decide_eq_true_eq,and_assoc]
 constructor
 ·rintro⟨a,b,c⟩;exact⟨a,by omega,c⟩
 ·rintro⟨a,b,c⟩;exact⟨a,by omega,c⟩
theorem ZbL{s:SysD}(h:Zao s=true):0≤s.n∧s.n≤1500:=by
 simp only[Zao,Ya2,decide_eq_true_eq]at h;exact⟨h.1.1.1,h.1.1.2⟩
theorem ZbC{s:SysD}(h:Zao s=true){w:RowD}(hw:w∈s.r):Zai w.t s.n.toNat=true∧0≤w.k∧w.k<3∧okF w.v=true:=by
 have h1:=ZeA h hw
 have:=(ZbL h).1
 simp only[Zct,Ya2,decide_eq_true_eq]at h1
 rw[show((s.n.toNat:Nat):Int)=s.n by omega]
 exact⟨h1.1.1.1,h1.1.1.2,h1.1.2,h1.2⟩
theorem Zb6{l:List Zag}{n:Int}(h:Zai l n=true):Zai l n.toNat=true:=by
 have h0:0≤n:=by simp only[Zai,Ya2,decide_eq_true_eq]at h;exact h.1
 rwa [show((n.toNat:Nat):Int)=n by omega]
theorem ZeK{s:SysD}{goal:List Zag}{y:List Zaf}:(Zbe s goal y).2=true↔Zcq s y=true∧Zai goal s.n=true∧ZhM s.n.toNat (mixT s y) goal=true:=by
 unfold Zbe
 split
 ·rename_i h;simp only[Ya2]at h;simp[h.1.1,h.1.2,h.2]
 ·rename_i h
  simp only[Ya2,not_and,Bool.not_eq_true]at h
  simp only[Bool.false_eq_true,false_iff]
  rintro⟨a,b,c⟩
  rw[h ⟨a,b⟩]at c;cases c
theorem ZeJ{s:SysD}{goal:List Zag}{y:List Zaf}(h:(Zbe s goal y).2=true):(Zbe s goal y).1=ofQ (mixV s.r y):=by
 unfold Zbe at h ⊢
 split
 ·rfl
 ·rename_i hn;rw[if_neg hn]at h;cases h
theorem ZwM{s:SysD}(h:Zao s=true):∀ w∈s.r,∀ t∈w.t,0≤t.v∧t.v<(s.n.toNat:Nat):=fun w hw t ht=>ZfG (ZbC h hw).1 t ht
theorem Zi7{s:SysD}(h:Zao s=true)(y:List Zaf)(g:Int→Rat):dotS g (mixT s y)=mixG g s.r y:=by
 unfold mixT
 rw[Ze2,← Zqs g s.r y (ZwM h)]
theorem ZcG{s:SysD}(h:Zao s=true)(y:List Zaf):Zai (mixT s y) s.n.toNat=true:=Zg4 (Int.le_refl _)
theorem Zod{x:List Zaf}(ho:okP x=true)(hn:ZeH x=true)(v:Int):0≤atP x v:=by
 unfold atP
 cases h:x[v.toNat]? with
 | none=>simp only[Option.getD_none];decide +kernel
 | some f =>
   simp only[Option.getD_some]
   have h1:=Ya6.1 ho f (ZaJ h)
   have h2:=of_decide_eq_true (Ya6.1 hn f (ZaJ h))
   exact(Ze6 h1).1 h2
theorem Zoa{n:Nat}{a b:List Zag}(ha:Zai a n=true)(hb:Zai b n=true)(h:Zdv a b){g:Int→Rat}(hg:∀ v,0≤g v):dotS g a≤dotS g b:=by
 rw[Zij g a (ZfG ha),Zij g b (ZfG hb)]
 refine Zjw n fun v _=>?_
 have h1:=h v
 have h2:=Rat.mul_nonneg (a:=ZaU b v-ZaU a v) (by unfold ZaU;grind) (hg v)
 grind
theorem ZmV{w:RowD}{f:Zaf}{d:Rat}(ho:okF f=true)(hs:ZcM w f=true)(h0:0≤w.k)(h3:w.k<3)(hd:ZdA w.k (sgQ d)=true):0≤qOf f*d:=by
 rw[ZhB h0 h3]at hd
 have e:sgnD f=sgQ (qOf f):=by simp[sgnD,ho]
 simp only[ZcM,Ya2,Bool.not_eq_true',Bool.and_eq_false_iff,beq_eq_false_iff_ne,decide_eq_false_iff_not,e]at hs
 have hk:w.k=0∨w.k=1∨w.k=2:=by omega
 rcases hk with hk|hk|hk
 ·have h1:¬ sgQ (qOf f)<0:=hs.1.resolve_left (fun h=>h hk)
  rw[Zjx]at h1
  exact Rat.mul_nonneg (by grind) (hd.1 hk)
 ·have h1:¬ sgQ (qOf f)>0:=hs.2.resolve_left (fun h=>h hk)
  rw[gt_iff_lt,Zds]at h1
  have:=Rat.mul_nonneg (a:= -qOf f) (b:= -d) (by grind) (by have:=hd.2.1 hk;grind)
  grind
 ·rw[hd.2.2 hk];grind
theorem Zx7(x:List Zaf):∀ (r:List RowD)(y:List Zaf),okP y=true→(∀ w∈r,0≤w.k∧w.k<3)→(r.zip y).all (fun p=>ZcM p.1 p.2)=true→r.all (fun w=>Zcc w x)=true→mixV r y≤mixG (atP x) r y
 | [],y,_,_,_,_=>by rw[Zga,Zhr];exact Rat.le_refl
 | _ ::_,[],_,_,_,_=>by simp only[mixG,mixV];exact Rat.le_refl
 | w ::r,f ::y,ho,hk,hs,hh=>by
   simp only[okP,List.all_cons,Ya2]at ho
   simp only[List.zip_cons_cons,List.all_cons,Ya2]at hs hh
   have ih:=Zx7 x r y ho.2 (fun u hu=>hk u (Yb6 _ hu)) hs.2 hh.2
   have h1:=ZmV ho.1 hs.1 (hk w Yb7).1 (hk w Yb7).2 hh.1
   rw[Zdr]at h1
   simp only[mixG,mixV]
   grind
theorem Zyo{s:SysD}{goal:List Zag}{y x:List Zaf}(hl:(Zbe s goal y).2=true)(hx:ZaA s x=true):mixV s.r y≤dotD goal x:=by
 obtain⟨h1,h2,h3⟩:=ZeK.1 hl
 simp only[Zcq,Ya2]at h1
 obtain⟨hr,hlen,ho⟩:=ZcP.1 h1.1
 simp only[ZaA,Ya2,decide_eq_true_eq]at hx
 have a:=Zx7 x s.r y ho (fun w hw=>⟨(ZbC hr hw).2.1,(ZbC hr hw).2.2.1⟩) h1.2 hx.2
 have hg:=Zb6 h2
 have b:=Zoa (ZcG hr y) hg ((ZeZ (ZcG hr y) hg).1 h3) (fun v=>Zod hx.1.1.2 hx.1.2 v)
 rw[Zi7 hr]at b
 rw[Zdr]
 grind
theorem ZrR{s:SysD}{y x:List Zaf}(h:ZbM s y=true):ZaA s x=false:=by
 cases hx:ZaA s x
 ·rfl
 ·simp only[ZbM,Ya2,decide_eq_true_eq]at h
  have h1:=Zyo h.1 hx
  rw[ZeJ h.1,Zcw,gt_iff_lt,Zds]at h
  have:dotD [] x=0:=rfl
  grind
def onD(k:Rat)(x d:List Zaf):List Zaf:=List.zipWith (fun a b=>ofQ (qOf a+qOf b*k)) x d
theorem at_on{k:Rat}{x d:List Zaf}(hl:x.length=d.length)(v:Int):atP (onD k x d) v=1*atP x v+k*atP d v:=by
 unfold atP onD
 rw[List.getElem?_zipWith]
 cases hx:x[v.toNat]? with
 | none =>
   have:d[v.toNat]? =none:=List.getElem?_eq_none (by have:=List.getElem?_eq_none_iff.1 hx;omega)
   rw[this]
   have:qOf zF=0:=by decide +kernel
   simp only[Option.getD_none,this];grind
 | some f =>
   have hlt:=(Ya3.1 hx).1
   rw[Ya0 (by omega:v.toNat<d.length)]
   simp only[Option.getD_some,ZaM];grind
theorem Zyl{k:Rat}{x d:List Zaf}(hl:x.length=d.length)(l:List Zag):dotD l (onD k x d)=dotD l x+k*dotD l d:=by
 rw[Zdr,Zdr,Zdr,show atP (onD k x d)=fun v=>1*atP x v+k*atP d v from funext (at_on hl),ZqX]
 grind
theorem Zx1{k:Rat}{x d:List Zaf}{f:Zaf}(h:f∈onD k x d):∃ a b,a∈x∧b∈d∧f=ofQ (qOf a+qOf b*k):=by
 obtain⟨i,hi⟩:=List.getElem?_of_mem h
 unfold onD at hi
 rw[List.getElem?_zipWith]at hi
 split at hi
 ·rename_i a b ha hb;cases hi;exact⟨a,b,ZaJ ha,ZaJ hb,rfl⟩
 ·cases hi
theorem ZlJ{s:SysD}{goal:List Zag}{d:List Zaf}:rayD s goal d=true↔Zao s=true∧Zai goal s.n=true∧(d.length:Int)=s.n∧okP d=true∧ZeH d=true∧s.r.all (fun w=>ZdA w.k (sgQ (dotD w.t d)))=true∧sgQ (dotD goal d)<0:=by
 simp only[rayD,Ya2,decide_eq_true_eq,and_assoc]
theorem ZcH{s:SysD}{x:List Zaf}:ZaA s x=true↔Zao s=true∧(x.length:Int)=s.n∧okP x=true∧ZeH x=true∧s.r.all (fun w=>Zcc w x)=true:=by
 simp only[ZaA,Ya2,decide_eq_true_eq,and_assoc]
theorem Zw0{s:SysD}{goal:List Zag}{x d:List Zaf}{k:Rat}(hx:ZaA s x=true)(hd:rayD s goal d=true)(hk:0≤k):ZaA s (onD k x d)=true:=by
 obtain⟨hr,ln,ox,nx,rx⟩:=ZcH.1 hx
 obtain⟨_,_,ld,od,nd,rd,_⟩:=ZlJ.1 hd
 have hl:x.length=d.length:=by omega
 refine ZcH.2 ⟨hr,by unfold onD;rw[List.length_zipWith];omega,?_,?_,?_⟩
 ·refine Ya6.2 fun f hf=>?_
  obtain⟨a,b,_,_,rfl⟩:=Zx1 hf
  exact Zbm _
 ·refine Ya6.2 fun f hf=>?_
  obtain⟨a,b,ha,hb,rfl⟩:=Zx1 hf
  have na:=(Ze6 (Ya6.1 ox a ha)).1 (of_decide_eq_true (Ya6.1 nx a ha))
  have nb:=(Ze6 (Ya6.1 od b hb)).1 (of_decide_eq_true (Ya6.1 nd b hb))
  refine decide_eq_true ((Ze6 (Zbm _)).2 ?_)
  rw[ZaM]
  have:=Rat.mul_nonneg nb hk
  grind
 ·refine Ya6.2 fun w hw=>?_
  have h3:=ZbC hr hw
  have a:=Ya6.1 rx w hw
  have b:=Ya6.1 rd w hw
  unfold Zcc at a ⊢
  rw[ZhB h3.2.1 h3.2.2.1]at a b ⊢
  rw[Zyl hl]
  refine⟨fun h=>?_,fun h=>?_,fun h=>?_⟩
  ·have:=Rat.mul_nonneg hk (b.1 h);have:=a.1 h;grind
  ·have:=Rat.mul_nonneg hk (by have:=b.2.1 h;grind:0 ≤ -dotD w.t d);have:=a.2.1 h;grind
  ·have h1:=a.2.2 h;have h2:=b.2.2 h;rw[h2];grind
theorem Zfb{α:Type}{l:List α}(h:l.isEmpty=true):l=[]:=List.isEmpty_iff.1 h
theorem ZgY{s:SysD}{goal:List Zag}{o:OptD}(h:Zcf s goal o=true) :
 (o.k=0∧(Zbe s goal o.y).2=true∧ZaA s o.x=true∧o.v=ofQ (dotD goal o.x)∧dotD goal o.x=mixV s.r o.y∧o.d=[]) ∨
 (o.k=1∧ZbM s o.y=true∧o.x=[]∧o.d=[]∧o.v=zF)∨(o.k=2∧ZaA s o.x=true∧rayD s goal o.d=true∧o.y=[]∧o.v=zF):=by
 simp only[Zcf,Ya2]at h
 obtain⟨⟨hr,hg⟩,h⟩:=h
 split at h
 ·rename_i hk
  simp only[Ya2,Zg7]at h
  obtain⟨⟨⟨⟨h1,h2⟩,h3⟩,h4⟩,h5⟩:=h
  have hx:=ZcH.1 h2
  have hv:Zcn goal o.x=(ofQ (dotD goal o.x),true):=ZhW (by rw[hx.2.1,hg,hx.2.2.1];rfl)
  rw[hv]at h3
  rw[ZeJ h1]at h4
  exact .inl ⟨hk,h1,h2,h3.symm,Zzf (h3.trans h4.symm),Zfb h5⟩
 ·split at h
  ·rename_i hk
   simp only[Ya2,Zg7]at h
   exact .inr (.inl ⟨hk,h.1.1.1,Zfb h.1.1.2,Zfb h.1.2,h.2⟩)
  ·split at h
   ·rename_i hk
    simp only[Ya2,Zg7]at h
    exact .inr (.inr ⟨hk,h.1.1.1,h.1.1.2,Zfb h.1.2,h.2⟩)
   ·cases h
structure PlD where
 k:Int
 h:Int
 m:Int
structure MvD where
 d:Int
 f:Int
 t:Int
 s:Int
 r:Int
 a:Bool
structure PuD where
 v:Int
 m:Int
 lo:Int
 hi:Int
structure EvD where
 m:Int
 h:Int
 s:Int
 pl:List PlD
 mv:List MvD
 ce:List ZcX
 re:List RecD
 pu:List PuD
structure FiD where
 v:Int
 k:Int
 g:Int
structure ClD where
 v:Int
 k:Int
structure TrD where
 e:EvD
 fi:List FiD
 cl:List ClD
abbrev cPl(p:PlD):List D:=[dI p.k,dI p.h,dI p.m]
abbrev cMv(x:MvD):List D:=[dI x.d,dI x.f,dI x.t,dI x.s,dI x.r,dB x.a]
abbrev cPu(x:PuD):List D:=[dI x.v,dI x.m,dI x.lo,dI x.hi]
abbrev ZhG(l:List PlD):D:=.sl (l.map cPl)
abbrev ZdY(l:List MvD):D:=.sl (l.map cMv)
abbrev ZgE(l:List PuD):D:=.sl (l.map cPu)
abbrev cEv(e:EvD):List D:=[dI e.m,dI e.h,dI e.s,ZhG e.pl,ZdY e.mv,Zih e.ce,Zfr e.re,ZgE e.pu]
abbrev Zb2(e:EvD):D:=.agg (cEv e)
def idx(i n:Int):Bool:=decide (0≤i)&&decide (i<n)
def Zdq(e:EvD):Bool:=decide (e.m>6)||(decide (e.h>100)||(decide (e.s>30)||(decide ((e.pl.length:Int)>100)||(decide ((e.mv.length:Int)>200)||(decide ((e.ce.length:Int)>100)||(decide ((e.re.length:Int)>30)||decide ((e.pu.length:Int)>200)))))))
def okPl(h m:Int)(p:PlD):Bool:=idx p.k 7&&(if p.k=0 then idx p.h h&&idx p.m m else p.h == -1&&p.m == -1)
def Zfp(e:EvD)(p:Int):Int:=((e.pl[p.toNat]?).map PlD.k).getD (-1)
def okMv(e:EvD)(x:MvD):Bool :=
 idx x.f e.pl.length&&(idx x.t e.pl.length&&(x.f !=x.t&&(!(Zfp e x.f==5)&&(!(Zfp e x.f==6)&&(!(Zfp e x.f==0&&x.a)&&(!(Zfp e x.t==0) &&
 (if x.s = -1 then x.r==0 else idx x.s e.s&&(decide (0≤x.r)&&decide (x.r≤1099511627776)))))))))
def okCe(s:Int)(c:ZcX):Bool:=(decide (0≤c.f)&&(decide (c.f≤c.u)&&decide (c.u≤100000)))&&(idx c.s s&&((decide (0≤c.g)&&decide (c.g≤1099511627776))&&((decide (0≤c.p)&&decide (c.p≤1000))&&(decide (0≤c.d)&&decide (c.d≤10000000)))))
def okRe(s:Int)(c:RecD):Bool:=idx c.s s&&(decide (0≤c.d)&&decide (c.d≤100000))
def okPu(n m:Int)(p:PuD):Bool:=idx p.v n&&(idx p.m m&&(decide (0≤p.lo)&&(decide (p.lo≤p.hi)&&decide (p.hi≤1000))))
def Zfw(e:EvD):Bool:=e.ce.all (okCe e.s)&&(e.re.all (okRe e.s)&&e.pu.all (okPu e.mv.length e.m))
def ZcF(e:EvD):Int→List MvD→Int
 | _,[]=>0
 | last,x ::l=>if x.d<last∨x.d>100000 then 17 else if okMv e x=true then ZcF e x.d l else 1
def argE(e:EvD):Bool:=decide (1≤e.m)&&(decide (0≤e.h)&&(decide (0≤e.s)&&e.pl.all (okPl e.h e.m)))
def Zcd(e:EvD):Int:=if Zdq e then 6 else if argE e then(if ZcF e 0 e.mv=0 then(if Zfw e then 0 else 1)else ZcF e 0 e.mv)else 1
structure OkMv (e:EvD) (x:MvD):Prop where
 f:0≤x.f∧x.f<e.pl.length
 t:0≤x.t∧x.t<e.pl.length
 ne:x.f≠x.t
 k5:Zfp e x.f≠5
 bin:Zfp e x.f=0→x.a=false
 tob:Zfp e x.t≠0
 s:x.s ≠ -1→(0≤x.s∧x.s<e.s)∧0≤x.r∧x.r≤1099511627776
 d:0≤x.d∧x.d≤100000
structure Zfu (e:EvD):Prop where
 m:1≤e.m∧e.m≤6
 h:0≤e.h∧e.h≤100
 s:0≤e.s∧e.s≤30
 lp:(e.pl.length:Int)≤100
 lm:(e.mv.length:Int)≤200
 lc:(e.ce.length:Int)≤100
 lr:(e.re.length:Int)≤30
 lu:(e.pu.length:Int)≤200
 pl:∀ p∈e.pl,okPl e.h e.m p=true
 mv:∀ x∈e.mv,OkMv e x
 ce:∀ c∈e.ce,okCe e.s c=true
 re:∀ c∈e.re,okRe e.s c=true
 pu:∀ p∈e.pu,okPu e.mv.length e.m p=true
theorem Zwz{e:EvD}{x:MvD}(h:okMv e x=true)(d0:0≤x.d)(d1:x.d≤100000):OkMv e x:=by
 simp only[okMv,idx,Ya2,decide_eq_true_eq,bne_iff_ne,Bool.not_eq_true',beq_eq_false_iff_ne,Bool.and_eq_false_iff]at h
 obtain⟨a,b,c,d,e',f,g,i⟩:=h
 refine⟨a,b,c,d,fun hk=>by rcases f with f|f;exact absurd hk f;exact f,g,fun hs=>?_,d0,d1⟩
 rw[if_neg hs]at i
 simp only[Ya2,decide_eq_true_eq]at i
 exact i
theorem Zqq{e:EvD}:∀ (l:List MvD)(last:Int),0≤last→ZcF e last l=0→∀ x∈l,OkMv e x
 | [],_,_,_,x,hx=>by cases hx
 | y ::l,last,h0,h,x,hx=>by
   unfold ZcF at h
   split at h
   ·omega
   ·rename_i h1
    split at h
    ·rename_i h2
     have hy:=Zwz h2 (by omega) (by omega)
     rcases List.mem_cons.1 hx with rfl|hx
     ·exact hy
     ·exact Zqq l y.d (by omega) h x hx
    ·omega
theorem Zfc{e:EvD}(h:Zcd e=0):Zfu e:=by
 unfold Zcd at h
 split at h
 ·omega
 rename_i h1
 split at h
 ·rename_i h2
  split at h
  ·rename_i h3
   split at h
   ·rename_i h4
    simp only[Zdq,Bool.or_eq_true,decide_eq_true_eq,not_or]at h1
    simp only[argE,Ya2,decide_eq_true_eq,Ya6]at h2
    simp only[Zfw,Ya2,Ya6]at h4
    obtain⟨a,b,c,d,e1,f,g,i⟩:=h1
    exact⟨⟨h2.1,by omega⟩,⟨h2.2.1,by omega⟩,⟨h2.2.2.1,by omega⟩,by omega,by omega,by omega,by omega,by omega,h2.2.2.2,Zqq _ 0 (Int.le_refl _) h3,h4.1,h4.2.1,h4.2.2⟩
   ·omega
  ·rename_i h3;exact absurd h h3
 ·omega
structure ZAb (t:TrD):Prop where
 e:Zfu t.e
 lf:(t.fi.length:Int)≤20
 lc:(t.cl.length:Int)≤50
 fi:∀ x∈t.fi,(0≤x.v∧x.v<t.e.mv.length)∧(0≤x.k∧x.k<8)∧1≤x.g∧x.g≤1099511627776
 cl:∀ x∈t.cl,(0≤x.v∧x.v<t.e.mv.length)∧0≤x.k∧x.k<8
def mvAt(e:EvD)(i:Nat):MvD:=(e.mv[i]?).getD ⟨0,0,0,0,0,false⟩
def ZkF(e:EvD)(i:Nat):Bool:=Zfp e (mvAt e i).f==0
structure AbD where
 hi:Zaf
 cap:Bool
 fi:List Int
 cl:Int
def hiI(e:EvD)(x:MvD):Zaf×Bool:=if x.s = -1 then(zF,false)else((intD e.ce e.re x.s x.r x.d).hi,(intD e.ce e.re x.s x.r x.d).ok)
def finK(t:TrD)(kind:Int)(i:Nat):List Int:=(t.fi.filter fun f=>f.k==kind&&f.v==(i:Int)).map FiD.g
def cleK(t:TrD)(kind:Int)(i:Nat):Nat:=(t.cl.filter fun f=>f.k==kind&&f.v==(i:Int)).length
set_option linter.constructorNameAsVariable false
section
variable {n:Nat} {x:List D}
theorem Zj2{α:Type}{T e:TypeId}{f:α→List D}(hu:Tryz.prog.underlying T=some (.slice e))(he:∀ x,ZcL Tryz.prog n e x→∃ a,x=f a)(h:ZcL Tryz.prog (n+1) T x):∃ l:List α,x=[.sl (l.map f)]:=by
 unfold ZcL at h
 simp only[hu]at h
 obtain⟨es,rfl,_,h⟩:=h
 obtain⟨l,rfl⟩:=Zh9 (f:=f) (fun x hx=>he x (h x hx))
 exact⟨l,rfl⟩
theorem ZxD(h:ZcL Tryz.prog (n+1) 4 x):∃ a,x=[dB a]:=by
 unfold ZcL at h
 simp only[Tryz.underlying4]at h
 exact h
theorem Zwn(h:ZcL Tryz.prog (n+2) 101 x):∃ p,x=cPl p:=by
 unfold ZcL at h
 simp only[Tryz.underlying101,List.foldr]at h
 obtain⟨_,_,rfl,h1,_,_,rfl,h2,_,_,rfl,h3,rfl⟩:=h
 obtain⟨a,rfl⟩:=ZbV h1
 obtain⟨b,rfl⟩:=ZbV h2
 obtain⟨c,rfl⟩:=ZbV h3
 exact⟨⟨a,b,c⟩,rfl⟩
theorem ZBj(h:ZcL Tryz.prog (n+2) 55 x):∃ p,x=cMv p:=by
 unfold ZcL at h
 simp only[Tryz.underlying55,List.foldr]at h
 obtain⟨_,_,rfl,h1,_,_,rfl,h2,_,_,rfl,h3,_,_,rfl,h4,_,_,rfl,h5,_,_,rfl,h6,rfl⟩:=h
 obtain⟨a,rfl⟩:=ZbV h1
 obtain⟨b,rfl⟩:=ZbV h2
 obtain⟨c,rfl⟩:=ZbV h3
 obtain⟨d,rfl⟩:=ZbV h4
 obtain⟨e,rfl⟩:=ZbV h5
 obtain⟨f,rfl⟩:=ZxD h6
 exact⟨⟨a,b,c,d,e,f⟩,rfl⟩
theorem Zxz(h:ZcL Tryz.prog (n+2) 105 x):∃ p,x=cC p:=by
 unfold ZcL at h
 simp only[Tryz.underlying105,List.foldr]at h
 obtain⟨_,_,rfl,h1,_,_,rfl,h2,_,_,rfl,h3,_,_,rfl,h4,_,_,rfl,h5,_,_,rfl,h6,rfl⟩:=h
 obtain⟨a,rfl⟩:=ZbV h1
 obtain⟨b,rfl⟩:=ZbV h2
 obtain⟨c,rfl⟩:=ZbV h3
 obtain⟨d,rfl⟩:=ZbV h4
 obtain⟨e,rfl⟩:=ZbV h5
 obtain⟨f,rfl⟩:=ZbV h6
 exact⟨⟨a,b,c,d,e,f⟩,rfl⟩
theorem Ztx(h:ZcL Tryz.prog (n+2) 58 x):∃ p,x=cRe p:=by
 unfold ZcL at h
 simp only[Tryz.underlying58,List.foldr]at h
 obtain⟨_,_,rfl,h1,_,_,rfl,h2,rfl⟩:=h
 obtain⟨a,rfl⟩:=ZbV h1
 obtain⟨b,rfl⟩:=ZbV h2
 exact⟨⟨a,b⟩,rfl⟩
theorem Zy1(h:ZcL Tryz.prog (n+2) 109 x):∃ p,x=cPu p:=by
 unfold ZcL at h
 simp only[Tryz.underlying109,List.foldr]at h
 obtain⟨_,_,rfl,h1,_,_,rfl,h2,_,_,rfl,h3,_,_,rfl,h4,rfl⟩:=h
 obtain⟨a,rfl⟩:=ZbV h1
 obtain⟨b,rfl⟩:=ZbV h2
 obtain⟨c,rfl⟩:=ZbV h3
 obtain⟨d,rfl⟩:=ZbV h4
 exact⟨⟨a,b,c,d⟩,rfl⟩
theorem ZzO(h:ZcL Tryz.prog (n+5) 28 x):∃ e,x=cEv e:=by
 unfold ZcL at h
 simp only[Tryz.underlying28,List.foldr]at h
 obtain⟨_,_,rfl,h1,_,_,rfl,h2,_,_,rfl,h3,_,_,rfl,h4,_,_,rfl,h5,_,_,rfl,h6,_,_,rfl,h7,_,_,rfl,h8,rfl⟩:=h
 obtain⟨a,rfl⟩:=ZbV h1
 obtain⟨b,rfl⟩:=ZbV h2
 obtain⟨c,rfl⟩:=ZbV h3
 obtain⟨d,rfl⟩:=Zj2 (f:=cPl) Tryz.underlying22 (fun x h=>Zwn h) h4
 obtain⟨e,rfl⟩:=Zj2 (f:=cMv) Tryz.underlying23 (fun x h=>ZBj h) h5
 obtain⟨f,rfl⟩:=Zj2 (f:=cC) Tryz.underlying24 (fun x h=>Zxz h) h6
 obtain⟨g,rfl⟩:=Zj2 (f:=cRe) Tryz.underlying25 (fun x h=>Ztx h) h7
 obtain⟨i,rfl⟩:=Zj2 (f:=cPu) Tryz.underlying26 (fun x h=>Zy1 h) h8
 exact⟨⟨a,b,c,d,e,f,g,i⟩,rfl⟩
end
section ifl
variable [Ifl]
section
variable {P:Program} {l:List Oper} {o:Oper}
end
section
variable {P:Program} {n:Nat} {Q:Exit→St→Prop} {s:St}
end
end ifl
section ifl
variable [Ifl]
def Zkw(E:Env)(T:Bet→Mem→World→Prop):Prop:=∀ β m w β' m' w',Za7 β m w β' m' w'→Zaw (safe E β m) w (safe E β' m') w'→T β m w→T β' m' w'
def AWR(P:Program)(n:Nat)(c:Code)(Q:Exit→St→Prop)(s:St):Prop :=
 ∀ (l:Nat)(E:Env)(T:Bet→Mem→World→Prop),Zkw E T→∀ B β a w,RelA E B n β s a w→T β s.m w→c.wpIn (Fence.wide.inRound l) 0 P (fun e a' w'=>∃ s' β',RelA E B n β' s' a' w'∧T β' s'.m w'∧Q e s') a w
section
variable {P:Program} {n:Nat} {Q:Exit→St→Prop} {s:St}
theorem rSkip(h:Q .normal s):AWR P n .skip Q s:=fun l E T hT B β a w hr ht=>wpIn_skip ⟨s,β,hr,ht,h⟩
theorem rExit{id:Nat}(h:Q (.exit id) s):AWR P n (.exit id) Q s:=fun l E T hT B β a w hr ht=>wpIn_exit ⟨s,β,hr,ht,h⟩
theorem rSeq{x y:Code}(h:∀ K:St→Prop,(∀ s,AWR P n y Q s→K s)→AWR P n x (Zrl K Q) s):AWR P n (.seq x y) Q s:=by
 intro l E T hT B β a w hr ht
 refine wpIn_seq (wpIn_mono (h _ (fun _ h=>h) l E T hT B β a w hr ht) ?_)
 rintro e a' w' ⟨s',β',h1,ht',h2⟩
 cases e with
 | normal=>exact h2 l E T hT B β' a' w' h1 ht'
 | _=>exact⟨s',β',h1,ht',h2⟩
theorem ZAR{id:Nat}{c:Code}(h:AWR P n c (Zgd id Q) s):AWR P n (.block id c) Q s:=by
 intro l E T hT B β a w hr ht
 refine wpIn_block (wpIn_mono (h l E T hT B β a w hr ht) ?_)
 rintro e a' w' ⟨s',β',h1,ht',h2⟩
 cases e with
 | exit id' =>
   simp only[Exit.inBlock,Zgd]at h2 ⊢
   split
   ·rename_i he;rw[if_pos he]at h2;exact⟨s',β',h1,ht',h2⟩
   ·rename_i he;rw[if_neg he]at h2;exact⟨s',β',h1,ht',h2⟩
 | _=>exact⟨s',β',h1,ht',h2⟩
theorem ZAQ{c:Operand}{x y:Code}{b:Bool}(hf:ZdV n c=true)(hc:rd s.t c = .v (.bool b))(h1:b=true→AWR P n x Q s)(h2:b=false→AWR P n y Q s):AWR P n (.cond c x y) Q s:=by
 intro l E T hT B β a w hr ht
 have hv:Rep β s.m (safe E β s.m) w (a.eval c) (rd s.t c):=Ziw fun k hk=>hr.tmp k (by rw[hk]at hf;simpa[ZdV]using hf)
 rw[hc]at hv
 refine wpIn_cond_split hv.inv_v (fun hb=>h1 hb l E T hT B β a w hr ht) (fun hb=>h2 hb l E T hT B β a w hr ht)
theorem ZAO{c:Operand}{x y:Code}(hf:ZdV n c=true)(hc:rd s.t c = .v (.bool true))(h:AWR P n x Q s):AWR P n (.cond c x y) Q s:=ZAQ hf hc (fun _=>h) (fun e=>by cases e)
theorem ZAP{c:Operand}{x y:Code}(hf:ZdV n c=true)(hc:rd s.t c = .v (.bool false))(h:AWR P n y Q s):AWR P n (.cond c x y) Q s:=ZAQ hf hc (fun e=>by cases e) (fun _=>h)
end
section
variable {P:Program} {E:Env} {B:Base} {n:Nat} {β:Bet} {s:St} {a:Act} {w:World} {T:Bet→Mem→World→Prop}
theorem RelA.putT(hT:Zkw E T)(h:RelA E B n β s a w)(ht:T β s.m w){dst:Option Tmp}{m':Mem}{nx':Nat}{v:Value}{d:D}{w':World}(ha:ZbU E β s.m nx' w m' v d w') :
 ∃ β',RelA E B n β' {s with t:=putT s.t dst d,m:=m',nx:=nx'} (a.put dst v) w'∧T β' m' w':=by
 obtain⟨β',h1,h2,h3,h4⟩:=ha
 refine⟨β',⟨h1,fun k hk=>?_,?_,?_,h.le.trans h2,h.sle.trans h3,h.lo⟩,hT _ _ _ _ _ _ h2 h3 ht⟩
 ·rw[eval_put (by rw[h.width];exact hk)]
  cases dst with
  | none=>rw[if_neg (by simp)];exact(h.tmp k hk).mono h2 h3
  | some j =>
    by_cases e:j=k
    ·subst e;rw[if_pos rfl];simp only[Go.Proofs.YtiincpioidnciaaGreat.putT,Zac];exact h4
    ·rw[if_neg (by simpa using e)]
     simp only[Go.Proofs.YtiincpioidnciaaGreat.putT,Zab _ _ (Ne.symm e)]
     exact(h.tmp k hk).mono h2 h3
 ·cases dst<;>simp[Act.put,h.width]
 ·rw[Zf7];exact h.defers.le h2
theorem Zy7(l:Nat)(hT:Zkw E T){o:Oper}{K:St→Prop}{K':Act→World→Prop}{Q:Exit→Act→World→Prop}(hf:Zbz n o=true)(h:RelA E B n β s a w)(ht:T β s.m w)(hA:opA P o s K)
 (hK:∀ s' β' a' w',RelA E B n β' s' a' w'→T β' s'.m w'→K s'→K' a' w'):o.wpIn (Fence.wide.inRound l) 0 P a w K' Q:=by
 refine⟨fun _ _=>trivial,?_⟩
 unfold opA at hA
 have hop:=ZjN hf h
 split at hA
 ·rename_i r hr
  obtain⟨h1,h2,h3⟩:=hA
  have hnd:∀ c,o.op ≠ .defer c:=fun c e=>by rw[e]at hr;simp[opF]at hr
  have hM:ZaK E β s.m (s.nx+r.new.length) w:=h.mem.mono_nx (Nat.le_add_right _ _)
  obtain⟨v,nn,w',g1,g2,g3⟩:=Zo1 hr h1 hM (fun i hi=>by
   rcases h2 with h2|h2
   ·rw[h2]at hi;simp at hi
   ·rw[h2]at hi ⊢
    simp at hi
    subst hi
    exact⟨h.mem.none,by simp⟩) hop
  rw[show(Fence.wide.inRound l).round=some l from rfl,Oper.semAt_some l _ _ hnd,g1]
  obtain⟨β',h4,h5⟩:=h.putT hT ht (dst:=o.dst) g3
  have:=hK _ β' _ _ h4 h5 h3
  rcases g2 with rfl|⟨rfl,rfl⟩
  ·exact this
  ·exact this
 ·split at hA
  ·rename_i f ds hc
   obtain⟨hb,hA⟩:=hA
   have hnd:∀ c,o.op ≠ .defer c:=fun c e=>by rw[e]at hc;simp[Zgy]at hc
   obtain⟨vs,h1,h2⟩:=ZhL (P:=P) hc hb hop
   rw[show(Fence.wide.inRound l).round=some l from rfl,Oper.semAt_some l _ _ hnd,h2,Oper.uponIn_enter]
   refine⟨fun e=>(by cases e),?_⟩
   refine(CallsIn.inRound l (callsIn_wide.2 (hA E β w vs h.mem h1))).mono ?_
   rintro e w' ⟨v,d,m',nx',rfl,ha,hk⟩
   obtain⟨β',h4,h5⟩:=h.putT hT ht (dst:=o.dst) ha
   exact hK _ β' _ _ h4 h5 hk
  ·exact hA.elim
theorem ZlN(l:Nat)(hT:Zkw E T){ops:Array Oper}{K:St→Prop}{Q:Exit→Act→World→Prop}(hall:ops.all (Zbz n)=true)(hQ:∀ s' β' a' w',RelA E B n β' s' a' w'→T β' s'.m w'→K s'→Q .normal a' w') :
 ∀ (L:List Oper)(s:St)(β:Bet)(a:Act)(w:World),L.all (Zbz n)=true→RelA E B n β s a w→T β s.m w→opsA P ops L s K→wpListIn (Fence.wide.inRound l) 0 P ops Q L a w
 | [],s,β,a,w,_,h,ht,hA=>hQ s β a w h ht hA
 | o ::rest,s,β,a,w,hl,h,ht,hA=>by
   rw[List.all_cons,Ya2]at hl
   unfold opsA at hA
   split at hA
   ·rename_i g hg
    have hw:=Zmd hg (Znu hall hl.1 h)
    unfold wpListIn
    rw[hw]
    cases g with
    | true =>
      rw[if_pos rfl]
      exact Zy7 l hT hl.1 h ht (hA.1 rfl) fun s' β' a' w' h' ht' hk=>ZlN l hT hall hQ rest s' β' a' w' hl.2 h' ht' hk
    | false =>
      rw[if_neg (by simp)]
      have ha:=ZbU.same h.mem (Rep.inv_undef:Rep β s.m (safe E β s.m) w undef (.v undef))
      obtain⟨β',h',ht'⟩:=h.putT hT ht (dst:=o.dst) ha
      exact⟨fun _ _=>trivial,ZlN l hT hall hQ rest _ β' _ w hl.2 h' ht' (hA.2 rfl)⟩
   ·exact hA.elim
end
theorem rOps{P:Program}{n:Nat}{Q:Exit→St→Prop}{s:St}{id:Nat}{L:List Oper}(ds:List (Option Tmp))(hds:L.map (·.dst)=ds)(hf:L.toArray.all (Zbz n)=true)(h:opsL P ds (L.map ZgG) s (Q .normal)):AWR P n (.region id L.toArray false) Q s:=by
 intro l E T hT B β a w hr ht
 have h:=Zdj (ops:=L.toArray) L s (by subst hds;exact h)
 refine wpIn_region_lit (ZlN l hT hf (fun s' β' a' w' h1 h2 h3=>⟨s',β',h1,h2,h3⟩) L s β a w ?_ hr ht h)
 rw[← hf];simp
end ifl
end Go.Proofs.YtiincpioidnciaaGreat
