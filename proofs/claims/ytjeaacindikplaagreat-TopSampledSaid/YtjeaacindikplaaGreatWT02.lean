/-
  dual.multipliers, Signed, add, below.
-/
import Derived.Test.YtjeaacindikplaaGreatWLib
import Derived.Test.YtjeaacindikplaaGreatWT01
import Derived.Test.YtjeaacindikplaaGreatWT00
namespace Go.Proofs.YtjeaacindikplaaGreat
set_option linter.unusedVariables false
set_option linter.unusedSimpArgs false
set_option linter.unusedSectionVars false
open Go Go.RowKit
set_option maxRecDepth 100000
set_option maxHeartbeats 4000000
def tnF(f:FracD):Prop:=(szF f:Int)≤262144
def tnT(l:List TermD):Prop:=(l.length:Int)≤64∧∀ t∈l,tnF t.f
def tnFs(l:List FracD):Prop:=(l.length:Int)≤64∧∀ f∈l,tnF f
def tnW(w:RowD):Prop:=tnT w.t∧tnF w.v
def tnS(s:SysD):Prop:=(s.r.length:Int)≤64∧∀ w∈s.r,tnW w
theorem tnF.sm{f:FracD}(h:tnF f):smF f:=by unfold tnF at h;unfold smF;omega
theorem tnT.sm{l:List TermD}(h:tnT l):smT l:=⟨by have:=h.1;omega,fun t ht=>(h.2 t ht).sm⟩
theorem tnFs.sm{l:List FracD}(h:tnFs l):smFs l:=⟨by have:=h.1;omega,fun t ht=>(h.2 t ht).sm⟩
theorem tnW.sm{w:RowD}(h:tnW w):smW w:=⟨h.1.sm,h.2.sm⟩
theorem tnS.sm{s:SysD}(h:tnS s):smS s:=⟨by have:=h.1;omega,fun t ht=>(h.2 t ht).sm⟩
theorem ZnU{s:SysD}{y:List FracD}(h:ZhG s y=false):D.v (.bool false)=dB (ZhG s y):=Zai h.symm
theorem ZxR(s:SysD)(y:List FracD)(hs:smS s)(hy:smFs y):Zaa Tryz.prog 201 [encS s,ZaQ y] (dB (ZhG s y)):=by
 refine Zaf.toN ?_ rfl
 have hres:=Tryz.results201
 have hl:=Zix hy
 have k1:=ZiT s hs
 cases h1:Zax s
 ·rw[h1]at k1
  refine inC Tryz.func201 rfl Tryz.ntmps201 ?_
  refine aGo hres ?_
  repeat with_reducible intro K hK
  exact ZnU (by simp[ZhG,h1])
 rw[h1]at k1
 cases h2:(y.length:Int) !=s.r.length
 rotate_left
 ·refine inC Tryz.func201 rfl Tryz.ntmps201 ?_
  refine aGo (cj2 hres h2) ?_
  repeat with_reducible intro K hK
  exact ZnU (by simp at h2;simp[ZhG];omega)
 have hn:(y.length:Int)=s.r.length:=by simpa using h2
 refine inC Tryz.func201 rfl Tryz.ntmps201 ?_
 refine aGo (cj2 hres h2) ?_
 repeat with_reducible intro K hK
 refine Zat (fun(k:Nat)=>[(18,ZaQ y),(19,dI y.length),(20,dI k)]) (fun _=>[]) 0 0 (fun k=>k≤y.length∧(y.take k).all okF=true) (fun k=>y.length-k) 0 ⟨by omega,rfl⟩ ?_ ?_
 ·exact leGo trivial
 ·rintro k ⟨hk,hg⟩
  obtain⟨hw,h0⟩:=ZaM k
  by_cases h4:(k:Int)<y.length
  ·obtain⟨f,hx⟩:=getE (l:=y) (k:=k) (by omega)
   have k2:=ZcD f (Zgr (hy.2 f (ZaI hx)))
   cases h5:okF f
   ·rw[h5]at k2
    refine aGo (cj4 hres h0 h4 (cj2 hx hw)) ?_
    repeat with_reducible intro K hK
    exact ZnU (by simp only[ZhG,okP,ZdH hx h5,Bool.and_false])
   ·rw[h5]at k2
    refine aGo (cj4 hres h0 h4 (cj2 hx hw)) ?_
    repeat with_reducible intro K hK
    exact Zac (k+1) ⟨by omega,ZaP hx hg h5⟩ (by omega) (by exact leGo trivial)
  ·rw[Ya8 (by omega)]at hg
   refine aGo (cj2 hres h4) ?_
   repeat with_reducible intro K hK
   exact Zai (by simp only[ZhG,okP,hg,h1,hn,decide_true,Bool.and_self])
theorem ZDi{α β:Type}{l:List α}{m:List β}{k:Nat}{x:α}{y:β}(hx:l[k]? =some x)(hy:m[k]? =some y):(l.zip m)[k]? =some (x,y):=by
 rw[List.getElem?_zip_eq_some];exact⟨hx,hy⟩
theorem ZxP(s:SysD)(y:List FracD)(hs:smS s)(hy:smFs y):Zaa Tryz.prog 172 [encS s,ZaQ y] (dB (Zdg s y)):=by
 refine Zaf.toN ?_ rfl
 have hres:=Tryz.results172
 have hl:=Zix hy
 have k1:=ZxR s y hs hy
 cases h1:ZhG s y
 ·rw[h1]at k1
  refine inC Tryz.func172 rfl Tryz.ntmps172 ?_
  refine aGo hres ?_
  repeat with_reducible intro K hK
  exact Zai (by simp[Zdg,h1])
 rw[h1]at k1
 obtain⟨hr,hlen,hok⟩:=ZeA.1 h1
 have hzl:(s.r.zip y).length=y.length:=by rw[List.length_zip];omega
 refine inC Tryz.func172 rfl Tryz.ntmps172 ?_
 refine aGo hres ?_
 repeat with_reducible intro K hK
 refine Zat (fun(k:Nat)=>[(2,.lp 0 0 0 0),(12,ZaQ y),(13,dI y.length),(14,dI k)]) (fun _=>[(0,⟨99,0,2,[cS s],0,false⟩)]) 1 0 (fun k=>k≤y.length∧((s.r.zip y).take k).all (fun p=>ZdN p.1 p.2)=true) (fun k=>y.length-k) 0 ⟨by omega,rfl⟩ ?_ ?_
 ·exact leGo trivial
 ·rintro k ⟨hk,hg⟩
  obtain⟨hw,h0⟩:=ZaM k
  by_cases h4:(k:Int)<y.length
  ·obtain⟨f,hx⟩:=getE (l:=y) (k:=k) (by omega)
   obtain⟨w,hv⟩:=getE (l:=s.r) (k:=k) (by omega)
   have h4b:(k:Int)<s.r.length:=by omega
   have k2:=Zd1 f (Zgr (hy.2 f (ZaI hx)))
   have hz:=ZDi hv hx
   have bad:ZdN w f=false→D.v (.bool false)=dB (Zdg s y):=fun h=>Zai (by unfold Zdg;rw[ZdH (p:=fun p:RowD×FracD=>ZdN p.1 p.2) hz h,Bool.and_false])
   have good:ZdN w f=true→((s.r.zip y).take (k+1)).all (fun p=>ZdN p.1 p.2)=true:=fun h=>ZaP (p:=fun p:RowD×FracD=>ZdN p.1 p.2) hz hg h
   cases h5:w.k==0
   ·cases h6:w.k==1
    ·refine aGo (cj4 hres h0 h4 (cj4 h4b hx hv (cj3 hw h5 h6))) ?_
     repeat with_reducible intro K hK
     exact Zac (k+1) ⟨by omega,good (by simp[ZdN,h5,h6])⟩ (by omega) (by exact leGo trivial)
    ·by_cases h7:sgnD f>0
     ·refine aGo (cj4 hres h0 h4 (cj4 h4b hx hv (cj4 hw h5 h6 h7))) ?_
      repeat with_reducible intro K hK
      exact bad (by simp[ZdN,h6];omega)
     ·refine aGo (cj4 hres h0 h4 (cj4 h4b hx hv (cj4 hw h5 h6 h7))) ?_
      repeat with_reducible intro K hK
      exact Zac (k+1) ⟨by omega,good (by simp[ZdN,h5];omega)⟩ (by omega) (by exact leGo trivial)
   ·by_cases h7:sgnD f<0
    ·refine aGo (cj4 hres h0 h4 (cj4 h4b hx hv (cj3 hw h5 h7))) ?_
     repeat with_reducible intro K hK
     exact bad (by simp[ZdN,h5];omega)
    ·have h6:(w.k==1)=false:=by simp at h5;simp[h5]
     refine aGo (cj4 hres h0 h4 (cj4 h4b hx hv (cj3 hw h5 h7))) ?_
     repeat with_reducible intro K hK
     exact Zac (k+1) ⟨by omega,good (by simp[ZdN,h6];omega)⟩ (by omega) (by exact leGo trivial)
  ·have hg2:(s.r.zip y).all (fun p=>ZdN p.1 p.2)=true:=by rw[Ya8 (by omega)]at hg;exact hg
   refine aGo (cj2 hres h4) ?_
   repeat with_reducible intro K hK
   exact Zai (by simp only[Zdg,h1,hg2,Bool.and_self])
theorem ZET(a b c:Rat)(za:(szQ a:Int)≤34359750000)(zb:(szQ b:Int)≤4194304)(zc:(szQ c:Int)≤4194304):Zaf Tryz.prog 202 [encF (ofQ a),encF (ofQ b),encF (ofQ c)] (encF (ofQ (a+b*c))):=by
 have hres:=Tryz.results202
 have k1:=ZD0 b c (by omega) (by omega)
 have z:=Zgp b c
 have k2:=ZD1 a (b*c) (by omega) (by omega)
 refine inC Tryz.func202 rfl Tryz.ntmps202 ?_
 exact aGo hres trivial
open Classical in
noncomputable def Zkk (a b:List TermD):Bool:=decide (Zd8 a b)
theorem ZfL{a b:List TermD}:Zkk a b=true↔Zd8 a b:=by unfold Zkk;simp only[decide_eq_true_eq]
structure BelowX where
 a:List TermD
 b:List TermD
 l:Int
def wkT(l:List TermD):Prop:=(l.length:Int)≤4096∧∀ t∈l,(szF t.f:Int)≤549755813888
theorem smT.wk{l:List TermD}(h:smT l):wkT l:=⟨h.1,fun t ht=>Zgr (h.2 t ht)⟩
theorem ZAl(n:Int)(a b:List TermD)(ha:Zah a n=true)(hb:Zah b n=true)(hs:wkT a)(hs2:wkT b):Zaf Tryz.prog 174 [Zbh a,Zbh b] (dB (Zkk a b)):=by
 have hres:=Tryz.results174
 have hla:=hs.1
 have hlb:=hs2.1
 have kz:=ZpV 0 (by decide) (by decide)
 rw[Rat.intCast_zero]at kz
 have z0:(szF (ofQ 0):Int)≤549755813888:=by have:szQ 0≤4:=Zdf 0 (by decide) (by decide);rw[Zfa];omega
 simp only[Zah,Ya2]at ha hb
 refine inC Tryz.func174 rfl Tryz.ntmps174 ?_
 refine aGo hres ?_
 repeat with_reducible intro K hK
 refine Zat (fun(x:BelowX)=>[(0,Zbh x.a),(1,Zbh x.b),(5,.lp 0 0 0 0)]) (fun x=>[(0,⟨53,0,4,[cF (ofQ 0)],0,false⟩)]) 1 0 (fun x=>goR n x.l x.a=true∧goR n x.l x.b=true∧(∀ t∈x.a,(szF t.f:Int)≤549755813888)∧(∀ t∈x.b,(szF t.f:Int)≤549755813888)∧x.a.length≤a.length∧x.b.length≤b.length∧(Zd8 x.a x.b↔Zd8 a b)) (fun x=>x.a.length+x.b.length) ⟨a,b,-1⟩ ⟨ha.2,hb.2,hs.2,hs2.2,Ya4 _,Ya4 _,Iff.rfl⟩ ?_ ?_
 ·exact leGo trivial
 ·rintro⟨a',b',l⟩ ⟨ga,gb,sa,sb,la,lb,hiff⟩
  dsimp only at ga gb sa sb la lb hiff ⊢
  match a',b',ga,gb,sa,sb,la,lb,hiff with
  | [],[],ga,gb,sa,sb,la,lb,hiff =>
    refine aGo hres ?_
    repeat with_reducible intro K hK
    exact Zai (ZfL.2 (hiff.1 Zyj)).symm
  | x ::a',[],ga,gb,sa,sb,la,lb,hiff =>
    simp only[List.length_cons,List.length_nil]at la lb
    have ga':=ZaE.1 ga
    have p1:((a'.length+1:Nat):Int)>0:=by omega
    have p2:(1:Int)≤((a'.length+1:Nat):Int):=by omega
    have p3:(((a'.length+1:Nat):Int)==0)=false:=by simp;omega
    have p4:(0:Int)<((a'.length+1:Nat):Int):=by omega
    have ox:=(Zfd ga'.2.2.1).1
    have kc:=Zeo x.f (ofQ 0) (sa x Yb7) z0
    rw[show cmpD x.f (ofQ 0)=sgQ (qOf x.f-0) by simp[cmpD,ox,Zbw,Zav]]at kc
    have hb1:=Zl1 (b:=[]) ga (rfl:goR n x.v []=true)
    by_cases h5:sgQ (qOf x.f-0)>0
    ·refine aGo (cj4 hres p1 p2 (cj4 p3 p4 h5 Zbj)) ?_
     repeat with_reducible intro K hK
     have hn:¬ Zd8 a b:=fun h=>by have:=(hb1.1 (hiff.2 h)).1;rw[gt_iff_lt,ZcS]at h5;grind
     refine Zai ?_
     cases h:Zkk a b
     ·rfl
     ·exact absurd (ZfL.1 h) hn
    ·refine aGo (cj4 hres p1 p2 (cj4 p3 p4 h5 Zbj)) ?_
     repeat with_reducible intro K hK
     refine Zac ⟨a',[],x.v⟩ ⟨ga'.2.2.2,rfl,fun t ht=>sa t (Yb6 _ ht),sb,by dsimp only;omega,by dsimp only;omega,?_⟩ (by simp) (by exact leGo Zbj)
     rw[gt_iff_lt,ZcS]at h5
     rw[← hiff,hb1]
     exact⟨fun h=>⟨by grind,h⟩,fun h=>h.2⟩
  | [],y ::b',ga,gb,sa,sb,la,lb,hiff =>
    simp only[List.length_cons,List.length_nil]at la lb
    have gb':=ZaE.1 gb
    have p1:((b'.length+1:Nat):Int)>0:=by omega
    have p2:(1:Int)≤((b'.length+1:Nat):Int):=by omega
    have p3:(((b'.length+1:Nat):Int)==0)=false:=by simp;omega
    have p4:(0:Int)<((b'.length+1:Nat):Int):=by omega
    have oy:=(Zfd gb'.2.2.1).1
    have kc:=Zeo (ofQ 0) y.f z0 (sb y Yb7)
    rw[show cmpD (ofQ 0) y.f=sgQ (0-qOf y.f) by simp[cmpD,oy,Zbw,Zav]]at kc
    have hb1:=Zkj (a:=[]) (rfl:goR n y.v []=true) gb
    by_cases h5:sgQ (0-qOf y.f)>0
    ·refine aGo (cj4 hres p1 p2 (cj4 p3 p4 h5 Zbj)) ?_
     repeat with_reducible intro K hK
     have hn:¬ Zd8 a b:=fun h=>by have:=(hb1.1 (hiff.2 h)).1;rw[gt_iff_lt,ZcS]at h5;grind
     refine Zai ?_
     cases h:Zkk a b
     ·rfl
     ·exact absurd (ZfL.1 h) hn
    ·refine aGo (cj4 hres p1 p2 (cj4 p3 p4 h5 Zbj)) ?_
     repeat with_reducible intro K hK
     refine Zac ⟨[],b',y.v⟩ ⟨rfl,gb'.2.2.2,sa,fun t ht=>sb t (Yb6 _ ht),by dsimp only;omega,by dsimp only;omega,?_⟩ (by simp) (by exact leGo Zbj)
     rw[gt_iff_lt,ZcS]at h5
     rw[← hiff,hb1]
     exact⟨fun h=>⟨by grind,h⟩,fun h=>h.2⟩
  | x ::a',y ::b',ga,gb,sa,sb,la,lb,hiff =>
    simp only[List.length_cons]at la lb
    have ga':=ZaE.1 ga
    have gb':=ZaE.1 gb
    have p1:((a'.length+1:Nat):Int)>0:=by omega
    have p2:(1:Int)≤((a'.length+1:Nat):Int):=by omega
    have p3:(((a'.length+1:Nat):Int)==0)=false:=by simp;omega
    have p4:(0:Int)<((a'.length+1:Nat):Int):=by omega
    have q1:((b'.length+1:Nat):Int)>0:=by omega
    have q2:(1:Int)≤((b'.length+1:Nat):Int):=by omega
    have q3:(((b'.length+1:Nat):Int)==0)=false:=by simp;omega
    have q4:(0:Int)<((b'.length+1:Nat):Int):=by omega
    have ox:=(Zfd ga'.2.2.1).1
    have oy:=(Zfd gb'.2.2.1).1
    have bad:¬ Zd8 a b→D.v (.bool false)=dB (Zkk a b):=fun hn=>Zai (by
     cases h:Zkk a b
     ·rfl
     ·exact absurd (ZfL.1 h) hn)
    by_cases h3:x.v≤y.v
    ·by_cases h4:y.v≤x.v
     ·have kc:=Zeo x.f y.f (sa x Yb7) (sb y Yb7)
      rw[show cmpD x.f y.f=sgQ (qOf x.f-qOf y.f) by simp[cmpD,ox,oy]]at kc
      have hb1:=ZuP ga gb (by omega)
      by_cases h5:sgQ (qOf x.f-qOf y.f)>0
      ·refine aGo (cj4 hres p1 p2 (cj4 p3 p4 q1 (cj4 q2 q3 q4 (cj4 h3 h4 h5 Zbj)))) ?_
       repeat with_reducible intro K hK
       exact bad fun h=>by have:=(hb1.1 (hiff.2 h)).1;rw[gt_iff_lt,ZcS]at h5;grind
      ·refine aGo (cj4 hres p1 p2 (cj4 p3 p4 q1 (cj4 q2 q3 q4 (cj4 h3 h4 h5 Zbj)))) ?_
       repeat with_reducible intro K hK
       refine Zac ⟨a',b',x.v⟩ ⟨ga'.2.2.2,Zog (by omega) gb'.2.2.2,fun t ht=>sa t (Yb6 _ ht),fun t ht=>sb t (Yb6 _ ht),by dsimp only;omega,by dsimp only;omega,?_⟩ (by simp;omega) (by exact leGo Zbj)
       rw[gt_iff_lt,ZcS]at h5
       rw[← hiff,hb1]
       exact⟨fun h=>⟨by grind,h⟩,fun h=>h.2⟩
     ·have kc:=Zeo x.f (ofQ 0) (sa x Yb7) z0
      rw[show cmpD x.f (ofQ 0)=sgQ (qOf x.f-0) by simp[cmpD,ox,Zbw,Zav]]at kc
      have gb2:goR n x.v (y ::b')=true:=ZaE.2 ⟨by omega,gb'.2⟩
      have hb1:=Zl1 ga gb2
      by_cases h5:sgQ (qOf x.f-0)>0
      ·refine aGo (cj4 hres p1 p2 (cj4 p3 p4 q1 (cj4 q2 q3 q4 (cj4 h3 h4 h5 Zbj)))) ?_
       repeat with_reducible intro K hK
       exact bad fun h=>by have:=(hb1.1 (hiff.2 h)).1;rw[gt_iff_lt,ZcS]at h5;grind
      ·refine aGo (cj4 hres p1 p2 (cj4 p3 p4 q1 (cj4 q2 q3 q4 (cj4 h3 h4 h5 Zbj)))) ?_
       repeat with_reducible intro K hK
       refine Zac ⟨a',y ::b',x.v⟩ ⟨ga'.2.2.2,gb2,fun t ht=>sa t (Yb6 _ ht),sb,by dsimp only;omega,by simp only[List.length_cons];omega,?_⟩ (by simp) (by exact leGo Zbj)
       rw[gt_iff_lt,ZcS]at h5
       rw[← hiff,hb1]
       exact⟨fun h=>⟨by grind,h⟩,fun h=>h.2⟩
    ·have h4:y.v≤x.v:=by omega
     have kc:=Zeo (ofQ 0) y.f z0 (sb y Yb7)
     rw[show cmpD (ofQ 0) y.f=sgQ (0-qOf y.f) by simp[cmpD,oy,Zbw,Zav]]at kc
     have ga2:goR n y.v (x ::a')=true:=ZaE.2 ⟨by omega,ga'.2⟩
     have hb1:=Zkj ga2 gb
     by_cases h5:sgQ (0-qOf y.f)>0
     ·refine aGo (cj4 hres p1 p2 (cj4 p3 p4 q1 (cj4 q2 q3 q4 (cj4 h3 h4 h5 Zbj)))) ?_
      repeat with_reducible intro K hK
      exact bad fun h=>by have:=(hb1.1 (hiff.2 h)).1;rw[gt_iff_lt,ZcS]at h5;grind
     ·refine aGo (cj4 hres p1 p2 (cj4 p3 p4 q1 (cj4 q2 q3 q4 (cj4 h3 h4 h5 Zbj)))) ?_
      repeat with_reducible intro K hK
      refine Zac ⟨x ::a',b',y.v⟩ ⟨ga2,gb'.2.2.2,sa,fun t ht=>sb t (Yb6 _ ht),by simp only[List.length_cons];omega,by dsimp only;omega,?_⟩ (by simp) (by exact leGo Zbj)
      rw[gt_iff_lt,ZcS]at h5
      rw[← hiff,hb1]
      exact⟨fun h=>⟨by grind,h⟩,fun h=>h.2⟩
set_option maxHeartbeats 8000000
def tabL(n:Nat)(c:Nat→List D):List (List D):=(List.range n).map c
theorem Zc2(n:Nat)(c:Nat→List D):(tabL n c).length=n:=by simp[tabL]
theorem Zbu{n k:Nat}(c:Nat→List D)(h:k<n):(tabL n c)[k]? =some (c k):=by simp[tabL,h]
theorem Zbn{n:Nat}{c d:Nat→List D}(h:∀ u,u<n→c u=d u):tabL n c=tabL n d:=List.map_congr_left fun u hu=>h u (List.mem_range.1 hu)
theorem Zgn{n k:Nat}(c:Nat→List D)(x:List D):(tabL n c).set k x=tabL n (fun u=>if u=k then x else c u):=by
 apply List.ext_getElem
 ·simp[tabL]
 ·intro i h1 h2
  simp only[tabL,List.length_map,List.length_range]at h2
  rw[List.getElem_set]
  simp only[tabL,List.getElem_map,List.getElem_range]
  by_cases e:k=i
  ·subst e;simp
  ·rw[if_neg e,if_neg (Ne.symm e)]
theorem Zvh(n:Nat)(z:List D):List.replicate n z=tabL n (fun _=>z):=by
 unfold tabL;rw[List.map_const',List.length_range]
abbrev zc:List D:=[dI 0,.nil,dI 0,.nil]
theorem ZxZ(a:Rat)(f g:FracD)(hf:okF f=true)(hg:okF g=true)(za:(szQ a:Int)≤34359750000)(zf:smF f)(zg:smF g):Zaf Tryz.prog 202 [encF (ofQ a),encF f,encF g] (encF (ofQ (a+qOf f*qOf g))):=by
 have:=ZET a (qOf f) (qOf g) za (by rw[Zch hf];exact zf) (by rw[Zch hg];exact zg)
 rwa [← Zcm hf,← Zcm hg]at this
def Zef(n k:Nat):List (List D):=tabL n (fun v=>if v<k then cF (ofQ 0)else zc)
theorem Zi6(n:Nat):Zef n 0=List.replicate n zc:=by rw[Zvh];exact Zbn fun u _=>by rw[if_neg (by omega)]
theorem Ze6(n k:Nat):(Zef n k).length=n:=Zc2 _ _
theorem ZkJ(n k:Nat):(Zef n k).set k (cF (ofQ 0))=Zef n (k+1):=by
 unfold Zef
 rw[Zgn]
 refine Zbn fun u _=>?_
 by_cases h:u=k
 ·rw[if_pos h,if_pos (by omega)]
 ·rw[if_neg h]
  by_cases h2:u<k
  ·rw[if_pos h2,if_pos (by omega)]
  ·rw[if_neg h2,if_neg (by omega)]
def ratL(n:Nat)(c:Nat→Rat):List (List D):=tabL n (fun v=>cF (ofQ (c v)))
theorem ZbZ(n:Nat)(c:Nat→Rat):(ratL n c).length=n:=Zc2 _ _
theorem Za9{n k:Nat}(c:Nat→Rat)(h:k<n):(ratL n c)[k]? =some (cF (ofQ (c k))):=Zbu _ h
theorem Zdi{n k:Nat}(c:Nat→Rat)(q:Rat):(ratL n c).set k (cF (ofQ q))=ratL n (fun u=>if u=k then q else c u):=by
 unfold ratL
 rw[Zgn]
 refine Zbn fun u _=>?_
 by_cases h:u=k<;>simp[h]
theorem ZaV{n:Nat}{c d:Nat→Rat}(h:∀ u,u<n→c u=d u):ratL n c=ratL n d:=Zbn fun u hu=>by rw[h u hu]
theorem ZkK(n:Nat):Zef n n=ratL n (fun _=>0):=Zbn fun u hu=>by rw[if_pos hu]
theorem Zex(n:Nat)(c:Nat→Rat)(keep:Nat→Bool):(∀ e,e∈ratL n c→okDs keep e=true)↔True:=by
 simp only[iff_true]
 intro e he
 obtain⟨v,_,rfl⟩:=List.mem_map.1 he
 rfl
theorem Zd0(n k:Nat)(keep:Nat→Bool):(∀ e,e∈Zef n k→okDs keep e=true)↔True:=by
 simp only[iff_true]
 intro e he
 obtain⟨v,_,rfl⟩:=List.mem_map.1 he
 split<;>rfl
def Zes(s:SysD)(y:List FracD)(k:Nat)(v:Nat):Rat:=mixG (indI v) (s.r.take k) (y.take k)
def Zjn(s:SysD)(y:List FracD)(k:Nat)(f:FracD)(t:List TermD)(j:Nat)(v:Nat):Rat:=Zes s y k v+qOf f*dotS (indI v) (t.take j)
theorem ZtS(s:SysD)(y:List FracD)(k:Nat)(f:FracD)(t:List TermD)(n:Nat):ratL n (Zjn s y k f t 0)=ratL n (Zes s y k):=ZaV fun u _=>by unfold Zjn;rw[List.take_zero];simp only[dotS];grind
theorem ZfZ{g:Int→Rat}{l:List TermD}{k:Nat}{t:TermD}(hx:l[k]? =some t):dotS g (l.take (k+1))=dotS g (l.take k)+qOf t.f*g t.v:=by
 rw[Yb4,hx,Option.toList_some,Zip];simp only[dotS];grind
theorem ZtT(s:SysD)(y:List FracD)(k:Nat)(f:FracD){l:List TermD}{j:Nat}{t:TermD}(ht:l[j]? =some t)(h0:0≤t.v)(n:Nat):(ratL n (Zjn s y k f l j)).set t.v.toNat (cF (ofQ (Zjn s y k f l j t.v.toNat+qOf f*qOf t.f)))=ratL n (Zjn s y k f l (j+1)):=by
 rw[Zdi]
 refine ZaV fun u _=>?_
 unfold Zjn
 rw[ZfZ ht]
 simp only[indI]
 by_cases h:u=t.v.toNat
 ·rw[if_pos h,if_pos (by omega),h];grind
 ·rw[if_neg h,if_neg (by omega)];grind
theorem ZtQ{s:SysD}{y:List FracD}{k:Nat}{w:RowD}{f:FracD}(hw:s.r[k]? =some w)(hf:y[k]? =some f)(n:Nat):ratL n (Zjn s y k f w.t w.t.length)=ratL n (Zes s y (k+1)):=ZaV fun u _=>by
 unfold Zjn Zes;rw[ZiS _ _ _ _ _ _ hw hf,List.take_length]
theorem ZtR{s:SysD}{y:List FracD}{k:Nat}{w:RowD}{f:FracD}(hw:s.r[k]? =some w)(hf:y[k]? =some f)(h0:qOf f=0)(n:Nat):ratL n (Zes s y (k+1))=ratL n (Zes s y k):=ZaV fun u _=>by
 unfold Zes;rw[ZiS _ _ _ _ _ _ hw hf,h0];grind
theorem ZtP(s:SysD)(y:List FracD)(n:Nat):ratL n (Zes s y 0)=ratL n (fun _=>0):=ZaV fun u _=>by unfold Zes;rw[List.take_zero,ZiR]
theorem ZBq(A:Rat)(f:Rat)(v:Int){B:Nat}:∀ (l:List TermD),(∀ t∈l,szF t.f≤B∧okF t.f=true)→∀ j,j≤l.length→szQ (A+f*dotS (indI v) (l.take j))≤szQ A+j*(szQ f+B+1):=by
 intro l hl j
 induction j with
 | zero =>
   intro _
   rw[List.take_zero,show A+f*dotS (indI v) []=A by simp only[dotS];grind]
   omega
 | succ j ih =>
   intro hj
   obtain⟨t,ht⟩:=getE (l:=l) (k:=j) (by omega)
   obtain⟨h1,h2⟩:=hl t (ZaI ht)
   have i1:=ih (by omega)
   rw[ZfZ ht,Nat.add_mul,Nat.one_mul]
   by_cases hv:t.v=v
   ·rw[show A+f*(dotS (indI v) (l.take j)+qOf t.f*indI v t.v)=(A+f*dotS (indI v) (l.take j))+f*qOf t.f by simp only[indI,if_pos hv];grind]
    have i2:=Zfb (A+f*dotS (indI v) (l.take j)) (f*qOf t.f)
    have i3:=Zgp f (qOf t.f)
    rw[Zch h2]at i3
    omega
   ·rw[show A+f*(dotS (indI v) (l.take j)+qOf t.f*indI v t.v)=A+f*dotS (indI v) (l.take j) by simp only[indI,if_neg hv];grind]
    omega
theorem ZrW{A:Rat}{f:FracD}{w:RowD}{n:Int}(v:Int)(hf:tnF f)(ho:okF f=true)(hw:tnT w.t)(hr:Zah w.t n=true){j:Nat}(hj:j≤w.t.length):(szQ (A+qOf f*dotS (indI v) (w.t.take j)):Int)≤szQ A+(j:Int)*524289:=by
 have h:=ZBq A (qOf f) v (B:=262144) w.t (fun t ht=>⟨by have:=hw.2 t ht;unfold tnF at this;omega,(Za7 hr ht).2.2.1⟩) j hj
 rw[Zch ho]at h
 have h2:szF f≤262144:=by unfold tnF at hf;omega
 have h3:j*(szF f+262144+1)≤j*524289:=Nat.mul_le_mul_left _ (by omega)
 have:=Int.ofNat_le.2 (Nat.le_trans h (Nat.add_le_add_left h3 _))
 simp only[Int.natCast_add,Int.natCast_mul]at this
 omega
theorem Zsf{s:SysD}(hr:Zax s=true){w:RowD}(hw:w∈s.r):Zah w.t s.n=true:=by
 have:=Zjy hr hw
 simp only[Zdw,Ya2]at this
 exact this.1.1.1
theorem Zqr{s:SysD}{y:List FracD}(hs:tnS s)(hy:tnFs y)(ho:okP y=true)(hr:Zax s=true)(v:Nat):∀ k,k≤y.length→k≤s.r.length→(szQ (Zes s y k v):Int)≤4+(k:Int)*33554496:=by
 intro k
 induction k with
 | zero=>intro _ _;unfold Zes;rw[List.take_zero,ZiR];have:szQ 0≤4:=Zdf 0 (by decide) (by decide);omega
 | succ k ih =>
   intro h1 h2
   obtain⟨f,hf⟩:=getE (l:=y) (k:=k) (by omega)
   obtain⟨w,hw⟩:=getE (l:=s.r) (k:=k) (by omega)
   have sw:=hs.2 w (ZaI hw)
   have h3:=ZrW (A:=Zes s y k v) v (hy.2 f (ZaI hf)) (Ya6.1 ho f (ZaI hf)) sw.1 (Zsf hr (ZaI hw)) (Ya4 _)
   have h4:=ih (by omega) (by omega)
   have h5:(w.t.length:Int)≤64:=sw.1.1
   have e:Zes s y (k+1) v=Zes s y k v+qOf f*dotS (indI v) (w.t.take w.t.length):=by unfold Zes;rw[ZiS _ _ _ _ _ _ hw hf,List.take_length]
   rw[e]
   omega
theorem ZrV{s:SysD}{y:List FracD}(hs:tnS s)(hy:tnFs y)(ho:okP y=true)(hr:Zax s=true):∀ k,k≤y.length→k≤s.r.length→(szQ (mixV (s.r.take k) (y.take k)):Int)≤4+(k:Int)*524289:=by
 intro k
 induction k with
 | zero=>intro _ _;rw[List.take_zero,ZkD];have:szQ 0≤4:=Zdf 0 (by decide) (by decide);omega
 | succ k ih =>
   intro h1 h2
   obtain⟨f,hf⟩:=getE (l:=y) (k:=k) (by omega)
   obtain⟨w,hw⟩:=getE (l:=s.r) (k:=k) (by omega)
   have h3:=ih (by omega) (by omega)
   have zf:(szF f:Int)≤262144:=hy.2 f (ZaI hf)
   have zv:(szF w.v:Int)≤262144:=(hs.2 w (ZaI hw)).2
   have o1:=Ya6.1 ho f (ZaI hf)
   have o2:=(ZcB hr (ZaI hw)).2.2.2
   rw[ZkE _ _ _ _ _ hw hf]
   have i2:=Zfb (mixV (s.r.take k) (y.take k)) (qOf f*qOf w.v)
   have i3:=Zgp (qOf f) (qOf w.v)
   rw[Zch o1,Zch o2]at i3
   omega
def valQ(s:SysD)(y:List FracD)(k:Nat):Rat:=mixV (s.r.take k) (y.take k)
theorem Zu9(s:SysD)(y:List FracD):valQ s y 0=0:=by unfold valQ;rw[List.take_zero,ZkD]
theorem ZoL{s:SysD}{y:List FracD}{k:Nat}{w:RowD}{f:FracD}(hw:s.r[k]? =some w)(hf:y[k]? =some f):valQ s y (k+1)=valQ s y k+qOf f*qOf w.v:=ZkE _ _ _ _ _ hw hf
theorem Zqp{n:Nat}{c:Nat→Rat}(h:c n≠0):ZaS (n+1) c=ZaS n c++[⟨(n:Int),ofQ (c n)⟩]:=by rw[Zcq,if_neg h]
theorem ZoP{n:Nat}{c:Nat→Rat}(h:c n=0):ZaS (n+1) c=ZaS n c:=by rw[Zcq,if_pos h,List.append_nil]
theorem ZoO(c:Nat→Rat):ZaS 0 c=[]:=rfl
theorem ZES(s:SysD)(y:List FracD)(hs:tnS s)(hy:tnFs y):Zaf Tryz.prog 173 [encS s,ZaQ y] (.tup [Zbh (ZpC s y).1,encF (ZpC s y).2]):=by
 have hres:=Tryz.results173
 have k1:=ZxR s y hs.sm hy.sm
 cases h1:ZhG s y
 ·rw[h1]at k1
  refine inC Tryz.func173 rfl Tryz.ntmps173 ?_
  rw[show ZpC s y=([],zF) by simp[ZpC,h1]]
  refine aGo hres ?_
  repeat with_reducible intro K hK
  rfl
 rw[h1]at k1
 obtain⟨hr,hlen,hok⟩:=ZeA.1 h1
 have hn:=Zb9 hr
 have hly:=hy.1
 have kz:=ZpV 0 (by decide) (by decide)
 rw[Rat.intCast_zero]at kz
 obtain⟨N,hN⟩:∃ N,s.n.toNat=N:=⟨_,rfl⟩
 have hNn:s.n=(N:Int):=by omega
 have hrep:List.replicate s.n.toNat [D.v (.int .i64 0),D.nil,D.v (.int .i64 0),D.nil]=Zef N 0:=by rw[hN];exact(Zi6 _).symm
 have hlf:=Ze6 N 0
 have n0:=hn.1
 have n1:(24:Int)*s.n≤140737488355328:=by omega
 have n2:s.n≤9007199254740992:=by omega
 have n3:s.n≤s.n:=Int.le_refl _
 rw[show ZpC s y=(mixT s y,ofQ (mixV s.r y)) by simp[ZpC,h1]]
 have hmix:mixT s y=ZaS N (fun v=>mixG (indI v) s.r y):=by unfold mixT;rw[hN]
 rw[hmix]
 refine inC Tryz.func173 rfl Tryz.ntmps173 ?_
 refine aGo (cj4 hres hrep hlf (cj4 n0 n1 n2 n3)) ?_
 repeat with_reducible intro K hK
 refine Zat (fun(k:Nat)=>[(1,ZaQ y),(2,.lp 0 0 0 0),(5,.lp 1 0 0 0),(6,.ls 2 1),(24,.ls 2 1),(25,dI N),(26,dI k)]) (fun k=>[(0,⟨99,0,2,[cS s],0,false⟩),(1,⟨53,0,4,[zc],0,false⟩),(2,⟨53,1,4,Zef N k,0,false⟩)]) 3 0 (fun k=>k≤N) (fun k=>N-k) 0 (by omega) ?_ ?_
 ·exact leGo (cj2 Zex Zd0)
 ·rintro k hk
  obtain⟨hw,h0⟩:=ZaM k
  have hl:=Ze6 N k
  by_cases h2:(k:Int)<N
  ·have hg:(Zef N k)[k]? =some zc:=by unfold Zef;rw[Zbu _ (by omega),if_neg (by omega)]
   have hset:=ZkJ N k
   refine aGo (cj4 hres h0 h2 (cj4 hw hl hg (cj2 hset Yb0))) ?_
   repeat with_reducible intro K hK
   exact Zac (k+1) (by omega) (by omega) (by exact leGo (cj2 Zex Zd0))
  ·obtain rfl:k=N:=by omega
   have hf0:Zef k k=ratL k (Zes s y 0):=(ZkK k).trans (ZtP s y k).symm
   have hv0:=Zu9 s y
   rw[hf0]
   refine aGo (cj2 hres h2) ?_
   repeat with_reducible intro K hK
   refine Zat (fun(i:Nat)=>[(2,.lp 0 0 0 0),(5,.lp 1 0 0 0),(6,.ls 2 1),(8,.lp 3 0 0 0),(35,ZaQ y),(36,dI y.length),(37,dI i)]) (fun i=>[(0,⟨99,0,2,[cS s],0,false⟩),(1,⟨53,0,4,[zc],0,false⟩),(2,⟨53,1,4,ratL k (Zes s y i),0,false⟩),(3,⟨53,0,4,[cF (ofQ (valQ s y i))],0,false⟩)]) 4 0 (fun i=>i≤y.length) (fun i=>y.length-i) 0 (by omega) ?_ ?_
   ·exact leGo (cj3 Zex Zd0 hv0)
   ·rintro i hi
    obtain⟨hwi,i0⟩:=ZaM i
    have hli:=ZbZ k (Zes s y i)
    by_cases h3:(i:Int)<y.length
    ·obtain⟨f,hf⟩:=getE (l:=y) (k:=i) (by omega)
     obtain⟨w,hrw⟩:=getE (l:=s.r) (k:=i) (by omega)
     have h3b:(i:Int)<s.r.length:=by omega
     have tf:=hy.2 f (ZaI hf)
     have tw:=hs.2 w (ZaI hrw)
     have of:=Ya6.1 hok f (ZaI hf)
     have ow:=(ZcB hr (ZaI hrw)).2.2.2
     have rw':=Zsf hr (ZaI hrw)
     have ks:=Zd1 f (Zgr tf.sm)
     cases h4:sgnD f==0
     rotate_left
     ·have q0:qOf f=0:=by
       have:sgnD f=0:=by simpa using h4
       simp only[sgnD,of,if_true]at this
       exact Zcl.1 this
      have e1:=ZtR hrw hf q0 k
      have e2:valQ s y (i+1)=valQ s y i:=by rw[ZoL hrw hf,q0];grind
      refine aGo (cj4 hres i0 h3 (cj4 h3b hf hrw (cj2 hwi h4))) ?_
      repeat with_reducible intro K hK
      exact Zac (i+1) (by omega) (by omega) (by exact leGo (cj4 Zex Zd0 e1 e2))
     ·refine aGo (cj4 hres i0 h3 (cj4 h3b hf hrw (cj2 hwi h4))) ?_
      repeat with_reducible intro K hK
      have hj0:=ZtS s y i f w.t k
      have hlw:=tw.1.1
      refine Zat (fun(j:Nat)=>[(2,.lp 0 0 0 0),(5,.lp 1 0 0 0),(6,.ls 2 1),(8,.lp 3 0 0 0),(9,dI i),(10,.lp 4 0 0 0),(35,ZaQ y),(36,dI y.length),(37,dI i),(50,Zbh w.t),(51,dI w.t.length),(52,dI j)]) (fun j=>[(0,⟨99,0,2,[cS s],0,false⟩),(1,⟨53,0,4,[zc],0,false⟩),(2,⟨53,1,4,ratL k (Zjn s y i f w.t j),0,false⟩),(3,⟨53,0,4,[cF (ofQ (valQ s y i))],0,false⟩),(4,⟨53,0,4,[cF f],0,false⟩)]) 5 0 (fun j=>j≤w.t.length) (fun j=>w.t.length-j) 0 (by omega) ?_ ?_
      ·exact leGo (cj3 Zex Zd0 hj0)
      ·rintro j hj
       obtain⟨hwj,j0⟩:=ZaM j
       have hlj:=ZbZ k (Zjn s y i f w.t j)
       by_cases h5:(j:Int)<w.t.length
       ·obtain⟨t,ht⟩:=getE (l:=w.t) (k:=j) (by omega)
        obtain⟨t0,t1,t2,_⟩:=Za7 rw' (ZaI ht)
        rw[hNn]at t1
        have hg:=Za9 (n:=k) (Zjn s y i f w.t j) (k:=t.v.toNat) (by omega)
        have hset:=ZtT s y i f ht t0 k
        have z1:=Zqr hs hy hok hr t.v.toNat i hi (by omega)
        have z2:=ZrW (A:=Zes s y i t.v.toNat) (n:=s.n) t.v.toNat tf of tw.1 rw' hj
        have ka:=ZxZ (Zjn s y i f w.t j t.v.toNat) f t.f of t2 (by unfold Zjn;omega) tf.sm (tw.1.2 t (ZaI ht)).sm
        refine aGo (cj4 hres j0 h5 (cj4 ht t0 t1 (cj4 hg hset hlj (cj2 hwj Yb0)))) ?_
        repeat with_reducible intro K hK
        exact Zac (j+1) (by omega) (by omega) (by exact leGo (cj2 Zex Zd0))
       ·obtain rfl:j=w.t.length:=by omega
        have e1:=ZtQ hrw hf k
        have e2:=ZoL hrw hf
        have zv:=ZrV hs hy hok hr i hi (by omega)
        have ka:=ZxZ (valQ s y i) f w.v of ow (by unfold valQ;omega) tf.sm tw.2.sm
        refine aGo (cj4 hres h5 i0 (cj3 h3b hrw hwi)) ?_
        repeat with_reducible intro K hK
        exact Zac (i+1) (by omega) (by omega) (by exact leGo (cj4 Zex Zd0 e1 e2))
    ·obtain rfl:i=y.length:=by omega
     obtain⟨c,hc⟩:∃ c:Nat→Rat,(fun v:Nat=>mixG (indI v) s.r y)=c:=⟨_,rfl⟩
     have e1:ratL k (Zes s y y.length)=ratL k c:=ZaV fun u _=>by
      rw[← hc];unfold Zes;rw[hlen,List.take_length,← hlen,List.take_length]
     have e2:valQ s y y.length=mixV s.r y:=by unfold valQ;rw[hlen,List.take_length,← hlen,List.take_length]
     have zc':∀ u,(szQ (c u):Int)≤549755813888:=fun u=>by
      have h:=Zqr hs hy hok hr u y.length (Ya4 _) (by omega)
      unfold Zes at h
      rw[hlen,List.take_length,← hlen,List.take_length]at h
      rw[← hc];dsimp only;omega
     rw[e1,e2]
     have hlc:=ZbZ k c
     refine aGo (cj3 hres h3 hlc) ?_
     repeat with_reducible intro K hK
     refine aLe (ZcT 13 151 5 rfl) ?_
     have ht0:=ZoO c
     refine Zat (fun(u:Nat)=>[(5,.lp 1 0 0 0),(8,.lp 3 0 0 0),(13,.ls 4 (ZaS u c).length),(80,.ls 2 1),(81,dI k),(82,dI u)]) (fun u=>[(1,⟨53,0,4,[zc],0,false⟩),(2,⟨53,1,4,ratL k c,0,false⟩),(3,⟨53,0,4,[cF (ofQ (mixV s.r y))],0,false⟩),(4,⟨151,(ZaS u c).length,5,(ZaS u c).map cT,0,false⟩)]) 5 0 (fun u=>u≤k) (fun u=>k-u) 0 (by omega) ?_ ?_
     ·exact leGo (cj3 Zex Zd0 ht0)
     ·rintro u hu
      obtain⟨hwu,u0⟩:=ZaM u
      have htl:=Zeq c u
      by_cases h6:(u:Int)<k
      ·have hg:=Za9 c (show u<k by omega)
       have ks:=Zd1 (ofQ (c u)) (by rw[Zfa];exact zc' u)
       rw[ZbN]at ks
       by_cases h7:c u=0
       ·have h8:(sgQ (c u) !=0)=false:=by simp[Zcl.2 h7]
        have e3:=ZoP h7
        refine aGo (cj4 hres u0 h6 (cj4 hg hlc hwu h8)) ?_
        repeat with_reducible intro K hK
        exact Zac (u+1) (by omega) (by omega) (by exact leGo (cj3 Zex Zd0 e3))
       ·have h8:(sgQ (c u) !=0)=true:=by simp[Zcl,h7]
        have e3:=Zqp h7
        refine aGo (cj4 hres u0 h6 (cj4 hg hlc hwu h8)) ?_
        repeat with_reducible intro K hK
        exact Zac (u+1) (by omega) (by omega) (by exact leGo (cj3 Zex Zd0 e3))
      ·obtain rfl:u=k:=by omega
       refine aGo (cj2 hres h6) ?_
       repeat with_reducible intro K hK
       rw[Zan (fun _=>rfl),hc]
structure Dic where
 m:Nat
 n:Nat
 own:Nat→Nat
 free:Nat→Nat
 v:Nat→Rat
 a:Nat→Nat→Rat
 g:Nat→Rat
 z:Rat
theorem Zcj(f:Nat→Rat){s:Nat}:∀ n,s<n→sumN n f=f s+sumN n (fun j=>if j=s then 0 else f j)
 | 0,h=>absurd h (Nat.not_lt_zero _)
 | n+1,h=>by
   simp only[sumN]
   by_cases e:n=s
   ·subst e
    rw[if_pos rfl,Za6 (f:=fun j=>if j=n then 0 else f j) (g:=f) n (fun i hi=>if_neg (by omega))];grind
   ·rw[if_neg e,Zcj f (s:=s) n (by omega)];grind
theorem Zr3{f:Nat→Rat}{n s:Nat}(hs:s<n)(h0:0<f s)(h:∀ j,j<n→0≤f j):0<sumN n f:=by
 rw[Zcj f n hs]
 have h2:sumN n (fun _=>0)≤sumN n (fun j=>if j=s then 0 else f j):=Zk1 n fun j hj=>by
  split
  ·exact Rat.le_refl
  ·exact h j hj
 rw[Zbo]at h2;grind
theorem Zqt{f:Nat→Rat}{n:Nat}(h:∀ j,j<n→0≤f j):0≤sumN n f:=by
 have h2:sumN n (fun _=>0)≤sumN n f:=Zk1 n h
 rwa [Zbo]at h2
theorem Zr2(f g:Nat→Rat)(n:Nat):sumN n (fun i=>f i-g i)=sumN n f-sumN n g:=by
 have h:(fun i=>f i-g i)=fun i=>f i+(-1)*g i:=by funext i;grind
 rw[h,ZfP,Zd9];grind
namespace Dic
def up{α:Type}(f:Nat→α)(k:Nat)(x:α):Nat→α:=fun i=>if i=k then x else f i
def ex(d:Dic)(r s:Nat):Dic :=
 { d with
   own:=up d.own r (d.free s),free:=up d.free s (d.own r)
   v:=fun i=>if i=r then d.v r / d.a r s else d.v i-d.a i s*(d.v r / d.a r s)
   a:=fun i j=>if i=r then(if j=s then 1 / d.a r s else d.a r j / d.a r s)else if j=s then 0-d.a i s*(1 / d.a r s)else d.a i j-d.a i s*(d.a r j / d.a r s)
   g:=fun j=>if j=s then 0-d.g s*(1 / d.a r s)else d.g j-d.g s*(d.a r j / d.a r s)
   z:=d.z+d.g s*(d.v r / d.a r s)}
def Row(d:Dic)(k:Rat)(x:Nat→Rat)(i:Nat):Prop:=x (d.own i)=d.v i*k-sumN d.n fun j=>d.a i j*x (d.free j)
def Sol(d:Dic)(k:Rat)(x:Nat→Rat):Prop:=∀ i,i<d.m→d.Row k x i
def obj(d:Dic)(k:Rat)(x:Nat→Rat):Rat:=d.z*k+sumN d.n fun j=>d.g j*x (d.free j)
structure Part (d:Dic):Prop where
 own_lt:∀ i,i<d.m→d.own i<d.n+d.m
 free_lt:∀ j,j<d.n→d.free j<d.n+d.m
 own_inj:∀ i i',i<d.m→i'<d.m→d.own i=d.own i'→i=i'
 free_inj:∀ j j',j<d.n→j'<d.n→d.free j=d.free j'→j=j'
 apart:∀ i j,i<d.m→j<d.n→d.own i≠d.free j
 all:∀ q,q<d.n+d.m→(∃ i,i<d.m∧d.own i=q)∨∃ j,j<d.n∧d.free j=q
theorem ex_part{d:Dic}(h:Part d){r s:Nat}(hr:r<d.m)(hs:s<d.n):Part (d.ex r s):=by
 refine⟨fun i hi=>?_,fun j hj=>?_,fun i i' hi hi' e=>?_,fun j j' hj hj' e=>?_,fun i j hi hj e=>?_,fun q hq=>?_⟩
 ·simp only[ex,up]at *
  split
  ·exact h.free_lt s hs
  ·exact h.own_lt i hi
 ·simp only[ex,up]at *
  split
  ·exact h.own_lt r hr
  ·exact h.free_lt j hj
 ·simp only[ex,up]at *
  split at e<;>split at e
  ·omega
  ·exact absurd e.symm (h.apart _ _ hi' hs)
  ·exact absurd e (h.apart _ _ hi hs)
  ·exact h.own_inj _ _ hi hi' e
 ·simp only[ex,up]at *
  split at e<;>split at e
  ·omega
  ·exact absurd e (h.apart _ _ hr hj')
  ·exact absurd e.symm (h.apart _ _ hr hj)
  ·exact h.free_inj _ _ hj hj' e
 ·simp only[ex,up]at *
  split at e<;>split at e
  ·exact h.apart _ _ hr hs e.symm
  ·rename_i h1 h2;exact h2 (h.free_inj _ _ hj hs e.symm)
  ·rename_i h1 h2;exact h1 (h.own_inj _ _ hi hr e)
  ·exact h.apart _ _ hi hj e
 ·simp only[ex,up]at *
  rcases h.all q hq with⟨i,hi,e⟩|⟨j,hj,e⟩
  ·by_cases hir:i=r
   ·subst hir;exact .inr ⟨s,hs,by rw[if_pos rfl];exact e⟩
   ·exact .inl ⟨i,hi,by rw[if_neg hir];exact e⟩
  ·by_cases hjs:j=s
   ·subst hjs;exact .inl ⟨r,hr,by rw[if_pos rfl];exact e⟩
   ·exact .inr ⟨j,hj,by rw[if_neg hjs];exact e⟩
theorem Ztd{d:Dic}{r s:Nat}(hs:s<d.n)(hp:d.a r s≠0)(k:Rat)(x:Nat→Rat):(d.ex r s).Row k x r↔d.Row k x r:=by
 unfold Row
 rw[Zcj _ (d.ex r s).n (s:=s) hs,Zcj _ d.n hs]
 have e:sumN (d.ex r s).n (fun j=>if j=s then 0 else(d.ex r s).a r j*x ((d.ex r s).free j))=(1 / d.a r s)*sumN d.n (fun j=>if j=s then 0 else d.a r j*x (d.free j)):=by
  rw[← Zd9]
  refine Za6 _ fun j _=>?_
  by_cases h:j=s
  ·rw[if_pos h,if_pos h];grind
  ·rw[if_neg h,if_neg h];simp only[ex,up,if_neg h,if_pos];grind
 rw[e]
 simp only[ex,up,if_pos]
 have h1:d.a r s*(1 / d.a r s)=1:=by grind
 grind
theorem ZA6{d:Dic}{r s i:Nat}(hs:s<d.n)(hp:d.a r s≠0)(hi:i≠r){k:Rat}{x:Nat→Rat}(hx:d.Row k x r):(d.ex r s).Row k x i↔d.Row k x i:=by
 unfold Row at hx ⊢
 rw[Zcj _ d.n hs]at hx
 rw[Zcj _ (d.ex r s).n (s:=s) hs,Zcj _ d.n hs]
 have e:sumN (d.ex r s).n (fun j=>if j=s then 0 else(d.ex r s).a i j*x ((d.ex r s).free j))=sumN d.n (fun j=>if j=s then 0 else d.a i j*x (d.free j))-d.a i s*(1 / d.a r s)*sumN d.n (fun j=>if j=s then 0 else d.a r j*x (d.free j)):=by
  rw[← Zd9,← Zr2]
  refine Za6 _ fun j _=>?_
  by_cases h:j=s
  ·rw[if_pos h,if_pos h,if_pos h];grind
  ·rw[if_neg h,if_neg h,if_neg h];simp only[ex,up,if_neg h,if_neg hi];grind
 rw[e]
 simp only[ex,up,if_pos,if_neg hi]
 have h1:d.a r s*(1 / d.a r s)=1:=by grind
 grind
theorem ZEB{d:Dic}{r s:Nat}(hr:r<d.m)(hs:s<d.n)(hp:d.a r s≠0)(k:Rat)(x:Nat→Rat):(d.ex r s).Sol k x↔d.Sol k x:=by
 constructor
 ·intro h i hi
  have h0:=(Ztd hs hp k x).1 (h r hr)
  by_cases e:i=r
  ·subst e;exact h0
  ·exact(ZA6 hs hp e h0).1 (h i hi)
 ·intro h i hi
  have h0:=h r hr
  by_cases e:i=r
  ·subst e;exact(Ztd hs hp k x).2 h0
  ·exact(ZA6 hs hp e h0).2 (h i hi)
theorem ZEE{d:Dic}{r s:Nat}(hs:s<d.n)(hp:d.a r s≠0){k:Rat}{x:Nat→Rat}(hx:d.Row k x r):(d.ex r s).obj k x=d.obj k x:=by
 unfold Row at hx
 unfold obj
 rw[Zcj _ d.n hs]at hx
 rw[Zcj _ (d.ex r s).n (s:=s) hs,Zcj _ d.n hs]
 have e:sumN (d.ex r s).n (fun j=>if j=s then 0 else(d.ex r s).g j*x ((d.ex r s).free j))=sumN d.n (fun j=>if j=s then 0 else d.g j*x (d.free j))-d.g s*(1 / d.a r s)*sumN d.n (fun j=>if j=s then 0 else d.a r j*x (d.free j)):=by
  rw[← Zd9,← Zr2]
  refine Za6 _ fun j _=>?_
  by_cases h:j=s
  ·rw[if_pos h,if_pos h,if_pos h];grind
  ·rw[if_neg h,if_neg h,if_neg h];simp only[ex,up,if_neg h];grind
 rw[e]
 simp only[ex,up,if_pos]
 have h1:d.a r s*(1 / d.a r s)=1:=by grind
 grind
open Classical in
noncomputable def Zug (n:Nat) (f:Nat→Nat) (q:Nat):Option Nat:=if h:∃ i,i<n∧f i=q then some (Classical.choose h)else none
theorem ZmC{n:Nat}{f:Nat→Nat}(hf:∀ i i',i<n→i'<n→f i=f i'→i=i'){i:Nat}(hi:i<n):Zug n f (f i)=some i:=by
 have h:∃ i',i'<n∧f i'=f i:=⟨i,hi,rfl⟩
 unfold Zug
 rw[dif_pos h]
 have:=Classical.choose_spec h
 exact congrArg some (hf _ _ this.1 hi this.2)
theorem Zuf{n:Nat}{f:Nat→Nat}{q:Nat}(h:∀ i,i<n→f i≠q):Zug n f q=none:=by
 unfold Zug
 rw[dif_neg]
 rintro⟨i,hi,e⟩;exact h i hi e
noncomputable def val (d:Dic) (k:Rat) (c:Nat→Rat) (q:Nat):Rat :=
 match Zug d.m d.own q with
 | some i=>d.v i*k-sumN d.n fun j=>d.a i j*c j
 | none=>match Zug d.n d.free q with
   | some j=>c j
   | none=>0
section
variable {d:Dic} {k:Rat} {c:Nat→Rat}
theorem val_own(h:Part d){i:Nat}(hi:i<d.m):d.val k c (d.own i)=d.v i*k-sumN d.n fun j=>d.a i j*c j:=by
 unfold val;rw[ZmC h.own_inj hi]
theorem val_free(h:Part d){j:Nat}(hj:j<d.n):d.val k c (d.free j)=c j:=by
 unfold val;rw[Zuf (fun i hi=>h.apart i j hi hj),ZmC h.free_inj hj]
theorem val_sol(h:Part d):d.Sol k (d.val k c):=by
 intro i hi
 unfold Row
 rw[val_own h hi]
 congr 1
 exact Za6 _ fun j hj=>by rw[val_free h hj]
theorem val_obj(h:Part d):d.obj k (d.val k c)=d.z*k+sumN d.n fun j=>d.g j*c j:=by
 unfold obj
 congr 1
 exact Za6 _ fun j hj=>by rw[val_free h hj]
end
noncomputable def base (d:Dic):Nat→Rat:=d.val 1 fun _=>0
noncomputable def dir (d:Dic) (s:Nat):Nat→Rat:=d.val 0 fun j=>if j=s then 1 else 0
section
variable {d:Dic}
theorem base_own(h:Part d){i:Nat}(hi:i<d.m):d.base (d.own i)=d.v i:=by
 unfold base
 rw[val_own h hi,show(fun j=>d.a i j*(0:Rat))=fun _=>0 by funext j;grind,Zbo];grind
theorem base_free(h:Part d){j:Nat}(hj:j<d.n):d.base (d.free j)=0:=val_free h hj
theorem sumN_at(f:Nat→Rat){n s:Nat}(hs:s<n):sumN n (fun j=>f j*if j=s then 1 else 0)=f s:=by
 have e:(fun j=>f j*if j=s then(1:Rat)else 0)=fun j=>if j=s then f s else 0:=by
  funext j
  by_cases h:j=s
  ·subst h;rw[if_pos rfl,if_pos rfl];grind
  ·rw[if_neg h,if_neg h];grind
 rw[e,Zg6,if_pos hs]
theorem dir_own(h:Part d){i s:Nat}(hi:i<d.m)(hs:s<d.n):d.dir s (d.own i) = - d.a i s:=by
 unfold dir
 rw[val_own h hi,sumN_at _ hs];grind
theorem dir_free(h:Part d){j s:Nat}(hj:j<d.n):d.dir s (d.free j)=if j=s then 1 else 0:=val_free h hj
theorem base_obj(h:Part d):d.obj 1 d.base=d.z:=by
 unfold base
 rw[val_obj h,show(fun j=>d.g j*(0:Rat))=fun _=>0 by funext j;grind,Zbo];grind
theorem dir_obj(h:Part d){s:Nat}(hs:s<d.n):d.obj 0 (d.dir s)=d.g s:=by
 unfold dir
 rw[val_obj h,sumN_at _ hs];grind
end
structure Same (d e:Dic):Prop where
 m:d.m=e.m
 n:d.n=e.n
 sol:∀ k x,d.Sol k x↔e.Sol k x
 obj:∀ k x,d.Sol k x→d.obj k x=e.obj k x
theorem Same.refl(d:Dic):Same d d:=⟨rfl,rfl,fun _ _=>Iff.rfl,fun _ _ _=>rfl⟩
theorem Same.symm{d e:Dic}(h:Same d e):Same e d:=⟨h.m.symm,h.n.symm,fun k x=>(h.sol k x).symm,fun k x hx=>(h.obj k x ((h.sol k x).2 hx)).symm⟩
theorem Same.trans{d e f:Dic}(h:Same d e)(h':Same e f):Same d f:=⟨h.m.trans h'.m,h.n.trans h'.n,fun k x=>(h.sol k x).trans (h'.sol k x),fun k x hx=>(h.obj k x hx).trans (h'.obj k x ((h.sol k x).1 hx))⟩
theorem ex_same{d:Dic}{r s:Nat}(hr:r<d.m)(hs:s<d.n)(hp:d.a r s≠0):Same d (d.ex r s) :=
 ⟨rfl,rfl,fun k x=>(ZEB hr hs hp k x).symm,fun _ _ hx=>(ZEE hs hp (hx r hr)).symm⟩
theorem ex_ex{d:Dic}{r s:Nat}(hp:d.a r s≠0):(d.ex r s).ex r s=d:=by
 have hp':(1 / d.a r s)≠0:=by grind
 cases d with
 | mk m n own free v a g z =>
 simp only at hp hp'
 simp only[ex,up,if_pos,Dic.mk.injEq,true_and]
 refine⟨?_,?_,?_,?_,?_,?_⟩
 ·funext i;by_cases h:i=r
  ·subst h;simp only[up,if_pos]
  ·simp only[up,if_neg h]
 ·funext i;by_cases h:i=s
  ·subst h;simp only[up,if_pos]
  ·simp only[up,if_neg h]
 ·funext i;by_cases h:i=r
  ·subst h;rw[if_pos rfl];grind
  ·rw[if_neg h,if_neg h,if_neg h];grind
 ·funext i j
  by_cases h:i=r<;>by_cases h2:j=s
  ·subst h;subst h2;simp only[if_pos];grind
  ·subst h;simp only[if_pos,if_neg h2];grind
  ·subst h2;simp only[if_pos,if_neg h];grind
  ·simp only[if_neg h,if_neg h2];grind
 ·funext j
  by_cases h2:j=s
  ·subst h2;simp only[if_pos];grind
  ·simp only[if_neg h2];grind
 ·grind
structure RowStep (d:Dic) (r s:Nat):Prop where
 hr:r<d.m
 hs:s<d.n
 v:d.v r<0
 first:∀ i,i<d.m→d.v i<0→d.own r≤d.own i
 goal:∀ j,j<d.n→0<d.g j→d.own r<d.free j
 a:d.a r s<0
 least:∀ j,j<d.n→d.a r j<0→d.free s≤d.free j
structure ColStep (d:Dic) (r s:Nat):Prop where
 hr:r<d.m
 hs:s<d.n
 g:0<d.g s
 first:∀ j,j<d.n→0<d.g j→d.free s≤d.free j
 rows:∀ i,i<d.m→d.v i<0→d.free s<d.own i
 a:0<d.a r s
 least:∀ i,i<d.m→0<d.a i s→d.own r≤d.own i
def Step(d:Dic)(r s:Nat):Prop:=RowStep d r s∨ColStep d r s
theorem Step.hr{d:Dic}{r s:Nat}(h:Step d r s):r<d.m:=h.elim (·.hr) (·.hr)
theorem Step.hs{d:Dic}{r s:Nat}(h:Step d r s):s<d.n:=h.elim (·.hs) (·.hs)
theorem Step.ne{d:Dic}{r s:Nat}(h:Step d r s):d.a r s≠0:=by
 rcases h with h|h
 ·have:=h.a;grind
 ·have:=h.a;grind
theorem ZCw{d:Dic}(hP:Part d){r s q:Nat}(h:Step d r s)(hq:d.own r=q)(hl:d.free s<q) :
 ∃ k y,d.Sol k y∧y q<0∧(∀ p,p<q→p<d.n+d.m→0≤y p)∧(∀ j,j<d.n→q<d.free j→y (d.free j)=0) ∧
  ((k=1∧d.obj k y=d.z∧∀ j,j<d.n→d.free j<q→d.g j≤0)∨(k=0∧0<d.obj k y)):=by
 rcases h with h|h
 ·refine⟨1,d.base,val_sol hP,by rw[← hq,base_own hP h.hr];exact h.v,fun p hp hpn=>?_,fun j hj _=>base_free hP hj,.inl ⟨rfl,base_obj hP,fun j hj hjq=>?_⟩⟩
  ·rcases hP.all p hpn with⟨i,hi,e⟩|⟨j,hj,e⟩
   ·rw[← e,base_own hP hi]
    have:=h.first i hi
    by_cases hv:d.v i<0
    ·have:=this hv;omega
    ·grind
   ·rw[← e,base_free hP hj];exact Rat.le_refl
  ·by_cases hg:0<d.g j
   ·have:=h.goal j hj hg;omega
   ·grind
 ·refine⟨0,d.dir s,val_sol hP,by rw[← hq,dir_own hP h.hr h.hs];have:=h.a;grind,fun p hp hpn=>?_,fun j hj hjq=>by rw[dir_free hP hj,if_neg (fun e=>by subst e;omega)],.inr ⟨rfl,by rw[dir_obj hP h.hs];exact h.g⟩⟩
  rcases hP.all p hpn with⟨i,hi,e⟩|⟨j,hj,e⟩
  ·rw[← e,dir_own hP hi h.hs]
   have:=h.least i hi
   by_cases hv:0<d.a i s
   ·have:=this hv;omega
   ·grind
  ·rw[← e,dir_free hP hj]
   split
   ·grind
   ·exact Rat.le_refl
theorem ZAS{a b:Rat}(ha:a≤0)(hb:0≤b):a*b≤0:=by
 have:=Rat.mul_nonneg (a:= -a) (b:=b) (by grind) hb
 grind
theorem Zlz{a b:Rat}(ha:a<0)(hb:b<0):0<a*b:=by
 have:=Rat.mul_pos (a:= -a) (b:= -b) (by grind) (by grind)
 grind
theorem Zly{a b:Rat}(ha:0<a)(hb:b<0):a*b<0:=by
 have:=Rat.mul_pos (a:=a) (b:= -b) ha (by grind)
 grind
theorem ZyM{f:Nat→Rat}{n s:Nat}(hs:s<n)(h0:f s<0)(h:∀ j,j<n→f j≤0):sumN n f<0:=by
 have h1:=Zr3 (f:=fun j=> -f j) hs (by grind) (fun j hj=>by have:=h j hj;grind)
 have e:(fun j=> -f j)=fun j=>(-1)*f j:=by funext j;grind
 rw[e,Zd9]at h1;grind
theorem sumN_nonpos{f:Nat→Rat}{n:Nat}(h:∀ j,j<n→f j≤0):sumN n f≤0:=by
 have h2:sumN n f≤sumN n (fun _=>0):=Zk1 n h
 rwa [Zbo]at h2
theorem ZxD{d e:Dic}(hd:Part d)(he:Part e)(hde:Same d e){r s r' s' q:Nat}(h:Step d r s)(hq:d.own r=q)(hl:d.free s<q)(h':Step e r' s')(hq':e.free s'=q)(hl':e.own r'<q)
 (hst:∀ j,j<e.n→q<e.free j→∃ j',j'<d.n∧d.free j'=e.free j) (hst':∀ j,j<d.n→q<d.free j→∃ j',j'<e.n∧e.free j'=d.free j):False:=by
 obtain⟨k,y,hy,hyq,hlow,hhigh,hk⟩:=ZCw hd h hq hl
 have hye:=(hde.sol k y).1 hy
 have hsz:e.n+e.m=d.n+d.m:=by rw[hde.m,hde.n]
 have hz:∀ j,j<e.n→q<e.free j→y (e.free j)=0:=fun j hj hjq=>by
  obtain⟨j',hj',e'⟩:=hst j hj hjq
  rw[← e'];exact hhigh j' hj' (by omega)
 have hlow':∀ j,j<e.n→e.free j<q→0≤y (e.free j):=fun j hj hjq=>hlow _ hjq (by have:=he.free_lt j hj;omega)
 rcases h' with h'|h'
 ·have hrow:=hye r' h'.hr
  unfold Row at hrow
  have h1:=hlow _ hl' (by have:=he.own_lt r' h'.hr;omega)
  have h2:0<sumN e.n fun j=>e.a r' j*y (e.free j):=by
   refine Zr3 h'.hs (by rw[hq'];exact Zlz h'.a hyq) fun j hj=>?_
   rcases Nat.lt_trichotomy (e.free j) q with hjq|hjq|hjq
   ·refine Rat.mul_nonneg ?_ (hlow' j hj hjq)
    by_cases ha:e.a r' j<0
    ·have:=h'.least j hj ha;omega
    ·grind
   ·obtain rfl:=he.free_inj _ _ hj h'.hs (by omega)
    rw[hq'];exact Rat.le_of_lt (Zlz h'.a hyq)
   ·rw[hz j hj hjq];grind
  have h3:e.v r'*k≤0:=by
   have:=h'.v
   rcases hk with⟨rfl,_⟩|⟨rfl,_⟩<;>grind
  grind
 ·have hob:=hde.obj k y hy
  have h2:sumN e.n (fun j=>e.g j*y (e.free j))<0:=by
   refine ZyM h'.hs (by rw[hq'];exact Zly h'.g hyq) fun j hj=>?_
   rcases Nat.lt_trichotomy (e.free j) q with hjq|hjq|hjq
   ·refine ZAS ?_ (hlow' j hj hjq)
    by_cases ha:0<e.g j
    ·have:=h'.first j hj ha;omega
    ·grind
   ·obtain rfl:=he.free_inj _ _ hj h'.hs (by omega)
    rw[hq'];exact Rat.le_of_lt (Zly h'.g hyq)
   ·rw[hz j hj hjq];grind
  have hoe:e.obj k y=e.z*k+sumN e.n (fun j=>e.g j*y (e.free j)):=rfl
  rcases hk with⟨rfl,hz1,hg⟩|⟨rfl,hz0⟩
  ·have hs':=val_sol (k:=1) (c:=fun _=>0) he
   have hb:=(hde.sol 1 e.base).2 hs'
   have hb1:=hde.obj 1 e.base hb
   rw[base_obj he]at hb1
   have hoe2:d.obj 1 e.base=d.z*1+sumN d.n (fun j=>d.g j*e.base (d.free j)):=rfl
   have h4:sumN d.n (fun j=>d.g j*e.base (d.free j))≤0:=sumN_nonpos fun j hj=>by
    rcases Nat.lt_trichotomy (d.free j) q with hjq|hjq|hjq
    ·refine ZAS (hg j hj hjq) ?_
     rcases he.all (d.free j) (by have:=hd.free_lt j hj;omega)with⟨i,hi,e'⟩|⟨j',hj',e'⟩
     ·rw[← e',base_own he hi]
      by_cases hv:e.v i<0
      ·have:=h'.rows i hi hv;omega
      ·grind
     ·rw[← e',base_free he hj'];exact Rat.le_refl
    ·exact absurd (hq.trans hjq.symm) (hd.apart r j h.hr hj)
    ·obtain⟨j',hj',e'⟩:=hst' j hj hjq
     rw[← e',base_free he hj'];grind
   grind
  ·grind
end Dic
namespace Dic
theorem ZED{d:Dic}(hP:Part d){r s:Nat}(hr:r<d.m)(hs:s<d.n)(p:Nat):(∃ i,i<(d.ex r s).m∧(d.ex r s).own i=p)↔p=d.free s∨((∃ i,i<d.m∧d.own i=p)∧p≠d.own r):=by
 simp only[ex,up]
 constructor
 ·rintro⟨i,hi,e⟩
  split at e
  ·exact .inl e.symm
  ·rename_i h
   exact .inr ⟨⟨i,hi,e⟩,fun h'=>h (hP.own_inj _ _ hi hr (e.trans h'))⟩
 ·rintro(rfl|⟨⟨i,hi,e⟩,h⟩)
  ·exact⟨r,hr,by rw[if_pos rfl]⟩
  ·exact⟨i,hi,by rw[if_neg (fun h'=>h (by rw[← e,h']))];exact e⟩
theorem ZpI{p:Nat→Prop}(h:∃ n,p n):∃ n,p n∧∀ k,k<n→¬ p k:=by
 obtain⟨n,hn⟩:=h
 induction n using Nat.strongRecOn with
 | ind n ih =>
   by_cases hk:∃ k,k<n∧p k
   ·obtain⟨k,h1,h2⟩:=hk;exact ih k h1 h2
   ·exact⟨n,hn,fun k h1 h2=>hk ⟨k,h1,h2⟩⟩
structure Run (K:Nat) (D:Nat→Dic) (R S:Nat→Nat):Prop where
 part:Part (D 0)
 step:∀ k,k<K→Step (D k) (R k) (S k)
 next:∀ k,k<K→D (k+1)=(D k).ex (R k) (S k)
section
variable {K:Nat} {D:Nat→Dic} {R S:Nat→Nat}
theorem Run.parts(h:Run K D R S):∀ k,k≤K→Part (D k)
 | 0,_=>h.part
 | k+1,hk=>by
   rw[h.next k (by omega)]
   exact ex_part (h.parts k (by omega)) (h.step k (by omega)).hr (h.step k (by omega)).hs
theorem Run.same(h:Run K D R S){a:Nat}:∀ k,a+k≤K→Same (D a) (D (a+k))
 | 0,_=>Same.refl _
 | k+1,hk=>by
   have hs:=h.step (a+k) (by omega)
   have:=ex_same hs.hr hs.hs hs.ne
   rw[← h.next (a+k) (by omega)]at this
   exact(h.same k (by omega)).trans this
def Zmf(d:Dic)(p:Nat):Prop:=∃ i,i<d.m∧d.own i=p
theorem Run.flip(h:Run K D R S){k:Nat}(hk:k<K)(p:Nat):Zmf (D (k+1)) p↔p=(D k).free (S k)∨(Zmf (D k) p∧p≠(D k).own (R k)):=by
 unfold Zmf
 rw[h.next k hk]
 exact ZED (h.parts k (by omega)) (h.step k hk).hr (h.step k hk).hs p
theorem Run.keep(h:Run K D R S){p a:Nat}:∀ k,a+k≤K→(∀ i,a≤i→i<a+k→(D i).own (R i)≠p∧(D i).free (S i)≠p)→(Zmf (D a) p↔Zmf (D (a+k)) p)
 | 0,_,_=>Iff.rfl
 | k+1,hk,hne=>by
   rw[h.keep k (by omega) fun i h1 h2=>hne i h1 (by omega),← Nat.add_assoc,h.flip (by omega)]
   obtain⟨h1,h2⟩:=hne (a+k) (by omega) (by omega)
   constructor
   ·intro h3;exact .inr ⟨h3,fun e=>h1 e.symm⟩
   ·rintro(e|h3)
    ·exact absurd e.symm h2
    ·exact h3.1
theorem Zlv{d:Dic}(h:Part d){p:Nat}(hp:p<d.n+d.m):¬ Zmf d p↔∃ j,j<d.n∧d.free j=p:=by
 constructor
 ·intro hn
  exact(h.all p hp).resolve_left hn
 ·rintro⟨j,hj,rfl⟩ ⟨i,hi,e⟩
  exact h.apart i j hi hj e
theorem Run.exclude(h:Run K D R S){q a b x y:Nat}(hab:b≤K)(hax:a≤x)(hxb:x<b)(hay:a≤y)(hyb:y<b)(hle:∀ k,a≤k→k<b→(D k).own (R k)≤q∧(D k).free (S k)≤q)
 (hx:(D x).own (R x)=q) (hy:(D y).free (S y)=q):False:=by
 have hPx:=h.parts x (by omega)
 have hPy:=h.parts y (by omega)
 have sx:=h.step x (by omega)
 have sy:=h.step y (by omega)
 have same:Same (D x) (D y):=by
  rcases Nat.le_total x y with hxy|hxy
  ·have:=h.same (a:=x) (y-x) (by omega);rwa [show x+(y-x)=y by omega]at this
  ·have:=h.same (a:=y) (x-y) (by omega);rw[show y+(x-y)=x by omega]at this;exact this.symm
 have stay:∀ p,q<p→(Zmf (D x) p↔Zmf (D y) p):=by
  intro p hp
  rcases Nat.le_total x y with hxy|hxy
  ·have:=h.keep (p:=p) (a:=x) (y-x) (by omega) fun i h1 h2=>by have:=hle i (by omega) (by omega);omega
   rwa [show x+(y-x)=y by omega]at this
  ·have:=h.keep (p:=p) (a:=y) (x-y) (by omega) fun i h1 h2=>by have:=hle i (by omega) (by omega);omega
   rw[show y+(x-y)=x by omega]at this;exact this.symm
 have hsz:(D x).n+(D x).m=(D y).n+(D y).m:=by rw[same.m,same.n]
 refine ZxD hPx hPy same sx hx ?_ sy hy ?_ ?_ ?_
 ·have h1:=(hle x hax hxb).2
  have h2:=hPx.apart (R x) (S x) sx.hr sx.hs
  omega
 ·have h1:=(hle y hay hyb).1
  have h2:=hPy.apart (R y) (S y) sy.hr sy.hs
  omega
 ·intro j hj hjq
  have hlt:=hPy.free_lt j hj
  refine(Zlv hPx (by omega)).1 ?_
  rw[stay _ hjq]
  exact(Zlv hPy hlt).2 ⟨j,hj,rfl⟩
 ·intro j hj hjq
  have hlt:=hPx.free_lt j hj
  refine(Zlv hPy (by omega)).1 ?_
  rw[← stay _ hjq]
  exact(Zlv hPx hlt).2 ⟨j,hj,rfl⟩
theorem Run.stretch(h:Run K D R S):∀ (q a b:Nat),a≤b→b≤K→(∀ k,a≤k→k<b→(D k).own (R k)<q∧(D k).free (S k)<q)→b-a<2^q
 | 0,a,b,hab,hb,hlt=>by
   rcases Nat.lt_or_ge a b with h1|h1
   ·have:=hlt a (by omega) h1;omega
   ·rw[Nat.pow_zero];omega
 | q+1,a,b,hab,hb,hlt=>by
   have hle:∀ k,a≤k→k<b→(D k).own (R k)≤q∧(D k).free (S k)≤q:=fun k h1 h2=>by have:=hlt k h1 h2;omega
   have h2q:2^(q+1)=2^q+2^q:=by rw[Nat.pow_succ];omega
   have hpos:0<2^q:=Nat.two_pow_pos q
   by_cases hev:∃ k,a≤k∧k<b∧((D k).own (R k)=q∨(D k).free (S k)=q)
   ·obtain⟨x,⟨hax,hxb,hx⟩,hfirst⟩:=ZpI hev
    have l1:=h.stretch q a x hax (by omega) fun k h1 h2=>by
     have h3:=hle k h1 (by omega)
     have h4:¬((D k).own (R k)=q∨(D k).free (S k)=q):=fun h5=>hfirst k h2 ⟨h1,by omega,h5⟩
     omega
    by_cases hev2:∃ k,x+1≤k∧k<b∧((D k).own (R k)=q∨(D k).free (S k)=q)
    ·exfalso
     obtain⟨y,⟨hxy,hyb,hy⟩,hnext⟩:=ZpI hev2
     have sx:=h.step x (by omega)
     have sy:=h.step y (by omega)
     have keep:=h.keep (p:=q) (a:=x+1) (y-(x+1)) (by omega) fun i h1 h2=>by
      have h4:¬((D i).own (R i)=q∨(D i).free (S i)=q):=fun h5=>hnext i (by omega) ⟨h1,by omega,h5⟩
      exact⟨fun e=>h4 (.inl e),fun e=>h4 (.inr e)⟩
     rw[show x+1+(y-(x+1))=y by omega,h.flip (by omega)]at keep
     rcases hx with hx|hx
     ·have hno:¬ Zmf (D y) q:=by
       rw[← keep]
       rintro(e|⟨_,e⟩)
       ·exact(h.parts x (by omega)).apart _ _ sx.hr sx.hs (hx.trans e)
       ·exact e hx.symm
      rcases hy with hy|hy
      ·exact hno ⟨R y,sy.hr,hy⟩
      ·exact h.exclude hb hax hxb (by omega) hyb hle hx hy
     ·have hyes:Zmf (D y) q:=keep.1 (.inl hx.symm)
      rcases hy with hy|hy
      ·exact h.exclude hb (by omega) hyb hax hxb hle hy hx
      ·exact(Zlv (h.parts y (by omega)) (by have:=(h.parts y (by omega)).free_lt _ sy.hs;omega)).2 ⟨S y,sy.hs,hy⟩ hyes
    ·have l2:=h.stretch q (x+1) b (by omega) hb fun k h1 h2=>by
      have h3:=hle k (by omega) h2
      have h4:¬((D k).own (R k)=q∨(D k).free (S k)=q):=fun h5=>hev2 ⟨k,h1,h2,h5⟩
      omega
     omega
   ·have l1:=h.stretch q a b hab hb fun k h1 h2=>by
     have h3:=hle k h1 h2
     have h4:¬((D k).own (R k)=q∨(D k).free (S k)=q):=fun h5=>hev ⟨k,h1,h2,h5⟩
     omega
    omega
theorem Run.short(h:Run K D R S):K<2^((D 0).n+(D 0).m):=by
 have:=h.stretch ((D 0).n+(D 0).m) 0 K (by omega) (Ya4 _) fun k _ hk=>by
  have hP:=h.parts k (by omega)
  have hs:=h.same (a:=0) k (by omega)
  rw[Nat.zero_add]at hs
  have h1:=hP.own_lt _ (h.step k hk).hr
  have h2:=hP.free_lt _ (h.step k hk).hs
  rw[hs.m,hs.n]
  exact⟨h1,h2⟩
 omega
end
end Dic
namespace Dic
def cnt(p:Nat→Bool):Nat→Nat
 | 0=>0
 | m+1=>cnt p m+(if p m then 1 else 0)
theorem Zjc{p q:Nat→Bool}:∀ m,(∀ i,i<m→p i=q i)→cnt p m=cnt q m
 | 0,_=>rfl
 | m+1,h=>by simp only[cnt,Zjc m (fun i hi=>h i (by omega)),h m (by omega)]
theorem Zow{p q:Nat→Bool}{r:Nat}(hp:p r=true)(hq:q r=false):∀ m,r<m→(∀ i,i<m→i≠r→q i=p i)→cnt q m+1=cnt p m
 | 0,h,_=>absurd h (Nat.not_lt_zero _)
 | m+1,h,he=>by
   simp only[cnt]
   by_cases e:m=r
   ·subst e
    rw[Zjc (p:=q) (q:=p) m (fun i hi=>he i (by omega) (by omega)),hp,hq]
    simp
   ·have:=Zow hp hq m (by omega) (fun i hi=>he i (by omega))
    rw[he m (by omega) e];omega
theorem ZBd(p:Nat→Bool):∀ m,cnt p m≤m
 | 0=>Ya4 _
 | m+1=>by have:=ZBd p m;simp only[cnt];split<;>omega
theorem Ztr{p:Nat→Bool}:∀ m,cnt p m=0→∀ i,i<m→p i=false
 | 0,_,_,h=>absurd h (Nat.not_lt_zero _)
 | m+1,h,i,hi=>by
   simp only[cnt]at h
   by_cases e:i=m
   ·subst e;cases hp:p i
    ·rfl
    ·rw[hp]at h;simp at h
   ·exact Ztr m (by omega) i (by omega)
theorem Zts{p:Nat→Bool}:∀ m,0<cnt p m→∃ i,i<m∧p i=true
 | 0,h=>absurd h (Nat.not_lt_zero _)
 | m+1,h=>by
   cases hp:p m
   ·simp only[cnt,hp]at h
    obtain⟨i,hi,e⟩:=Zts m (by simpa using h)
    exact⟨i,by omega,e⟩
   ·exact⟨m,by omega,hp⟩
theorem Zx1{f:Nat→Nat}{m:Nat}(hf:∀ i i',i<m→i'<m→f i=f i'→i=i'):∀ n,cnt (fun i=>decide (f i<n)) m≤n
 | 0=>by
   rw[Zjc (q:=fun _=>false) m (fun i _=>by simp)]
   have:∀ k,cnt (fun _=>false) k=0:=fun k=>by induction k with
    | zero=>rfl
    | succ k ih=>simp only[cnt,ih];rfl
   rw[this];exact Ya4 _
 | n+1=>by
   have ih:=Zx1 hf n
   by_cases h:∃ i,i<m∧f i=n
   ·obtain⟨r,hr,e⟩:=h
    have:=Zow (p:=fun i=>decide (f i<n+1)) (q:=fun i=>decide (f i<n)) (r:=r) (by simp[e]) (by simp[e]) m hr (fun i hi hne=>by
     have:f i≠n:=fun h'=>hne (hf _ _ hi hr (h'.trans e.symm))
     simp only[decide_eq_decide];omega)
    omega
   ·rw[Zjc (q:=fun i=>decide (f i<n)) m (fun i hi=>by
     have:f i≠n:=fun h'=>h ⟨i,hi,h'⟩
     simp only[decide_eq_decide];omega)]
    omega
structure SizeFn (sz:Rat→Nat):Prop where
 zero:sz 0≤1
 one:sz 1≤1
 sub:∀ a b,sz (a-b)≤sz a+sz b+1
 mul:∀ a b,sz (a*b)≤sz a+sz b
 div:∀ a b,b≠0→sz (a / b)≤sz a+sz b
structure Sized (sz:Rat→Nat) (d:Dic) (B:Nat):Prop where
 v:∀ i,i<d.m→sz (d.v i)≤B
 a:∀ i j,i<d.m→j<d.n→sz (d.a i j)≤B
 g:∀ j,j<d.n→sz (d.g j)≤B
theorem ex_sized{sz:Rat→Nat}(L:SizeFn sz){d:Dic}{r s B:Nat}(hr:r<d.m)(hs:s<d.n)(hp:d.a r s≠0)(h:Sized sz d B)(hB:1≤B):Sized sz (d.ex r s) (4*B+1):=by
 have hpb:=h.a r s hr hs
 have h1:=L.div 1 _ hp
 have l1:=L.one
 have l0:=L.zero
 refine⟨fun i hi=>?_,fun i j hi hj=>?_,fun j hj=>?_⟩
 ·simp only[ex]at *
  have hv:=L.div (d.v r) _ hp
  have hb:=h.v r hr
  split
  ·omega
  ·have e1:=L.sub (d.v i) (d.a i s*(d.v r / d.a r s))
   have e2:=L.mul (d.a i s) (d.v r / d.a r s)
   have e3:=h.v i hi
   have e4:=h.a i s hi hs
   omega
 ·simp only[ex]at *
  have hv:=L.div (d.a r j) _ hp
  have hb:=h.a r j hr hj
  split
  ·split<;>omega
  ·have e4:=h.a i s hi hs
   split
   ·have e1:=L.sub 0 (d.a i s*(1 / d.a r s))
    have e2:=L.mul (d.a i s) (1 / d.a r s)
    omega
   ·have e1:=L.sub (d.a i j) (d.a i s*(d.a r j / d.a r s))
    have e2:=L.mul (d.a i s) (d.a r j / d.a r s)
    have e3:=h.a i j hi hj
    omega
 ·simp only[ex]at *
  have hv:=L.div (d.a r j) _ hp
  have hb:=h.a r j hr hj
  have e4:=h.g s hs
  split
  ·have e1:=L.sub 0 (d.g s*(1 / d.a r s))
   have e2:=L.mul (d.g s) (1 / d.a r s)
   omega
  ·have e1:=L.sub (d.g j) (d.g s*(d.a r j / d.a r s))
   have e2:=L.mul (d.g s) (d.a r j / d.a r s)
   have e3:=h.g j hj
   omega
structure First (d:Dic):Prop where
 own:∀ i,i<d.m→d.own i=d.n+i
 free:∀ j,j<d.n→d.free j=j
theorem First.part{d:Dic}(h:First d):Part d:=by
 refine⟨fun i hi=>?_,fun j hj=>?_,fun i i' hi hi' e=>?_,fun j j' hj hj' e=>?_,fun i j hi hj e=>?_,fun q hq=>?_⟩
 ·rw[h.own i hi];omega
 ·rw[h.free j hj];omega
 ·rw[h.own i hi,h.own i' hi']at e;omega
 ·rw[h.free j hj,h.free j' hj']at e;omega
 ·rw[h.own i hi,h.free j hj]at e;omega
 ·rcases Nat.lt_or_ge q d.n with h1|h1
  ·exact .inr ⟨q,h1,h.free q h1⟩
  ·exact .inl ⟨q-d.n,by omega,by rw[h.own _ (by omega)];omega⟩
def grow(B:Nat):Nat→Nat
 | 0=>B
 | t+1=>4*grow B t+1
theorem grow_pos{B:Nat}(h:1≤B):∀ t,1≤grow B t
 | 0=>h
 | t+1=>by simp only[grow];omega
theorem Zvm(f:Nat→Rat)(y:Nat→Rat)(n w:Nat)(hy:∀ q,q<n→y q=if q=w then 1 else 0):sumN n (fun q=>f q*y q)=if w<n then f w else 0:=by
 rw[Za6 (g:=fun q=>if q=w then f w else 0) n (fun q hq=>by
  rw[hy q hq]
  by_cases e:q=w
  ·subst e;rw[if_pos rfl,if_pos rfl];grind
  ·rw[if_neg e,if_neg e];grind),Zg6]
theorem Zrr{sz:Rat→Nat}(L:SizeFn sz){d0 d:Dic}(h0:First d0){B:Nat}(hB:1≤B)(hS:Sized sz d0 B)(hP:Part d)(hE:Same d0 d)(hown:∀ i,i<d.m→d.n≤d.own i):Sized sz d B:=by
 have hm:=hE.m
 have hn:=hE.n
 have l0:=L.zero
 have hfree:∀ q,q<d.n→∃ j,j<d.n∧d.free j=q:=fun q hq=>(hP.all q (by omega)).resolve_left (by rintro⟨i,hi,e⟩;have:=hown i hi;omega)
 have hat:∀ i,i<d.m→∃ i0,i0<d0.m∧d.own i=d0.own i0:=fun i hi=>by
  have h1:=hown i hi
  have h2:=hP.own_lt i hi
  exact⟨d.own i-d.n,by omega,by rw[h0.own _ (by omega)];omega⟩
 have hdir:∀ s,s<d.n→∀ q,q<d0.n→d.dir s (d0.free q)=if q=d.free s then 1 else 0:=by
  intro s hs q hq
  rw[h0.free q hq]
  obtain⟨j,hj,rfl⟩:=hfree q (by omega)
  rw[dir_free hP hj]
  by_cases e:j=s
  ·subst e;rw[if_pos rfl,if_pos rfl]
  ·rw[if_neg e,if_neg (fun h'=>e (hP.free_inj _ _ hj hs h'))]
 refine⟨fun i hi=>?_,fun i j hi hj=>?_,fun j hj=>?_⟩
 ·obtain⟨i0,hi0,e⟩:=hat i hi
  have h1:=(hE.sol 1 d.base).2 (val_sol hP) i0 hi0
  unfold Row at h1
  rw[← e,base_own hP hi,Za6 (g:=fun _=>0) d0.n (fun q hq=>by
   rw[h0.free q hq]
   obtain⟨j,hj,rfl⟩:=hfree q (by omega)
   rw[base_free hP hj];grind),Zbo]at h1
  rw[show d.v i=d0.v i0 by grind]
  exact hS.v i0 hi0
 ·obtain⟨i0,hi0,e⟩:=hat i hi
  have h1:=(hE.sol 0 (d.dir j)).2 (val_sol hP) i0 hi0
  unfold Row at h1
  rw[← e,dir_own hP hi hj,Zvm (fun q=>d0.a i0 q) (fun q=>d.dir j (d0.free q)) d0.n (d.free j) (hdir j hj)]at h1
  by_cases hlt:d.free j<d0.n
  ·rw[if_pos hlt]at h1
   rw[show d.a i j=d0.a i0 (d.free j) by grind]
   exact hS.a i0 _ hi0 hlt
  ·rw[if_neg hlt]at h1
   rw[show d.a i j=0 by grind];omega
 ·have h1:=hE.obj 0 (d.dir j) ((hE.sol 0 (d.dir j)).2 (val_sol hP))
  rw[dir_obj hP hj]at h1
  unfold obj at h1
  rw[Zvm (fun q=>d0.g q) (fun q=>d.dir j (d0.free q)) d0.n (d.free j) (hdir j hj)]at h1
  by_cases hlt:d.free j<d0.n
  ·rw[if_pos hlt]at h1
   rw[show d.g j=d0.g (d.free j) by grind]
   exact hS.g _ hlt
  ·rw[if_neg hlt]at h1
   rw[show d.g j=0 by grind];omega
theorem ZDN{sz:Rat→Nat}(L:SizeFn sz){d0:Dic}(h0:First d0){B:Nat}(hB:1≤B)(hS:Sized sz d0 B):∀ (t:Nat)(d:Dic),Part d→Same d0 d→cnt (fun i=>decide (d.own i<d.n)) d.m=t→Sized sz d (grow B t)
 | 0,d,hP,hE,hc=>Zrr L h0 hB hS hP hE fun i hi=>by have:=Ztr _ hc i hi;simp at this;omega
 | t+1,d,hP,hE,hc=>by
   obtain⟨i,hi,hio⟩:=Zts (p:=fun i=>decide (d.own i<d.n)) d.m (by omega)
   simp only[decide_eq_true_eq]at hio
   have hn:=hE.n
   obtain⟨j,hj,hjn,hp⟩:∃ j,j<d.n∧d.n≤d.free j∧d.a i j≠0:=by
    refine Classical.byContradiction fun hno=>?_
    have hx:=(hE.sol 0 _).1 (val_sol (k:=0) (c:=fun q=>if q=d.own i then 1 else 0) h0.part) i hi
    unfold Row at hx
    have hv:∀ q,q<d.n→d0.val 0 (fun q=>if q=d.own i then 1 else 0) q=if q=d.own i then 1 else 0:=fun q hq=>by
     have:=val_free (k:=0) (c:=fun q=>if q=d.own i then 1 else 0) h0.part (j:=q) (by omega)
     rwa [h0.free q (by omega)]at this
    rw[hv _ hio,if_pos rfl,Za6 (g:=fun _=>0) d.n (fun j hj=>by
     by_cases h1:d.n≤d.free j
     ·have:d.a i j=0:=Classical.byContradiction fun h2=>hno ⟨j,hj,h1,h2⟩
      rw[this];grind
     ·rw[hv _ (by omega),if_neg (fun e=>hP.apart i j hi hj e.symm)];grind),Zbo]at hx
    grind
   have hP1:=ex_part hP hi hj
   have hE1:=hE.trans (ex_same hi hj hp)
   have hc1:cnt (fun k=>decide ((d.ex i j).own k<(d.ex i j).n)) (d.ex i j).m=t:=by
    have:=Zow (p:=fun k=>decide (d.own k<d.n)) (q:=fun k=>decide ((d.ex i j).own k<(d.ex i j).n)) (r:=i) (by simpa using hio) (by simp[ex,up];omega) d.m hi (fun k _ hne=>by simp[ex,up,hne])
    have h2:(d.ex i j).m=d.m:=rfl
    rw[h2];omega
   have ih:=ZDN L h0 hB hS t (d.ex i j) hP1 hE1 hc1
   have hp1:(d.ex i j).a i j≠0:=by simp only[ex,if_pos];grind
   have:=ex_sized L (d:=d.ex i j) hi hj hp1 ih (grow_pos hB t)
   rw[ex_ex hp]at this
   exact this
theorem Zxl{B:Nat}:∀ {t u:Nat},t≤u→grow B t≤grow B u:=by
 intro t u h
 induction u with
 | zero => obtain rfl : t = 0 := by omega
           exact Ya4 _
 | succ u ih =>
   by_cases e:t=u+1
   ·subst e;exact Ya4 _
   ·have:=ih (by omega);simp only[grow];omega
theorem Sized.mono{sz:Rat→Nat}{d:Dic}{B C:Nat}(h:Sized sz d B)(hBC:B≤C):Sized sz d C:=⟨fun i hi=>Nat.le_trans (h.v i hi) hBC,fun i j hi hj=>Nat.le_trans (h.a i j hi hj) hBC,fun j hj=>Nat.le_trans (h.g j hj) hBC⟩
theorem small{sz:Rat→Nat}(L:SizeFn sz){d0 d:Dic}(h0:First d0){B:Nat}(hB:1≤B)(hS:Sized sz d0 B)(hP:Part d)(hE:Same d0 d){t:Nat}(ht:d.n≤t∨d.m≤t):Sized sz d (grow B t):=by
 refine(ZDN L h0 hB hS _ d hP hE rfl).mono (Zxl ?_)
 have h1:=Zx1 hP.own_inj d.n
 have h2:=ZBd (fun i=>decide (d.own i<d.n)) d.m
 omega
end Dic
set_option maxHeartbeats 16000000
section ifm
variable [Ifl]
def ZDV(ops:Array Oper)(tr:List (List Nat×List Nat)):Bool :=
 (List.range ops.size).all fun j=>(List.range j).all fun i=>(Zc5 ops j).contains i||match tr[i]?,tr[j]? with
   | some x,some y=> !ZlB x.2 y.1 && !ZlB x.1 y.2
   | _,_=>true
theorem Zwe{ops:Array Oper}{tr:List (List Nat×List Nat)}(h:ZDV ops tr=true):Zgy ops tr=true:=by
 unfold ZDV at h
 unfold Zgy
 simp only[Ya6,List.mem_range]at h ⊢
 intro j hj i hi
 have:=h j hj i hi
 rw[Bool.or_eq_true]at this
 split
 ·rename_i x y hx hy
  rw[hx,hy]at this
  rw[Bool.or_eq_true]
  exact this.symm
 ·rfl
theorem Zw8{s:St}(l:List (Nat×D))(ht:∀ p∈l,s.t p.1=p.2):StLe s ⟨tabT l,s.m,s.nx,s.lo⟩:=by
 intro E B nn β a w hr
 refine⟨β,hr.mem,fun k hk=>?_,hr.width,hr.defers,hr.le,hr.sle,hr.lo⟩
 rcases Zg4 l k with h1|⟨d,h1,h2⟩
 ·simp only[h1];exact .junk _
 ·simp only[h2]
  have:=hr.tmp k hk
  rw[ht _ h1]at this
  exact this
def Cl(m:Mem)(nx:Nat):Prop:=∀ id b,m id=some b→id<nx∧Zap (fun i=>(m i).isSome) b
theorem MemOk.closed{E:Env}{β:Bet}{m:Mem}{nx:Nat}{w:World}(h:MemOk E β m nx w):Cl m nx:=by
 intro id b hb
 refine⟨h.lt id b hb,fun e he=>?_⟩
 cases hbt:β id with
 | none=>rw[h.non id b hb hbt]at he;cases he
 | some c =>
   obtain⟨_,cs,_,_,h4⟩:=h.row id b c hb hbt
   obtain⟨i,hi⟩:=List.getElem?_of_mem he
   have:∀ l:List D,(∀ d∈l,okD (fun i=>(m i).isSome) d=true)→okDs (fun i=>(m i).isSome) l=true:=by
    intro l
    induction l with
    | nil=>intro _;rfl
    | cons d l ih=>intro hl;simp only[okDs,Ya2];exact⟨hl d (by simp),ih fun x hx=>hl x (by simp[hx])⟩
   refine this e fun d hd=>?_
   obtain⟨j,hj⟩:=List.getElem?_of_mem hd
   obtain⟨u,_,h5⟩:=h4 i j d (Zak.2 ⟨e,hi,hj⟩)
   exact h5.names
theorem ZaN.cl{P:Program}{f:FuncId}{ds:List D}{m:Mem}{nx:Nat}{K:D→Mem→Nat→Prop}(hb:ZfJ P f)(h:Cl m nx→ZaN P f ds m nx K):ZaN P f ds m nx K :=
 ⟨hb,fun E β w vs hM hvs=>(h hM.closed).2 E β w vs hM hvs⟩
def ZsS{X:Type}(l:X→List (Nat×D))(lo:Nat)(Pre:X→Mem→Nat→Prop)(μ:X→Nat)(x:X)(s:St):Prop:=∃ y,Pre y s.m s.nx∧μ y<μ x∧s.lo=lo∧∀ p∈l y,s.t p.1=p.2
theorem ZcW{P:Program}{n:Nat}{Q:Exit→St→Prop}{s:St}{c:Code}{X:Type}(l:X→List (Nat×D))(lo:Nat)(Pre:X→Mem→Nat→Prop)(μ:X→Nat)(x0:X)(h0:Pre x0 s.m s.nx)(hlo:s.lo=lo)(ht:∀ p∈l x0,s.t p.1=p.2)
 (h:∀ x m nx,Pre x m nx→AWP P n c (ZtK (ZsS l lo Pre μ x) Q) ⟨tabT (l x),m,nx,lo⟩):AWP P n (.loop c) Q s:=by
 subst hlo
 refine ZrJ (X:=X×Mem×Nat) (fun x=>⟨tabT (l x.1),x.2.1,x.2.2,s.lo⟩) (fun x=>Pre x.1 x.2.1 x.2.2) (fun x=>μ x.1) ⟨(x0,s.m,s.nx),h0,Zw8 _ ht⟩ ?_
 rintro⟨x,m,nx⟩ hx
 intro E B β a w hr
 refine wp_mono (h x m nx hx E B β a w hr) ?_
 rintro e a' w' ⟨s',β',h1,h2⟩
 refine⟨s',β',h1,?_⟩
 cases e with
 | normal =>
   obtain⟨y,h3,h4,h5,h6⟩:=h2
   refine⟨(y,s'.m,s'.nx),h3,h4,?_⟩
   have:=Zw8 (s:=s') (l y) h6
   rw[h5]at this
   exact this
 | _=>exact h2
theorem Zas{X:Type}{l:X→List (Nat×D)}{lo:Nat}{Pre:X→Mem→Nat→Prop}{μ:X→Nat}{x:X}{s:St}(y:X)(h1:Pre y s.m s.nx)(h2:μ y<μ x)(h3:s.lo=lo)(h4:∀ p∈l y,s.t p.1=p.2):ZsS l lo Pre μ x s:=⟨y,h1,h2,h3,h4⟩
end ifm
theorem useE{KE:List Ev→St→Prop}{A B:List Ev→Prop}{C:St→Prop}{tr:List Ev}{s:St}(h:∀ tr s',A tr→B tr→C s'→KE tr s')(a:A tr)(b:B tr)(c:C s):KE tr s:=h tr s a b c
theorem aGoM{F Y X:Prop}(f:F)(y:Y)(h:F→Keep Y→X:=by
 intro hf y
 repeat(first
  | (refine hI _ ?_;clear hI;clear KI)
  | (refine hK _ ?_;try clear hK;try clear K)
  | ((with_reducible apply useK);(with_reducible assumption))
  | (refine aSeq fun KI hI=>?_)
  | (refine ZcK ?_)
  | (refine ZeV ?_)
  | (refine ZeX ?_)
  | (refine aRet ?_)
  | (refine aOps _ rfl (by kernel_rfl) ?_)
  | (refine ZeW _ rfl Zeb (by kernel_rfl) (by kernel_rfl) fun KE hE=>?_)
  | (refine hE _ _ (Zwe (by kernel_rfl)) (Zay rfl) ?_;clear hE;clear KE)
  | ((with_reducible apply useE);(with_reducible assumption);exact Zwe (by kernel_rfl);exact Zay rfl)
  | (refine ZcI rfl ?hc ?_;case hc=>simp only[go_sem,↓reduceIte,beq_self_eq_true,bne_self_eq_false,hf])
  | (refine ZcJ rfl ?hc ?_;case hc=>simp only[go_sem,↓reduceIte,beq_self_eq_true,bne_self_eq_false,hf])
  | ((with_reducible apply Zb2);(first|with_reducible assumption|assumption))
  | ((with_reducible apply ZbR);(first|with_reducible assumption|assumption);rfl)
  | (simp only[go_sem,↓reduceIte,beq_self_eq_true,bne_self_eq_false,hf])
  | (refine And.intro ?ho ?_;(case ho=>omega))
  | (clear hI;clear KI))
 repeat(first|(revert hE;revert KE)|(revert hI;revert KI))
 first|done|exact y.out):X:=h f ⟨y⟩
theorem aGoS{F Y X:Prop}(f:F)(y:Y)(h:F→Keep Y→X:=by
 intro hf y
 repeat(first
  | (refine hI _ ?_;clear hI;clear KI)
  | (refine hK _ ?_;try clear hK;try clear K)
  | ((with_reducible apply useK);(with_reducible assumption))
  | (refine aSeq fun KI hI=>?_)
  | (refine ZcK ?_)
  | (refine ZeV ?_)
  | (refine ZeX ?_)
  | (refine aRet ?_)
  | (refine aOps _ rfl (by kernel_rfl) ?_)
  | (refine ZeW _ rfl Zeb (by kernel_rfl) (by kernel_rfl) fun KE hE=>?_)
  | (refine ZcI rfl ?hc ?_;case hc=>simp only[go_sem,↓reduceIte,beq_self_eq_true,bne_self_eq_false,hf])
  | (refine ZcJ rfl ?hc ?_;case hc=>simp only[go_sem,↓reduceIte,beq_self_eq_true,bne_self_eq_false,hf])
  | ((with_reducible apply Zb2);(first|with_reducible assumption|assumption))
  | ((with_reducible apply ZbR);(first|with_reducible assumption|assumption);rfl)
  | (simp only[go_sem,↓reduceIte,beq_self_eq_true,bne_self_eq_false,hf])
  | (refine And.intro ?ho ?_;(case ho=>omega))
  | (clear hI;clear KI))
 repeat(first|(revert hE;revert KE)|(revert hI;revert KI))
 first|done|exact y.out):X:=h f ⟨y⟩
abbrev fB(n:Nat)(c:Nat→Rat):Blk:=⟨53,1,4,ratL n c,0,false⟩
def ZhB(n s:Nat)(a b:Nat→Rat)(i:Nat):Nat→Rat:=fun j=>if j<i∧j≠s then a j-a s*b j else a j
theorem ZtN{n s:Nat}(a b:Nat→Rat):ZhB n s a b (s+1)=ZhB n s a b s:=by
 funext j;unfold ZhB
 by_cases h:j<s
 ·rw[if_pos ⟨by omega,by omega⟩,if_pos ⟨h,by omega⟩]
 ·rw[if_neg (by omega),if_neg (by omega)]
theorem ZtM{n s i:Nat}(a b:Nat→Rat)(h:i≠s):(ratL n (ZhB n s a b i)).set i (cF (ofQ (a i-a s*b i)))=ratL n (ZhB n s a b (i+1)):=by
 rw[Zdi]
 refine ZaV fun u _=>?_
 unfold ZhB
 by_cases e:u=i
 ·subst e;rw[if_pos rfl,if_pos ⟨by omega,h⟩]
 ·rw[if_neg e]
  by_cases h2:u<i∧u≠s
  ·rw[if_pos h2,if_pos ⟨by omega,h2.2⟩]
  ·rw[if_neg h2,if_neg (by omega)]
def Zl7(s:Nat)(a b:Nat→Rat):Nat→Rat:=fun j=>if j=s then 0-a s*b s else a j-a s*b j
theorem Zvf{n s:Nat}(a b:Nat→Rat):(ratL n (ZhB n s a b n)).set s (cF (ofQ (0-a s*b s)))=ratL n (Zl7 s a b):=by
 rw[Zdi]
 refine ZaV fun u hu=>?_
 unfold ZhB Zl7
 by_cases e:u=s
 ·rw[if_pos e,if_pos e]
 ·rw[if_neg e,if_neg e,if_pos ⟨hu,e⟩]
theorem ZDJ[Ifl](n s A R:Nat)(a b:Nat→Rat)(m:Mem)(nx:Nat)(hn:(n:Int)≤4096)(hs:s<n)(hAR:A≠R)(hA:m A=some (fB n a))(hR:m R=some (fB n b))
 (za:∀ j,j<n→(szQ (a j):Int)≤4294967296) (zb:∀ j,j<n→(szQ (b j):Int)≤4294967296) :
 ZaN Tryz.prog 206 [.ls A 1,.ls R 1,dI s] m nx fun d m' nx'=>d=oneD []∧nx≤nx'∧m' A=some (fB n (Zl7 s a b))∧∀ id,id<nx→id≠A→m' id=m id:=by
 refine ZaN.cl ⟨_,_,Tryz.func206,rfl,by kernel_rfl⟩ fun hcl=>?_
 have hres:=Tryz.results206
 have lA:=(hcl A _ hA).1
 have lR:=(hcl R _ hR).1
 refine inA Tryz.func206 rfl Tryz.ntmps206 ?_
 have hRA:=Ne.symm hAR
 have hs0:(0:Int)≤s:=by omega
 have g1:=Za9 a hs
 have g2:=Za9 b hs
 have nA:A≠nx:=by omega
 have nR:R≠nx:=by omega
 have la:=ZbZ n a
 refine aGoM (cj4 hres hA hR (cj4 hAR hRA hs0 (cj4 g1 g2 la (cj2 nA nR)))) ?_
 repeat with_reducible intro K hK
 have q0:ZhB n s a b 0=a:=by funext j;unfold ZhB;rw[if_neg (by omega)]
 refine ZcW (fun(i:Nat)=>[(0,.ls A 1),(1,.ls R 1),(2,dI s),(6,.lp nx 0 0 0),(13,dI n),(14,dI i)]) nx (fun i m1 nx1=>i≤n∧nx<nx1∧m1 A=some (fB n (ZhB n s a b i))∧m1 R=some (fB n b)∧m1 nx=some ⟨53,0,4,[cF (ofQ (a s))],0,false⟩∧∀ id,id<nx→id≠A→m1 id=m id) (fun i=>n-i) 0 ?_ ?_ ?_ ?_
 ·rw[q0]
  simp only[ZaC,nA,nR,↓reduceIte]
  exact⟨Yb0 _,Nat.lt_succ_self _,hA,hR,trivial,fun id h1 h2=>by rw[if_neg (by omega),if_neg (by omega)]⟩
 ·rfl
 ·simp[go_sem]
 ·rintro i m1 nx1 ⟨hi,hnx,eA,eR,eF,hfr⟩
  obtain⟨hw,i0⟩:=ZaM i
  have nx1A:A≠nx1:=by omega
  have nx1R:R≠nx1:=by omega
  have nxnA:nx≠A:=by omega
  have nxnR:nx≠R:=by omega
  have nx1n:nx≠nx1:=by omega
  have la1:=ZbZ n (ZhB n s a b i)
  by_cases h1:(i:Int)<n
  ·have hin:i<n:=by omega
   have ga:=Za9 (ZhB n s a b i) hin
   have gb:=Za9 b hin
   have ei:ZhB n s a b i i=a i:=by unfold ZhB;rw[if_neg (by omega)]
   by_cases h2:i=s
   ·subst h2
    have h2b:((i:Int) !=i)=false:=by simp
    refine aGoM (cj4 hres eA eR (cj4 eF hAR hRA (cj4 i0 h1 h2b (cj2 hw la1)))) ?_
    repeat with_reducible intro K hK
    refine Zas (i+1) ?_ (by omega) rfl (by simp[go_sem])
    rw[ZtN]
    exact⟨by omega,hnx,eA,eR,eF,hfr⟩
   ·have h2b:((i:Int) !=s)=true:=by simp;omega
    have k1:=ZqA (a i) (a s) (b i) (by have:=za i hin;omega) (by have:=za s hs;omega) (by have:=zb i hin;omega)
    have es:=ZtM (n:=n) a b h2
    refine aGoM (cj4 hres eA eR (cj4 eF hAR hRA (cj4 i0 h1 h2b (cj4 hw la1 ga (cj4 gb ei nxnA (cj3 nxnR Yb0 es)))))) ?_
    repeat with_reducible intro K hK
    refine Zas (i+1) ?_ (by omega) rfl (by simp[go_sem])
    simp only[ZaC,nxnA,hRA,↓reduceIte]
    exact⟨by omega,hnx,trivial,eR,eF,fun id h3 h4=>by rw[if_neg h4];exact hfr id h3 h4⟩
  ·obtain rfl:i=n:=by omega
   have ga:=Za9 (ZhB i s a b i) hs
   have k0:=nZ_c
   have zz:=Zdf 0 (by decide) (by decide)
   rw[show((0:Int):Rat)=0 from rfl]at zz
   have k1:=ZqA 0 (a s) (b s) (by omega) (by have:=za s hs;omega) (by have:=zb s hs;omega)
   have es:=Zvf (n:=i) (s:=s) a b
   refine aGoM (cj4 hres eA eR (cj4 eF hAR hRA (cj4 hs0 h1 g2 (cj4 hw la1 ga (cj3 nxnA nxnR (cj2 Yb0 es)))))) ?_
   exact fun id h3 h4=>by rw[if_neg h4];exact hfr id h3 h4
theorem ZkS[Ifl](n:Nat)(m:Mem)(nx:Nat)(hn:(n:Int)≤4096):ZaN Tryz.prog 180 [dI n] m nx fun d m' nx'=>d = .ls nx 1∧nx<nx'∧m' nx=some (fB n fun _=>0)∧∀ id,id<nx→m' id=m id:=by
 have hres:=Tryz.results180
 refine inA Tryz.func180 rfl Tryz.ntmps180 ?_
 have n0:(0:Int)≤n:=by omega
 have hrep:List.replicate n zc=Zef n 0:=(Zi6 n).symm
 have hl:=Ze6 n 0
 have n1:24*(n:Int)≤140737488355328:=by omega
 have n2:(n:Int)≤9007199254740992:=by omega
 have n3:(n:Int)≤n:=by omega
 refine aGoM (cj4 hres n0 hrep (cj4 hl n1 n2 (cj2 n3 trivial))) ?_
 repeat with_reducible intro K hK
 refine ZcW (fun(i:Nat)=>[(3,.ls nx 1),(8,dI n),(9,dI i)]) nx (fun i m1 nx1=>i≤n∧nx<nx1∧m1 nx=some ⟨53,1,4,Zef n i,0,false⟩∧∀ id,id<nx→m1 id=m id) (fun i=>n-i) 0 ?_ ?_ ?_ ?_
 ·simp only[ZaC,↓reduceIte]
  exact⟨Yb0 _,Nat.lt_succ_self _,trivial,fun id h1=>by rw[if_neg (by omega)]⟩
 ·rfl
 ·simp[go_sem]
 ·rintro i m1 nx1 ⟨hi,hnx,eN,hfr⟩
  obtain⟨hw,i0⟩:=ZaM i
  have hl1:=Ze6 n i
  have k0:=nZ_c
  by_cases h1:(i:Int)<n
  ·have hg:(Zef n i)[i]? =some zc:=by unfold Zef;rw[Zbu _ (by omega),if_neg (by omega)]
   have hset:=ZkJ n i
   refine aGoM (cj4 hres eN i0 (cj4 h1 hw hl1 (cj3 hg hset Yb0))) ?_
   repeat with_reducible intro K hK
   refine Zas (i+1) ?_ (by omega) rfl (by simp[go_sem])
   simp only[ZaC,↓reduceIte]
   exact⟨by omega,hnx,trivial,fun id h3=>by rw[if_neg (by omega)];exact hfr id h3⟩
  ·obtain rfl:i=n:=by omega
   rw[ZkK]at eN
   refine aGoM (cj4 hres eN h1 hw) ?_
   exact hfr
mutual
theorem Zsu{p q:Nat→Bool}(h:∀ i,p i=true→q i=true):∀ d:D,okD p d=true→okD q d=true
 | .v _,_=>rfl
 | .nil,_=>rfl
 | .agg l,ho=>by simp only[okD]at ho ⊢;exact Zfr h l ho
 | .tup l,ho=>by simp only[okD]at ho ⊢;exact Zfr h l ho
 | .sl _,_=>rfl
 | .cl _,_=>rfl
 | .ep _ _ _,_=>rfl
 | .ls id _,ho=>h id ho
 | .lp id _ _ _,ho=>h id ho
 | .clo _ l,ho=>by simp only[okD]at ho ⊢;exact Zfr h l ho
 | .junk,_=>rfl
theorem Zfr{p q:Nat→Bool}(h:∀ i,p i=true→q i=true):∀ l:List D,okDs p l=true→okDs q l=true
 | [],_=>rfl
 | d ::l,ho=>by
   simp only[okDs,Ya2]at ho ⊢
   exact⟨Zsu h d ho.1,Zfr h l ho.2⟩
end
theorem Zuo{b:Blk}(hb:Zap (fun _=>false) b)(k:Nat→Bool):Zap k b:=fun e he=>Zfr (fun _ h=>by cases h) e (hb e he)
theorem Zpt(n:Nat)(c:Nat→Rat):Zap (fun _=>false) (fB n c):=fun e he=>by
 obtain⟨v,_,rfl⟩:=List.mem_map.1 he;rfl
theorem Cl.upd{m:Mem}{nx id n':Nat}{blk:Blk}(h:Cl m nx)(hb:Zap (fun _=>false) blk)(hid:id<n')(hn:nx≤n'):Cl (upd m id (some blk)) n':=by
 intro i b hi
 by_cases e:i=id
 ·subst e;rw[Zae]at hi;cases hi;exact⟨hid,Zuo hb _⟩
 ·rw[Zad _ _ e]at hi
  refine⟨by have:=(h i b hi).1;omega,fun x hx=>Zfr (fun j hj=>?_) x ((h i b hi).2 x hx)⟩
  by_cases e2:j=id
  ·subst e2;rw[Zae];rfl
  ·rw[Zad _ _ e2];exact hj
section
variable [Ifl] {P:Program} {f:FuncId} {ds:List D} {m:Mem} {nx:Nat}
theorem Cl.sub{m':Mem}{n':Nat}(h:Cl m n')(hs:∀ id b,m id=some b→m' id=some b):SubM m m' n':=⟨fun id b hb=>⟨hs id b hb,(h id b hb).1⟩,fun id b hb=>(h id b hb).2⟩
theorem ZaN.made{ver:Nat}{blk:Blk}(hb:Zap (fun _=>false) blk)(h:ZaN P f ds m nx fun d m' nx'=>d = .ls nx ver∧nx<nx'∧m' nx=some blk∧∀ id,id<nx→m' id=m id) :
 ZaN P f ds m nx fun d m' nx'=>d = .ls nx ver∧m'=upd m nx (some blk)∧nx'=nx+1:=by
 refine ZaN.cl h.1 fun hcl=>ZaN.sub (h.mono ?_)
 rintro d m' nx' ⟨rfl,h1,h2,h3⟩
 refine⟨_,_,(hcl.upd hb (Nat.lt_succ_self nx) (Nat.le_succ nx)).sub fun id b hi=>?_,?_,fun id hi=>?_,rfl,rfl,rfl⟩
 ·by_cases e:id=nx
  ·subst e;rw[Zae]at hi;rw[h2];exact hi
  ·rw[Zad _ _ e]at hi;rw[h3 id (hcl id b hi).1];exact hi
 ·simp only[okD,Zae];rfl
 ·cases hm:m id with
  | none=>rw[hm]at hi;cases hi
  | some b =>
    have:=(hcl id b hm).1
    rw[Zad _ _ (by omega),h3 id this]
theorem ZaN.kept{d0:D}{A:Nat}{b0 blk:Blk}(hA:m A=some b0)(hd:okD (fun _=>false) d0=true)(hb:Zap (fun _=>false) blk)(h:ZaN P f ds m nx fun d m' nx'=>d=d0∧nx≤nx'∧m' A=some blk∧∀ id,id<nx→id≠A→m' id=m id) :
 ZaN P f ds m nx fun d m' nx'=>d=d0∧m'=upd m A (some blk)∧nx'=nx:=by
 refine ZaN.cl h.1 fun hcl=>ZaN.sub (h.mono ?_)
 rintro d m' nx' ⟨rfl,h1,h2,h3⟩
 refine⟨_,_,(hcl.upd hb (hcl A b0 hA).1 (Ya4 nx)).sub fun id b hi=>?_,Zsu (fun _ h=>by cases h) d hd,fun id hi=>?_,rfl,rfl,rfl⟩
 ·by_cases e:id=A
  ·subst e;rw[Zae]at hi;rw[h2];exact hi
  ·rw[Zad _ _ e]at hi;rw[h3 id (hcl id b hi).1 e];exact hi
 ·by_cases e:id=A
  ·subst e;rw[Zae,h2]
  ·cases hm:m id with
   | none=>rw[hm]at hi;cases hi
   | some b=>rw[Zad _ _ e,h3 id (hcl id b hm).1 e]
end
theorem ZuZ[Ifl](n:Nat)(m:Mem)(nx:Nat)(hn:(n:Int)≤4096)(hm:m nx=none):EffC Tryz.prog 180 [dI n] m nx ⟨.ls nx 1,[nx],[(nx,fB n fun _=>0)],false⟩ (nx+1) :=
 EffC.made hm (Zpt n _) fun m1 NX=>ZaN.made (Zpt n _) (ZkS n m1 NX hn)
theorem ZAD[Ifl](n s A R:Nat)(a b:Nat→Rat)(m:Mem)(nx:Nat)(hn:(n:Int)≤4096)(hs:s<n)(hAR:A≠R)(hA:m A=some (fB n a))(hR:m R=some (fB n b))(hl:A<nx)
 (za:∀ j,j<n→(szQ (a j):Int)≤4294967296) (zb:∀ j,j<n→(szQ (b j):Int)≤4294967296) :
 EffC Tryz.prog 206 [.ls A 1,.ls R 1,dI s] m nx ⟨oneD [],[A,R],[(A,fB n (Zl7 s a b))],false⟩ nx :=
 EffC.of ⟨_,_,Tryz.func206,rfl,by kernel_rfl⟩ (fun p hp=>by simp only[List.mem_singleton]at hp;subst hp;exact⟨by simp,hl⟩) fun m1 NX hN ht =>
  ZaN.kept ((ht A (by simp)).trans hA) rfl (Zpt n _) (ZDJ n s A R a b m1 NX hn hs hAR ((ht A (by simp)).trans hA) ((ht R (by simp)).trans hR) za zb)
def pick(f:Nat→Nat)(p:Nat→Bool):Nat→Option Nat
 | 0=>none
 | i+1=>if p i then(match pick f p i with
   | none=>some i
   | some a=>if f i<f a then some i else some a)else pick f p i
def oI:Option Nat→Int
 | none=> -1
 | some a=>a
theorem ZdQ{f:Nat→Nat}{p:Nat→Bool}:∀ {k:Nat},pick f p k=none→∀ i,i<k→p i=false
 | 0,_,_,h=>absurd h (Nat.not_lt_zero _)
 | k+1,h,i,hi=>by
   unfold pick at h
   cases hp:p k
   ·rw[hp]at h
    by_cases e:i=k
    ·subst e;exact hp
    ·exact ZdQ (by simpa using h) i (by omega)
   ·rw[hp]at h
    simp only[if_true]at h
    split at h
    ·cases h
    ·split at h<;>cases h
theorem Zbb{f:Nat→Nat}{p:Nat→Bool}:∀ {k a:Nat},pick f p k=some a→a<k∧p a=true∧∀ i,i<k→p i=true→f a≤f i
 | 0,_,h=>by cases h
 | k+1,a,h=>by
   unfold pick at h
   cases hp:p k
   ·rw[hp]at h
    obtain⟨h1,h2,h3⟩:=Zbb (k:=k) (by simpa using h)
    exact⟨by omega,h2,fun i hi hpi=>by
     by_cases e:i=k
     ·subst e;rw[hp]at hpi;cases hpi
     ·exact h3 i (by omega) hpi⟩
   ·rw[hp]at h
    simp only[if_true]at h
    split at h
    ·rename_i hn
     cases h
     exact⟨by omega,hp,fun i hi hpi=>by
      by_cases e:i=k
      ·subst e;exact Ya4 _
      ·rw[ZdQ hn i (by omega)]at hpi;cases hpi⟩
    ·rename_i b hb
     obtain⟨h1,h2,h3⟩:=Zbb hb
     split at h
     ·rename_i hlt
      cases h
      exact⟨by omega,hp,fun i hi hpi=>by
       by_cases e:i=k
       ·subst e;exact Ya4 _
       ·have:=h3 i (by omega) hpi;omega⟩
     ·rename_i hlt
      cases h
      exact⟨by omega,h2,fun i hi hpi=>by
       by_cases e:i=k
       ·subst e;omega
       ·exact h3 i (by omega) hpi⟩
abbrev iB(T ver k:Nat)(f:Nat→Nat):Blk:=⟨T,ver,1,tabL k fun i=>[dI (f i)],0,false⟩
theorem ZBZ{f:Nat→Nat}{p:Nat→Bool}{i:Nat}(h:p i=false):pick f p (i+1)=pick f p i:=by rw[pick,if_neg (by rw[h];simp)]
theorem Zui{f:Nat→Nat}{p:Nat→Bool}{i:Nat}(h:p i=true)(hn:pick f p i=none):pick f p (i+1)=some i:=by rw[pick,if_pos h,hn]
theorem Zwn{f:Nat→Nat}{p:Nat→Bool}{i a:Nat}(h:p i=true)(hn:pick f p i=some a)(hl:f i<f a):pick f p (i+1)=some i:=by rw[pick,if_pos h,hn];exact if_pos hl
theorem Zwm{f:Nat→Nat}{p:Nat→Bool}{i a:Nat}(h:p i=true)(hn:pick f p i=some a)(hl:¬ f i<f a):pick f p (i+1)=some a:=by rw[pick,if_pos h,hn];exact if_neg hl
theorem ZjJ[Ifl](k:Nat)(f:Nat→Nat)(p:Nat→Bool)(V ver:Nat)(g:FuncId)(caps:List D)(m:Mem)(nx:Nat)(hk:(k:Int)≤4096)(hV:m V=some (iB 3 ver k f))(lV:V<nx)
 (hg:∀ i,i<k→∀ m1 nx1,nx≤nx1→(∀ id,id<nx→m1 id=m id)→ZaN Tryz.prog g (dI i ::caps) m1 nx1 fun d m' nx'=>d=dB (p i)∧nx1≤nx'∧∀ id,id<nx1→m' id=m1 id) :
 ZaN Tryz.prog 183 [.ls V ver,.clo g caps] m nx fun d m' nx'=>d=dI (oI (pick f p k))∧nx≤nx'∧∀ id,id<nx→m' id=m id:=by
 have hres:=Tryz.results183
 refine inA Tryz.func183 rfl Tryz.ntmps183 ?_
 have hl:=Zc2 k fun i=>[dI (f i)]
 refine aGoM (cj3 hres hV hl) ?_
 repeat with_reducible intro K hK
 refine ZcW (fun(i:Nat)=>[(0,.ls V ver),(1,.clo g caps),(5,dI (oI (pick f p i))),(8,.ls V ver),(9,dI k),(10,dI i)]) nx (fun i m1 nx1=>i≤k∧nx≤nx1∧∀ id,id<nx→m1 id=m id) (fun i=>k-i) 0 ?_ ?_ ?_ ?_
 ·exact⟨Yb0 _,Ya4 _,fun _ _=>rfl⟩
 ·rfl
 ·simp[go_sem,pick,oI]
 ·rintro i m1 nx1 ⟨hi,hnx,hfr⟩
  obtain⟨hw,i0⟩:=ZaM i
  have eV:=(hfr V lV).trans hV
  by_cases h1:(i:Int)<k
  ·have hin:i<k:=by omega
   have ge:=Zbu (fun i=>[dI (f i)]) hin
   refine aGoM (cj4 hres eV i0 (cj4 h1 hw hl ge)) ?_
   repeat with_reducible intro K hK
   refine ZaT (hg i hin m1 nx1 hnx hfr) ?_
   rintro d m2 nx2 ⟨rfl,hn2,hfr2⟩
   have hfr3:∀ id,id<nx→m2 id=m id:=fun id hid=>(hfr2 id (by omega)).trans (hfr id hid)
   have eV2:=(hfr3 V lV).trans hV
   cases hp:p i
   ·have e1:=ZBZ (f:=f) hp
    refine aGoM (cj4 hres eV2 i0 (cj4 h1 hw hl ge)) ?_
    repeat with_reducible intro K hK
    refine Zas (i+1) ⟨by omega,Nat.le_trans hnx hn2,hfr3⟩ (by omega) rfl (by simp[go_sem,e1])
   ·cases ha:pick f p i with
    | none =>
      have e1:=Zui hp ha
      have e0:(-1:Int)<0:=by decide
      have o0:oI none = -1:=rfl
      refine aGoM (cj4 hres eV2 i0 (cj4 h1 hw hl (cj3 ge e0 o0))) ?_
      repeat with_reducible intro K hK
      refine Zas (i+1) ⟨by omega,Nat.le_trans hnx hn2,hfr3⟩ (by omega) rfl (by simp[go_sem,e1,oI])
    | some c =>
      have hc:=(Zbb ha).1
      have gc:=Zbu (fun i=>[dI (f i)]) (show c<k by omega)
      have c0:¬ (c:Int)<0:=by omega
      have c1:(0:Int)≤c:=by omega
      have o1:oI (some c)=c:=rfl
      by_cases hlt:f i<f c
      ·have e1:=Zwn hp ha hlt
       have hlt':(f i:Int)<f c:=by omega
       refine aGoM (cj4 hres eV2 i0 (cj4 h1 hw hl (cj4 ge c0 c1 (cj3 gc hlt' o1)))) ?_
       repeat with_reducible intro K hK
       refine Zas (i+1) ⟨by omega,Nat.le_trans hnx hn2,hfr3⟩ (by omega) rfl (by simp[go_sem,e1,oI])
      ·have e1:=Zwm hp ha hlt
       have hlt':¬ (f i:Int)<f c:=by omega
       refine aGoM (cj4 hres eV2 i0 (cj4 h1 hw hl (cj4 ge c0 c1 (cj3 gc hlt' o1)))) ?_
       repeat with_reducible intro K hK
       refine Zas (i+1) ⟨by omega,Nat.le_trans hnx hn2,hfr3⟩ (by omega) rfl (by simp[go_sem,e1,oI,ha])
  ·obtain rfl:i=k:=by omega
   refine aGoM (cj4 hres eV h1 hw) ?_
   exact hfr
theorem ZaR:tyOf Tryz.prog 210=some ⟨0,1,8,some [.v (.pointer none)],0,none,[]⟩:=by kernel_rfl
structure Ids where
 p:Nat
 R:Nat
 G:Nat
 O:Nat
 Fr:Nat
 F:Nat
 A:Nat→Nat
 vR:Nat
 vO:Nat
 vFr:Nat
 vF:Nat
abbrev pB(I:Ids)(n:Nat):Blk:=⟨252,0,6,[[dI n,.ls I.R I.vR,.ls I.G 1,.ls I.O I.vO,.ls I.Fr I.vFr,.ls I.F I.vF]],0,false⟩
def Zjw(I:Ids)(m:Nat)(v:Nat→Rat):List (List D):=tabL m fun k=>cF (ofQ (v k))++[.ls (I.A k) 1]
theorem Zkz(I:Ids)(m:Nat)(v:Nat→Rat):(Zjw I m v).length=m:=Zc2 _ _
theorem ZdJ(I:Ids){m k:Nat}(v:Nat→Rat)(h:k<m):(Zjw I m v)[k]? =some [dI (ofQ (v k)).p.s,Zab (ofQ (v k)).p.d,dI (ofQ (v k)).q.s,Zab (ofQ (v k)).q.d,.ls (I.A k) 1]:=Zbu _ h
theorem Zsd{I:Ids}{m r:Nat}(v:Nat→Rat)(q:Rat):(Zjw I m v).set r [dI (ofQ q).p.s,Zab (ofQ q).p.d,dI (ofQ q).q.s,Zab (ofQ q).q.d,.ls (I.A r) 1]=Zjw I m (fun k=>if k=r then q else v k):=by
 unfold Zjw
 rw[Zgn]
 refine Zbn fun u _=>?_
 by_cases e:u=r
 ·subst e;simp only[if_pos];rfl
 ·simp only[if_neg e]
theorem Zt7{I:Ids}{m:Nat}{v w:Nat→Rat}(h:∀ k,k<m→v k=w k):Zjw I m v=Zjw I m w:=Zbn fun k hk=>by rw[h k hk]
abbrev rB(I:Ids)(m:Nat)(v:Nat→Rat):Blk:=⟨256,I.vR,5,Zjw I m v,0,false⟩
abbrev sB(ver m:Nat)(src:Nat→Nat×Bool):Blk:=⟨264,ver,2,tabL m fun i=>[dI (src i).1,dB (src i).2],0,false⟩
structure DicAt (m:Mem) (I:Ids) (d:Dic) (src:Nat→Nat×Bool):Prop where
 hp:m I.p=some (pB I d.n)
 hR:m I.R=some (rB I d.m d.v)
 hG:m I.G=some (fB d.n d.g)
 hO:m I.O=some (iB 3 I.vO d.m d.own)
 hFr:m I.Fr=some (iB 3 I.vFr d.n d.free)
 hF:m I.F=some (sB I.vF d.m src)
 hA:∀ k,k<d.m→m (I.A k)=some (fB d.n (d.a k))
structure Apart (I:Ids) (m:Nat):Prop where
 pR:I.p≠I.R
 pG:I.p≠I.G
 pO:I.p≠I.O
 pFr:I.p≠I.Fr
 pF:I.p≠I.F
 RG:I.R≠I.G
 RO:I.R≠I.O
 RFr:I.R≠I.Fr
 RF:I.R≠I.F
 GO:I.G≠I.O
 GFr:I.G≠I.Fr
 GF:I.G≠I.F
 OFr:I.O≠I.Fr
 OF:I.O≠I.F
 FrF:I.Fr≠I.F
 Ap:∀ k,k<m→I.A k≠I.p
 AR:∀ k,k<m→I.A k≠I.R
 AG:∀ k,k<m→I.A k≠I.G
 AO:∀ k,k<m→I.A k≠I.O
 AFr:∀ k,k<m→I.A k≠I.Fr
 AF:∀ k,k<m→I.A k≠I.F
 AA:∀ k l,k<m→l<m→k≠l→I.A k≠I.A l
def inD(I:Ids)(m:Nat)(id:Nat):Prop:=id=I.p∨id=I.R∨id=I.G∨id=I.O∨id=I.Fr∨id=I.F∨∃ k,k<m∧id=I.A k
theorem DicAt.lt{m:Mem}{I:Ids}{d:Dic}{src:Nat→Nat×Bool}{nx:Nat}(h:DicAt m I d src)(hc:Cl m nx){id:Nat}(hi:inD I d.m id):id<nx:=by
 rcases hi with rfl|rfl|rfl|rfl|rfl|rfl|⟨k,hk,rfl⟩
 ·exact(hc _ _ h.hp).1
 ·exact(hc _ _ h.hR).1
 ·exact(hc _ _ h.hG).1
 ·exact(hc _ _ h.hO).1
 ·exact(hc _ _ h.hFr).1
 ·exact(hc _ _ h.hF).1
 ·exact(hc _ _ (h.hA k hk)).1
theorem DicAt.keep{m m':Mem}{I:Ids}{d:Dic}{src:Nat→Nat×Bool}(h:DicAt m I d src)(hf:∀ id,inD I d.m id→m' id=m id):DicAt m' I d src :=
 ⟨(hf _ (.inl rfl)).trans h.hp,(hf _ (.inr (.inl rfl))).trans h.hR,(hf _ (.inr (.inr (.inl rfl)))).trans h.hG,(hf _ (.inr (.inr (.inr (.inl rfl))))).trans h.hO,(hf _ (.inr (.inr (.inr (.inr (.inl rfl)))))).trans h.hFr,
   (hf _ (.inr (.inr (.inr (.inr (.inr (.inl rfl))))))).trans h.hF,fun k hk=>(hf _ (.inr (.inr (.inr (.inr (.inr (.inr ⟨k,hk,rfl⟩))))))).trans (h.hA k hk)⟩
def neg'(r:Rat):Bool:=decide ((ofQ r).p.s<0)
def pos'(r:Rat):Bool:=decide ((ofQ r).p.s>0)
theorem ZgC(r:Rat):neg' r=true↔r<0:=by unfold neg';rw[decide_eq_true_eq,ZnP];exact Ze1
theorem Zgz(r:Rat):pos' r=true↔0<r:=by unfold pos';rw[decide_eq_true_eq,ZnP];exact ZcS
abbrev bxB(T id:Nat):Blk:=⟨T,0,1,[[.lp id 0 0 0]],0,false⟩
abbrev nB(n:Int):Blk:=⟨3,0,1,[[dI n]],0,false⟩
section
variable [Ifl] {I:Ids} {d:Dic} {src:Nat→Nat×Bool} {m:Mem} {nx bx:Nat}
theorem s1_a(h:DicAt m I d src)(hb:m bx=some (bxB 210 I.p)){i:Nat}(hi:i<d.m) :
 ZaN Tryz.prog 184 [dI i,.lp bx 0 0 0] m nx fun d' m' nx'=>d'=dB (neg' (d.v i))∧nx≤nx'∧∀ id,id<nx→m' id=m id:=by
 have hres:=Tryz.results184
 refine inA Tryz.func184 rfl Tryz.ntmps184 ?_
 have g:=ZdJ I d.v hi
 have i0:(0:Int)≤i:=by omega
 refine aGoM (cj4 hres h.hp h.hR (cj4 hb g i0 ZaR)) ?_
 exact⟨rfl,Ya4 _⟩
theorem s2_a(h:DicAt m I d src)(hb:m bx=some (bxB 210 I.p)){i:Nat}(hi:i<d.n) :
 ZaN Tryz.prog 185 [dI i,.lp bx 0 0 0] m nx fun d' m' nx'=>d'=dB (pos' (d.g i))∧nx≤nx'∧∀ id,id<nx→m' id=m id:=by
 have hres:=Tryz.results185
 refine inA Tryz.func185 rfl Tryz.ntmps185 ?_
 have g:=Za9 d.g hi
 have i0:(0:Int)≤i:=by omega
 refine aGoM (cj4 hres h.hp h.hG (cj4 hb g i0 ZaR)) ?_
 exact⟨rfl,Ya4 _⟩
theorem s3_a(h:DicAt m I d src)(hb:m bx=some (bxB 210 I.p)){r:Nat}{rx:Nat}(hr:r<d.m)(hrx:m rx=some (nB r)){j:Nat}(hj:j<d.n) :
 ZaN Tryz.prog 186 [dI j,.lp bx 0 0 0,.lp rx 0 0 0] m nx fun d' m' nx'=>d'=dB (neg' (d.a r j))∧nx≤nx'∧∀ id,id<nx→m' id=m id:=by
 have hres:=Tryz.results186
 refine inA Tryz.func186 rfl Tryz.ntmps186 ?_
 have g:=ZdJ I d.v hr
 have g2:=Za9 (d.a r) hj
 have i0:(0:Int)≤r:=by omega
 have j0:(0:Int)≤j:=by omega
 have hA:=h.hA r hr
 refine aGoM (cj4 hres h.hp h.hR (cj4 hb g i0 (cj4 ZaR hrx g2 (cj2 j0 hA)))) ?_
 exact⟨rfl,Ya4 _⟩
theorem s4_a(h:DicAt m I d src)(hb:m bx=some (bxB 210 I.p)){s:Nat}{sx:Nat}(hs:s<d.n)(hsx:m sx=some (nB s)){i:Nat}(hi:i<d.m) :
 ZaN Tryz.prog 187 [dI i,.lp bx 0 0 0,.lp sx 0 0 0] m nx fun d' m' nx'=>d'=dB (pos' (d.a i s))∧nx≤nx'∧∀ id,id<nx→m' id=m id:=by
 have hres:=Tryz.results187
 refine inA Tryz.func187 rfl Tryz.ntmps187 ?_
 have g:=ZdJ I d.v hi
 have g2:=Za9 (d.a i) hs
 have i0:(0:Int)≤i:=by omega
 have j0:(0:Int)≤s:=by omega
 have hA:=h.hA i hi
 refine aGoM (cj4 hres h.hp h.hR (cj4 hb g i0 (cj4 ZaR hsx g2 (cj2 j0 hA)))) ?_
 exact⟨rfl,Ya4 _⟩
end
theorem ZnB{ops:Array Oper}{tr:List (List Nat×List Nat)}(J:Nat→Nat)(k:Nat)(tr0:List (List Nat×List Nat))(h:tr=tr0.map fun x=>(x.1.map J,x.2.map J))(hJ:∀ u v,u<k→v<k→J u=J v→u=v)
 (hb:tr0.all (fun x=>x.1.all (fun i=>decide (i<k))&&x.2.all (fun i=>decide (i<k)))=true) (hr:Zgy ops tr0=true):Zgy ops tr=true:=by
 have key:∀ a b:List Nat,a.all (fun i=>decide (i<k))=true→b.all (fun i=>decide (i<k))=true→ZlB a b=false→ZlB (a.map J) (b.map J)=false:=by
  intro a b ha hb hm
  cases hc:ZlB (a.map J) (b.map J)
  ·rfl
  ·unfold ZlB at hc
   obtain⟨u,hu,hc⟩:=List.any_eq_true.1 hc
   obtain⟨x,hx,rfl⟩:=List.mem_map.1 hu
   obtain⟨y,hy,e⟩:=List.mem_map.1 (List.contains_iff_mem.1 hc)
   have e2:=hJ y x (by simpa using Ya6.1 hb y hy) (by simpa using Ya6.1 ha x hx) e
   subst e2
   have:ZlB a b=true:=List.any_eq_true.2 ⟨y,hx,List.contains_iff_mem.2 hy⟩
   rw[hm]at this;cases this
 subst h
 unfold Zgy at hr ⊢
 simp only[Ya6,List.mem_range]at hr ⊢
 intro j hj i hi
 have h1:=hr j hj i hi
 rw[List.getElem?_map,List.getElem?_map]
 cases hx:tr0[i]? with
 | none=>rfl
 | some x =>
   cases hy:tr0[j]? with
   | none=>rfl
   | some y =>
     rw[hx,hy]at h1
     have bx:=Ya6.1 hb x (Ya7 hx)
     have by':=Ya6.1 hb y (Ya7 hy)
     rw[Ya2]at bx by'
     simp only[Option.map_some]
     rw[Bool.or_eq_true]at h1 ⊢
     rcases h1 with h1|h1
     ·left
      simp only[Ya2,Bool.not_eq_true']at h1 ⊢
      exact⟨key _ _ bx.2 by'.1 h1.1,key _ _ bx.1 by'.2 h1.2⟩
     ·exact .inr h1
theorem Zci{ops:Array Oper}{tr:List (List Nat×List Nat)}(L:List Nat)(hL:L.Nodup)(tr0:List (List Nat×List Nat))(h:tr=tr0.map fun x=>(x.1.map fun i=>L.getD i 0,x.2.map fun i=>L.getD i 0))
 (hb:tr0.all (fun x=>x.1.all (fun i=>decide (i<L.length))&&x.2.all (fun i=>decide (i<L.length)))=true) (hr:Zgy ops tr0=true):Zgy ops tr=true:=by
 refine ZnB (fun i=>L.getD i 0) L.length tr0 h (fun u v hu hv e=>?_) hb hr
 simp only[List.getD_eq_getElem?_getD,Ya0 hu,Ya0 hv,Option.getD_some]at e
 exact(List.getElem_inj hL).1 e
def sel3(a b c:Nat):Nat→Nat
 | 0=>a
 | 1=>b
 | _=>c
theorem Zsb{a b c:Nat}(h1:a≠b)(h2:a≠c)(h3:b≠c):∀ u v,u<3→v<3→sel3 a b c u=sel3 a b c v→u=v
 | 0,0,_,_,_=>rfl
 | 1,1,_,_,_=>rfl
 | 2,2,_,_,_=>rfl
 | 0,1,_,_,h=>absurd h h1
 | 1,0,_,_,h=>absurd h.symm h1
 | 0,2,_,_,h=>absurd h h2
 | 2,0,_,_,h=>absurd h.symm h2
 | 1,2,_,_,h=>absurd h h3
 | 2,1,_,_,h=>absurd h.symm h3
 | u+3,_,h,_,_=>absurd h (by omega)
 | _,v+3,_,h,_=>absurd h (by omega)
def ZAE:List (List Nat×List Nat):=[([],[]),([],[]),([],[]),([0],[]),([],[]),([],[]),([],[]),([],[]),([0],[]),([],[]),([],[]),([],[]),([],[]),([0],[]),([],[]),([2],[]),([2],[]),([],[]),([],[]),([],[]),([0],[]),([],[]),([1],[]),([1],[]),([1],[]),([1,1],[1]),([2],[]),([2,2],[2])]
section
variable {I:Ids} {d:Dic} {src:Nat→Nat×Bool} {m:Mem}
theorem DicAt.new(h:DicAt m I d src){x:Nat}{b:Option Blk}(hx:∀ id,inD I d.m id→id≠x):DicAt (upd m x b) I d src:=h.keep fun id hi=>Zad _ _ (hx id hi)
theorem DicAt.setR(h:DicAt m I d src)(ap:Apart I d.m)(v:Nat→Rat):DicAt (upd m I.R (some (rB I d.m v))) I {d with v:=v} src :=
 ⟨by rw[Zad _ _ ap.pR];exact h.hp,Zae _ _ _,by rw[Zad _ _ ap.RG.symm];exact h.hG,by rw[Zad _ _ ap.RO.symm];exact h.hO,by rw[Zad _ _ ap.RFr.symm];exact h.hFr,by rw[Zad _ _ ap.RF.symm];exact h.hF,
   fun k hk=>by rw[Zad _ _ (ap.AR k hk)];exact h.hA k hk⟩
theorem DicAt.setA(h:DicAt m I d src)(ap:Apart I d.m){r:Nat}(hr:r<d.m)(c:Nat→Rat):DicAt (upd m (I.A r) (some (fB d.n c))) I {d with a:=fun k=>if k=r then c else d.a k} src:=by
 refine⟨by rw[Zad _ _ (ap.Ap r hr).symm];exact h.hp,by rw[Zad _ _ (ap.AR r hr).symm];exact h.hR,by rw[Zad _ _ (ap.AG r hr).symm];exact h.hG,by rw[Zad _ _ (ap.AO r hr).symm];exact h.hO,by rw[Zad _ _ (ap.AFr r hr).symm];exact h.hFr,by rw[Zad _ _ (ap.AF r hr).symm];exact h.hF,
  fun k hk=>?_⟩
 by_cases e:k=r
 ·subst e;rw[Zae];simp
 ·rw[Zad _ _ (ap.AA k r hk hr e)];simp only[if_neg e];exact h.hA k hk
theorem DicAt.setA2(h:DicAt m I d src)(ap:Apart I d.m){r:Nat}(hr:r<d.m)(c:Nat→Rat){a':Nat→Nat→Rat}(ha:∀ k,a' k=if k=r then c else d.a k):DicAt (upd m (I.A r) (some (fB d.n c))) I {d with a:=a'} src:=by
 have:=h.setA ap hr c
 rwa [← show a'=_ from funext ha]at this
theorem DicAt.congr(h:DicAt m I d src){v:Nat→Rat}{a:Nat→Nat→Rat}(hv:∀ k,k<d.m→v k=d.v k)(ha:∀ k j,k<d.m→j<d.n→a k j=d.a k j):DicAt m I {d with v:=v,a:=a} src :=
 ⟨h.hp,by have:=h.hR;unfold rB at this ⊢;rwa [← Zt7 hv]at this,h.hG,h.hO,h.hFr,h.hF,fun k hk=>by have:=h.hA k hk;unfold fB at this ⊢;rwa [← ZaV (ha k · hk)]at this⟩
theorem DicAt.setG(h:DicAt m I d src)(ap:Apart I d.m)(c:Nat→Rat):DicAt (upd m I.G (some (fB d.n c))) I {d with g:=c} src :=
 ⟨by rw[Zad _ _ ap.pG];exact h.hp,by rw[Zad _ _ ap.RG];exact h.hR,Zae _ _ _,by rw[Zad _ _ ap.GO.symm];exact h.hO,by rw[Zad _ _ ap.GFr.symm];exact h.hFr,by rw[Zad _ _ ap.GF.symm];exact h.hF,
   fun k hk=>by rw[Zad _ _ (ap.AG k hk)];exact h.hA k hk⟩
theorem DicAt.setO(h:DicAt m I d src)(ap:Apart I d.m)(f:Nat→Nat):DicAt (upd m I.O (some (iB 3 I.vO d.m f))) I {d with own:=f} src :=
 ⟨by rw[Zad _ _ ap.pO];exact h.hp,by rw[Zad _ _ ap.RO];exact h.hR,by rw[Zad _ _ ap.GO];exact h.hG,Zae _ _ _,by rw[Zad _ _ ap.OFr.symm];exact h.hFr,by rw[Zad _ _ ap.OF.symm];exact h.hF,
   fun k hk=>by rw[Zad _ _ (ap.AO k hk)];exact h.hA k hk⟩
theorem DicAt.setFr(h:DicAt m I d src)(ap:Apart I d.m)(f:Nat→Nat):DicAt (upd m I.Fr (some (iB 3 I.vFr d.n f))) I {d with free:=f} src :=
 ⟨by rw[Zad _ _ ap.pFr];exact h.hp,by rw[Zad _ _ ap.RFr];exact h.hR,by rw[Zad _ _ ap.GFr];exact h.hG,by rw[Zad _ _ ap.OFr];exact h.hO,Zae _ _ _,by rw[Zad _ _ ap.FrF.symm];exact h.hF,
   fun k hk=>by rw[Zad _ _ (ap.AFr k hk)];exact h.hA k hk⟩
end
def rowK(s:Nat)(a:Nat→Rat)(i:Nat):Nat→Rat:=fun j=>if j<i∧j≠s then a j / a s else a j
theorem ZvW(s:Nat)(a:Nat→Rat):rowK s a 0=a:=by funext j;unfold rowK;rw[if_neg (by omega)]
theorem Zo6{s i:Nat}{a:Nat→Rat}(h:i=s∨a i=0):rowK s a (i+1)=rowK s a i:=by
 funext j;unfold rowK
 by_cases e:j=i
 ·subst e
  rcases h with h|h
  ·rw[if_neg (by omega),if_neg (by omega)]
  ·rw[h]
   by_cases e2:j=s
   ·rw[if_neg (by omega),if_neg (by omega)]
   ·rw[if_pos ⟨by omega,e2⟩,if_neg (by omega)];grind
 ·by_cases e2:j<i∧j≠s
  ·rw[if_pos ⟨by omega,e2.2⟩,if_pos e2]
  ·rw[if_neg (by omega),if_neg e2]
theorem ZyZ{n s i:Nat}(a:Nat→Rat)(h:i≠s):(ratL n (rowK s a i)).set i (cF (ofQ (a i / a s)))=ratL n (rowK s a (i+1)):=by
 rw[Zdi]
 refine ZaV fun u _=>?_
 unfold rowK
 by_cases e:u=i
 ·subst e;rw[if_pos rfl,if_pos ⟨by omega,h⟩]
 ·rw[if_neg e]
  by_cases h2:u<i∧u≠s
  ·rw[if_pos h2,if_pos ⟨by omega,h2.2⟩]
  ·rw[if_neg h2,if_neg (by omega)]
theorem Zy0{d:Dic}{r s:Nat}:(ratL d.n (rowK s (d.a r) d.n)).set s (cF (ofQ (1 / d.a r s)))=ratL d.n ((d.ex r s).a r):=by
 rw[Zdi]
 refine ZaV fun u hu=>?_
 unfold rowK
 simp only[Dic.ex,if_pos]
 by_cases e:u=s
 ·rw[if_pos e,if_pos e]
 ·rw[if_neg e,if_neg e,if_pos ⟨hu,e⟩]
theorem ZyI{d:Dic}{r s i j:Nat}(h:i≠r):Zl7 s (d.a i) ((d.ex r s).a r) j=(d.ex r s).a i j:=by
 unfold Zl7
 simp only[Dic.ex,if_pos,if_neg h]
 by_cases e:j=s
 ·rw[if_pos e,if_pos e]
 ·rw[if_neg e,if_neg e,if_neg e]
theorem ZCP{d:Dic}{r s i:Nat}(h:i≠r)(h0:d.a i s=0):(d.ex r s).v i=d.v i∧∀ j,(d.ex r s).a i j=d.a i j:=by
 simp only[Dic.ex,if_neg h,h0]
 refine⟨by grind,fun j=>?_⟩
 by_cases e:j=s
 ·subst e;rw[if_pos rfl,h0];grind
 ·rw[if_neg e];grind
theorem ex_v{d:Dic}{r s i:Nat}(h:i≠r):(d.ex r s).v i=d.v i-d.a i s*(d.ex r s).v r:=by simp only[Dic.ex,if_neg h,if_pos]
theorem upto{i k:Nat}(r:Nat)(h:k≠i):(k<i+1∨k=r)↔(k<i∨k=r):=by omega
theorem ZyH{d:Dic}{r s:Nat}:Zl7 s d.g ((d.ex r s).a r)=(d.ex r s).g:=by
 funext j
 unfold Zl7
 simp only[Dic.ex,if_pos]
 by_cases e:j=s
 ·rw[if_pos e,if_pos e]
 ·rw[if_neg e,if_neg e,if_neg e]
theorem ZAa{d:Dic}{r s:Nat}(h0:d.g s=0):(d.ex r s).g=d.g:=by
 funext j
 simp only[Dic.ex,h0]
 by_cases e:j=s
 ·subst e;rw[if_pos rfl,h0];grind
 ·rw[if_neg e];grind
theorem ZsY{k r:Nat}(f:Nat→Nat)(x:Nat):(tabL k fun i=>[dI (f i)]).set r [dI x]=tabL k fun i=>[dI ((Dic.up f r x) i:Nat)]:=by
 rw[Zgn]
 refine Zbn fun u _=>?_
 unfold Dic.up
 by_cases e:u=r
 ·rw[if_pos e,if_pos e]
 ·rw[if_neg e,if_neg e]
theorem ZrY{I:Ids}{d:Dic}{src:Nat→Nat×Bool}{m:Mem}{r s:Nat}(h:DicAt m I {d with v:=(d.ex r s).v,a:=(d.ex r s).a,g:=(d.ex r s).g} src)(ap:Apart I d.m) :
 DicAt (upd (upd m I.O (some (iB 3 I.vO d.m (Dic.up d.own r (d.free s))))) I.Fr (some (iB 3 I.vFr d.n (Dic.up d.free s (d.own r))))) I (d.ex r s) src:=by
 have:=(h.setO ap (Dic.up d.own r (d.free s))).setFr ap (Dic.up d.free s (d.own r))
 exact⟨this.hp,this.hR,this.hG,this.hO,this.hFr,this.hF,this.hA⟩
theorem szFn:Dic.SizeFn szQ:=⟨by decide +kernel,by decide +kernel,Zvk,Zgp,fun _ _ h=>ZBu h⟩
theorem Zhp[Ifl]{I:Ids}{d:Dic}{src:Nat→Nat×Bool}{m:Mem}{nx r s:Nat}(h:DicAt m I d src)(ap:Apart I d.m)(hr:r<d.m)(hs:s<d.n)(hp:d.a r s≠0)(hm:(d.m:Int)≤4096)(hn:(d.n:Int)≤4096)
 {B:Nat} (hB1:1≤B) (hB:(B:Int)≤536870912) (sz:d.Sized szQ B) :
 ZaN Tryz.prog 188 [.lp I.p 0 0 0,dI r,dI s] m nx fun d' m' nx'=>d'=oneD []∧nx≤nx'∧DicAt m' I (d.ex r s) src∧∀ id,id<nx→¬ inD I d.m id→m' id=m id:=by
 refine ZaN.cl ⟨_,_,Tryz.func188,rfl,by kernel_rfl⟩ fun hcl=>?_
 have hres:=Tryz.results188
 refine inA Tryz.func188 rfl Tryz.ntmps188 ?_
 have lt:∀ id,inD I d.m id→id<nx:=fun id hi=>h.lt hcl hi
 have lp:I.p<nx:=lt _ (.inl rfl)
 have lR:I.R<nx:=lt _ (.inr (.inl rfl))
 have lA:I.A r<nx:=lt _ (.inr (.inr (.inr (.inr (.inr (.inr ⟨r,hr,rfl⟩))))))
 have n1:I.p≠nx:=by omega
 have n2:I.R≠nx:=by omega
 have n3:I.A r≠nx:=by omega
 have n4:nx≠I.R:=by omega
 have n5:nx≠I.A r:=by omega
 have e1:=ap.pR
 have e2:=ap.AR r hr
 have e3:=ap.Ap r hr
 have e4:=(ap.Ap r hr).symm
 have e5:=(ap.AR r hr).symm
 have r0:(0:Int)≤r:=by omega
 have s0:(0:Int)≤s:=by omega
 have zp:=sz.a r s hr hs
 have zv:=sz.v r hr
 have gr:=ZdJ I d.v hr
 have ga:=Za9 (d.a r) hs
 have k1:=Zqz (d.v r) (d.a r s) hp (by omega) (by omega)
 have es:=Zsd (I:=I) (m:=d.m) (r:=r) d.v (d.v r / d.a r s)
 have hAr:=h.hA r hr
 have la:=ZbZ d.n (d.a r)
 have gr2:=ZdJ I (fun k=>if k=r then d.v r / d.a r s else d.v k) hr
 refine aGoM (cj4 hres h.hp h.hR (cj4 hAr n1 n2 (cj4 n3 n4 n5 (cj4 e1 e2 e3 (cj4 r0 s0 gr (cj4 ga es Yb0 (cj2 la gr2))))))) ?_
 repeat with_reducible intro K hK
 have hD0:DicAt (upd (upd (upd m nx (some ⟨53,0,4,[[dI 0,.nil,dI 0,.nil]],0,false⟩)) nx (some ⟨53,0,4,[cF (ofQ (d.a r s))],0,false⟩)) I.R (some (rB I d.m fun k=>if k=r then d.v r / d.a r s else d.v k))) I {d with v:=fun k=>if k=r then d.v r / d.a r s else d.v k} src :=
  ((h.new fun id hi=>by have:=lt id hi;omega).new fun id hi=>by have:=lt id hi;omega).setR ap _
 refine ZcW (fun(i:Nat)=>[(0,.lp I.p 0 0 0),(1,dI r),(2,dI s),(6,.lp I.R I.vR r 0),(7,.lp nx 0 0 0),(37,dI d.n),(38,dI i)]) nx
  (fun i m1 nx1=>i≤d.n∧nx<nx1∧DicAt m1 I {d with v:=fun k=>if k=r then d.v r / d.a r s else d.v k,a:=fun k=>if k=r then rowK s (d.a r) i else d.a k} src∧m1 nx=some ⟨53,0,4,[cF (ofQ (d.a r s))],0,false⟩∧∀ id,id<nx→¬ inD I d.m id→m1 id=m id) (fun i=>d.n-i) 0 ?_ ?_ ?_ ?_
 ·refine⟨Yb0 _,Nat.lt_succ_self _,?_,?_,fun id h1 h2=>?_⟩
  ·rw[ZvW,show(fun k=>if k=r then d.a r else d.a k)=d.a by funext k;by_cases e:k=r<;>simp[e]]
   exact hD0
  ·exact(Zad _ _ n4).trans (Zae _ _ _)
  ·exact(Zad _ _ (fun e=>h2 (.inr (.inl e)))).trans ((Zad _ _ (by omega)).trans (Zad _ _ (by omega)))
 ·rfl
 ·simp[go_sem]
 ·rintro i m1 nx1 ⟨hi,hnx,hD,hP,hfr⟩
  have hA1:=hD.hA r hr
  have hp1:=hD.hp
  have hR1:=hD.hR
  simp only[if_pos]at hA1 hp1 hR1
  obtain⟨hw,i0⟩:=ZaM i
  by_cases h1:(i:Int)<d.n
  ·have hin:i<d.n:=by omega
   have gi:=Za9 (rowK s (d.a r) i) hin
   have ei:rowK s (d.a r) i i=d.a r i:=by unfold rowK;rw[if_neg (by omega)]
   have zi:=sz.a r i hr hin
   have k2:=ZkY (d.a r i)
   have li:=ZbZ d.n (rowK s (d.a r) i)
   by_cases h2:i=s
   ·subst h2
    have h2b:((i:Int) !=i)=false:=by simp
    refine aGoM (cj4 hres hA1 hp1 (cj4 hR1 hP i0 (cj4 h1 h2b hw li))) ?_
    repeat with_reducible intro K hK
    refine Zas (i+1) ⟨by omega,hnx,?_,hP,hfr⟩ (by omega) rfl (by simp[go_sem])
    rw[Zo6 (.inl rfl)];exact hD
   ·have h2b:((i:Int) !=s)=true:=by simp;omega
    by_cases h3:d.a r i=0
    ·rw[decide_eq_true h3]at k2
     refine aGoM (cj4 hres hA1 hp1 (cj4 hR1 hP i0 (cj4 h1 h2b hw (cj4 li gi ei gr2)))) ?_
     repeat with_reducible intro K hK
     refine Zas (i+1) ⟨by omega,hnx,?_,hP,hfr⟩ (by omega) rfl (by simp[go_sem])
     rw[Zo6 (.inr h3)];exact hD
    ·rw[decide_eq_false h3]at k2
     have k3:=Zqz (d.a r i) (d.a r s) hp (by omega) (by omega)
     have es2:=ZyZ (n:=d.n) (d.a r) h2
     refine aGoM (cj4 hres hA1 hp1 (cj4 hR1 hP i0 (cj4 h1 h2b hw (cj4 li gi ei (cj4 gr2 n5 r0 (cj4 es2 Yb0 e2 n3)))))) ?_
     repeat with_reducible intro K hK
     refine Zas (i+1) ⟨by omega,hnx,?_,?_,?_⟩ (by omega) rfl (by simp[go_sem])
     ·exact hD.setA2 ap hr (rowK s (d.a r) (i+1)) fun k=>by by_cases e:k=r<;>simp[e]
     ·exact(Zad _ _ n5).trans hP
     ·intro id g1 g2
      exact(Zad _ _ (fun e=>g2 (.inr (.inr (.inr (.inr (.inr (.inr ⟨r,hr,e⟩)))))))).trans (hfr id g1 g2)
  ·obtain rfl:i=d.n:=by omega
   have li:=ZbZ d.n (rowK s (d.a r) d.n)
   have gi:=Za9 (rowK s (d.a r) d.n) hs
   have z1:=Zdf 1 (by decide) (by decide)
   rw[show((1:Int):Rat)=1 from rfl]at z1
   have k2:=nO_c
   have k3:=Zqz 1 (d.a r s) hp (by omega) (by omega)
   have es3:=Zy0 (d:=d) (r:=r) (s:=s)
   have lr:=Zkz I d.m (fun k=>if k=r then d.v r / d.a r s else d.v k)
   refine aGoM (cj4 hres hA1 hp1 (cj4 hR1 hP s0 (cj4 h1 li gi (cj4 gr2 n5 r0 (cj4 es3 Yb0 e2 (cj4 n3 e3 lr (cj2 e4 e5))))))) ?_
   repeat with_reducible intro K hK
   have hD1:DicAt (upd m1 (I.A r) (some (fB d.n ((d.ex r s).a r)))) I {d with v:=fun k=>if k<0∨k=r then(d.ex r s).v k else d.v k,a:=fun k=>if k<0∨k=r then(d.ex r s).a k else d.a k} src:=by
    refine(hD.setA2 ap hr ((d.ex r s).a r) (a':=fun k=>if k<0∨k=r then(d.ex r s).a k else d.a k) fun k=>?_).congr (fun k _=>?_) fun _ _ _ _=>rfl
    ·by_cases e:k=r<;>simp[e]
    ·by_cases e:k=r
     ·subst e;simp[Dic.ex]
     ·simp[e]
   have zx:=Dic.ex_sized szFn hr hs hp sz hB1
   refine ZcW (fun(i:Nat)=>[(0,.lp I.p 0 0 0),(1,dI r),(2,dI s),(6,.lp I.R I.vR r 0),(84,dI d.m),(85,dI i)]) nx
    (fun i m2 nx2=>i≤d.m∧nx≤nx2∧DicAt m2 I {d with v:=fun k=>if k<i∨k=r then(d.ex r s).v k else d.v k,a:=fun k=>if k<i∨k=r then(d.ex r s).a k else d.a k} src∧∀ id,id<nx→¬ inD I d.m id→m2 id=m id) (fun i=>d.m-i) 0 ?_ ?_ ?_ ?_
   ·exact⟨Yb0 _,Nat.le_of_lt hnx,hD1,fun id g1 g2=>(Zad _ _ (fun e=>g2 (.inr (.inr (.inr (.inr (.inr (.inr ⟨r,hr,e⟩)))))))).trans (hfr id g1 g2)⟩
   ·rfl
   ·simp[go_sem]
   ·rintro i m2 nx2 ⟨hi2,hnx2,hE,hfr2⟩
    have hA1:=hE.hA r hr
    have hp1:=hE.hp
    have hR1:=hE.hR
    simp only[or_true,if_pos]at hA1 hp1 hR1
    obtain⟨hw,i0⟩:=ZaM i
    by_cases h2:(i:Int)<d.m
    ·have him:i<d.m:=by omega
     have lr2:=Zkz I d.m (fun k=>if k<i∨k=r then(d.ex r s).v k else d.v k)
     have gi:=ZdJ I (fun k=>if k<i∨k=r then(d.ex r s).v k else d.v k) him
     by_cases h3:i=r
     ·subst h3
      have h3b:((i:Int) !=i)=false:=by simp
      refine aGoM (cj4 hres hp1 hR1 (cj4 i0 h2 h3b (cj4 hw lr2 gi s0))) ?_
      repeat with_reducible intro K hK
      have e:∀ k,(k<i+1∨k=i)↔(k<i∨k=i):=fun k=>by omega
      exact Zas (i+1) ⟨by omega,hnx2,hE.congr (fun k _=>by simp only[e]) (fun k j _ _=>by simp only[e]),hfr2⟩ (by omega) rfl (by simp[go_sem])
     ·have h3b:((i:Int) !=r)=true:=by simp;omega
      have ei:(if i<i∨i=r then(d.ex r s).v i else d.v i)=d.v i:=if_neg (by omega)
      simp only[ei]at gi
      have gr3:=ZdJ I (fun k=>if k<i∨k=r then(d.ex r s).v k else d.v k) hr
      have er:(if r<i∨r=r then(d.ex r s).v r else d.v r)=(d.ex r s).v r:=if_pos (.inr rfl)
      simp only[er]at gr3
      have hAi:m2 (I.A i)=some (fB d.n (d.a i)):=(hE.hA i him).trans (by simp only[if_neg (show ¬ (i<i∨i=r) by omega)])
      have gai:=Za9 (d.a i) hs
      have k2:=ZkY (d.a i s)
      have lai:=ZbZ d.n (d.a i)
      have zi:=sz.a i s him hs
      by_cases h4:d.a i s=0
      ·rw[decide_eq_true h4]at k2
       refine aGoM (cj4 hres hp1 hR1 (cj4 i0 h2 h3b (cj4 hw lr2 gi (cj4 s0 hAi gai lai)))) ?_
       repeat with_reducible intro K hK
       obtain⟨z1,z2⟩:=ZCP (s:=s) h3 h4
       refine Zas (i+1) ⟨by omega,hnx2,hE.congr (fun k _=>?_) (fun k j _ _=>?_),hfr2⟩ (by omega) rfl (by simp[go_sem])
       ·by_cases e:k=i
        ·subst e;simp only[z1,ite_self]
        ·simp only[upto r e]
       ·by_cases e:k=i
        ·subst e
         by_cases e2:k<k+1∨k=r
         ·rw[if_pos e2,z2];show d.a k j=(if k<k∨k=r then(d.ex r s).a k else d.a k) j;rw[if_neg (by omega)]
         ·omega
        ·simp only[upto r e]
      ·rw[decide_eq_false h4]at k2
       have zvi:=sz.v i him
       have zvr:=zx.v r hr
       have k3:=ZqA (d.v i) (d.a i s) ((d.ex r s).v r) (by omega) (by omega) (by omega)
       rw[← ex_v h3]at k3
       obtain⟨V,hV⟩:∃ V:Nat→Rat,V=fun k=>if k=i then(d.ex r s).v i else if k<i∨k=r then(d.ex r s).v k else d.v k:=⟨_,rfl⟩
       have es4:=Zsd (I:=I) (m:=d.m) (r:=i) (fun k=>if k<i∨k=r then(d.ex r s).v k else d.v k) ((d.ex r s).v i)
       rw[← hV]at es4
       have gi5:=ZdJ I V him
       have gr5:=ZdJ I V hr
       have eA:I.A i≠I.A r:=ap.AA i r him hr h3
       have eAr:=eA.symm
       have eAR:=ap.AR i him
       have eARs:=eAR.symm
       refine aGoM (cj4 hres hp1 hR1 (cj4 i0 h2 h3b (cj4 hw lr2 gi (cj4 s0 hAi gai (cj4 lai gr3 r0 (cj4 es4 Yb0 hA1 (cj4 eAR eARs e2 (cj3 e5 gi5 gr5)))))))) ?_
       repeat with_reducible intro K hK
       repeat with_reducible intro K hK
       have lAi:=lt _ (.inr (.inr (.inr (.inr (.inr (.inr ⟨i,him,rfl⟩))))))
       refine Zdq (ZAD d.n s (I.A i) (I.A r) (d.a i) ((d.ex r s).a r) _ _ hn hs eA ((Zad _ _ eAR).trans hAi) ((Zad _ _ e2).trans hA1) (by omega) (fun j hj=>by have:=sz.a i j him hj;omega) (fun j hj=>by have:=zx.a r j hr hj;omega)) ?_
       refine aGoM (cj3 hres h2 hw) ?_
       repeat with_reducible intro K hK
       refine Zas (i+1) ⟨by omega,hnx2,?_,?_⟩ (by omega) rfl (by simp[go_sem])
       ·refine((hE.setR ap V).setA2 ap him (Zl7 s (d.a i) ((d.ex r s).a r)) (a':=fun k=>if k=i then Zl7 s (d.a i) ((d.ex r s).a r)else if k<i∨k=r then(d.ex r s).a k else d.a k) fun k=>rfl).congr (fun k _=>?_) (fun k j _ _=>?_)
        ·by_cases e:k=i
         ·subst e;simp[hV]
         ·simp only[upto r e,if_neg e,hV]
        ·by_cases e:k=i
         ·subst e;simp only[if_pos,ZyI h3];rw[if_pos (by omega)]
         ·simp only[upto r e,if_neg e]
       ·intro id g1 g2
        exact(Zad _ _ (fun e=>g2 (.inr (.inr (.inr (.inr (.inr (.inr ⟨i,him,e⟩)))))))).trans ((Zad _ _ (fun e=>g2 (.inr (.inl e)))).trans (hfr2 id g1 g2))
    ·obtain rfl:i=d.m:=by omega
     have hE':DicAt m2 I {d with v:=(d.ex r s).v,a:=(d.ex r s).a} src:=hE.congr (fun k hk=>by simp[hk]) (fun k j hk _=>by simp[hk])
     have hA2:m2 (I.A r)=some (fB d.n ((d.ex r s).a r)):=hE'.hA r hr
     have hR2:m2 I.R=some (rB I d.m (d.ex r s).v):=hE'.hR
     have hp2:m2 I.p=some (pB I d.n):=hE'.hp
     have hG2:m2 I.G=some (fB d.n d.g):=hE'.hG
     have hO2:m2 I.O=some (iB 3 I.vO d.m d.own):=hE'.hO
     have hF2:m2 I.Fr=some (iB 3 I.vFr d.n d.free):=hE'.hFr
     have gg:=Za9 d.g hs
     have k2:=ZkY (d.g s)
     have zg:=sz.g s hs
     have go:=Zbu (fun i=>[dI (d.own i)]) hr
     have gf:=Zbu (fun i=>[dI (d.free i)]) hs
     have so:=ZsY (k:=d.m) (r:=r) d.own (d.free s)
     have sf:=ZsY (k:=d.n) (r:=s) d.free (d.own r)
     have gr5:=ZdJ I (d.ex r s).v hr
     have u1:=ap.pO
     have u2:=ap.pFr
     have u3:=ap.OFr
     have u4:=ap.OFr.symm
     by_cases h4:d.g s=0
     ·rw[decide_eq_true h4]at k2
      refine aGoM (cj4 hres hp2 hG2 (cj4 gg s0 hO2 (cj4 hF2 go gf (cj4 so sf u1 (cj4 u2 u3 u4 (cj3 r0 h2 Yb0)))))) ?_
      repeat with_reducible intro K hK
      refine⟨Nat.lt_of_lt_of_le (lt _ (.inr (.inr (.inr (.inl rfl))))) hnx2,Nat.lt_of_lt_of_le (lt _ (.inr (.inr (.inr (.inr (.inl rfl)))))) hnx2,?_⟩
      with_reducible apply useE
      with_reducible assumption
      exact ZnB (sel3 I.p I.O I.Fr) 3 ZAE rfl (Zsb u1 u2 u3) (by decide) (by kernel_rfl)
      exact Zay rfl
      refine aGoM hres ?_
      refine⟨ZrY (by rw[ZAa h4];exact hE') ap,fun id g1 g2=>?_⟩
      rw[if_neg (fun e=>g2 (.inr (.inr (.inr (.inr (.inl e)))))),if_neg (fun e=>g2 (.inr (.inr (.inr (.inl e)))))]
      exact hfr2 id g1 g2
     ·rw[decide_eq_false h4]at k2
      have v1:=ap.pG
      have v2:=ap.RG
      have v3:=ap.AG r hr
      have v4:=v3.symm
      have v5:=ap.GO.symm
      have v6:=ap.GFr.symm
      refine aGoM (cj4 hres hp2 hG2 (cj4 gg s0 hO2 (cj4 hF2 go gf (cj4 hR2 hA2 gr5 (cj4 u2 u3 u4 (cj4 r0 h2 Yb0 (cj4 v1 v2 v3 v4))))))) ?_
      repeat with_reducible intro K hK
      refine Zdq (ZAD d.n s I.G (I.A r) d.g ((d.ex r s).a r) _ _ hn hs v4 hG2 hA2 (Nat.lt_of_lt_of_le (lt _ (.inr (.inr (.inl rfl)))) hnx2) (fun j hj=>by have:=sz.g j hj;omega) (fun j hj=>by have:=zx.a r j hr hj;omega)) ?_
      rw[ZyH]
      refine aGoM (cj4 hres hp2 hG2 (cj4 gg s0 hO2 (cj4 hF2 go gf (cj4 so sf u1 (cj4 u2 u3 u4 (cj4 r0 h2 Yb0 (cj4 v1 v5 v6 trivial))))))) ?_
      repeat with_reducible intro K hK
      refine⟨Nat.lt_of_lt_of_le (lt _ (.inr (.inr (.inr (.inl rfl))))) hnx2,Nat.lt_of_lt_of_le (lt _ (.inr (.inr (.inr (.inr (.inl rfl)))))) hnx2,?_⟩
      with_reducible apply useE
      with_reducible assumption
      exact ZnB (sel3 I.p I.O I.Fr) 3 ZAE rfl (Zsb u1 u2 u3) (by decide) (by kernel_rfl)
      exact Zay rfl
      refine aGoM hres ?_
      refine⟨ZrY (hE'.setG ap (d.ex r s).g) ap,fun id g1 g2=>?_⟩
      rw[if_neg (fun e=>g2 (.inr (.inr (.inr (.inr (.inl e)))))),if_neg (fun e=>g2 (.inr (.inr (.inr (.inl e))))),if_neg (fun e=>g2 (.inr (.inr (.inl e))))]
      exact hfr2 id g1 g2
end Go.Proofs.YtjeaacindikplaaGreat
