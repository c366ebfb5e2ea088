/-
  dual.multipliers, Signed, add, below.
-/
import Derived.Test.YtblamlnjbjaokaaGreatVLib
import Derived.Test.YtblamlnjbjaokaaGreatVT01
import Derived.Test.YtblamlnjbjaokaaGreatVT00
namespace Go.Proofs.YtblamlnjbjaokaaGreat
set_option linter.unusedVariables false
set_option linter.unusedSimpArgs false
set_option linter.unusedSectionVars false
open Go Go.RowKit
set_option maxRecDepth 100000
set_option maxHeartbeats 4000000
def tnF(f:Zac):Prop:=(szF f:Int)≤262144
def tnT(l:List Zaj):Prop:=(l.length:Int)≤64∧∀ t∈l,tnF t.f
def tnFs(l:List Zac):Prop:=(l.length:Int)≤64∧∀ f∈l,tnF f
def tnW(w:RowD):Prop:=tnT w.t∧tnF w.v
def tnS(s:SysD):Prop:=(s.r.length:Int)≤64∧∀ w∈s.r,tnW w
theorem tnF.sm{f:Zac}(h:tnF f):smF f:=by unfold tnF at h;unfold smF;omega
theorem tnT.sm{l:List Zaj}(h:tnT l):smT l:=⟨by have:=h.1;omega,fun t ht=>(h.2 t ht).sm⟩
theorem tnFs.sm{l:List Zac}(h:tnFs l):smFs l:=⟨by have:=h.1;omega,fun t ht=>(h.2 t ht).sm⟩
theorem tnW.sm{w:RowD}(h:tnW w):smW w:=⟨h.1.sm,h.2.sm⟩
theorem tnS.sm{s:SysD}(h:tnS s):smS s:=⟨by have:=h.1;omega,fun t ht=>(h.2 t ht).sm⟩
theorem Zkg{s:SysD}{y:List Zac}(h:Zfm s y=false):D.v (.bool false)=dB (Zfm s y):=Zae h.symm
theorem ZsY(s:SysD)(y:List Zac)(hs:smS s)(hy:smFs y):Zaa Tryz.prog 160 [encS s,ZaM y] (dB (Zfm s y)):=by
 refine Zag.toN ?_ rfl
 have Zr:=Tryz.results160
 have hl:=ZeZ hy
 have k1:=Zgi s hs
 cases h1:ZaF s
 ·rw[h1]at k1
  refine inC Tryz.func160 rfl Tryz.ntmps160 ?_
  refine aGo Zr ?_
  repeat with_reducible intro K hK
  exact Zkg (by simp[Zfm,h1])
 rw[h1]at k1
 cases h2:(y.length:Int) !=s.r.length
 rotate_left
 ·refine inC Tryz.func160 rfl Tryz.ntmps160 ?_
  refine aGo (cj2 Zr h2) ?_
  repeat with_reducible intro K hK
  exact Zkg (by simp at h2;simp[Zfm];omega)
 have hn:(y.length:Int)=s.r.length:=by simpa using h2
 refine inC Tryz.func160 rfl Tryz.ntmps160 ?_
 refine aGo (cj2 Zr h2) ?_
 repeat with_reducible intro K hK
 refine ZaE (fun(k:Nat)=>[(18,ZaM y),(19,dI y.length),(20,dI k)]) (fun _=>[]) 0 0 (fun k=>k≤y.length∧(y.take k).all okF=true) (fun k=>y.length-k) 0 ⟨by omega,rfl⟩ ?_ ?_
 ·exact leGo trivial
 ·rintro k ⟨hk,hg⟩
  obtain⟨hw,h0⟩:=Za6 k
  by_cases h4:(k:Int)<y.length
  ·obtain⟨f,hx⟩:=getE (l:=y) (k:=k) (by omega)
   have k2:=ZbA f (ZfC (hy.2 f (ZaR hx)))
   cases h5:okF f
   ·rw[h5]at k2
    refine aGo (cj4 Zr h0 h4 (cj2 hx hw)) ?_
    repeat with_reducible intro K hK
    exact Zkg (by simp only[Zfm,okP,Zbf hx h5,Bool.and_false])
   ·rw[h5]at k2
    refine aGo (cj4 Zr h0 h4 (cj2 hx hw)) ?_
    repeat with_reducible intro K hK
    exact Zai (k+1) ⟨by omega,Zan hx hg h5⟩ (by omega) (by exact leGo trivial)
  ·rw[Ya8 (by omega)]at hg
   refine aGo (cj2 Zr h4) ?_
   repeat with_reducible intro K hK
   exact Zae (by simp only[Zfm,okP,hg,h1,hn,decide_true,Bool.and_self])
theorem Zyc{α β:Type}{l:List α}{m:List β}{k:Nat}{x:α}{y:β}(hx:l[k]? =some x)(hy:m[k]? =some y):(l.zip m)[k]? =some (x,y):=by
 rw[List.getElem?_zip_eq_some];exact⟨hx,hy⟩
theorem ZsV(s:SysD)(y:List Zac)(hs:smS s)(hy:smFs y):Zaa Tryz.prog 119 [encS s,ZaM y] (dB (ZcE s y)):=by
 refine Zag.toN ?_ rfl
 have Zr:=Tryz.results119
 have hl:=ZeZ hy
 have k1:=ZsY s y hs hy
 cases h1:Zfm s y
 ·rw[h1]at k1
  refine inC Tryz.func119 rfl Tryz.ntmps119 ?_
  refine aGo Zr ?_
  repeat with_reducible intro K hK
  exact Zae (by simp[ZcE,h1])
 rw[h1]at k1
 obtain⟨hr,hlen,hok⟩:=ZdJ.1 h1
 have hzl:(s.r.zip y).length=y.length:=by rw[List.length_zip];omega
 refine inC Tryz.func119 rfl Tryz.ntmps119 ?_
 refine aGo Zr ?_
 repeat with_reducible intro K hK
 refine ZaE (fun(k:Nat)=>[(2,.lp 0 0 0 0),(12,ZaM y),(13,dI y.length),(14,dI k)]) (fun _=>[(0,⟨102,0,2,[cS s],0,false⟩)]) 1 0 (fun k=>k≤y.length∧((s.r.zip y).take k).all (fun p=>ZcF p.1 p.2)=true) (fun k=>y.length-k) 0 ⟨by omega,rfl⟩ ?_ ?_
 ·exact leGo trivial
 ·rintro k ⟨hk,hg⟩
  obtain⟨hw,h0⟩:=Za6 k
  by_cases h4:(k:Int)<y.length
  ·obtain⟨f,hx⟩:=getE (l:=y) (k:=k) (by omega)
   obtain⟨w,hv⟩:=getE (l:=s.r) (k:=k) (by omega)
   have h4b:(k:Int)<s.r.length:=by omega
   have k2:=Zc4 f (ZfC (hy.2 f (ZaR hx)))
   have hz:=Zyc hv hx
   have bad:ZcF w f=false→D.v (.bool false)=dB (ZcE s y):=fun h=>Zae (by unfold ZcE;rw[Zbf (p:=fun p:RowD×Zac=>ZcF p.1 p.2) hz h,Bool.and_false])
   have good:ZcF w f=true→((s.r.zip y).take (k+1)).all (fun p=>ZcF p.1 p.2)=true:=fun h=>Zan (p:=fun p:RowD×Zac=>ZcF p.1 p.2) hz hg h
   cases h5:w.k==0
   ·cases h6:w.k==1
    ·refine aGo (cj4 Zr h0 h4 (cj4 h4b hx hv (cj3 hw h5 h6))) ?_
     repeat with_reducible intro K hK
     exact Zai (k+1) ⟨by omega,good (by simp[ZcF,h5,h6])⟩ (by omega) (by exact leGo trivial)
    ·by_cases h7:sgnD f>0
     ·refine aGo (cj4 Zr h0 h4 (cj4 h4b hx hv (cj4 hw h5 h6 h7))) ?_
      repeat with_reducible intro K hK
      exact bad (by simp[ZcF,h6];omega)
     ·refine aGo (cj4 Zr h0 h4 (cj4 h4b hx hv (cj4 hw h5 h6 h7))) ?_
      repeat with_reducible intro K hK
      exact Zai (k+1) ⟨by omega,good (by simp[ZcF,h5];omega)⟩ (by omega) (by exact leGo trivial)
   ·by_cases h7:sgnD f<0
    ·refine aGo (cj4 Zr h0 h4 (cj4 h4b hx hv (cj3 hw h5 h7))) ?_
     repeat with_reducible intro K hK
     exact bad (by simp[ZcF,h5];omega)
    ·have h6:(w.k==1)=false:=by simp at h5;simp[h5]
     refine aGo (cj4 Zr h0 h4 (cj4 h4b hx hv (cj3 hw h5 h7))) ?_
     repeat with_reducible intro K hK
     exact Zai (k+1) ⟨by omega,good (by simp[ZcF,h6];omega)⟩ (by omega) (by exact leGo trivial)
  ·have hg2:(s.r.zip y).all (fun p=>ZcF p.1 p.2)=true:=by rw[Ya8 (by omega)]at hg;exact hg
   refine aGo (cj2 Zr h4) ?_
   repeat with_reducible intro K hK
   exact Zae (by simp only[ZcE,h1,hg2,Bool.and_self])
theorem ZzC(a b c:Rat)(za:(szQ a:Int)≤34359750000)(zb:(szQ b:Int)≤4194304)(zc:(szQ c:Int)≤4194304):Zag Tryz.prog 161 [encF (ofQ a),encF (ofQ b),encF (ofQ c)] (encF (ofQ (a+b*c))):=by
 have Zr:=Tryz.results161
 have k1:=ZyQ b c (by omega) (by omega)
 have z:=ZeA b c
 have k2:=ZyR a (b*c) (by omega) (by omega)
 refine inC Tryz.func161 rfl Tryz.ntmps161 ?_
 exact aGo Zr trivial
open Classical in
noncomputable def Zhn (a b:List Zaj):Bool:=decide (ZcL a b)
theorem ZdY{a b:List Zaj}:Zhn a b=true↔ZcL a b:=by unfold Zhn;simp only[decide_eq_true_eq]
structure ZzS where
 a:List Zaj
 b:List Zaj
 l:Int
def wkT(l:List Zaj):Prop:=(l.length:Int)≤4096∧∀ t∈l,(szF t.f:Int)≤549755813888
theorem smT.wk{l:List Zaj}(h:smT l):wkT l:=⟨h.1,fun t ht=>ZfC (h.2 t ht)⟩
theorem Zvj(n:Int)(a b:List Zaj)(ha:Zat a n=true)(hb:Zat b n=true)(hs:wkT a)(hs2:wkT b):Zag Tryz.prog 121 [ZbT a,ZbT b] (dB (Zhn a b)):=by
 have Zr:=Tryz.results121
 have hla:=hs.1
 have hlb:=hs2.1
 have kz:=Ziy 0 (by decide) (by decide)
 rw[Rat.intCast_zero]at kz
 have z0:(szF (ofQ 0):Int)≤549755813888:=by have:szQ 0≤4:=ZcW 0 (by decide) (by decide);rw[Zfz];omega
 simp only[Zat,Ya2]at ha hb
 refine inC Tryz.func121 rfl Tryz.ntmps121 ?_
 refine aGo Zr ?_
 repeat with_reducible intro K hK
 refine ZaE (fun(x:ZzS)=>[(0,ZbT x.a),(1,ZbT x.b),(5,.lp 0 0 0 0)]) (fun x=>[(0,⟨34,0,4,[cF (ofQ 0)],0,false⟩)]) 1 0 (fun x=>goR n x.l x.a=true∧goR n x.l x.b=true∧(∀ t∈x.a,(szF t.f:Int)≤549755813888)∧(∀ t∈x.b,(szF t.f:Int)≤549755813888)∧x.a.length≤a.length∧x.b.length≤b.length∧(ZcL x.a x.b↔ZcL a b)) (fun x=>x.a.length+x.b.length) ⟨a,b,-1⟩ ⟨ha.2,hb.2,hs.2,hs2.2,Ya4 _,Ya4 _,Iff.rfl⟩ ?_ ?_
 ·exact leGo trivial
 ·rintro⟨a',b',l⟩ ⟨ga,gb,sa,sb,la,lb,hiff⟩
  dsimp only at ga gb sa sb la lb hiff ⊢
  match a',b',ga,gb,sa,sb,la,lb,hiff with
  | [],[],ga,gb,sa,sb,la,lb,hiff =>
    refine aGo Zr ?_
    repeat with_reducible intro K hK
    exact Zae (ZdY.2 (hiff.1 Ztk)).symm
  | x ::a',[],ga,gb,sa,sb,la,lb,hiff =>
    simp only[List.length_cons,List.length_nil]at la lb
    have ga':=ZaH.1 ga
    have p1:((a'.length+1:Nat):Int)>0:=by omega
    have p2:(1:Int)≤((a'.length+1:Nat):Int):=by omega
    have p3:(((a'.length+1:Nat):Int)==0)=false:=by simp;omega
    have p4:(0:Int)<((a'.length+1:Nat):Int):=by omega
    have ox:=(ZeC ga'.2.2.1).1
    have kc:=ZcR x.f (ofQ 0) (sa x Yb7) z0
    rw[show cmpD x.f (ofQ 0)=sgQ (qOf x.f-0) by simp[cmpD,ox,Zbj,Zbc]]at kc
    have hb1:=ZiN (b:=[]) ga (rfl:goR n x.v []=true)
    by_cases h5:sgQ (qOf x.f-0)>0
    ·refine aGo (cj4 Zr p1 p2 (cj4 p3 p4 h5 ZbS)) ?_
     repeat with_reducible intro K hK
     have hn:¬ ZcL a b:=fun h=>by have:=(hb1.1 (hiff.2 h)).1;rw[gt_iff_lt,Zeu]at h5;grind
     refine Zae ?_
     cases h:Zhn a b
     ·rfl
     ·exact absurd (ZdY.1 h) hn
    ·refine aGo (cj4 Zr p1 p2 (cj4 p3 p4 h5 ZbS)) ?_
     repeat with_reducible intro K hK
     refine Zai ⟨a',[],x.v⟩ ⟨ga'.2.2.2,rfl,fun t ht=>sa t (Yb6 _ ht),sb,by dsimp only;omega,by dsimp only;omega,?_⟩ (by simp) (by exact leGo ZbS)
     rw[gt_iff_lt,Zeu]at h5
     rw[← hiff,hb1]
     exact⟨fun h=>⟨by grind,h⟩,fun h=>h.2⟩
  | [],y ::b',ga,gb,sa,sb,la,lb,hiff =>
    simp only[List.length_cons,List.length_nil]at la lb
    have gb':=ZaH.1 gb
    have p1:((b'.length+1:Nat):Int)>0:=by omega
    have p2:(1:Int)≤((b'.length+1:Nat):Int):=by omega
    have p3:(((b'.length+1:Nat):Int)==0)=false:=by simp;omega
    have p4:(0:Int)<((b'.length+1:Nat):Int):=by omega
    have oy:=(ZeC gb'.2.2.1).1
    have kc:=ZcR (ofQ 0) y.f z0 (sb y Yb7)
    rw[show cmpD (ofQ 0) y.f=sgQ (0-qOf y.f) by simp[cmpD,oy,Zbj,Zbc]]at kc
    have hb1:=Zhm (a:=[]) (rfl:goR n y.v []=true) gb
    by_cases h5:sgQ (0-qOf y.f)>0
    ·refine aGo (cj4 Zr p1 p2 (cj4 p3 p4 h5 ZbS)) ?_
     repeat with_reducible intro K hK
     have hn:¬ ZcL a b:=fun h=>by have:=(hb1.1 (hiff.2 h)).1;rw[gt_iff_lt,Zeu]at h5;grind
     refine Zae ?_
     cases h:Zhn a b
     ·rfl
     ·exact absurd (ZdY.1 h) hn
    ·refine aGo (cj4 Zr p1 p2 (cj4 p3 p4 h5 ZbS)) ?_
     repeat with_reducible intro K hK
     refine Zai ⟨[],b',y.v⟩ ⟨rfl,gb'.2.2.2,sa,fun t ht=>sb t (Yb6 _ ht),by dsimp only;omega,by dsimp only;omega,?_⟩ (by simp) (by exact leGo ZbS)
     rw[gt_iff_lt,Zeu]at h5
     rw[← hiff,hb1]
     exact⟨fun h=>⟨by grind,h⟩,fun h=>h.2⟩
  | x ::a',y ::b',ga,gb,sa,sb,la,lb,hiff =>
    simp only[List.length_cons]at la lb
    have ga':=ZaH.1 ga
    have gb':=ZaH.1 gb
    have p1:((a'.length+1:Nat):Int)>0:=by omega
    have p2:(1:Int)≤((a'.length+1:Nat):Int):=by omega
    have p3:(((a'.length+1:Nat):Int)==0)=false:=by simp;omega
    have p4:(0:Int)<((a'.length+1:Nat):Int):=by omega
    have q1:((b'.length+1:Nat):Int)>0:=by omega
    have q2:(1:Int)≤((b'.length+1:Nat):Int):=by omega
    have q3:(((b'.length+1:Nat):Int)==0)=false:=by simp;omega
    have q4:(0:Int)<((b'.length+1:Nat):Int):=by omega
    have ox:=(ZeC ga'.2.2.1).1
    have oy:=(ZeC gb'.2.2.1).1
    have bad:¬ ZcL a b→D.v (.bool false)=dB (Zhn a b):=fun hn=>Zae (by
     cases h:Zhn a b
     ·rfl
     ·exact absurd (ZdY.1 h) hn)
    by_cases h3:x.v≤y.v
    ·by_cases h4:y.v≤x.v
     ·have kc:=ZcR x.f y.f (sa x Yb7) (sb y Yb7)
      rw[show cmpD x.f y.f=sgQ (qOf x.f-qOf y.f) by simp[cmpD,ox,oy]]at kc
      have hb1:=ZqB ga gb (by omega)
      by_cases h5:sgQ (qOf x.f-qOf y.f)>0
      ·refine aGo (cj4 Zr p1 p2 (cj4 p3 p4 q1 (cj4 q2 q3 q4 (cj4 h3 h4 h5 ZbS)))) ?_
       repeat with_reducible intro K hK
       exact bad fun h=>by have:=(hb1.1 (hiff.2 h)).1;rw[gt_iff_lt,Zeu]at h5;grind
      ·refine aGo (cj4 Zr p1 p2 (cj4 p3 p4 q1 (cj4 q2 q3 q4 (cj4 h3 h4 h5 ZbS)))) ?_
       repeat with_reducible intro K hK
       refine Zai ⟨a',b',x.v⟩ ⟨ga'.2.2.2,Zxw (by omega) gb'.2.2.2,fun t ht=>sa t (Yb6 _ ht),fun t ht=>sb t (Yb6 _ ht),by dsimp only;omega,by dsimp only;omega,?_⟩ (by simp;omega) (by exact leGo ZbS)
       rw[gt_iff_lt,Zeu]at h5
       rw[← hiff,hb1]
       exact⟨fun h=>⟨by grind,h⟩,fun h=>h.2⟩
     ·have kc:=ZcR x.f (ofQ 0) (sa x Yb7) z0
      rw[show cmpD x.f (ofQ 0)=sgQ (qOf x.f-0) by simp[cmpD,ox,Zbj,Zbc]]at kc
      have gb2:goR n x.v (y ::b')=true:=ZaH.2 ⟨by omega,gb'.2⟩
      have hb1:=ZiN ga gb2
      by_cases h5:sgQ (qOf x.f-0)>0
      ·refine aGo (cj4 Zr p1 p2 (cj4 p3 p4 q1 (cj4 q2 q3 q4 (cj4 h3 h4 h5 ZbS)))) ?_
       repeat with_reducible intro K hK
       exact bad fun h=>by have:=(hb1.1 (hiff.2 h)).1;rw[gt_iff_lt,Zeu]at h5;grind
      ·refine aGo (cj4 Zr p1 p2 (cj4 p3 p4 q1 (cj4 q2 q3 q4 (cj4 h3 h4 h5 ZbS)))) ?_
       repeat with_reducible intro K hK
       refine Zai ⟨a',y ::b',x.v⟩ ⟨ga'.2.2.2,gb2,fun t ht=>sa t (Yb6 _ ht),sb,by dsimp only;omega,by simp only[List.length_cons];omega,?_⟩ (by simp) (by exact leGo ZbS)
       rw[gt_iff_lt,Zeu]at h5
       rw[← hiff,hb1]
       exact⟨fun h=>⟨by grind,h⟩,fun h=>h.2⟩
    ·have h4:y.v≤x.v:=by omega
     have kc:=ZcR (ofQ 0) y.f z0 (sb y Yb7)
     rw[show cmpD (ofQ 0) y.f=sgQ (0-qOf y.f) by simp[cmpD,oy,Zbj,Zbc]]at kc
     have ga2:goR n y.v (x ::a')=true:=ZaH.2 ⟨by omega,ga'.2⟩
     have hb1:=Zhm ga2 gb
     by_cases h5:sgQ (0-qOf y.f)>0
     ·refine aGo (cj4 Zr p1 p2 (cj4 p3 p4 q1 (cj4 q2 q3 q4 (cj4 h3 h4 h5 ZbS)))) ?_
      repeat with_reducible intro K hK
      exact bad fun h=>by have:=(hb1.1 (hiff.2 h)).1;rw[gt_iff_lt,Zeu]at h5;grind
     ·refine aGo (cj4 Zr p1 p2 (cj4 p3 p4 q1 (cj4 q2 q3 q4 (cj4 h3 h4 h5 ZbS)))) ?_
      repeat with_reducible intro K hK
      refine Zai ⟨x ::a',b',y.v⟩ ⟨ga2,gb'.2.2.2,sa,fun t ht=>sb t (Yb6 _ ht),by simp only[List.length_cons];omega,by dsimp only;omega,?_⟩ (by simp) (by exact leGo ZbS)
      rw[gt_iff_lt,Zeu]at h5
      rw[← hiff,hb1]
      exact⟨fun h=>⟨by grind,h⟩,fun h=>h.2⟩
set_option maxHeartbeats 8000000
def tabL(n:Nat)(c:Nat→List D):List (List D):=(List.range n).map c
theorem Zfy(n:Nat)(c:Nat→List D):(tabL n c).length=n:=by simp[tabL]
theorem Zez{n k:Nat}(c:Nat→List D)(h:k<n):(tabL n c)[k]? =some (c k):=by simp[tabL,h]
theorem Zct{n:Nat}{c d:Nat→List D}(h:∀ u,u<n→c u=d u):tabL n c=tabL n d:=List.map_congr_left fun u hu=>h u (Yd2.1 hu)
theorem ZmO{n k:Nat}(c:Nat→List D)(x:List D):(tabL n c).set k x=tabL n (fun u=>if u=k then x else c u):=by
 apply List.ext_getElem
 ·simp[tabL]
 ·intro i h1 h2
  simp only[tabL,Yc0,List.length_range]at h2
  rw[List.getElem_set]
  simp only[tabL,List.getElem_map,List.getElem_range]
  by_cases e:k=i
  ·subst e;simp
  ·rw[if_neg e,if_neg (Ne.symm e)]
theorem Zq3(n:Nat)(z:List D):List.replicate n z=tabL n (fun _=>z):=by
 unfold tabL;rw[List.map_const',List.length_range]
abbrev zc:List D:=[dI 0,.nil,dI 0,.nil]
theorem Zs6(a:Rat)(f g:Zac)(hf:okF f=true)(hg:okF g=true)(za:(szQ a:Int)≤34359750000)(zf:smF f)(zg:smF g):Zag Tryz.prog 161 [encF (ofQ a),encF f,encF g] (encF (ofQ (a+qOf f*qOf g))):=by
 have:=ZzC a (qOf f) (qOf g) za (by rw[ZbO hf];exact zf) (by rw[ZbO hg];exact zg)
 rwa [← Zc1 hf,← Zc1 hg]at this
def Zfn(n k:Nat):List (List D):=tabL n (fun v=>if v<k then cF (ofQ 0)else zc)
theorem Zmc(n:Nat):Zfn n 0=List.replicate n zc:=by rw[Zq3];exact Zct fun u _=>by rw[if_neg (by omega)]
theorem ZhK(n k:Nat):(Zfn n k).length=n:=Zfy _ _
theorem ZoP(n k:Nat):(Zfn n k).set k (cF (ofQ 0))=Zfn n (k+1):=by
 unfold Zfn
 rw[ZmO]
 refine Zct fun u _=>?_
 by_cases h:u=k
 ·rw[if_pos h,if_pos (by omega)]
 ·rw[if_neg h]
  by_cases h2:u<k
  ·rw[if_pos h2,if_pos (by omega)]
  ·rw[if_neg h2,if_neg (by omega)]
def ratL(n:Nat)(c:Nat→Rat):List (List D):=tabL n (fun v=>cF (ofQ (c v)))
theorem ZgP(n:Nat)(c:Nat→Rat):(ratL n c).length=n:=Zfy _ _
theorem Zid{n k:Nat}(c:Nat→Rat)(h:k<n):(ratL n c)[k]? =some (cF (ofQ (c k))):=Zez _ h
theorem Znc{n k:Nat}(c:Nat→Rat)(q:Rat):(ratL n c).set k (cF (ofQ q))=ratL n (fun u=>if u=k then q else c u):=by
 unfold ratL
 rw[ZmO]
 refine Zct fun u _=>?_
 by_cases h:u=k<;>simp[h]
theorem ZbP{n:Nat}{c d:Nat→Rat}(h:∀ u,u<n→c u=d u):ratL n c=ratL n d:=Zct fun u hu=>by rw[h u hu]
theorem ZoQ(n:Nat):Zfn n n=ratL n (fun _=>0):=Zct fun u hu=>by rw[if_pos hu]
theorem Zfs(n:Nat)(c:Nat→Rat)(keep:Nat→Bool):(∀ e,e∈ratL n c→okDs keep e=true)↔True:=by
 simp only[iff_true]
 intro e he
 obtain⟨v,_,rfl⟩:=Yc6.1 he
 rfl
theorem Zdp(n k:Nat)(keep:Nat→Bool):(∀ e,e∈Zfn n k→okDs keep e=true)↔True:=by
 simp only[iff_true]
 intro e he
 obtain⟨v,_,rfl⟩:=Yc6.1 he
 split<;>rfl
def ZcX(s:SysD)(y:List Zac)(k:Nat)(v:Nat):Rat:=mixG (indI v) (s.r.take k) (y.take k)
def ZgK(s:SysD)(y:List Zac)(k:Nat)(f:Zac)(t:List Zaj)(j:Nat)(v:Nat):Rat:=ZcX s y k v+qOf f*dotS (indI v) (t.take j)
theorem Zps(s:SysD)(y:List Zac)(k:Nat)(f:Zac)(t:List Zaj)(n:Nat):ratL n (ZgK s y k f t 0)=ratL n (ZcX s y k):=ZbP fun u _=>by unfold ZgK;rw[List.take_zero];simp only[dotS];grind
theorem Zgv{g:Int→Rat}{l:List Zaj}{k:Nat}{t:Zaj}(hx:l[k]? =some t):dotS g (l.take (k+1))=dotS g (l.take k)+qOf t.f*g t.v:=by
 rw[Yb4,hx,Option.toList_some,Zc8];simp only[dotS];grind
theorem Zpt(s:SysD)(y:List Zac)(k:Nat)(f:Zac){l:List Zaj}{j:Nat}{t:Zaj}(ht:l[j]? =some t)(h0:0≤t.v)(n:Nat):(ratL n (ZgK s y k f l j)).set t.v.toNat (cF (ofQ (ZgK s y k f l j t.v.toNat+qOf f*qOf t.f)))=ratL n (ZgK s y k f l (j+1)):=by
 rw[Znc]
 refine ZbP fun u _=>?_
 unfold ZgK
 rw[Zgv ht]
 simp only[indI]
 by_cases h:u=t.v.toNat
 ·rw[if_pos h,if_pos (by omega),h];grind
 ·rw[if_neg h,if_neg (by omega)];grind
theorem Zpq{s:SysD}{y:List Zac}{k:Nat}{w:RowD}{f:Zac}(hw:s.r[k]? =some w)(hf:y[k]? =some f)(n:Nat):ratL n (ZgK s y k f w.t w.t.length)=ratL n (ZcX s y (k+1)):=ZbP fun u _=>by
 unfold ZgK ZcX;rw[ZhE _ _ _ _ _ _ hw hf,Yc2]
theorem Zpr{s:SysD}{y:List Zac}{k:Nat}{w:RowD}{f:Zac}(hw:s.r[k]? =some w)(hf:y[k]? =some f)(h0:qOf f=0)(n:Nat):ratL n (ZcX s y (k+1))=ratL n (ZcX s y k):=ZbP fun u _=>by
 unfold ZcX;rw[ZhE _ _ _ _ _ _ hw hf,h0];grind
theorem Zpp(s:SysD)(y:List Zac)(n:Nat):ratL n (ZcX s y 0)=ratL n (fun _=>0):=ZbP fun u _=>by unfold ZcX;rw[List.take_zero,ZhD]
theorem Zwk(A:Rat)(f:Rat)(v:Int){B:Nat}:∀ (l:List Zaj),(∀ t∈l,szF t.f≤B∧okF t.f=true)→∀ j,j≤l.length→szQ (A+f*dotS (indI v) (l.take j))≤szQ A+j*(szQ f+B+1):=by
 intro l hl j
 induction j with
 | zero =>
   intro _
   rw[List.take_zero,show A+f*dotS (indI v) []=A by simp only[dotS];grind]
   omega
 | succ j ih =>
   intro hj
   obtain⟨t,ht⟩:=getE (l:=l) (k:=j) (by omega)
   obtain⟨h1,h2⟩:=hl t (ZaR ht)
   have i1:=ih (by omega)
   rw[Zgv ht,Nat.add_mul,Nat.one_mul]
   by_cases hv:t.v=v
   ·rw[show A+f*(dotS (indI v) (l.take j)+qOf t.f*indI v t.v)=(A+f*dotS (indI v) (l.take j))+f*qOf t.f by simp only[indI,if_pos hv];grind]
    have i2:=ZfA (A+f*dotS (indI v) (l.take j)) (f*qOf t.f)
    have i3:=ZeA f (qOf t.f)
    rw[ZbO h2]at i3
    omega
   ·rw[show A+f*(dotS (indI v) (l.take j)+qOf t.f*indI v t.v)=A+f*dotS (indI v) (l.take j) by simp only[indI,if_neg hv];grind]
    omega
theorem Zn6{A:Rat}{f:Zac}{w:RowD}{n:Int}(v:Int)(hf:tnF f)(ho:okF f=true)(hw:tnT w.t)(hr:Zat w.t n=true){j:Nat}(hj:j≤w.t.length):(szQ (A+qOf f*dotS (indI v) (w.t.take j)):Int)≤szQ A+(j:Int)*524289:=by
 have h:=Zwk A (qOf f) v (B:=262144) w.t (fun t ht=>⟨by have:=hw.2 t ht;unfold tnF at this;omega,(ZbW hr ht).2.2.1⟩) j hj
 rw[ZbO ho]at h
 have h2:szF f≤262144:=by unfold tnF at hf;omega
 have h3:j*(szF f+262144+1)≤j*524289:=Nat.mul_le_mul_left _ (by omega)
 have:=Int.ofNat_le.2 (Yc7 h (Nat.add_le_add_left h3 _))
 simp only[Int.natCast_add,Int.natCast_mul]at this
 omega
theorem Zoi{s:SysD}(hr:ZaF s=true){w:RowD}(hw:w∈s.r):Zat w.t s.n=true:=by
 have:=Ze2 hr hw
 simp only[Zcv,Ya2]at this
 exact this.1.1.1
theorem ZmP{s:SysD}{y:List Zac}(hs:tnS s)(hy:tnFs y)(ho:okP y=true)(hr:ZaF s=true)(v:Nat):∀ k,k≤y.length→k≤s.r.length→(szQ (ZcX s y k v):Int)≤4+(k:Int)*33554496:=by
 intro k
 induction k with
 | zero=>intro _ _;unfold ZcX;rw[List.take_zero,ZhD];have:szQ 0≤4:=ZcW 0 (by decide) (by decide);omega
 | succ k ih =>
   intro h1 h2
   obtain⟨f,hf⟩:=getE (l:=y) (k:=k) (by omega)
   obtain⟨w,hw⟩:=getE (l:=s.r) (k:=k) (by omega)
   have sw:=hs.2 w (ZaR hw)
   have h3:=Zn6 (A:=ZcX s y k v) v (hy.2 f (ZaR hf)) (Ya6.1 ho f (ZaR hf)) sw.1 (Zoi hr (ZaR hw)) (Ya4 _)
   have h4:=ih (by omega) (by omega)
   have h5:(w.t.length:Int)≤64:=sw.1.1
   have e:ZcX s y (k+1) v=ZcX s y k v+qOf f*dotS (indI v) (w.t.take w.t.length):=by unfold ZcX;rw[ZhE _ _ _ _ _ _ hw hf,Yc2]
   rw[e]
   omega
theorem Zn5{s:SysD}{y:List Zac}(hs:tnS s)(hy:tnFs y)(ho:okP y=true)(hr:ZaF s=true):∀ k,k≤y.length→k≤s.r.length→(szQ (mixV (s.r.take k) (y.take k)):Int)≤4+(k:Int)*524289:=by
 intro k
 induction k with
 | zero=>intro _ _;rw[List.take_zero,Zki];have:szQ 0≤4:=ZcW 0 (by decide) (by decide);omega
 | succ k ih =>
   intro h1 h2
   obtain⟨f,hf⟩:=getE (l:=y) (k:=k) (by omega)
   obtain⟨w,hw⟩:=getE (l:=s.r) (k:=k) (by omega)
   have h3:=ih (by omega) (by omega)
   have zf:(szF f:Int)≤262144:=hy.2 f (ZaR hf)
   have zv:(szF w.v:Int)≤262144:=(hs.2 w (ZaR hw)).2
   have o1:=Ya6.1 ho f (ZaR hf)
   have o2:=(ZdE hr (ZaR hw)).2.2.2
   rw[Zkj _ _ _ _ _ hw hf]
   have i2:=ZfA (mixV (s.r.take k) (y.take k)) (qOf f*qOf w.v)
   have i3:=ZeA (qOf f) (qOf w.v)
   rw[ZbO o1,ZbO o2]at i3
   omega
def valQ(s:SysD)(y:List Zac)(k:Nat):Rat:=mixV (s.r.take k) (y.take k)
theorem ZqV(s:SysD)(y:List Zac):valQ s y 0=0:=by unfold valQ;rw[List.take_zero,Zki]
theorem Zk4{s:SysD}{y:List Zac}{k:Nat}{w:RowD}{f:Zac}(hw:s.r[k]? =some w)(hf:y[k]? =some f):valQ s y (k+1)=valQ s y k+qOf f*qOf w.v:=Zkj _ _ _ _ _ hw hf
theorem ZmM{n:Nat}{c:Nat→Rat}(h:c n≠0):ZaV (n+1) c=ZaV n c++[⟨(n:Int),ofQ (c n)⟩]:=by rw[Zcs,if_neg h]
theorem Zk9{n:Nat}{c:Nat→Rat}(h:c n=0):ZaV (n+1) c=ZaV n c:=by rw[Zcs,if_pos h,List.append_nil]
theorem Zk8(c:Nat→Rat):ZaV 0 c=[]:=rfl
theorem ZzB(s:SysD)(y:List Zac)(hs:tnS s)(hy:tnFs y):Zag Tryz.prog 120 [encS s,ZaM y] (.tup [ZbT (ZlO s y).1,encF (ZlO s y).2]):=by
 have Zr:=Tryz.results120
 have k1:=ZsY s y hs.sm hy.sm
 cases h1:Zfm s y
 ·rw[h1]at k1
  refine inC Tryz.func120 rfl Tryz.ntmps120 ?_
  rw[show ZlO s y=([],zF) by simp[ZlO,h1]]
  refine aGo Zr ?_
  repeat with_reducible intro K hK
  rfl
 rw[h1]at k1
 obtain⟨hr,hlen,hok⟩:=ZdJ.1 h1
 have hn:=Zhz hr
 have hly:=hy.1
 have kz:=Ziy 0 (by decide) (by decide)
 rw[Rat.intCast_zero]at kz
 obtain⟨N,hN⟩:∃ N,s.n.toNat=N:=⟨_,rfl⟩
 have hNn:s.n=(N:Int):=by omega
 have hrep:List.replicate s.n.toNat [D.v (.int .i64 0),D.nil,D.v (.int .i64 0),D.nil]=Zfn N 0:=by rw[hN];exact(Zmc _).symm
 have hlf:=ZhK N 0
 have n0:=hn.1
 have n1:(24:Int)*s.n≤140737488355328:=by omega
 have n2:s.n≤9007199254740992:=by omega
 have n3:s.n≤s.n:=Int.le_refl _
 rw[show ZlO s y=(mixT s y,ofQ (mixV s.r y)) by simp[ZlO,h1]]
 have hmix:mixT s y=ZaV N (fun v=>mixG (indI v) s.r y):=by unfold mixT;rw[hN]
 rw[hmix]
 refine inC Tryz.func120 rfl Tryz.ntmps120 ?_
 refine aGo (cj4 Zr hrep hlf (cj4 n0 n1 n2 n3)) ?_
 repeat with_reducible intro K hK
 refine ZaE (fun(k:Nat)=>[(1,ZaM y),(2,.lp 0 0 0 0),(5,.lp 1 0 0 0),(6,.ls 2 1),(24,.ls 2 1),(25,dI N),(26,dI k)]) (fun k=>[(0,⟨102,0,2,[cS s],0,false⟩),(1,⟨34,0,4,[zc],0,false⟩),(2,⟨34,1,4,Zfn N k,0,false⟩)]) 3 0 (fun k=>k≤N) (fun k=>N-k) 0 (by omega) ?_ ?_
 ·exact leGo (cj2 Zfs Zdp)
 ·rintro k hk
  obtain⟨hw,h0⟩:=Za6 k
  have hl:=ZhK N k
  by_cases h2:(k:Int)<N
  ·have hg:(Zfn N k)[k]? =some zc:=by unfold Zfn;rw[Zez _ (by omega),if_neg (by omega)]
   have hset:=ZoP N k
   refine aGo (cj4 Zr h0 h2 (cj4 hw hl hg (cj2 hset Yb0))) ?_
   repeat with_reducible intro K hK
   exact Zai (k+1) (by omega) (by omega) (by exact leGo (cj2 Zfs Zdp))
  ·obtain rfl:k=N:=by omega
   have hf0:Zfn k k=ratL k (ZcX s y 0):=(ZoQ k).trans (Zpp s y k).symm
   have hv0:=ZqV s y
   rw[hf0]
   refine aGo (cj2 Zr h2) ?_
   repeat with_reducible intro K hK
   refine ZaE (fun(i:Nat)=>[(2,.lp 0 0 0 0),(5,.lp 1 0 0 0),(6,.ls 2 1),(8,.lp 3 0 0 0),(35,ZaM y),(36,dI y.length),(37,dI i)]) (fun i=>[(0,⟨102,0,2,[cS s],0,false⟩),(1,⟨34,0,4,[zc],0,false⟩),(2,⟨34,1,4,ratL k (ZcX s y i),0,false⟩),(3,⟨34,0,4,[cF (ofQ (valQ s y i))],0,false⟩)]) 4 0 (fun i=>i≤y.length) (fun i=>y.length-i) 0 (by omega) ?_ ?_
   ·exact leGo (cj3 Zfs Zdp hv0)
   ·rintro i hi
    obtain⟨hwi,i0⟩:=Za6 i
    have hli:=ZgP k (ZcX s y i)
    by_cases h3:(i:Int)<y.length
    ·obtain⟨f,hf⟩:=getE (l:=y) (k:=i) (by omega)
     obtain⟨w,hrw⟩:=getE (l:=s.r) (k:=i) (by omega)
     have h3b:(i:Int)<s.r.length:=by omega
     have tf:=hy.2 f (ZaR hf)
     have tw:=hs.2 w (ZaR hrw)
     have of:=Ya6.1 hok f (ZaR hf)
     have ow:=(ZdE hr (ZaR hrw)).2.2.2
     have rw':=Zoi hr (ZaR hrw)
     have ks:=Zc4 f (ZfC tf.sm)
     cases h4:sgnD f==0
     rotate_left
     ·have q0:qOf f=0:=by
       have:sgnD f=0:=by simpa using h4
       simp only[sgnD,of,if_true]at this
       exact Zf3.1 this
      have e1:=Zpr hrw hf q0 k
      have e2:valQ s y (i+1)=valQ s y i:=by rw[Zk4 hrw hf,q0];grind
      refine aGo (cj4 Zr i0 h3 (cj4 h3b hf hrw (cj2 hwi h4))) ?_
      repeat with_reducible intro K hK
      exact Zai (i+1) (by omega) (by omega) (by exact leGo (cj4 Zfs Zdp e1 e2))
     ·refine aGo (cj4 Zr i0 h3 (cj4 h3b hf hrw (cj2 hwi h4))) ?_
      repeat with_reducible intro K hK
      have hj0:=Zps s y i f w.t k
      have hlw:=tw.1.1
      refine ZaE (fun(j:Nat)=>[(2,.lp 0 0 0 0),(5,.lp 1 0 0 0),(6,.ls 2 1),(8,.lp 3 0 0 0),(9,dI i),(10,.lp 4 0 0 0),(35,ZaM y),(36,dI y.length),(37,dI i),(50,ZbT w.t),(51,dI w.t.length),(52,dI j)]) (fun j=>[(0,⟨102,0,2,[cS s],0,false⟩),(1,⟨34,0,4,[zc],0,false⟩),(2,⟨34,1,4,ratL k (ZgK s y i f w.t j),0,false⟩),(3,⟨34,0,4,[cF (ofQ (valQ s y i))],0,false⟩),(4,⟨34,0,4,[cF f],0,false⟩)]) 5 0 (fun j=>j≤w.t.length) (fun j=>w.t.length-j) 0 (by omega) ?_ ?_
      ·exact leGo (cj3 Zfs Zdp hj0)
      ·rintro j hj
       obtain⟨hwj,j0⟩:=Za6 j
       have hlj:=ZgP k (ZgK s y i f w.t j)
       by_cases h5:(j:Int)<w.t.length
       ·obtain⟨t,ht⟩:=getE (l:=w.t) (k:=j) (by omega)
        obtain⟨t0,t1,t2,_⟩:=ZbW rw' (ZaR ht)
        rw[hNn]at t1
        have hg:=Zid (n:=k) (ZgK s y i f w.t j) (k:=t.v.toNat) (by omega)
        have hset:=Zpt s y i f ht t0 k
        have z1:=ZmP hs hy hok hr t.v.toNat i hi (by omega)
        have z2:=Zn6 (A:=ZcX s y i t.v.toNat) (n:=s.n) t.v.toNat tf of tw.1 rw' hj
        have ka:=Zs6 (ZgK s y i f w.t j t.v.toNat) f t.f of t2 (by unfold ZgK;omega) tf.sm (tw.1.2 t (ZaR ht)).sm
        refine aGo (cj4 Zr j0 h5 (cj4 ht t0 t1 (cj4 hg hset hlj (cj2 hwj Yb0)))) ?_
        repeat with_reducible intro K hK
        exact Zai (j+1) (by omega) (by omega) (by exact leGo (cj2 Zfs Zdp))
       ·obtain rfl:j=w.t.length:=by omega
        have e1:=Zpq hrw hf k
        have e2:=Zk4 hrw hf
        have zv:=Zn5 hs hy hok hr i hi (by omega)
        have ka:=Zs6 (valQ s y i) f w.v of ow (by unfold valQ;omega) tf.sm tw.2.sm
        refine aGo (cj4 Zr h5 i0 (cj3 h3b hrw hwi)) ?_
        repeat with_reducible intro K hK
        exact Zai (i+1) (by omega) (by omega) (by exact leGo (cj4 Zfs Zdp e1 e2))
    ·obtain rfl:i=y.length:=by omega
     obtain⟨c,hc⟩:∃ c:Nat→Rat,(fun v:Nat=>mixG (indI v) s.r y)=c:=⟨_,rfl⟩
     have e1:ratL k (ZcX s y y.length)=ratL k c:=ZbP fun u _=>by
      rw[← hc];unfold ZcX;rw[hlen,Yc2,← hlen,Yc2]
     have e2:valQ s y y.length=mixV s.r y:=by unfold valQ;rw[hlen,Yc2,← hlen,Yc2]
     have zc':∀ u,(szQ (c u):Int)≤549755813888:=fun u=>by
      have h:=ZmP hs hy hok hr u y.length (Ya4 _) (by omega)
      unfold ZcX at h
      rw[hlen,Yc2,← hlen,Yc2]at h
      rw[← hc];dsimp only;omega
     rw[e1,e2]
     have hlc:=ZgP k c
     refine aGo (cj3 Zr h3 hlc) ?_
     repeat with_reducible intro K hK
     refine aLe (Zis 13 171 5 rfl) ?_
     have ht0:=Zk8 c
     refine ZaE (fun(u:Nat)=>[(5,.lp 1 0 0 0),(8,.lp 3 0 0 0),(13,.ls 4 (ZaV u c).length),(80,.ls 2 1),(81,dI k),(82,dI u)]) (fun u=>[(1,⟨34,0,4,[zc],0,false⟩),(2,⟨34,1,4,ratL k c,0,false⟩),(3,⟨34,0,4,[cF (ofQ (mixV s.r y))],0,false⟩),(4,⟨171,(ZaV u c).length,5,(ZaV u c).map cT,0,false⟩)]) 5 0 (fun u=>u≤k) (fun u=>k-u) 0 (by omega) ?_ ?_
     ·exact leGo (cj3 Zfs Zdp ht0)
     ·rintro u hu
      obtain⟨hwu,u0⟩:=Za6 u
      have htl:=ZhY c u
      by_cases h6:(u:Int)<k
      ·have hg:=Zid c (show u<k by omega)
       have ks:=Zc4 (ofQ (c u)) (by rw[Zfz];exact zc' u)
       rw[Ze0]at ks
       by_cases h7:c u=0
       ·have h8:(sgQ (c u) !=0)=false:=by simp[Zf3.2 h7]
        have e3:=Zk9 h7
        refine aGo (cj4 Zr u0 h6 (cj4 hg hlc hwu h8)) ?_
        repeat with_reducible intro K hK
        exact Zai (u+1) (by omega) (by omega) (by exact leGo (cj3 Zfs Zdp e3))
       ·have h8:(sgQ (c u) !=0)=true:=by simp[Zf3,h7]
        have e3:=ZmM h7
        refine aGo (cj4 Zr u0 h6 (cj4 hg hlc hwu h8)) ?_
        repeat with_reducible intro K hK
        exact Zai (u+1) (by omega) (by omega) (by exact leGo (cj3 Zfs Zdp e3))
      ·obtain rfl:u=k:=by omega
       refine aGo (cj2 Zr h6) ?_
       repeat with_reducible intro K hK
       rw[ZbI (fun _=>rfl),hc]
theorem Ztm{n:Nat}{a b:List Zaj}(ha:Zat a n=true)(hb:Zat b n=true):Zhn a b=ZiO n a b:=by
 rw[Bool.eq_iff_iff,ZdY,ZjS ha hb]
theorem ZmN{n:Nat}{c:Nat→Rat}{t:Zaj}(h:t∈ZaV n c):∃ v,v<n∧t=⟨(v:Int),ofQ (c v)⟩:=by
 unfold ZaV at h
 obtain⟨v,hv,e⟩:=List.mem_filterMap.1 h
 split at e
 ·cases e
 ·cases e;exact⟨v,Yd2.1 hv,rfl⟩
theorem Zxb{s:SysD}{y:List Zac}(hs:tnS s)(hy:tnFs y)(hm:Zfm s y=true):wkT (mixT s y):=by
 obtain⟨hr,hlen,hok⟩:=ZdJ.1 hm
 have hn:=Zhz hr
 have hly:=hy.1
 refine⟨by have:=ZhY (fun v=>mixG (indI v) s.r y) s.n.toNat;unfold mixT;omega,fun t ht=>?_⟩
 obtain⟨v,_,rfl⟩:=ZmN ht
 have h:=ZmP hs hy hok hr v y.length (Ya4 _) (by omega)
 unfold ZcX at h
 rw[hlen,Yc2,← hlen,Yc2]at h
 rw[Zfz]
 omega
theorem Zwl{s:SysD}{y:List Zac}(hs:tnS s)(hy:tnFs y)(hm:Zfm s y=true):(szQ (mixV s.r y):Int)≤33554500:=by
 obtain⟨hr,hlen,hok⟩:=ZdJ.1 hm
 have h:=Zn5 hs hy hok hr y.length (Ya4 _) (by omega)
 have hly:=hy.1
 rw[hlen,Yc2,← hlen,Yc2]at h
 omega
theorem ZmI{s:SysD}{goal:List Zaj}{y:List Zac}(h:(ZcE s y&&Zat goal s.n&&ZiO s.n.toNat (mixT s y) goal)=false):D.tup [encF zF,dB false]=D.tup [encF (Za2 s goal y).1,dB (Za2 s goal y).2]:=by
 unfold Za2;rw[h];rfl
theorem Zo0(s:SysD)(goal:List Zaj)(y:List Zac)(hs:tnS s)(hg:smT goal)(hy:tnFs y):Zag Tryz.prog 73 [encS s,ZbT goal,ZaM y] (.tup [encF (Za2 s goal y).1,dB (Za2 s goal y).2]):=by
 have Zr:=Tryz.results73
 have k1:=ZsV s y hs.sm hy.sm
 have k2:=Ze7 goal s.n hg
 cases h1:ZcE s y
 ·rw[h1]at k1
  refine inC Tryz.func73 rfl Tryz.ntmps73 ?_
  refine aGo Zr ?_
  repeat with_reducible intro K hK
  exact ZmI (by rw[h1];rfl)
 rw[h1]at k1
 cases h2:Zat goal s.n
 ·rw[h2]at k2
  refine inC Tryz.func73 rfl Tryz.ntmps73 ?_
  refine aGo Zr ?_
  repeat with_reducible intro K hK
  exact ZmI (by rw[h2];simp)
 rw[h2]at k2
 have hm:Zfm s y=true:=by simp only[ZcE,Ya2]at h1;exact h1.1
 obtain⟨hr,hlen,hok⟩:=ZdJ.1 hm
 have k3:=ZzB s y hs hy
 rw[show ZlO s y=(mixT s y,ofQ (mixV s.r y)) by simp[ZlO,hm]]at k3
 have k4:=Zvj s.n.toNat (mixT s y) goal (Ze5 hr y) (ZfG h2) (Zxb hs hy hm) hg.wk
 rw[Ztm (Ze5 hr y) (ZfG h2)]at k4
 cases h3:ZiO s.n.toNat (mixT s y) goal
 ·rw[h3]at k4
  refine inC Tryz.func73 rfl Tryz.ntmps73 ?_
  refine aGo Zr ?_
  repeat with_reducible intro K hK
  exact ZmI (by rw[h3,Bool.and_false])
 ·rw[h3]at k4
  refine inC Tryz.func73 rfl Tryz.ntmps73 ?_
  rw[show Za2 s goal y=(ofQ (mixV s.r y),true) by simp[Za2,h1,h2,h3]]
  exact aGo Zr trivial
theorem ZtN{s:SysD}{goal:List Zaj}{y:List Zac}(hs:tnS s)(hy:tnFs y):(szF (Za2 s goal y).1:Int)≤33554500:=by
 unfold Za2
 split
 ·rename_i h
  simp only[Ya2,ZcE]at h
  exact Zwl hs hy h.1.1.1
 ·show(szF zF:Int)≤_
  decide
theorem ZjO(s:SysD)(y:List Zac)(hs:tnS s)(hy:tnFs y):Zag Tryz.prog 33 [encS s,ZaM y] (dB (Zb1 s y)):=by
 have Zr:=Tryz.results33
 have k1:=Zo0 s [] y hs ⟨by decide,fun t ht=>by cases ht⟩ hy
 have z:=ZtN (goal:=[]) hs hy
 have k2:=Zc4 (Za2 s [] y).1 (by omega)
 have e:Zb1 s y=((Za2 s [] y).2&&decide (sgnD (Za2 s [] y).1>0)):=rfl
 cases h:(Za2 s [] y).2
 ·rw[h]at k1
  refine inC Tryz.func33 rfl Tryz.ntmps33 ?_
  refine aGo Zr ?_
  repeat with_reducible intro K hK
  exact Zae (by rw[e,h];rfl)
 ·rw[h]at k1
  refine inC Tryz.func33 rfl Tryz.ntmps33 ?_
  refine aGo Zr ?_
  repeat with_reducible intro K hK
  exact Zae (by rw[e,h];rfl)
theorem ZdH{s:SysD}{goal:List Zaj}{d:List Zac}(h:rayD s goal d=false):D.v (.bool false)=dB (rayD s goal d):=Zae h.symm
theorem ZzA(s:SysD)(goal:List Zaj)(d:List Zac)(hs:smS s)(hg:smT goal)(hd:smFs d):Zag Tryz.prog 83 [encS s,ZbT goal,ZaM d] (dB (rayD s goal d)):=by
 have Zr:=Tryz.results83
 have hl:=ZmY hs
 have hlx:=ZeZ hd
 have k1:=Zgi s hs
 have k2:=Ze7 goal s.n hg
 cases h1:ZaF s
 ·rw[h1]at k1
  refine inC Tryz.func83 rfl Tryz.ntmps83 ?_
  refine aGo Zr ?_
  repeat with_reducible intro K hK
  exact ZdH (by simp[rayD,h1])
 rw[h1]at k1
 cases h2:Zat goal s.n
 ·rw[h2]at k2
  refine inC Tryz.func83 rfl Tryz.ntmps83 ?_
  refine aGo Zr ?_
  repeat with_reducible intro K hK
  exact ZdH (by simp[rayD,h2])
 rw[h2]at k2
 cases h3:(d.length:Int) !=s.n
 rotate_left
 ·refine inC Tryz.func83 rfl Tryz.ntmps83 ?_
  refine aGo (cj2 Zr h3) ?_
  repeat with_reducible intro K hK
  exact ZdH (by simp at h3;simp[rayD,h3])
 have hn:(d.length:Int)=s.n:=by simpa using h3
 refine inC Tryz.func83 rfl Tryz.ntmps83 ?_
 refine aGo (cj2 Zr h3) ?_
 repeat with_reducible intro K hK
 refine ZaE (fun(k:Nat)=>[(1,ZbT goal),(2,ZaM d),(3,.lp 0 0 0 0),(33,ZaM d),(34,dI d.length),(35,dI k)]) (fun k=>[(0,⟨102,0,2,[cS s],0,false⟩)]) 1 0 (fun k=>k≤d.length∧(d.take k).all okF=true∧(d.take k).all (fun f=>decide (0≤sgnD f))=true) (fun k=>d.length-k) 0 ⟨by omega,rfl,rfl⟩ ?_ ?_
 ·exact leGo trivial
 ·rintro k ⟨hk,hg1,hg2⟩
  obtain⟨hw,h0⟩:=Za6 k
  by_cases h4:(k:Int)<d.length
  ·obtain⟨f,hx⟩:=getE (l:=d) (k:=k) (by omega)
   have k3:=Zc4 f (ZfC (hd.2 f (ZaR hx)))
   have k4:=ZbA f (ZfC (hd.2 f (ZaR hx)))
   cases h5:okF f
   ·rw[h5]at k4
    refine aGo (cj4 Zr h0 h4 (cj2 hx hw)) ?_
    repeat with_reducible intro K hK
    exact ZdH (by simp[rayD,okP,Zbf hx h5])
   rw[h5]at k4
   by_cases h6:sgnD f<0
   ·refine aGo (cj4 Zr h0 h4 (cj3 hx hw h6)) ?_
    repeat with_reducible intro K hK
    exact ZdH (by have:Zge d=false:=Zbf hx (by simp;omega);simp[rayD,this])
   ·refine aGo (cj4 Zr h0 h4 (cj3 hx hw h6)) ?_
    repeat with_reducible intro K hK
    exact Zai (k+1) ⟨by omega,Zan hx hg1 h5,Zan hx hg2 (by simp;omega)⟩ (by omega) (by exact leGo trivial)
  ·rw[Ya8 (by omega)]at hg1 hg2
   refine aGo (cj2 Zr h4) ?_
   repeat with_reducible intro K hK
   refine ZaE (fun(k:Nat)=>[(1,ZbT goal),(2,ZaM d),(49,ZsQ s.r),(50,dI s.r.length),(51,dI k)]) (fun k=>[]) 0 0 (fun k=>k≤s.r.length∧(s.r.take k).all (fun w=>Zdd w.k (sgQ (dotD w.t d)))=true) (fun k=>s.r.length-k) 0 ⟨by omega,rfl⟩ ?_ ?_
   ·exact leGo trivial
   ·rintro k ⟨hk,hr⟩
    obtain⟨hw,h0⟩:=Za6 k
    by_cases h4:(k:Int)<s.r.length
    ·obtain⟨w,hx⟩:=getE (l:=s.r) (k:=k) (by omega)
     obtain⟨h6,h7⟩:=Zl3 h1 hn hx
     have sm:=hs.2 w (ZaR hx)
     have k3:=Zkw w.t d sm.1 hd
     rw[Zi5 (by rw[h6,show okP d=true from hg1];rfl)]at k3
     have k4:=Zc4 (ofQ (dotD w.t d)) (by have:=ZmS w d sm.1 hd h6 hg1;omega)
     rw[Ze0]at k4
     have bad:Zdd w.k (sgQ (dotD w.t d))=false→D.v (.bool false)=dB (rayD s goal d):=fun h=>ZdH (by simp[rayD,Zbf (p:=fun w:RowD=>Zdd w.k (sgQ (dotD w.t d))) hx h])
     have good:Zdd w.k (sgQ (dotD w.t d))=true→(s.r.take (k+1)).all (fun w=>Zdd w.k (sgQ (dotD w.t d)))=true:=fun h=>Zan (p:=fun w:RowD=>Zdd w.k (sgQ (dotD w.t d))) hx hr h
     generalize sgQ (dotD w.t d)=c at *
     by_cases g1:c<0
     ·have g3:¬ c>0:=by omega
      cases g2:w.k !=1
      ·refine aGo (cj4 Zr h0 h4 (cj4 hx hw g1 (cj2 g2 g3))) ?_
       repeat with_reducible intro K hK
       exact Zai (k+1) ⟨by omega,good (by simp at g2;simp[Zdd,g2];omega)⟩ (by omega) (by exact leGo trivial)
      ·refine aGo (cj4 Zr h0 h4 (cj4 hx hw g1 (cj2 g2 g3))) ?_
       repeat with_reducible intro K hK
       exact bad (by simp at g2;simp[Zdd,g2];omega)
     by_cases g3:c>0
     ·cases g2:w.k !=0
      ·refine aGo (cj4 Zr h0 h4 (cj4 hx hw g1 (cj2 g2 g3))) ?_
       repeat with_reducible intro K hK
       exact Zai (k+1) ⟨by omega,good (by simp at g2;simp[Zdd,g2];omega)⟩ (by omega) (by exact leGo trivial)
      ·refine aGo (cj4 Zr h0 h4 (cj4 hx hw g1 (cj2 g2 g3))) ?_
       repeat with_reducible intro K hK
       exact bad (by simp at g2;simp[Zdd,g2];omega)
     ·refine aGo (cj4 Zr h0 h4 (cj4 hx hw g1 g3)) ?_
      repeat with_reducible intro K hK
      exact Zai (k+1) ⟨by omega,good (by simp[Zdd];omega)⟩ (by omega) (by exact leGo trivial)
    ·rw[Ya8 (by omega)]at hr
     have k3:=Zkw goal d hg hd
     rw[Zi5 (by rw[hn,h2,show okP d=true from hg1];rfl)]at k3
     have k4:=Zc4 (ofQ (dotD goal d)) (by have:=ZmS ⟨goal,0,zF⟩ d hg hd (by rw[hn];exact h2) hg1;dsimp only at this;omega)
     rw[Ze0]at k4
     refine aGo (cj2 Zr h4) ?_
     repeat with_reducible intro K hK
     exact Zae (by simp only[rayD,h1,h2,hn,okP,Zge,hg1,hg2,hr,decide_true,Bool.and_self,Bool.true_and])
theorem Zvi(f:Zac):Zaa Tryz.prog 82 [encF f] (dB (Zfj f zF)):=by
 refine Zag.toN ?_ rfl
 have Zr:=Tryz.results82
 have e:Zfj f zF=(f.p.s==0&&f.q.s==0&&((f.p.d.length:Int)==0)&&((f.q.d.length:Int)==0)):=by
  rw[Bool.eq_iff_iff,Zlo]
  cases f with|mk p q=>cases p with|mk a b=>cases q with|mk c d =>
  simp[zF,zB,List.length_eq_zero_iff]
  constructor
  ·rintro⟨⟨rfl,rfl⟩,rfl,rfl⟩;simp
  ·rintro⟨⟨⟨rfl,rfl⟩,h1⟩,h2⟩
   exact⟨⟨rfl,by simpa using h1⟩,rfl,by simpa using h2⟩
 rw[e]
 refine inC Tryz.func82 rfl Tryz.ntmps82 ?_
 cases h1:f.p.s==0
 ·exact aGo (cj2 Zr h1) trivial
 cases h2:f.q.s==0
 ·exact aGo (cj3 Zr h1 h2) trivial
 cases h3:(f.p.d.length:Int)==0
 ·exact aGo (cj4 Zr h1 h2 h3) trivial
 exact aGo (cj4 Zr h1 h2 h3) trivial
theorem isE{α:Type}(l:List α):l.isEmpty=((l.length:Int)==0):=by
 cases l with
 | nil=>rfl
 | cons x l=>simp;omega
def tnO(o:OptD):Prop:=tnF o.v∧tnFs o.x∧tnFs o.y∧tnFs o.d
theorem Zo2(s:SysD)(goal:List Zaj)(o:OptD)(hs:tnS s)(hg:smT goal)(ho:tnO o):Zag Tryz.prog 36 [encS s,ZbT goal,encO o] (dB (Zb7 s goal o)):=by
 have Zr:=Tryz.results36
 have k1:=Zgi s hs.sm
 have k2:=Ze7 goal s.n hg
 cases h1:ZaF s
 ·rw[h1]at k1
  refine inC Tryz.func36 rfl Tryz.ntmps36 ?_
  refine aGo Zr ?_
  repeat with_reducible intro K hK
  exact Zae (by simp[Zb7,h1])
 rw[h1]at k1
 cases h2:Zat goal s.n
 ·rw[h2]at k2
  refine inC Tryz.func36 rfl Tryz.ntmps36 ?_
  refine aGo Zr ?_
  repeat with_reducible intro K hK
  exact Zae (by simp[Zb7,h2])
 rw[h2]at k2
 have c1:=Zo0 s goal o.y hs hg ho.2.2.1
 have c2:=Zkw goal o.x hg ho.2.1.sm
 have c3:=ZuI s o.x hs.sm ho.2.1.sm
 have c4:=Zsy (Zde goal o.x).1 o.v
 have c5:=Zsy (Za2 s goal o.y).1 o.v
 have c6:=ZjO s o.y hs ho.2.2.1
 have c7:=Zvi o.v
 have c8:=ZzA s goal o.d hs.sm hg ho.2.2.2.sm
 cases e0:o.k==0
 rotate_left
 ·have e0':o.k=0:=by simpa using e0
  have hd:Zb7 s goal o=((Za2 s goal o.y).2&&Zba s o.x&&Zfj (Zde goal o.x).1 o.v&&Zfj (Za2 s goal o.y).1 o.v&&((o.d.length:Int)==0)):=by
   simp only[Zb7,h1,h2,e0',if_true,Bool.true_and,isE]
  rw[hd]
  refine inC Tryz.func36 rfl Tryz.ntmps36 ?_
  cases d1:(Za2 s goal o.y).2
  ·rw[d1]at c1
   exact aGo (cj2 Zr e0) trivial
  rw[d1]at c1
  cases d2:Zba s o.x
  ·rw[d2]at c3
   exact aGo (cj2 Zr e0) trivial
  rw[d2]at c3
  cases d3:Zfj (Zde goal o.x).1 o.v
  ·rw[d3]at c4
   exact aGo (cj2 Zr e0) trivial
  rw[d3]at c4
  cases d4:Zfj (Za2 s goal o.y).1 o.v
  ·rw[d4]at c5
   exact aGo (cj2 Zr e0) trivial
  rw[d4]at c5
  exact aGo (cj2 Zr e0) trivial
 have e0':¬ o.k=0:=by simpa using e0
 cases e1:o.k==1
 rotate_left
 ·have e1':o.k=1:=by simpa using e1
  have hd:Zb7 s goal o=(Zb1 s o.y&&((o.x.length:Int)==0)&&((o.d.length:Int)==0)&&Zfj o.v zF):=by
   simp only[Zb7,h1,h2,e0',e1',if_true,if_false,Bool.true_and,isE]
   rfl
  rw[hd]
  refine inC Tryz.func36 rfl Tryz.ntmps36 ?_
  cases d1:Zb1 s o.y
  ·rw[d1]at c6
   exact aGo (cj3 Zr e0 e1) trivial
  rw[d1]at c6
  cases d2:(o.x.length:Int)==0
  ·exact aGo (cj4 Zr e0 e1 d2) trivial
  cases d3:(o.d.length:Int)==0
  ·exact aGo (cj4 Zr e0 e1 (cj2 d2 d3)) trivial
  exact aGo (cj4 Zr e0 e1 (cj2 d2 d3)) trivial
 have e1':¬ o.k=1:=by simpa using e1
 cases e2:o.k==2
 rotate_left
 ·have e2':o.k=2:=by simpa using e2
  have hd:Zb7 s goal o=(Zba s o.x&&rayD s goal o.d&&((o.y.length:Int)==0)&&Zfj o.v zF):=by
   simp only[Zb7,h1,h2,e2',if_true,Bool.true_and,isE]
   rfl
  rw[hd]
  refine inC Tryz.func36 rfl Tryz.ntmps36 ?_
  cases d1:Zba s o.x
  ·rw[d1]at c3
   exact aGo (cj4 Zr e0 e1 e2) trivial
  rw[d1]at c3
  cases d2:rayD s goal o.d
  ·rw[d2]at c8
   exact aGo (cj4 Zr e0 e1 e2) trivial
  rw[d2]at c8
  cases d3:(o.y.length:Int)==0
  ·exact aGo (cj4 Zr e0 e1 (cj2 e2 d3)) trivial
  exact aGo (cj4 Zr e0 e1 (cj2 e2 d3)) trivial
 have e2':¬ o.k=2:=by simpa using e2
 refine inC Tryz.func36 rfl Tryz.ntmps36 ?_
 refine aGo (cj4 Zr e0 e1 e2) ?_
 repeat with_reducible intro K hK
 exact Zae (by simp[Zb7,h1,h2,e0',e1',e2'])
structure Dic where
 m:Nat
 n:Nat
 own:Nat→Nat
 free:Nat→Nat
 v:Nat→Rat
 a:Nat→Nat→Rat
 g:Nat→Rat
 z:Rat
theorem ZbF(f:Nat→Rat){s:Nat}:∀ n,s<n→sumN n f=f s+sumN n (fun j=>if j=s then 0 else f j)
 | 0,h=>absurd h (Nat.not_lt_zero _)
 | n+1,h=>by
   simp only[sumN]
   by_cases e:n=s
   ·subst e
    rw[if_pos rfl,Zbw (f:=fun j=>if j=n then 0 else f j) (g:=f) n (fun i hi=>if_neg (by omega))];grind
   ·rw[if_neg e,ZbF f (s:=s) n (by omega)];grind
theorem Zn9(f g:Nat→Rat)(n:Nat):sumN n (fun i=>f i-g i)=sumN n f-sumN n g:=by
 have h:(fun i=>f i-g i)=fun i=>f i+(-1)*g i:=by funext i;grind
 rw[h,Zhx,ZeV];grind
namespace Dic
def up{α:Type}(f:Nat→α)(k:Nat)(x:α):Nat→α:=fun i=>if i=k then x else f i
def ex(d:Dic)(r s:Nat):Dic :=
 { d with
   own:=up d.own r (d.free s),free:=up d.free s (d.own r)
   v:=fun i=>if i=r then d.v r / d.a r s else d.v i-d.a i s*(d.v r / d.a r s)
   a:=fun i j=>if i=r then(if j=s then 1 / d.a r s else d.a r j / d.a r s)else if j=s then 0-d.a i s*(1 / d.a r s)else d.a i j-d.a i s*(d.a r j / d.a r s)
   g:=fun j=>if j=s then 0-d.g s*(1 / d.a r s)else d.g j-d.g s*(d.a r j / d.a r s)
   z:=d.z+d.g s*(d.v r / d.a r s)}
def Row(d:Dic)(k:Rat)(x:Nat→Rat)(i:Nat):Prop:=x (d.own i)=d.v i*k-sumN d.n fun j=>d.a i j*x (d.free j)
def Sol(d:Dic)(k:Rat)(x:Nat→Rat):Prop:=∀ i,i<d.m→d.Row k x i
def obj(d:Dic)(k:Rat)(x:Nat→Rat):Rat:=d.z*k+sumN d.n fun j=>d.g j*x (d.free j)
structure Part (d:Dic):Prop where
 own_lt:∀ i,i<d.m→d.own i<d.n+d.m
 free_lt:∀ j,j<d.n→d.free j<d.n+d.m
 own_inj:∀ i i',i<d.m→i'<d.m→d.own i=d.own i'→i=i'
 free_inj:∀ j j',j<d.n→j'<d.n→d.free j=d.free j'→j=j'
 apart:∀ i j,i<d.m→j<d.n→d.own i≠d.free j
 all:∀ q,q<d.n+d.m→(∃ i,i<d.m∧d.own i=q)∨∃ j,j<d.n∧d.free j=q
theorem ZsL{d:Dic}(h:Part d){r s:Nat}(hr:r<d.m)(hs:s<d.n):Part (d.ex r s):=by
 refine⟨fun i hi=>?_,fun j hj=>?_,fun i i' hi hi' e=>?_,fun j j' hj hj' e=>?_,fun i j hi hj e=>?_,fun q hq=>?_⟩
 ·simp only[ex,up]at *
  split
  ·exact h.free_lt s hs
  ·exact h.own_lt i hi
 ·simp only[ex,up]at *
  split
  ·exact h.own_lt r hr
  ·exact h.free_lt j hj
 ·simp only[ex,up]at *
  split at e<;>split at e
  ·omega
  ·exact absurd e.symm (h.apart _ _ hi' hs)
  ·exact absurd e (h.apart _ _ hi hs)
  ·exact h.own_inj _ _ hi hi' e
 ·simp only[ex,up]at *
  split at e<;>split at e
  ·omega
  ·exact absurd e (h.apart _ _ hr hj')
  ·exact absurd e.symm (h.apart _ _ hr hj)
  ·exact h.free_inj _ _ hj hj' e
 ·simp only[ex,up]at *
  split at e<;>split at e
  ·exact h.apart _ _ hr hs e.symm
  ·rename_i h1 h2;exact h2 (h.free_inj _ _ hj hs e.symm)
  ·rename_i h1 h2;exact h1 (h.own_inj _ _ hi hr e)
  ·exact h.apart _ _ hi hj e
 ·simp only[ex,up]at *
  rcases h.all q hq with⟨i,hi,e⟩|⟨j,hj,e⟩
  ·by_cases hir:i=r
   ·subst hir;exact .inr ⟨s,hs,by rw[if_pos rfl];exact e⟩
   ·exact .inl ⟨i,hi,by rw[if_neg hir];exact e⟩
  ·by_cases hjs:j=s
   ·subst hjs;exact .inl ⟨r,hr,by rw[if_pos rfl];exact e⟩
   ·exact .inr ⟨j,hj,by rw[if_neg hjs];exact e⟩
theorem ZoT{d:Dic}{r s:Nat}(hs:s<d.n)(hp:d.a r s≠0)(k:Rat)(x:Nat→Rat):(d.ex r s).Row k x r↔d.Row k x r:=by
 unfold Row
 rw[ZbF _ (d.ex r s).n (s:=s) hs,ZbF _ d.n hs]
 have e:sumN (d.ex r s).n (fun j=>if j=s then 0 else(d.ex r s).a r j*x ((d.ex r s).free j))=(1 / d.a r s)*sumN d.n (fun j=>if j=s then 0 else d.a r j*x (d.free j)):=by
  rw[← ZeV]
  refine Zbw _ fun j _=>?_
  by_cases h:j=s
  ·rw[if_pos h,if_pos h];grind
  ·rw[if_neg h,if_neg h];simp only[ex,up,if_neg h,if_pos];grind
 rw[e]
 simp only[ex,up,if_pos]
 have h1:d.a r s*(1 / d.a r s)=1:=by grind
 grind
theorem ZvZ{d:Dic}{r s i:Nat}(hs:s<d.n)(hp:d.a r s≠0)(hi:i≠r){k:Rat}{x:Nat→Rat}(hx:d.Row k x r):(d.ex r s).Row k x i↔d.Row k x i:=by
 unfold Row at hx ⊢
 rw[ZbF _ d.n hs]at hx
 rw[ZbF _ (d.ex r s).n (s:=s) hs,ZbF _ d.n hs]
 have e:sumN (d.ex r s).n (fun j=>if j=s then 0 else(d.ex r s).a i j*x ((d.ex r s).free j))=sumN d.n (fun j=>if j=s then 0 else d.a i j*x (d.free j))-d.a i s*(1 / d.a r s)*sumN d.n (fun j=>if j=s then 0 else d.a r j*x (d.free j)):=by
  rw[← ZeV,← Zn9]
  refine Zbw _ fun j _=>?_
  by_cases h:j=s
  ·rw[if_pos h,if_pos h,if_pos h];grind
  ·rw[if_neg h,if_neg h,if_neg h];simp only[ex,up,if_neg h,if_neg hi];grind
 rw[e]
 simp only[ex,up,if_pos,if_neg hi]
 have h1:d.a r s*(1 / d.a r s)=1:=by grind
 grind
theorem Zzv{d:Dic}{r s:Nat}(hr:r<d.m)(hs:s<d.n)(hp:d.a r s≠0)(k:Rat)(x:Nat→Rat):(d.ex r s).Sol k x↔d.Sol k x:=by
 constructor
 ·intro h i hi
  have h0:=(ZoT hs hp k x).1 (h r hr)
  by_cases e:i=r
  ·subst e;exact h0
  ·exact(ZvZ hs hp e h0).1 (h i hi)
 ·intro h i hi
  have h0:=h r hr
  by_cases e:i=r
  ·subst e;exact(ZoT hs hp k x).2 h0
  ·exact(ZvZ hs hp e h0).2 (h i hi)
theorem Zzx{d:Dic}{r s:Nat}(hs:s<d.n)(hp:d.a r s≠0){k:Rat}{x:Nat→Rat}(hx:d.Row k x r):(d.ex r s).obj k x=d.obj k x:=by
 unfold Row at hx
 unfold obj
 rw[ZbF _ d.n hs]at hx
 rw[ZbF _ (d.ex r s).n (s:=s) hs,ZbF _ d.n hs]
 have e:sumN (d.ex r s).n (fun j=>if j=s then 0 else(d.ex r s).g j*x ((d.ex r s).free j))=sumN d.n (fun j=>if j=s then 0 else d.g j*x (d.free j))-d.g s*(1 / d.a r s)*sumN d.n (fun j=>if j=s then 0 else d.a r j*x (d.free j)):=by
  rw[← ZeV,← Zn9]
  refine Zbw _ fun j _=>?_
  by_cases h:j=s
  ·rw[if_pos h,if_pos h,if_pos h];grind
  ·rw[if_neg h,if_neg h,if_neg h];simp only[ex,up,if_neg h];grind
 rw[e]
 simp only[ex,up,if_pos]
 have h1:d.a r s*(1 / d.a r s)=1:=by grind
 grind
open Classical in
noncomputable def ZpT (n:Nat) (f:Nat→Nat) (q:Nat):Option Nat:=if h:∃ i,i<n∧f i=q then some (Classical.choose h)else none
theorem Zjk{n:Nat}{f:Nat→Nat}(hf:∀ i i',i<n→i'<n→f i=f i'→i=i'){i:Nat}(hi:i<n):ZpT n f (f i)=some i:=by
 have h:∃ i',i'<n∧f i'=f i:=⟨i,hi,rfl⟩
 unfold ZpT
 rw[dif_pos h]
 have:=Classical.choose_spec h
 exact congrArg some (hf _ _ this.1 hi this.2)
theorem ZpS{n:Nat}{f:Nat→Nat}{q:Nat}(h:∀ i,i<n→f i≠q):ZpT n f q=none:=by
 unfold ZpT
 rw[dif_neg]
 rintro⟨i,hi,e⟩;exact h i hi e
noncomputable def val (d:Dic) (k:Rat) (c:Nat→Rat) (q:Nat):Rat :=
 match ZpT d.m d.own q with
 | some i=>d.v i*k-sumN d.n fun j=>d.a i j*c j
 | none=>match ZpT d.n d.free q with
   | some j=>c j
   | none=>0
section
variable {d:Dic} {k:Rat} {c:Nat→Rat}
theorem ZmH(h:Part d){i:Nat}(hi:i<d.m):d.val k c (d.own i)=d.v i*k-sumN d.n fun j=>d.a i j*c j:=by
 unfold val;rw[Zjk h.own_inj hi]
theorem ZfS(h:Part d){j:Nat}(hj:j<d.n):d.val k c (d.free j)=c j:=by
 unfold val;rw[ZpS (fun i hi=>h.apart i j hi hj),Zjk h.free_inj hj]
theorem ZjX(h:Part d):d.Sol k (d.val k c):=by
 intro i hi
 unfold Row
 rw[ZmH h hi]
 congr 1
 exact Zbw _ fun j hj=>by rw[ZfS h hj]
theorem Zwg(h:Part d):d.obj k (d.val k c)=d.z*k+sumN d.n fun j=>d.g j*c j:=by
 unfold obj
 congr 1
 exact Zbw _ fun j hj=>by rw[ZfS h hj]
end
noncomputable def base (d:Dic):Nat→Rat:=d.val 1 fun _=>0
noncomputable def dir (d:Dic) (s:Nat):Nat→Rat:=d.val 0 fun j=>if j=s then 1 else 0
section
variable {d:Dic}
theorem Zvt(h:Part d){i:Nat}(hi:i<d.m):d.base (d.own i)=d.v i:=by
 unfold base
 rw[ZmH h hi,show(fun j=>d.a i j*(0:Rat))=fun _=>0 by funext j;grind,ZcY];grind
theorem Ztn(h:Part d){j:Nat}(hj:j<d.n):d.base (d.free j)=0:=ZfS h hj
theorem Zq9(f:Nat→Rat){n s:Nat}(hs:s<n):sumN n (fun j=>f j*if j=s then 1 else 0)=f s:=by
 have e:(fun j=>f j*if j=s then(1:Rat)else 0)=fun j=>if j=s then f s else 0:=by
  funext j
  by_cases h:j=s
  ·subst h;rw[if_pos rfl,if_pos rfl];grind
  ·rw[if_neg h,if_neg h];grind
 rw[e,ZfZ,if_pos hs]
theorem ZxE(h:Part d){i s:Nat}(hi:i<d.m)(hs:s<d.n):d.dir s (d.own i) = - d.a i s:=by
 unfold dir
 rw[ZmH h hi,Zq9 _ hs];grind
theorem Zvh(h:Part d){j s:Nat}(hj:j<d.n):d.dir s (d.free j)=if j=s then 1 else 0:=ZfS h hj
theorem ZxF(h:Part d){s:Nat}(hs:s<d.n):d.obj 0 (d.dir s)=d.g s:=by
 unfold dir
 rw[Zwg h,Zq9 _ hs];grind
end
structure Same (d e:Dic):Prop where
 m:d.m=e.m
 n:d.n=e.n
 sol:∀ k x,d.Sol k x↔e.Sol k x
 obj:∀ k x,d.Sol k x→d.obj k x=e.obj k x
theorem Same.refl(d:Dic):Same d d:=⟨rfl,rfl,fun _ _=>Iff.rfl,fun _ _ _=>rfl⟩
theorem Same.symm{d e:Dic}(h:Same d e):Same e d:=⟨h.m.symm,h.n.symm,fun k x=>(h.sol k x).symm,fun k x hx=>(h.obj k x ((h.sol k x).2 hx)).symm⟩
theorem Same.trans{d e f:Dic}(h:Same d e)(h':Same e f):Same d f:=⟨h.m.trans h'.m,h.n.trans h'.n,fun k x=>(h.sol k x).trans (h'.sol k x),fun k x hx=>(h.obj k x hx).trans (h'.obj k x ((h.sol k x).1 hx))⟩
theorem ZsK{d:Dic}{r s:Nat}(hr:r<d.m)(hs:s<d.n)(hp:d.a r s≠0):Same d (d.ex r s) :=
 ⟨rfl,rfl,fun k x=>(Zzv hr hs hp k x).symm,fun _ _ hx=>(Zzx hs hp (hx r hr)).symm⟩
theorem ex_ex{d:Dic}{r s:Nat}(hp:d.a r s≠0):(d.ex r s).ex r s=d:=by
 have hp':(1 / d.a r s)≠0:=by grind
 cases d with
 | mk m n own free v a g z =>
 simp only at hp hp'
 simp only[ex,up,if_pos,Dic.mk.injEq,true_and]
 refine⟨?_,?_,?_,?_,?_,?_⟩
 ·funext i;by_cases h:i=r
  ·subst h;simp only[up,if_pos]
  ·simp only[up,if_neg h]
 ·funext i;by_cases h:i=s
  ·subst h;simp only[up,if_pos]
  ·simp only[up,if_neg h]
 ·funext i;by_cases h:i=r
  ·subst h;rw[if_pos rfl];grind
  ·rw[if_neg h,if_neg h,if_neg h];grind
 ·funext i j
  by_cases h:i=r<;>by_cases h2:j=s
  ·subst h;subst h2;simp only[if_pos];grind
  ·subst h;simp only[if_pos,if_neg h2];grind
  ·subst h2;simp only[if_pos,if_neg h];grind
  ·simp only[if_neg h,if_neg h2];grind
 ·funext j
  by_cases h2:j=s
  ·subst h2;simp only[if_pos];grind
  ·simp only[if_neg h2];grind
 ·grind
structure Zx4 (d:Dic) (r s:Nat):Prop where
 hr:r<d.m
 hs:s<d.n
 v:d.v r<0
 first:∀ i,i<d.m→d.v i<0→d.own r≤d.own i
 goal:∀ j,j<d.n→0<d.g j→d.own r<d.free j
 a:d.a r s<0
 least:∀ j,j<d.n→d.a r j<0→d.free s≤d.free j
structure Zya (d:Dic) (r s:Nat):Prop where
 hr:r<d.m
 hs:s<d.n
 g:0<d.g s
 first:∀ j,j<d.n→0<d.g j→d.free s≤d.free j
 rows:∀ i,i<d.m→d.v i<0→d.free s<d.own i
 a:0<d.a r s
 least:∀ i,i<d.m→0<d.a i s→d.own r≤d.own i
def Step(d:Dic)(r s:Nat):Prop:=Zx4 d r s∨Zya d r s
theorem Step.hr{d:Dic}{r s:Nat}(h:Step d r s):r<d.m:=h.elim (·.hr) (·.hr)
theorem Step.hs{d:Dic}{r s:Nat}(h:Step d r s):s<d.n:=h.elim (·.hs) (·.hs)
theorem Step.ne{d:Dic}{r s:Nat}(h:Step d r s):d.a r s≠0:=by
 rcases h with h|h
 ·have:=h.a;grind
 ·have:=h.a;grind
end Dic
namespace Dic
theorem Zzw{d:Dic}(hP:Part d){r s:Nat}(hr:r<d.m)(hs:s<d.n)(p:Nat):(∃ i,i<(d.ex r s).m∧(d.ex r s).own i=p)↔p=d.free s∨((∃ i,i<d.m∧d.own i=p)∧p≠d.own r):=by
 simp only[ex,up]
 constructor
 ·rintro⟨i,hi,e⟩
  split at e
  ·exact .inl e.symm
  ·rename_i h
   exact .inr ⟨⟨i,hi,e⟩,fun h'=>h (hP.own_inj _ _ hi hr (e.trans h'))⟩
 ·rintro(rfl|⟨⟨i,hi,e⟩,h⟩)
  ·exact⟨r,hr,by rw[if_pos rfl]⟩
  ·exact⟨i,hi,by rw[if_neg (fun h'=>h (by rw[← e,h']))];exact e⟩
structure Run (K:Nat) (D:Nat→Dic) (R S:Nat→Nat):Prop where
 part:Part (D 0)
 step:∀ k,k<K→Step (D k) (R k) (S k)
 next:∀ k,k<K→D (k+1)=(D k).ex (R k) (S k)
section
variable {K:Nat} {D:Nat→Dic} {R S:Nat→Nat}
theorem Run.parts(h:Run K D R S):∀ k,k≤K→Part (D k)
 | 0,_=>h.part
 | k+1,hk=>by
   rw[h.next k (by omega)]
   exact ZsL (h.parts k (by omega)) (h.step k (by omega)).hr (h.step k (by omega)).hs
theorem Run.same(h:Run K D R S){a:Nat}:∀ k,a+k≤K→Same (D a) (D (a+k))
 | 0,_=>Same.refl _
 | k+1,hk=>by
   have hs:=h.step (a+k) (by omega)
   have:=ZsK hs.hr hs.hs hs.ne
   rw[← h.next (a+k) (by omega)]at this
   exact(h.same k (by omega)).trans this
def Ztw(d:Dic)(p:Nat):Prop:=∃ i,i<d.m∧d.own i=p
theorem Run.flip(h:Run K D R S){k:Nat}(hk:k<K)(p:Nat):Ztw (D (k+1)) p↔p=(D k).free (S k)∨(Ztw (D k) p∧p≠(D k).own (R k)):=by
 unfold Ztw
 rw[h.next k hk]
 exact Zzw (h.parts k (by omega)) (h.step k hk).hr (h.step k hk).hs p
theorem Run.keep(h:Run K D R S){p a:Nat}:∀ k,a+k≤K→(∀ i,a≤i→i<a+k→(D i).own (R i)≠p∧(D i).free (S i)≠p)→(Ztw (D a) p↔Ztw (D (a+k)) p)
 | 0,_,_=>Iff.rfl
 | k+1,hk,hne=>by
   rw[h.keep k (by omega) fun i h1 h2=>hne i h1 (by omega),← Nat.add_assoc,h.flip (by omega)]
   obtain⟨h1,h2⟩:=hne (a+k) (by omega) (by omega)
   constructor
   ·intro h3;exact .inr ⟨h3,fun e=>h1 e.symm⟩
   ·rintro(e|h3)
    ·exact absurd e.symm h2
    ·exact h3.1
end
end Dic
namespace Dic
def cnt(p:Nat→Bool):Nat→Nat
 | 0=>0
 | m+1=>cnt p m+(if p m then 1 else 0)
theorem Zgy{p q:Nat→Bool}:∀ m,(∀ i,i<m→p i=q i)→cnt p m=cnt q m
 | 0,_=>rfl
 | m+1,h=>by simp only[cnt,Zgy m (fun i hi=>h i (by omega)),h m (by omega)]
theorem ZkP{p q:Nat→Bool}{r:Nat}(hp:p r=true)(hq:q r=false):∀ m,r<m→(∀ i,i<m→i≠r→q i=p i)→cnt q m+1=cnt p m
 | 0,h,_=>absurd h (Nat.not_lt_zero _)
 | m+1,h,he=>by
   simp only[cnt]
   by_cases e:m=r
   ·subst e
    rw[Zgy (p:=q) (q:=p) m (fun i hi=>he i (by omega) (by omega)),hp,hq]
    simp
   ·have:=ZkP hp hq m (by omega) (fun i hi=>he i (by omega))
    rw[he m (by omega) e];omega
theorem Zv3(p:Nat→Bool):∀ m,cnt p m≤m
 | 0=>Ya4 _
 | m+1=>by have:=Zv3 p m;simp only[cnt];split<;>omega
theorem Zo6{p:Nat→Bool}:∀ m,cnt p m=0→∀ i,i<m→p i=false
 | 0,_,_,h=>absurd h (Nat.not_lt_zero _)
 | m+1,h,i,hi=>by
   simp only[cnt]at h
   by_cases e:i=m
   ·subst e;cases hp:p i
    ·rfl
    ·rw[hp]at h;simp at h
   ·exact Zo6 m (by omega) i (by omega)
theorem Zo7{p:Nat→Bool}:∀ m,0<cnt p m→∃ i,i<m∧p i=true
 | 0,h=>absurd h (Nat.not_lt_zero _)
 | m+1,h=>by
   cases hp:p m
   ·simp only[cnt,hp]at h
    obtain⟨i,hi,e⟩:=Zo7 m (by simpa using h)
    exact⟨i,by omega,e⟩
   ·exact⟨m,by omega,hp⟩
theorem Zs9{f:Nat→Nat}{m:Nat}(hf:∀ i i',i<m→i'<m→f i=f i'→i=i'):∀ n,cnt (fun i=>decide (f i<n)) m≤n
 | 0=>by
   rw[Zgy (q:=fun _=>false) m (fun i _=>by simp)]
   have:∀ k,cnt (fun _=>false) k=0:=fun k=>by induction k with
    | zero=>rfl
    | succ k ih=>simp only[cnt,ih];rfl
   rw[this];exact Ya4 _
 | n+1=>by
   have ih:=Zs9 hf n
   by_cases h:∃ i,i<m∧f i=n
   ·obtain⟨r,hr,e⟩:=h
    have:=ZkP (p:=fun i=>decide (f i<n+1)) (q:=fun i=>decide (f i<n)) (r:=r) (by simp[e]) (by simp[e]) m hr (fun i hi hne=>by
     have:f i≠n:=fun h'=>hne (hf _ _ hi hr (h'.trans e.symm))
     simp only[decide_eq_decide];omega)
    omega
   ·rw[Zgy (q:=fun i=>decide (f i<n)) m (fun i hi=>by
     have:f i≠n:=fun h'=>h ⟨i,hi,h'⟩
     simp only[decide_eq_decide];omega)]
    omega
structure Zpe (sz:Rat→Nat):Prop where
 zero:sz 0≤1
 one:sz 1≤1
 sub:∀ a b,sz (a-b)≤sz a+sz b+1
 mul:∀ a b,sz (a*b)≤sz a+sz b
 div:∀ a b,b≠0→sz (a / b)≤sz a+sz b
structure ZiU (sz:Rat→Nat) (d:Dic) (B:Nat):Prop where
 v:∀ i,i<d.m→sz (d.v i)≤B
 a:∀ i j,i<d.m→j<d.n→sz (d.a i j)≤B
 g:∀ j,j<d.n→sz (d.g j)≤B
theorem Zu5{sz:Rat→Nat}(L:Zpe sz){d:Dic}{r s B:Nat}(hr:r<d.m)(hs:s<d.n)(hp:d.a r s≠0)(h:ZiU sz d B)(hB:1≤B):ZiU sz (d.ex r s) (4*B+1):=by
 have hpb:=h.a r s hr hs
 have h1:=L.div 1 _ hp
 have l1:=L.one
 have l0:=L.zero
 refine⟨fun i hi=>?_,fun i j hi hj=>?_,fun j hj=>?_⟩
 ·simp only[ex]at *
  have hv:=L.div (d.v r) _ hp
  have hb:=h.v r hr
  split
  ·omega
  ·have e1:=L.sub (d.v i) (d.a i s*(d.v r / d.a r s))
   have e2:=L.mul (d.a i s) (d.v r / d.a r s)
   have e3:=h.v i hi
   have e4:=h.a i s hi hs
   omega
 ·simp only[ex]at *
  have hv:=L.div (d.a r j) _ hp
  have hb:=h.a r j hr hj
  split
  ·split<;>omega
  ·have e4:=h.a i s hi hs
   split
   ·have e1:=L.sub 0 (d.a i s*(1 / d.a r s))
    have e2:=L.mul (d.a i s) (1 / d.a r s)
    omega
   ·have e1:=L.sub (d.a i j) (d.a i s*(d.a r j / d.a r s))
    have e2:=L.mul (d.a i s) (d.a r j / d.a r s)
    have e3:=h.a i j hi hj
    omega
 ·simp only[ex]at *
  have hv:=L.div (d.a r j) _ hp
  have hb:=h.a r j hr hj
  have e4:=h.g s hs
  split
  ·have e1:=L.sub 0 (d.g s*(1 / d.a r s))
   have e2:=L.mul (d.g s) (1 / d.a r s)
   omega
  ·have e1:=L.sub (d.g j) (d.g s*(d.a r j / d.a r s))
   have e2:=L.mul (d.g s) (d.a r j / d.a r s)
   have e3:=h.g j hj
   omega
structure First (d:Dic):Prop where
 own:∀ i,i<d.m→d.own i=d.n+i
 free:∀ j,j<d.n→d.free j=j
theorem First.part{d:Dic}(h:First d):Part d:=by
 refine⟨fun i hi=>?_,fun j hj=>?_,fun i i' hi hi' e=>?_,fun j j' hj hj' e=>?_,fun i j hi hj e=>?_,fun q hq=>?_⟩
 ·rw[h.own i hi];omega
 ·rw[h.free j hj];omega
 ·rw[h.own i hi,h.own i' hi']at e;omega
 ·rw[h.free j hj,h.free j' hj']at e;omega
 ·rw[h.own i hi,h.free j hj]at e;omega
 ·rcases Nat.lt_or_ge q d.n with h1|h1
  ·exact .inr ⟨q,h1,h.free q h1⟩
  ·exact .inl ⟨q-d.n,by omega,by rw[h.own _ (by omega)];omega⟩
def grow(B:Nat):Nat→Nat
 | 0=>B
 | t+1=>4*grow B t+1
theorem ZuV{B:Nat}(h:1≤B):∀ t,1≤grow B t
 | 0=>h
 | t+1=>by simp only[grow];omega
theorem Zq6(f:Nat→Rat)(y:Nat→Rat)(n w:Nat)(hy:∀ q,q<n→y q=if q=w then 1 else 0):sumN n (fun q=>f q*y q)=if w<n then f w else 0:=by
 rw[Zbw (g:=fun q=>if q=w then f w else 0) n (fun q hq=>by
  rw[hy q hq]
  by_cases e:q=w
  ·subst e;rw[if_pos rfl,if_pos rfl];grind
  ·rw[if_neg e,if_neg e];grind),ZfZ]
theorem ZnC{sz:Rat→Nat}(L:Zpe sz){d0 d:Dic}(h0:First d0){B:Nat}(hB:1≤B)(hS:ZiU sz d0 B)(hP:Part d)(hE:Same d0 d)(hown:∀ i,i<d.m→d.n≤d.own i):ZiU sz d B:=by
 have hm:=hE.m
 have hn:=hE.n
 have l0:=L.zero
 have hfree:∀ q,q<d.n→∃ j,j<d.n∧d.free j=q:=fun q hq=>(hP.all q (by omega)).resolve_left (by rintro⟨i,hi,e⟩;have:=hown i hi;omega)
 have hat:∀ i,i<d.m→∃ i0,i0<d0.m∧d.own i=d0.own i0:=fun i hi=>by
  have h1:=hown i hi
  have h2:=hP.own_lt i hi
  exact⟨d.own i-d.n,by omega,by rw[h0.own _ (by omega)];omega⟩
 have hdir:∀ s,s<d.n→∀ q,q<d0.n→d.dir s (d0.free q)=if q=d.free s then 1 else 0:=by
  intro s hs q hq
  rw[h0.free q hq]
  obtain⟨j,hj,rfl⟩:=hfree q (by omega)
  rw[Zvh hP hj]
  by_cases e:j=s
  ·subst e;rw[if_pos rfl,if_pos rfl]
  ·rw[if_neg e,if_neg (fun h'=>e (hP.free_inj _ _ hj hs h'))]
 refine⟨fun i hi=>?_,fun i j hi hj=>?_,fun j hj=>?_⟩
 ·obtain⟨i0,hi0,e⟩:=hat i hi
  have h1:=(hE.sol 1 d.base).2 (ZjX hP) i0 hi0
  unfold Row at h1
  rw[← e,Zvt hP hi,Zbw (g:=fun _=>0) d0.n (fun q hq=>by
   rw[h0.free q hq]
   obtain⟨j,hj,rfl⟩:=hfree q (by omega)
   rw[Ztn hP hj];grind),ZcY]at h1
  rw[show d.v i=d0.v i0 by grind]
  exact hS.v i0 hi0
 ·obtain⟨i0,hi0,e⟩:=hat i hi
  have h1:=(hE.sol 0 (d.dir j)).2 (ZjX hP) i0 hi0
  unfold Row at h1
  rw[← e,ZxE hP hi hj,Zq6 (fun q=>d0.a i0 q) (fun q=>d.dir j (d0.free q)) d0.n (d.free j) (hdir j hj)]at h1
  by_cases hlt:d.free j<d0.n
  ·rw[if_pos hlt]at h1
   rw[show d.a i j=d0.a i0 (d.free j) by grind]
   exact hS.a i0 _ hi0 hlt
  ·rw[if_neg hlt]at h1
   rw[show d.a i j=0 by grind];omega
 ·have h1:=hE.obj 0 (d.dir j) ((hE.sol 0 (d.dir j)).2 (ZjX hP))
  rw[ZxF hP hj]at h1
  unfold obj at h1
  rw[Zq6 (fun q=>d0.g q) (fun q=>d.dir j (d0.free q)) d0.n (d.free j) (hdir j hj)]at h1
  by_cases hlt:d.free j<d0.n
  ·rw[if_pos hlt]at h1
   rw[show d.g j=d0.g (d.free j) by grind]
   exact hS.g _ hlt
  ·rw[if_neg hlt]at h1
   rw[show d.g j=0 by grind];omega
theorem ZyJ{sz:Rat→Nat}(L:Zpe sz){d0:Dic}(h0:First d0){B:Nat}(hB:1≤B)(hS:ZiU sz d0 B):∀ (t:Nat)(d:Dic),Part d→Same d0 d→cnt (fun i=>decide (d.own i<d.n)) d.m=t→ZiU sz d (grow B t)
 | 0,d,hP,hE,hc=>ZnC L h0 hB hS hP hE fun i hi=>by have:=Zo6 _ hc i hi;simp at this;omega
 | t+1,d,hP,hE,hc=>by
   obtain⟨i,hi,hio⟩:=Zo7 (p:=fun i=>decide (d.own i<d.n)) d.m (by omega)
   simp only[decide_eq_true_eq]at hio
   have hn:=hE.n
   obtain⟨j,hj,hjn,hp⟩:∃ j,j<d.n∧d.n≤d.free j∧d.a i j≠0:=by
    refine Classical.byContradiction fun hno=>?_
    have hx:=(hE.sol 0 _).1 (ZjX (k:=0) (c:=fun q=>if q=d.own i then 1 else 0) h0.part) i hi
    unfold Row at hx
    have hv:∀ q,q<d.n→d0.val 0 (fun q=>if q=d.own i then 1 else 0) q=if q=d.own i then 1 else 0:=fun q hq=>by
     have:=ZfS (k:=0) (c:=fun q=>if q=d.own i then 1 else 0) h0.part (j:=q) (by omega)
     rwa [h0.free q (by omega)]at this
    rw[hv _ hio,if_pos rfl,Zbw (g:=fun _=>0) d.n (fun j hj=>by
     by_cases h1:d.n≤d.free j
     ·have:d.a i j=0:=Classical.byContradiction fun h2=>hno ⟨j,hj,h1,h2⟩
      rw[this];grind
     ·rw[hv _ (by omega),if_neg (fun e=>hP.apart i j hi hj e.symm)];grind),ZcY]at hx
    grind
   have hP1:=ZsL hP hi hj
   have hE1:=hE.trans (ZsK hi hj hp)
   have hc1:cnt (fun k=>decide ((d.ex i j).own k<(d.ex i j).n)) (d.ex i j).m=t:=by
    have:=ZkP (p:=fun k=>decide (d.own k<d.n)) (q:=fun k=>decide ((d.ex i j).own k<(d.ex i j).n)) (r:=i) (by simpa using hio) (by simp[ex,up];omega) d.m hi (fun k _ hne=>by simp[ex,up,hne])
    have h2:(d.ex i j).m=d.m:=rfl
    rw[h2];omega
   have ih:=ZyJ L h0 hB hS t (d.ex i j) hP1 hE1 hc1
   have hp1:(d.ex i j).a i j≠0:=by simp only[ex,if_pos];grind
   have:=Zu5 L (d:=d.ex i j) hi hj hp1 ih (ZuV hB t)
   rw[ex_ex hp]at this
   exact this
theorem Zst{B:Nat}:∀ {t u:Nat},t≤u→grow B t≤grow B u:=by
 intro t u h
 induction u with
 | zero => obtain rfl : t = 0 := by omega
           exact Ya4 _
 | succ u ih =>
   by_cases e:t=u+1
   ·subst e;exact Ya4 _
   ·have:=ih (by omega);simp only[grow];omega
theorem ZiU.mono{sz:Rat→Nat}{d:Dic}{B C:Nat}(h:ZiU sz d B)(hBC:B≤C):ZiU sz d C:=⟨fun i hi=>Yc7 (h.v i hi) hBC,fun i j hi hj=>Yc7 (h.a i j hi hj) hBC,fun j hj=>Yc7 (h.g j hj) hBC⟩
theorem small{sz:Rat→Nat}(L:Zpe sz){d0 d:Dic}(h0:First d0){B:Nat}(hB:1≤B)(hS:ZiU sz d0 B)(hP:Part d)(hE:Same d0 d){t:Nat}(ht:d.n≤t∨d.m≤t):ZiU sz d (grow B t):=by
 refine(ZyJ L h0 hB hS _ d hP hE rfl).mono (Zst ?_)
 have h1:=Zs9 hP.own_inj d.n
 have h2:=Zv3 (fun i=>decide (d.own i<d.n)) d.m
 omega
end Dic
set_option maxHeartbeats 16000000
section ifm
variable [Ifl]
def ZyL(ops:Array Oper)(tr:List (List Nat×List Nat)):Bool :=
 lenB tr&&(List.range ops.size).all fun j=>(List.range j).all fun i=>(Zb2 ops j).contains i||match tr[i]?,tr[j]? with
  | some x,some y=> !Zio x.2 y.1 && !Zio x.1 y.2
  | _,_=>true
theorem Zrz{ops:Array Oper}{tr:List (List Nat×List Nat)}(h:ZyL ops tr=true):Zf9 ops tr=true:=by
 unfold ZyL at h
 unfold Zf9 ZpP
 rw[Ya2]at h ⊢
 refine⟨?_,h.1⟩
 have h:=h.2
 simp only[Ya6,Yd2]at h ⊢
 intro j hj i hi
 have:=h j hj i hi
 rw[Bool.or_eq_true]at this
 split
 ·rename_i x y hx hy
  rw[hx,hy]at this
  rw[Bool.or_eq_true]
  exact this.symm
 ·rfl
theorem Zsc{s:St}(l:List (Nat×D))(ht:∀ p∈l,s.t p.1=p.2):StLe s ⟨tabT l,s.m,s.nx,s.lo⟩:=by
 intro E B nn β a w hr
 refine⟨β,hr.mem,fun k hk=>?_,hr.width,hr.defers,hr.le,hr.sle,hr.lo⟩
 rcases ZeU l k with h1|⟨d,h1,h2⟩
 ·simp only[h1];exact .junk _
 ·simp only[h2]
  have:=hr.tmp k hk
  rw[ht _ h1]at this
  exact this
def Cl(m:Mem)(nx:Nat):Prop:=∀ id b,m id=some b→id<nx∧Zcb (fun i=>(m i).isSome) b
theorem Zay.closed{E:Env}{β:Bet}{m:Mem}{nx:Nat}{w:World}(h:Zay E β m nx w):Cl m nx:=by
 intro id b hb
 refine⟨h.lt id b hb,fun e he=>?_⟩
 cases hbt:β id with
 | none=>rw[h.non id b hb hbt]at he;cases he
 | some c =>
   obtain⟨_,cs,_,_,h4⟩:=h.row id b c hb hbt
   obtain⟨i,hi⟩:=List.getElem?_of_mem he
   have:∀ l:List D,(∀ d∈l,okD (fun i=>(m i).isSome) d=true)→okDs (fun i=>(m i).isSome) l=true:=by
    intro l
    induction l with
    | nil=>intro _;rfl
    | cons d l ih=>intro hl;simp only[okDs,Ya2];exact⟨hl d (by simp),ih fun x hx=>hl x (by simp[hx])⟩
   refine this e fun d hd=>?_
   obtain⟨j,hj⟩:=List.getElem?_of_mem hd
   obtain⟨u,_,h5⟩:=h4 i j d (Zaf.2 ⟨e,hi,hj⟩)
   exact h5.names
theorem Zas.cl{P:Program}{f:FuncId}{ds:List D}{m:Mem}{nx:Nat}{K:D→Mem→Nat→Prop}(hb:Zdl P f)(h:Cl m nx→Zas P f ds m nx K):Zas P f ds m nx K :=
 ⟨hb,fun E β w vs hM hvs=>(h hM.closed).2 E β w vs hM hvs⟩
def ZoD{X:Type}(l:X→List (Nat×D))(lo:Nat)(Pre:X→Mem→Nat→Prop)(μ:X→Nat)(x:X)(s:St):Prop:=∃ y,Pre y s.m s.nx∧μ y<μ x∧s.lo=lo∧∀ p∈l y,s.t p.1=p.2
theorem Zho{P:Program}{n:Nat}{Q:Exit→St→Prop}{s:St}{c:Code}{X:Type}(l:X→List (Nat×D))(lo:Nat)(Pre:X→Mem→Nat→Prop)(μ:X→Nat)(x0:X)(h0:Pre x0 s.m s.nx)(hlo:s.lo=lo)(ht:∀ p∈l x0,s.t p.1=p.2)
 (h:∀ x m nx,Pre x m nx→AWP P n c (Zpn (ZoD l lo Pre μ x) Q) ⟨tabT (l x),m,nx,lo⟩):AWP P n (.loop c) Q s:=by
 subst hlo
 refine Zx2 (X:=X×Mem×Nat) (fun x=>⟨tabT (l x.1),x.2.1,x.2.2,s.lo⟩) (fun x=>Pre x.1 x.2.1 x.2.2) (fun x=>μ x.1) ⟨(x0,s.m,s.nx),h0,Zsc _ ht⟩ ?_
 rintro⟨x,m,nx⟩ hx
 intro E B β a w hr
 refine wp_mono (h x m nx hx E B β a w hr) ?_
 rintro e a' w' ⟨s',β',h1,h2⟩
 refine⟨s',β',h1,?_⟩
 cases e with
 | normal =>
   obtain⟨y,h3,h4,h5,h6⟩:=h2
   refine⟨(y,s'.m,s'.nx),h3,h4,?_⟩
   have:=Zsc (s:=s') (l y) h6
   rw[h5]at this
   exact this
 | _=>exact h2
theorem Za9{X:Type}{l:X→List (Nat×D)}{lo:Nat}{Pre:X→Mem→Nat→Prop}{μ:X→Nat}{x:X}{s:St}(y:X)(h1:Pre y s.m s.nx)(h2:μ y<μ x)(h3:s.lo=lo)(h4:∀ p∈l y,s.t p.1=p.2):ZoD l lo Pre μ x s:=⟨y,h1,h2,h3,h4⟩
end ifm
theorem useE{KE:List Ev→St→Prop}{A B:List Ev→Prop}{C:St→Prop}{tr:List Ev}{s:St}(h:∀ tr s',A tr→B tr→C s'→KE tr s')(a:A tr)(b:B tr)(c:C s):KE tr s:=h tr s a b c
theorem aGoM{F Y X:Prop}(f:F)(y:Y)(h:F→Keep Y→X:=by
 intro hf y
 repeat(first
  | (refine hI _ ?_;clear hI;clear KI)
  | (refine hK _ ?_;try clear hK;try clear K)
  | ((with_reducible apply useK);(with_reducible assumption))
  | (refine aSeq fun KI hI=>?_)
  | (refine Zd1 ?_)
  | (refine Zg0 ?_)
  | (refine Zg2 ?_)
  | (refine aRet ?_)
  | (refine aOps _ rfl (by kernel_rfl) ?_)
  | (refine Zg1 _ rfl mixed (by kernel_rfl) (by kernel_rfl) fun KE hE=>?_)
  | (refine hE _ _ (Zrz (by kernel_rfl)) (ZaG rfl) ?_;clear hE;clear KE)
  | ((with_reducible apply useE);(with_reducible assumption);exact Zrz (by kernel_rfl);exact ZaG rfl)
  | (refine ZdZ rfl ?hc ?_;case hc=>simp only[go_sem,↓reduceIte,beq_self_eq_true,bne_self_eq_false,hf])
  | (refine Zd0 rfl ?hc ?_;case hc=>simp only[go_sem,↓reduceIte,beq_self_eq_true,bne_self_eq_false,hf])
  | ((with_reducible apply Zbl);(first|with_reducible assumption|assumption))
  | ((with_reducible apply Zbv);(first|with_reducible assumption|assumption);rfl)
  | (simp only[go_sem,↓reduceIte,beq_self_eq_true,bne_self_eq_false,hf])
  | (refine And.intro ?ho ?_;(case ho=>omega))
  | (clear hI;clear KI))
 repeat(first|(revert hE;revert KE)|(revert hI;revert KI))
 first|done|exact y.out):X:=h f ⟨y⟩
theorem aGoS{F Y X:Prop}(f:F)(y:Y)(h:F→Keep Y→X:=by
 intro hf y
 repeat(first
  | (refine hI _ ?_;clear hI;clear KI)
  | (refine hK _ ?_;try clear hK;try clear K)
  | ((with_reducible apply useK);(with_reducible assumption))
  | (refine aSeq fun KI hI=>?_)
  | (refine Zd1 ?_)
  | (refine Zg0 ?_)
  | (refine Zg2 ?_)
  | (refine aRet ?_)
  | (refine aOps _ rfl (by kernel_rfl) ?_)
  | (refine Zg1 _ rfl mixed (by kernel_rfl) (by kernel_rfl) fun KE hE=>?_)
  | (refine ZdZ rfl ?hc ?_;case hc=>simp only[go_sem,↓reduceIte,beq_self_eq_true,bne_self_eq_false,hf])
  | (refine Zd0 rfl ?hc ?_;case hc=>simp only[go_sem,↓reduceIte,beq_self_eq_true,bne_self_eq_false,hf])
  | ((with_reducible apply Zbl);(first|with_reducible assumption|assumption))
  | ((with_reducible apply Zbv);(first|with_reducible assumption|assumption);rfl)
  | (simp only[go_sem,↓reduceIte,beq_self_eq_true,bne_self_eq_false,hf])
  | (refine And.intro ?ho ?_;(case ho=>omega))
  | (clear hI;clear KI))
 repeat(first|(revert hE;revert KE)|(revert hI;revert KI))
 first|done|exact y.out):X:=h f ⟨y⟩
abbrev fB(n:Nat)(c:Nat→Rat):Blk:=⟨34,1,4,ratL n c,0,false⟩
mutual
theorem Zgc{p q:Nat→Bool}(h:∀ i,p i=true→q i=true):∀ d:D,okD p d=true→okD q d=true
 | .v _,_=>rfl
 | .nil,_=>rfl
 | .agg l,ho=>by simp only[okD]at ho ⊢;exact Zc2 h l ho
 | .tup l,ho=>by simp only[okD]at ho ⊢;exact Zc2 h l ho
 | .sl _,_=>rfl
 | .cl _,_=>rfl
 | .ep _ _ _,_=>rfl
 | .ls id _,ho=>h id ho
 | .lp id _ _ _,ho=>h id ho
 | .mp id _,ho=>h id ho
 | .clo _ l,ho=>by simp only[okD]at ho ⊢;exact Zc2 h l ho
 | .junk,_=>rfl
theorem Zc2{p q:Nat→Bool}(h:∀ i,p i=true→q i=true):∀ l:List D,okDs p l=true→okDs q l=true
 | [],_=>rfl
 | d ::l,ho=>by
   simp only[okDs,Ya2]at ho ⊢
   exact⟨Zgc h d ho.1,Zc2 h l ho.2⟩
end
theorem ZpW{b:Blk}(hb:Zcb (fun _=>false) b)(k:Nat→Bool):Zcb k b:=fun e he=>Zc2 (fun _ h=>by cases h) e (hb e he)
theorem Zy0(n:Nat)(c:Nat→Rat):Zcb (fun _=>false) (fB n c):=fun e he=>by
 obtain⟨v,_,rfl⟩:=Yc6.1 he;rfl
theorem Cl.upd{m:Mem}{nx id n':Nat}{blk:Blk}(h:Cl m nx)(hb:Zcb (fun _=>false) blk)(hid:id<n')(hn:nx≤n'):Cl (upd m id (some blk)) n':=by
 intro i b hi
 by_cases e:i=id
 ·subst e;rw[Zab]at hi;cases hi;exact⟨hid,ZpW hb _⟩
 ·rw[Zad _ _ e]at hi
  refine⟨by have:=(h i b hi).1;omega,fun x hx=>Zc2 (fun j hj=>?_) x ((h i b hi).2 x hx)⟩
  by_cases e2:j=id
  ·subst e2;rw[Zab];rfl
  ·rw[Zad _ _ e2];exact hj
section
variable [Ifl] {P:Program} {f:FuncId} {ds:List D} {m:Mem} {nx:Nat}
theorem Cl.sub{m':Mem}{n':Nat}(h:Cl m n')(hs:∀ id b,m id=some b→m' id=some b):SubM m m' n':=⟨fun id b hb=>⟨hs id b hb,(h id b hb).1⟩,fun id b hb=>(h id b hb).2⟩
theorem Zas.made{ver:Nat}{blk:Blk}(hb:Zcb (fun _=>false) blk)(h:Zas P f ds m nx fun d m' nx'=>d = .ls nx ver∧nx<nx'∧m' nx=some blk∧∀ id,id<nx→m' id=m id) :
 Zas P f ds m nx fun d m' nx'=>d = .ls nx ver∧m'=upd m nx (some blk)∧nx'=nx+1:=by
 refine Zas.cl h.1 fun hcl=>Zas.sub (h.mono ?_)
 rintro d m' nx' ⟨rfl,h1,h2,h3⟩
 refine⟨_,_,(hcl.upd hb (Nat.lt_succ_self nx) (Nat.le_succ nx)).sub fun id b hi=>?_,?_,fun id hi=>?_,rfl,rfl,rfl⟩
 ·by_cases e:id=nx
  ·subst e;rw[Zab]at hi;rw[h2];exact hi
  ·rw[Zad _ _ e]at hi;rw[h3 id (hcl id b hi).1];exact hi
 ·simp only[okD,Zab];rfl
 ·cases hm:m id with
  | none=>rw[hm]at hi;cases hi
  | some b =>
    have:=(hcl id b hm).1
    rw[Zad _ _ (by omega),h3 id this]
theorem Zas.kept{d0:D}{A:Nat}{b0 blk:Blk}(hA:m A=some b0)(hd:okD (fun _=>false) d0=true)(hb:Zcb (fun _=>false) blk)(h:Zas P f ds m nx fun d m' nx'=>d=d0∧nx≤nx'∧m' A=some blk∧∀ id,id<nx→id≠A→m' id=m id) :
 Zas P f ds m nx fun d m' nx'=>d=d0∧m'=upd m A (some blk)∧nx'=nx:=by
 refine Zas.cl h.1 fun hcl=>Zas.sub (h.mono ?_)
 rintro d m' nx' ⟨rfl,h1,h2,h3⟩
 refine⟨_,_,(hcl.upd hb (hcl A b0 hA).1 (Ya4 nx)).sub fun id b hi=>?_,Zgc (fun _ h=>by cases h) d hd,fun id hi=>?_,rfl,rfl,rfl⟩
 ·by_cases e:id=A
  ·subst e;rw[Zab]at hi;rw[h2];exact hi
  ·rw[Zad _ _ e]at hi;rw[h3 id (hcl id b hi).1 e];exact hi
 ·by_cases e:id=A
  ·subst e;rw[Zab,h2]
  ·cases hm:m id with
   | none=>rw[hm]at hi;cases hi
   | some b=>rw[Zad _ _ e,h3 id (hcl id b hm).1 e]
end
def pick(f:Nat→Nat)(p:Nat→Bool):Nat→Option Nat
 | 0=>none
 | i+1=>if p i then(match pick f p i with
   | none=>some i
   | some a=>if f i<f a then some i else some a)else pick f p i
structure Ids where
 p:Nat
 R:Nat
 G:Nat
 O:Nat
 Fr:Nat
 F:Nat
 A:Nat→Nat
 vR:Nat
 vO:Nat
 vFr:Nat
 vF:Nat
structure Zyb (I:Ids) (m:Nat):Prop where
 pR:I.p≠I.R
 pG:I.p≠I.G
 pO:I.p≠I.O
 pFr:I.p≠I.Fr
 pF:I.p≠I.F
 RG:I.R≠I.G
 RO:I.R≠I.O
 RFr:I.R≠I.Fr
 RF:I.R≠I.F
 GO:I.G≠I.O
 GFr:I.G≠I.Fr
 GF:I.G≠I.F
 OFr:I.O≠I.Fr
 OF:I.O≠I.F
 FrF:I.Fr≠I.F
 Ap:∀ k,k<m→I.A k≠I.p
 AR:∀ k,k<m→I.A k≠I.R
 AG:∀ k,k<m→I.A k≠I.G
 AO:∀ k,k<m→I.A k≠I.O
 AFr:∀ k,k<m→I.A k≠I.Fr
 AF:∀ k,k<m→I.A k≠I.F
 AA:∀ k l,k<m→l<m→k≠l→I.A k≠I.A l
def neg'(r:Rat):Bool:=decide ((ofQ r).p.s<0)
def pos'(r:Rat):Bool:=decide ((ofQ r).p.s>0)
section
variable [Ifl] {I:Ids} {d:Dic} {src:Nat→Nat×Bool} {m:Mem} {nx bx:Nat}
end
def ZwE(ops:Array Oper)(tr:List (List Nat×List Nat)):Bool:=ZpP ops tr&&tr.all fun x=>Nat.ble x.1.length 1023
theorem Zt0{ops:Array Oper}{tr:List (List Nat×List Nat)}(J:Nat→Nat)(k:Nat)(tr0:List (List Nat×List Nat))(h:tr=tr0.map fun x=>(x.1.map J,x.2.map J))(hJ:∀ u v,u<k→v<k→J u=J v→u=v)
 (hb:tr0.all (fun x=>x.1.all (fun i=>decide (i<k))&&x.2.all (fun i=>decide (i<k)))=true) (hr:ZwE ops tr0=true):Zf9 ops tr=true:=by
 have key:∀ a b:List Nat,a.all (fun i=>decide (i<k))=true→b.all (fun i=>decide (i<k))=true→Zio a b=false→Zio (a.map J) (b.map J)=false:=by
  intro a b ha hb hm
  cases hc:Zio (a.map J) (b.map J)
  ·rfl
  ·unfold Zio at hc
   obtain⟨u,hu,hc⟩:=List.any_eq_true.1 hc
   obtain⟨x,hx,rfl⟩:=Yc6.1 hu
   obtain⟨y,hy,e⟩:=Yc6.1 (List.contains_iff_mem.1 hc)
   have e2:=hJ y x (by simpa using Ya6.1 hb y hy) (by simpa using Ya6.1 ha x hx) e
   subst e2
   have:Zio a b=true:=List.any_eq_true.2 ⟨y,hx,List.contains_iff_mem.2 hy⟩
   rw[hm]at this;cases this
 subst h
 unfold ZwE at hr
 unfold Zf9
 rw[Ya2]at hr ⊢
 refine⟨?_,by unfold lenB;rw[Bool.or_eq_true];left;rw[List.all_map];refine Ya6.2 fun x hx=>?_;have:=Ya6.1 hr.2 x hx;simpa using this⟩
 have hr:=hr.1
 unfold ZpP at hr ⊢
 simp only[Ya6,Yd2]at hr ⊢
 intro j hj i hi
 have h1:=hr j hj i hi
 rw[Yb8,Yb8]
 cases hx:tr0[i]? with
 | none=>rfl
 | some x =>
   cases hy:tr0[j]? with
   | none=>rfl
   | some y =>
     rw[hx,hy]at h1
     have bx:=Ya6.1 hb x (Ya7 hx)
     have by':=Ya6.1 hb y (Ya7 hy)
     rw[Ya2]at bx by'
     simp only[Yd0]
     rw[Bool.or_eq_true]at h1 ⊢
     rcases h1 with h1|h1
     ·left
      simp only[Ya2,Bool.not_eq_true']at h1 ⊢
      exact⟨key _ _ bx.2 by'.1 h1.1,key _ _ bx.1 by'.2 h1.2⟩
     ·exact .inr h1
theorem ZlD{ops:Array Oper}{tr:List (List Nat×List Nat)}(L:List Nat)(hL:L.Nodup)(tr0:List (List Nat×List Nat))(h:tr=tr0.map fun x=>(x.1.map fun i=>L.getD i 0,x.2.map fun i=>L.getD i 0))
 (hb:tr0.all (fun x=>x.1.all (fun i=>decide (i<L.length))&&x.2.all (fun i=>decide (i<L.length)))=true) (hr:ZwE ops tr0=true):Zf9 ops tr=true:=by
 refine Zt0 (fun i=>L.getD i 0) L.length tr0 h (fun u v hu hv e=>?_) hb hr
 simp only[List.getD_eq_getElem?_getD,Ya0 hu,Ya0 hv,Option.getD_some]at e
 exact(List.getElem_inj hL).1 e
section
variable {I:Ids} {d:Dic} {src:Nat→Nat×Bool} {m:Mem}
end
inductive Out where
 | best
 | row (r:Nat)
 | col (s:Nat)
 | ex (r s:Nat)
def Zru(d:Dic)(r:Nat):Out:=match pick d.free (fun j=>neg' (d.a r j)) d.n with
 | none=>.row r
 | some s=>.ex r s
def Zs8(d:Dic)(s:Nat):Out:=match pick d.own (fun i=>pos' (d.a i s)) d.m with
 | none=>.col s
 | some r=>.ex r s
def next(d:Dic):Out:=match pick d.own (fun i=>neg' (d.v i)) d.m,pick d.free (fun j=>pos' (d.g j)) d.n with
 | none,none=>.best
 | some r,none=>Zru d r
 | some r,some s=>if d.own r<d.free s then Zru d r else Zs8 d s
 | none,some s=>Zs8 d s
def iter(d:Dic):Dic:=match next d with
 | .ex r s=>d.ex r s
 | _=>d
def ended(d:Dic):Prop:=∀ r s,next d ≠ .ex r s
def Zxm:Nat→Dic→Dic
 | 0,d=>d
 | k+1,d=>Zxm k (iter d)
noncomputable def left (d:Dic):Nat:=Zjy fun k=>ended (Zxm k d)
noncomputable def final (d:Dic):Dic:=Zxm (left d) d
end Go.Proofs.YtblamlnjbjaokaaGreat
