/-
  The reference's integers, as data: Right, Same, Compare, Neg; the elder contracts.
-/
import Derived.Test.YtjeaacindikplaaGreatXLib
import Derived.Test.YtjeaacindikplaaGreatXConv
import Derived.Test.YtjeaacindikplaaGreatXRg
namespace Go.Proofs.YtjeaacindikplaaGreat
set_option linter.unusedVariables false
set_option linter.unusedSimpArgs false
set_option linter.unusedSectionVars false
open Go Go.RowKit
set_option maxRecDepth 100000
set_option maxHeartbeats 1000000
theorem Zoo{l:List Int}{k:Nat}{e:Int}(h:Dig (l.take k))(hx:l[k]? =some e)(h0:0≤e)(h1:e<1048576):Dig (l.take (k+1)):=by
 rw[Yb4,hx]
 exact ZdB.2 ⟨h,by simp[Dig];omega⟩
theorem Zx9{l:List Int}{k:Nat}{e:Int}(hx:l[k]? =some e)(h:e<0∨1048576≤e):digB l=false:=by
 cases hd:digB l with
 | false=>rfl
 | true=>have:=Zhv.1 hd e (Ya7 hx);omega
theorem ZED{x:BigD}(h:x.d=[]):okB x=(x.s==0):=by simp[okB,h,digB]
theorem ZCz{x:BigD}(h:x.d≠[])(hd:digB x.d=true){e:Int}(he:x.d[x.d.length-1]? =some e):okB x=((x.s==1||x.s == -1)&&(e !=0)):=by
 have h1:x.d.isEmpty=false:=by simpa using h
 have h2:(x.d.getLast? !=some 0)=(e !=0):=by
  rw[List.getLast?_eq_getElem?,he]
  simp[bne]
 simp only[okB,hd,h1,h2,Bool.true_and,Bool.false_eq_true,if_false]
theorem Znq(x:BigD)(hl:(x.d.length:Int)≤9007199254740992):Zah Tryz.prog 145 [encB x] (dB (okB x)):=by
 refine inC Tryz.func145 rfl Tryz.ntmps145 ?_
 have Zr:=Tryz.results145
 refine aGo Zr ?_
 repeat with_reducible intro K hK
 refine Zas (fun(k:Nat)=>[(1,.lp 0 0 0 0),(3,dI k)]) (fun _=>[(0,⟨51,0,2,[cB x],0,false⟩)]) 1 0 (fun k=>k≤x.d.length∧Dig (x.d.take k)) (fun k=>x.d.length-k) 0 ⟨by omega,by simp[Dig]⟩ ?_ ?_
 ·exact leGo trivial
 ·rintro k ⟨hk,hd⟩
  obtain⟨hw,h0⟩:=ZaO k
  by_cases h1:(k:Int)<x.d.length
  ·obtain⟨e,hx⟩:=getE (l:=x.d) (k:=k) (by omega)
   by_cases h2:e<0
   ·refine aGo (cj4 Zr h0 h1 (cj2 h2 hx)) ?_
    repeat with_reducible intro K hK
    exact Zaj (by simp[okB,Zx9 hx (.inl h2)])
   ·by_cases h3:e≥1048576
    ·refine aGo (cj4 Zr h0 h1 (cj3 h2 h3 hx)) ?_
     repeat with_reducible intro K hK
     exact Zaj (by simp[okB,Zx9 hx (.inr h3)])
    ·refine aGo (cj4 Zr h0 h1 (cj4 h2 h3 hx hw)) ?_
     repeat with_reducible intro K hK
     exact Zad (k+1) ⟨by omega,Zoo hd hx (by omega) (by omega)⟩ (by omega) (by exact leGo trivial)
  ·have hD:digB x.d=true:=Zhv.2 (by rwa [Ya8 (by omega)]at hd)
   by_cases hn:x.d=[]
   ·have hok:=ZED hn
    have hn0:x.d.length=0:=by rw[hn];rfl
    have hz:((x.d.length:Int)==0)=true:=by simp[hn0]
    by_cases h2:x.s < -1
    ·refine aGo (cj3 Zr h1 h2) ?_
     repeat with_reducible intro K hK
     exact Zaj (by rw[hok];simp;omega)
    ·by_cases h3:x.s>1
     ·refine aGo (cj4 Zr h1 h2 h3) ?_
      repeat with_reducible intro K hK
      exact Zaj (by rw[hok];simp;omega)
     ·cases hs:x.s==0
      ·refine aGo (cj4 Zr h1 h2 (cj3 h3 hz hs)) ?_
       repeat with_reducible intro K hK
       exact Zaj (by rw[hok,hs])
      ·refine aGo (cj4 Zr h1 h2 (cj3 h3 hz hs)) ?_
       repeat with_reducible intro K hK
       exact Zaj (by rw[hok,hs])
   ·have hpos:0<x.d.length:=List.length_pos_iff.2 hn
    obtain⟨e,he⟩:=getE (l:=x.d) (k:=x.d.length-1) (by omega)
    have hok:=ZCz hn hD he
    have hz:((x.d.length:Int)==0)=false:=by simp;omega
    by_cases h2:x.s < -1
    ·refine aGo (cj3 Zr h1 h2) ?_
     repeat with_reducible intro K hK
     exact Zaj (by rw[hok];simp;intro h;omega)
    ·by_cases h3:x.s>1
     ·refine aGo (cj4 Zr h1 h2 h3) ?_
      repeat with_reducible intro K hK
      exact Zaj (by rw[hok];simp;intro h;omega)
     ·cases hs:x.s==0
      ·have hw1:IntKind.i64.wrap ((x.d.length:Int)-1)=(x.d.length:Int)-1:=Zax (by omega) (by omega)
       have ht1:((x.d.length:Int)-1).toNat=x.d.length-1:=by omega
       have h01:(0:Int)≤(x.d.length:Int)-1:=by omega
       have hs1:(x.s==1||x.s == -1)=true:=by simp at hs ⊢;omega
       refine aGo (cj4 Zr h1 h2 (cj4 h3 hz hs (cj4 hw1 ht1 h01 he))) ?_
       repeat with_reducible intro K hK
       exact Zaj (by rw[hok,hs1,Bool.true_and])
      ·have hs1:(x.s==1||x.s == -1)=false:=by simp at hs ⊢;omega
       refine aGo (cj4 Zr h1 h2 (cj3 h3 hz hs)) ?_
       repeat with_reducible intro K hK
       exact Zaj (by rw[hok,hs1,Bool.false_and])
set_option maxHeartbeats 8000000
theorem ZCi(s:Int)(l:List Int)(hl:(l.length:Int)≤8796093022208):Zaa Tryz.prog 150 [dI s,Zab l] (encB (sgnd s l)):=by
 have k1:=Zjy l hl
 have Zr:=Tryz.results150
 refine inN Tryz.func150 rfl Tryz.ntmps150 fun I=>?_
 by_cases h:(Zbe l).length=0
 ·have h2:Zbe l=[]:=Ya9 h
  rw[show sgnd s l=zB by unfold sgnd;rw[h2];rfl]
  rw[h2]at k1
  refine aGo Zr ?_
  rfl
 ·have h2:(((Zbe l).length:Int)==0)=false:=by simpa using h
  rw[show sgnd s l=⟨s,Zbe l⟩ by unfold sgnd;rw[if_neg];simpa using fun e=>h (by rw[e];rfl)]
  exact aGo (cj2 Zr h2) trivial
theorem ZdL{a b:BigD}:Ziy a b=true↔a=b:=by
 cases a;cases b;simp[Ziy]
theorem ZCa{a b:BigD}(h:(a.s !=b.s)=true):Ziy a b=false:=by
 cases hs:Ziy a b with
 | false=>rfl
 | true=>rw[ZdL.1 hs]at h;simp at h
theorem ZvW{a b:BigD}(h:((a.d.length:Int) !=b.d.length)=true):Ziy a b=false:=by
 cases hs:Ziy a b with
 | false=>rfl
 | true=>rw[ZdL.1 hs]at h;simp at h
theorem Zy9{a b:BigD}{k:Nat}{x y:Int}(hx:a.d[k]? =some x)(hy:b.d[k]? =some y)(h:(x !=y)=true):Ziy a b=false:=by
 cases hs:Ziy a b with
 | false=>rfl
 | true=>rw[ZdL.1 hs,hy]at hx;cases hx;simp at h
theorem ZoK{a b:List Int}{k:Nat}{x y:Int}(h:a.take k=b.take k)(hx:a[k]? =some x)(hy:b[k]? =some y)(he:(x !=y)=false):a.take (k+1)=b.take (k+1):=by
 have:x=y:=by simpa using he
 rw[Yb4,Yb4,h,hx,hy,this]
theorem ZCf(a b:BigD)(ha:(a.d.length:Int)≤9007199254740992):Zah Tryz.prog 152 [encB a,encB b] (dB (Ziy a b)):=by
 refine inC Tryz.func152 rfl Tryz.ntmps152 ?_
 have Zr:=Tryz.results152
 cases h1:a.s !=b.s;rotate_left
 ·refine aGo (cj2 Zr h1) ?_
  repeat with_reducible intro K hK
  exact Zaj (ZCa h1).symm
 cases h2:(a.d.length:Int) !=b.d.length;rotate_left
 ·refine aGo (cj3 Zr h1 h2) ?_
  repeat with_reducible intro K hK
  exact Zaj (ZvW h2).symm
 have hlen:a.d.length=b.d.length:=by simp at h2;omega
 refine aGo (cj3 Zr h1 h2) ?_
 repeat with_reducible intro K hK
 refine Zas (fun(k:Nat)=>[(2,.lp 0 0 0 0),(3,.lp 1 0 0 0),(5,dI k)]) (fun _=>[(0,⟨51,0,2,[cB a],0,false⟩),(1,⟨51,0,2,[cB b],0,false⟩)]) 2 0 (fun k=>k≤a.d.length∧a.d.take k=b.d.take k) (fun k=>a.d.length-k) 0 ⟨by omega,by simp⟩ ?_ ?_
 ·exact leGo trivial
 ·rintro k ⟨hk,hd⟩
  obtain⟨hw,h0⟩:=ZaO k
  by_cases h3:(k:Int)<a.d.length
  ·obtain⟨x,hx⟩:=getE (l:=a.d) (k:=k) (by omega)
   obtain⟨y,hy⟩:=getE (l:=b.d) (k:=k) (by omega)
   cases h4:x !=y;rotate_left
   ·refine aGo (cj4 Zr h0 h3 (cj3 h4 hx hy)) ?_
    repeat with_reducible intro K hK
    exact Zaj (Zy9 hx hy h4).symm
   ·refine aGo (cj4 Zr h0 h3 (cj4 h4 hx hy hw)) ?_
    repeat with_reducible intro K hK
    exact Zad (k+1) ⟨by omega,ZoK hd hx hy h4⟩ (by omega) (by exact leGo trivial)
  ·refine aGo (cj2 Zr h3) ?_
   repeat with_reducible intro K hK
   refine Zaj (Eq.symm (ZdL.2 ?_))
   rw[Ya8 (by omega),Ya8 (by omega)]at hd
   have h1':a.s=b.s:=by simpa using h1
   cases a;cases b;simp_all
theorem ZiA(a:Int)(la:(szZ a:Int)≤1099511627776):Zaa Tryz.prog 145 [encB (ofZ a)] (dB true):=by
 have:=(Znq (ofZ a) (by rw[Zh0];omega)).toN rfl
 rwa [ZjF]at this
theorem Zsg(s:Int)(n:Nat)(z:Int)(h:z=s*n)(hs:s=1∨s = -1∨n=0)(hl:((digs n).length:Int)≤8796093022208):Zaa Tryz.prog 150 [dI s,Zab (digs n)] (encB (ofZ z)):=by
 have:=ZCi s (digs n) hl
 rwa [Zdc z h hs]at this
theorem sign_mul(a b:Int) : -1≤a.sign*b.sign∧a.sign*b.sign≤1:=by
 rcases ZaT a with⟨_,h,_⟩|⟨_,h,_⟩|⟨_,h,_⟩<;>rcases ZaT b with⟨_,k,_⟩|⟨_,k,_⟩|⟨_,k,_⟩<;>rw[h,k]<;>decide
theorem Ztv(n:Nat):Dig (digs n):=(Zar n).1
theorem ZA5(n:Nat)(g:Int)(hg:g=1∨g = -1)(h:(n:Int)≤9223372036854775808)(h1:g=1→(n:Int)≤9223372036854775807):Zaa Tryz.prog 147 [dI (g*n)] (encB (ofZ (g*n))):=by
 have Zr:=Tryz.results147
 refine inN Tryz.func147 rfl Tryz.ntmps147 fun I=>?_
 by_cases h0:n=0
 ·subst h0
  rw[show g*((0:Nat):Int)=0 by simp]
  refine aGo Zr ?_
  rw[Zsy]
  rfl
 have c1:(g*(n:Int)==0)=false:=by rcases hg with rfl|rfl<;>simp<;>omega
 have h5:(digs n).length≤4:=Za8 (by simp only[bp];omega)
 have k4:=Zsg g n (g*n) rfl (by rcases hg with h|h;exact .inl h;exact .inr (.inl h)) (by omega)
 by_cases c2:g*(n:Int)<0
 rotate_left
 have eg:g=1:=by rcases hg with rfl|rfl<;>omega
 rotate_left
 have eg:g = -1:=by rcases hg with rfl|rfl<;>omega
 all_goals
  refine aGo (cj3 Zr c1 c2) ?_
  repeat with_reducible intro K hK
  refine aLe (Zcs 4 3 1 rfl) ?_
  refine Zas (fun(p:Nat×List Int×Nat)=>[(0,dI (g*p.1)),(2,.lp 0 0 0 0),(3,dI g),(4,.ls 1 p.2.2)]) (fun p=>[(0,⟨51,0,2,[[dI 0,.nil]],0,false⟩),(1,⟨3,p.2.2,1,p.2.1.map (fun x=>[dI x]),0,false⟩)]) 2 0 (fun p=>p.2.1++digs p.1=digs n∧p.1≤n∧p.2.1.length+(digs p.1).length≤4) (fun p=>p.1) (n,[],0) ⟨rfl,Ya4 _,by simpa using h5⟩ ?_ ?_
  ·exact leGo (cj2 Zr eg)
  rintro⟨k,l,ver⟩ ⟨hl,hk,h4⟩
  simp only at hl hk h4 ⊢
  have j1:(l.map fun x=>[dI x]).map (List.map datJ)=l.map fun x=>[dI x]:=by rw[List.map_map];exact List.map_congr_left fun x _=>rfl
  clear eg c2
  by_cases h0:k=0
  ·subst h0
   rw[Za1,List.append_nil]at hl
   subst hl
   rw[show g*((0:Nat):Int)=0 by simp]
   have hc:((0:Int) !=0)=false:=rfl
   exact aGo (cj3 Zr hc j1) trivial
  have hc:(g*(k:Int) !=0)=true:=by rcases hg with rfl|rfl<;>simp<;>omega
  have hd:=Zf6 h0
  have ha:(g*(k:Int)).tmod 1048576=g*((k%1048576:Nat):Int):=by
   rcases hg with rfl|rfl
   ·rw[Int.one_mul,Int.one_mul];rfl
   ·rw[Int.neg_one_mul,Int.neg_one_mul,Int.neg_tmod];rfl
  have hsh:IntKind.i64.wrap ((g*(k:Int)).tdiv 1048576)=g*((k / 1048576:Nat):Int):=by
   have e:(k:Int).tdiv 1048576=((k / 1048576:Nat):Int):=(Int.ofNat_tdiv k 1048576).symm
   rcases hg with rfl|rfl
   ·rw[Int.one_mul,Int.one_mul,e];exact Zax (by omega) (by omega)
   ·rw[Int.neg_one_mul,Int.neg_one_mul,Int.neg_tdiv,e];exact Zax (by omega) (by omega)
  by_cases hn:g*((k%1048576:Nat):Int)<0
  ·have hv:IntKind.i64.wrap (0-g*((k%1048576:Nat):Int))=((k%1048576:Nat):Int):=by
    rcases hg with rfl|rfl
    ·omega
    ·exact(Zax (by omega) (by omega)).trans (by omega)
   refine aGo (cj4 Zr hc ha (cj3 hn hsh hv)) ?_
   repeat with_reducible intro K hK
   refine Zad (k / 1048576,l++[((k%1048576:Nat):Int)],ver+1) ⟨by rw[← hl,hd,Yd3];rfl,by have:=Nat.div_le_self k 1048576;show k / 1048576≤n;omega,?_⟩ (Nat.div_lt_self (by omega) (by decide)) (leGo (cj4 ha hn hsh hv))
   rw[hd]at h4
   simp only[Yb9,List.length_cons,List.length_nil]at h4 ⊢
   omega
  ·have hv:g*((k%1048576:Nat):Int)=((k%1048576:Nat):Int):=by rcases hg with rfl|rfl<;>omega
   have hn:¬ ((k%1048576:Nat):Int)<0:=by omega
   refine aGo (cj4 Zr hc ha (cj3 hn hsh hv)) ?_
   repeat with_reducible intro K hK
   refine Zad (k / 1048576,l++[((k%1048576:Nat):Int)],ver+1) ⟨by rw[← hl,hd,Yd3];rfl,by have:=Nat.div_le_self k 1048576;show k / 1048576≤n;omega,?_⟩ (Nat.div_lt_self (by omega) (by decide)) (leGo (cj4 ha hn hsh hv))
   rw[hd]at h4
   simp only[Yb9,List.length_cons,List.length_nil]at h4 ⊢
   omega
theorem ZEl(n:Int)(h1 : -9223372036854775808≤n)(h2:n≤9223372036854775807):Zaa Tryz.prog 147 [dI n] (encB (ofZ n)):=by
 by_cases h:n<0
 ·have:=ZA5 n.natAbs (-1) (.inr rfl) (by omega) (by omega)
  rwa [show -1*(n.natAbs:Int)=n by omega]at this
 ·have:=ZA5 n.natAbs 1 (.inl rfl) (by omega) (by omega)
  rwa [show 1*(n.natAbs:Int)=n by omega]at this
theorem Zgy{a b:Int}(h:a<b):(a-b).sign = -1:=Yb3 (by omega)
theorem ZeZ{a b:Int}(h:b<a):(a-b).sign=1:=Yb2 (by omega)
theorem ZbA{a b:Int}(h:a=b):dI a=dI b:=by rw[h]
theorem Zuo(a b:Int)(la:(szZ a:Int)≤1099511627776)(lb:(szZ b:Int)≤1099511627776):Zah Tryz.prog 97 [encB (ofZ a),encB (ofZ b)] (dI (a-b).sign):=by
 refine inC Tryz.func97 rfl Tryz.ntmps97 ?_
 have Zr:=Tryz.results97
 have hl:=Zv6 (digs a.natAbs) (digs b.natAbs) (Ztv _) (Ztv _) (by unfold szZ at la;omega) (by unfold szZ at lb;omega)
 rw[Zau,Zau]at hl
 have hs:=(ZCf (ofZ a) (ofZ b) (by rw[Zh0];omega)).toN rfl
 have sa:=ZiA a la
 have sb:=ZiA b lb
 have ea:(ofZ a).s=a.sign:=rfl
 have eb:(ofZ b).s=b.sign:=rfl
 have da:(ofZ a).d=digs a.natAbs:=rfl
 have db:(ofZ b).d=digs b.natAbs:=rfl
 by_cases hab:a=b
 ·have he:Ziy (ofZ a) (ofZ b)=true:=ZdL.2 (by rw[hab])
  rw[he]at hs
  refine aGo Zr ?_
  repeat with_reducible intro K hK
  exact ZbA (by rw[hab];simp)
 have he:Ziy (ofZ a) (ofZ b)=false:=by
  cases h:Ziy (ofZ a) (ofZ b)with
  | false=>rfl
  | true=>exact absurd (ZwN (ZdL.1 h)) hab
 rw[he]at hs
 cases h1:a.sign !=b.sign
 ·have h1':a.sign=b.sign:=by simpa using h1
  by_cases h2:a.sign>0
  ·by_cases h3:(a.natAbs:Int)<b.natAbs
   ·refine aGo (cj4 Zr ea eb (cj4 da db h1 (cj2 h2 h3))) ?_
    repeat with_reducible intro K hK
    exact ZbA (by rw[Zgy];have:=ZaT a;have:=ZaT b;omega)
   ·refine aGo (cj4 Zr ea eb (cj4 da db h1 (cj2 h2 h3))) ?_
    repeat with_reducible intro K hK
    exact ZbA (by rw[ZeZ];have:=ZaT a;have:=ZaT b;omega)
  ·by_cases h3:(a.natAbs:Int)<b.natAbs
   ·refine aGo (cj4 Zr ea eb (cj4 da db h1 (cj2 h2 h3))) ?_
    repeat with_reducible intro K hK
    exact ZbA (by rw[ZeZ];have:=ZaT a;have:=ZaT b;omega)
   ·refine aGo (cj4 Zr ea eb (cj4 da db h1 (cj2 h2 h3))) ?_
    repeat with_reducible intro K hK
    exact ZbA (by rw[Zgy];have:=ZaT a;have:=ZaT b;omega)
 ·have h1':a.sign≠b.sign:=by simpa using h1
  by_cases h2:a.sign<b.sign
  ·refine aGo (cj4 Zr ea eb (cj4 da db h1 h2)) ?_
   repeat with_reducible intro K hK
   exact ZbA (by rw[Zgy];have:=ZaT a;have:=ZaT b;omega)
  ·refine aGo (cj4 Zr ea eb (cj4 da db h1 h2)) ?_
   repeat with_reducible intro K hK
   exact ZbA (by rw[ZeZ];have:=ZaT a;have:=ZaT b;omega)
theorem ZEm(a b:Int)(la:(szZ a:Int)≤549755813888)(lb:(szZ b:Int)≤549755813888):Zaa Tryz.prog 146 [encB (ofZ a),encB (ofZ b)] (.tup [encB (ofZ (Nat.gcd a.natAbs b.natAbs)),dI 0]):=by
 refine inN Tryz.func146 rfl Tryz.ntmps146 fun I=>?_
 have Zr:=Tryz.results146
 have sa:=ZiA a (by omega)
 have sb:=ZiA b (by omega)
 have ea:(ofZ a).s=a.sign:=rfl
 have eb:(ofZ b).s=b.sign:=rfl
 have da:(ofZ a).d=digs a.natAbs:=rfl
 have db:(ofZ b).d=digs b.natAbs:=rfl
 have ha:(szZ a:Int)=(digs a.natAbs).length:=rfl
 have hb:(szZ b:Int)=(digs b.natAbs).length:=rfl
 refine aGo (cj4 Zr ea eb (cj2 da db)) ?_
 repeat with_reducible intro K hK
 refine Zas (fun(p:Nat×Nat)=>[(4,.lp 2 0 0 0),(6,Zab (digs p.1)),(7,Zab (digs p.2))]) (fun _=>[(2,⟨51,0,2,[[dI 0,.nil]],0,false⟩)]) 3 0 (fun p=>Nat.gcd p.1 p.2=Nat.gcd a.natAbs b.natAbs∧((digs p.1).length:Int)≤549755813888∧((digs p.2).length:Int)≤549755813888) (fun p=>p.2) (a.natAbs,b.natAbs) ⟨rfl,by rw[← ha];exact la,by rw[← hb];exact lb⟩ ?_ ?_
 ·exact leGo trivial
 ·rintro⟨x,y⟩ ⟨hg,hx,hy⟩
  dsimp only at hg hx hy
  by_cases h0:y=0
  ·subst h0
   have hgx:Nat.gcd a.natAbs b.natAbs=x:=by rw[← hg];simp
   have h1:¬ ((digs 0).length:Int)>0:=by rw[Za1];simp
   have hm:=Zsg 1 x x (by omega) (by omega) (by omega)
   refine aGo (cj2 Zr h1) ?_
   repeat with_reducible intro K hK
   rw[hgx]
  ·have h1:((digs y).length:Int)>0:=by
    have:digs y≠[]:=fun h=>h0 (ZdT.1 h)
    have:=List.length_pos_iff.2 this
    omega
   have ho:=ZCh x y (by omega) (by omega) (by omega)
   have hlt:x%y<y:=Nat.mod_lt _ (by omega)
   refine aGo (cj2 Zr h1) ?_
   repeat with_reducible intro K hK
   exact Zad (y,x%y) ⟨by rw[← hg];simp only;rw[Nat.gcd_comm x y,Nat.gcd_rec y x,Nat.gcd_comm],hy,by have:=Ziq (a:=x%y) (b:=y) (by omega);dsimp only;omega⟩ hlt (by exact leGo trivial)
end Go.Proofs.YtjeaacindikplaaGreat
