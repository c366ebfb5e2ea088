/-
  The reference's integers, as data: Right, Same, Compare, Neg; the elder contracts.
-/
import Derived.Test.YtjeaacindikplaaGreatWLib
import Derived.Test.YtjeaacindikplaaGreatWConv
import Derived.Test.YtjeaacindikplaaGreatWRg
namespace Go.Proofs.YtjeaacindikplaaGreat
set_option linter.unusedVariables false
set_option linter.unusedSimpArgs false
set_option linter.unusedSectionVars false
open Go Go.RowKit
set_option maxRecDepth 100000
set_option maxHeartbeats 1000000
theorem Zov{l:List Int}{k:Nat}{e:Int}(h:Dig (l.take k))(hx:l[k]? =some e)(h0:0≤e)(h1:e<1048576):Dig (l.take (k+1)):=by
 rw[Yb4,hx]
 exact ZdF.2 ⟨h,by simp[Dig];omega⟩
theorem ZxX{l:List Int}{k:Nat}{e:Int}(hx:l[k]? =some e)(h:e<0∨1048576≤e):digB l=false:=by
 cases hd:digB l with
 | false=>rfl
 | true=>have:=Zht.1 hd e (Ya7 hx);omega
theorem ZD8{x:BigD}(h:x.d=[]):okB x=(x.s==0):=by simp[okB,h,digB]
theorem ZB5{x:BigD}(h:x.d≠[])(hd:digB x.d=true){e:Int}(he:x.d[x.d.length-1]? =some e):okB x=((x.s==1||x.s == -1)&&(e !=0)):=by
 have h1:x.d.isEmpty=false:=by simpa using h
 have h2:(x.d.getLast? !=some 0)=(e !=0):=by
  rw[List.getLast?_eq_getElem?,he]
  simp[bne]
 simp only[okB,hd,h1,h2,Bool.true_and,Bool.false_eq_true,if_false]
theorem Zny(x:BigD)(hl:(x.d.length:Int)≤9007199254740992):Zaf Tryz.prog 145 [encB x] (dB (okB x)):=by
 refine inC Tryz.func145 rfl Tryz.ntmps145 ?_
 have hres:=Tryz.results145
 refine aGo hres ?_
 repeat with_reducible intro K hK
 refine Zat (fun(k:Nat)=>[(1,.lp 0 0 0 0),(3,dI k)]) (fun _=>[(0,⟨51,0,2,[cB x],0,false⟩)]) 1 0 (fun k=>k≤x.d.length∧Dig (x.d.take k)) (fun k=>x.d.length-k) 0 ⟨by omega,by simp[Dig]⟩ ?_ ?_
 ·exact leGo trivial
 ·rintro k ⟨hk,hd⟩
  obtain⟨hw,h0⟩:=ZaM k
  by_cases h1:(k:Int)<x.d.length
  ·obtain⟨e,hx⟩:=getE (l:=x.d) (k:=k) (by omega)
   by_cases h2:e<0
   ·refine aGo (cj4 hres h0 h1 (cj2 h2 hx)) ?_
    repeat with_reducible intro K hK
    exact Zai (by simp[okB,ZxX hx (.inl h2)])
   ·by_cases h3:e≥1048576
    ·refine aGo (cj4 hres h0 h1 (cj3 h2 h3 hx)) ?_
     repeat with_reducible intro K hK
     exact Zai (by simp[okB,ZxX hx (.inr h3)])
    ·refine aGo (cj4 hres h0 h1 (cj4 h2 h3 hx hw)) ?_
     repeat with_reducible intro K hK
     exact Zac (k+1) ⟨by omega,Zov hd hx (by omega) (by omega)⟩ (by omega) (by exact leGo trivial)
  ·have hD:digB x.d=true:=Zht.2 (by rwa [Ya8 (by omega)]at hd)
   by_cases hn:x.d=[]
   ·have hok:=ZD8 hn
    have hn0:x.d.length=0:=by rw[hn];rfl
    have hz:((x.d.length:Int)==0)=true:=by simp[hn0]
    by_cases h2:x.s < -1
    ·refine aGo (cj3 hres h1 h2) ?_
     repeat with_reducible intro K hK
     exact Zai (by rw[hok];simp;omega)
    ·by_cases h3:x.s>1
     ·refine aGo (cj4 hres h1 h2 h3) ?_
      repeat with_reducible intro K hK
      exact Zai (by rw[hok];simp;omega)
     ·cases hs:x.s==0
      ·refine aGo (cj4 hres h1 h2 (cj3 h3 hz hs)) ?_
       repeat with_reducible intro K hK
       exact Zai (by rw[hok,hs])
      ·refine aGo (cj4 hres h1 h2 (cj3 h3 hz hs)) ?_
       repeat with_reducible intro K hK
       exact Zai (by rw[hok,hs])
   ·have hpos:0<x.d.length:=List.length_pos_iff.2 hn
    obtain⟨e,he⟩:=getE (l:=x.d) (k:=x.d.length-1) (by omega)
    have hok:=ZB5 hn hD he
    have hz:((x.d.length:Int)==0)=false:=by simp;omega
    by_cases h2:x.s < -1
    ·refine aGo (cj3 hres h1 h2) ?_
     repeat with_reducible intro K hK
     exact Zai (by rw[hok];simp;intro h;omega)
    ·by_cases h3:x.s>1
     ·refine aGo (cj4 hres h1 h2 h3) ?_
      repeat with_reducible intro K hK
      exact Zai (by rw[hok];simp;intro h;omega)
     ·cases hs:x.s==0
      ·have hw1:IntKind.i64.wrap ((x.d.length:Int)-1)=(x.d.length:Int)-1:=ZaD (by omega) (by omega)
       have ht1:((x.d.length:Int)-1).toNat=x.d.length-1:=by omega
       have h01:(0:Int)≤(x.d.length:Int)-1:=by omega
       have hs1:(x.s==1||x.s == -1)=true:=by simp at hs ⊢;omega
       refine aGo (cj4 hres h1 h2 (cj4 h3 hz hs (cj4 hw1 ht1 h01 he))) ?_
       repeat with_reducible intro K hK
       exact Zai (by rw[hok,hs1,Bool.true_and])
      ·have hs1:(x.s==1||x.s == -1)=false:=by simp at hs ⊢;omega
       refine aGo (cj4 hres h1 h2 (cj3 h3 hz hs)) ?_
       repeat with_reducible intro K hK
       exact Zai (by rw[hok,hs1,Bool.false_and])
set_option maxHeartbeats 8000000
theorem Znz(s:Int)(l:List Int)(hl:(l.length:Int)≤8796093022208):Zaa Tryz.prog 150 [dI s,Zab l] (encB (sgnd s l)):=by
 have k1:=Zjv l hl
 have hres:=Tryz.results150
 refine inN Tryz.func150 rfl Tryz.ntmps150 fun I=>?_
 by_cases h:(Zbc l).length=0
 ·have h2:Zbc l=[]:=Ya9 h
  rw[show sgnd s l=zB by unfold sgnd;rw[h2];rfl]
  rw[h2]at k1
  refine aGo hres ?_
  rfl
 ·have h2:(((Zbc l).length:Int)==0)=false:=by simpa using h
  rw[show sgnd s l=⟨s,Zbc l⟩ by unfold sgnd;rw[if_neg];simpa using fun e=>h (by rw[e];rfl)]
  exact aGo (cj2 hres h2) trivial
theorem ZdP{a b:BigD}:Ziy a b=true↔a=b:=by
 cases a;cases b;simp[Ziy]
theorem ZBN{a b:BigD}(h:(a.s !=b.s)=true):Ziy a b=false:=by
 cases hs:Ziy a b with
 | false=>rfl
 | true=>rw[ZdP.1 hs]at h;simp at h
theorem ZvQ{a b:BigD}(h:((a.d.length:Int) !=b.d.length)=true):Ziy a b=false:=by
 cases hs:Ziy a b with
 | false=>rfl
 | true=>rw[ZdP.1 hs]at h;simp at h
theorem ZyV{a b:BigD}{k:Nat}{x y:Int}(hx:a.d[k]? =some x)(hy:b.d[k]? =some y)(h:(x !=y)=true):Ziy a b=false:=by
 cases hs:Ziy a b with
 | false=>rfl
 | true=>rw[ZdP.1 hs,hy]at hx;cases hx;simp at h
theorem ZoR{a b:List Int}{k:Nat}{x y:Int}(h:a.take k=b.take k)(hx:a[k]? =some x)(hy:b[k]? =some y)(he:(x !=y)=false):a.take (k+1)=b.take (k+1):=by
 have:x=y:=by simpa using he
 rw[Yb4,Yb4,h,hx,hy,this]
theorem ZBP(a b:BigD)(ha:(a.d.length:Int)≤9007199254740992):Zaf Tryz.prog 152 [encB a,encB b] (dB (Ziy a b)):=by
 refine inC Tryz.func152 rfl Tryz.ntmps152 ?_
 have hres:=Tryz.results152
 cases h1:a.s !=b.s;rotate_left
 ·refine aGo (cj2 hres h1) ?_
  repeat with_reducible intro K hK
  exact Zai (ZBN h1).symm
 cases h2:(a.d.length:Int) !=b.d.length;rotate_left
 ·refine aGo (cj3 hres h1 h2) ?_
  repeat with_reducible intro K hK
  exact Zai (ZvQ h2).symm
 have hlen:a.d.length=b.d.length:=by simp at h2;omega
 refine aGo (cj3 hres h1 h2) ?_
 repeat with_reducible intro K hK
 refine Zat (fun(k:Nat)=>[(2,.lp 0 0 0 0),(3,.lp 1 0 0 0),(5,dI k)]) (fun _=>[(0,⟨51,0,2,[cB a],0,false⟩),(1,⟨51,0,2,[cB b],0,false⟩)]) 2 0 (fun k=>k≤a.d.length∧a.d.take k=b.d.take k) (fun k=>a.d.length-k) 0 ⟨by omega,by simp⟩ ?_ ?_
 ·exact leGo trivial
 ·rintro k ⟨hk,hd⟩
  obtain⟨hw,h0⟩:=ZaM k
  by_cases h3:(k:Int)<a.d.length
  ·obtain⟨x,hx⟩:=getE (l:=a.d) (k:=k) (by omega)
   obtain⟨y,hy⟩:=getE (l:=b.d) (k:=k) (by omega)
   cases h4:x !=y;rotate_left
   ·refine aGo (cj4 hres h0 h3 (cj3 h4 hx hy)) ?_
    repeat with_reducible intro K hK
    exact Zai (ZyV hx hy h4).symm
   ·refine aGo (cj4 hres h0 h3 (cj4 h4 hx hy hw)) ?_
    repeat with_reducible intro K hK
    exact Zac (k+1) ⟨by omega,ZoR hd hx hy h4⟩ (by omega) (by exact leGo trivial)
  ·refine aGo (cj2 hres h3) ?_
   repeat with_reducible intro K hK
   refine Zai (Eq.symm (ZdP.2 ?_))
   rw[Ya8 (by omega),Ya8 (by omega)]at hd
   have h1':a.s=b.s:=by simpa using h1
   cases a;cases b;simp_all
theorem Zcr(a:Int)(la:(szZ a:Int)≤1099511627776):Zaa Tryz.prog 145 [encB (ofZ a)] (dB true):=by
 have:=(Zny (ofZ a) (by rw[ZhV];omega)).toN rfl
 rwa [ZjC]at this
theorem ZnA(s:Int)(n:Nat)(z:Int)(h:z=s*n)(hs:s=1∨s = -1∨n=0)(hl:((digs n).length:Int)≤8796093022208):Zaa Tryz.prog 150 [dI s,Zab (digs n)] (encB (ofZ z)):=by
 have:=Znz s (digs n) hl
 rwa [Zdh z h hs]at this
theorem ZAH(a:Int)(la:(szZ a:Int)≤1099511627776):Zaa Tryz.prog 195 [encB (ofZ a)] (encB (ofZ (-a))):=by
 refine inN Tryz.func195 rfl Tryz.ntmps195 fun I=>?_
 have hres:=Tryz.results195
 have hn:=ZaD (n:=0-a.sign) (by rcases ZaL a with⟨_,h,_⟩|⟨_,h,_⟩|⟨_,h,_⟩<;>omega) (by rcases ZaL a with⟨_,h,_⟩|⟨_,h,_⟩|⟨_,h,_⟩<;>omega)
 have hs:(ofZ a).s=a.sign:=rfl
 have hd:(ofZ a).d=digs a.natAbs:=rfl
 have hz:0-a.sign = -a.sign:=by omega
 rw[hz]at hn
 have hm:=Znz (-a.sign) (digs a.natAbs) (by have:(szZ a:Int)=(digs a.natAbs).length:=rfl;omega)
 rw[Znq]at hm
 have hq0:=Zcr a la
 exact aGo (cj4 hres hs hd (cj2 hz hn)) trivial
theorem sign_mul(a b:Int) : -1≤a.sign*b.sign∧a.sign*b.sign≤1:=by
 rcases ZaL a with⟨_,h,_⟩|⟨_,h,_⟩|⟨_,h,_⟩<;>rcases ZaL b with⟨_,k,_⟩|⟨_,k,_⟩|⟨_,k,_⟩<;>rw[h,k]<;>decide
theorem ZkN(n:Nat):Dig (digs n):=(Zaq n).1
theorem ZAI(a b:Int)(la:(szZ a:Int)≤1099511627776)(lb:(szZ b:Int)≤1099511627776):Zaa Tryz.prog 96 [encB (ofZ a),encB (ofZ b)] (.tup [encB (ofZ (a*b)),dI 0]):=by
 refine inN Tryz.func96 rfl Tryz.ntmps96 fun I=>?_
 have hres:=Tryz.results96
 have hn:=ZaD (n:=a.sign*b.sign) (by have:=sign_mul a b;omega) (by have:=sign_mul a b;omega)
 have hs:(ofZ a).s=a.sign:=rfl
 have hd:(ofZ a).d=digs a.natAbs:=rfl
 have hsb:(ofZ b).s=b.sign:=rfl
 have hdb:(ofZ b).d=digs b.natAbs:=rfl
 have ha:(szZ a:Int)=(digs a.natAbs).length:=rfl
 have hb:(szZ b:Int)=(digs b.natAbs).length:=rfl
 have hab:((digs (a*b).natAbs).length:Int)≤(digs a.natAbs).length+(digs b.natAbs).length:=by have:=ZbY a b;unfold szZ at this;omega
 have ht:=Znw (digs a.natAbs) (digs b.natAbs) (ZkN _) (ZkN _) (by omega) (by omega)
 have e:(val (digs a.natAbs)*val (digs b.natAbs)).toNat=(a*b).natAbs:=by rw[Zar,Zar,Int.natAbs_mul,← Int.natCast_mul];rfl
 have hm:=Znz (a.sign*b.sign) (digs (a*b).natAbs) (by omega)
 rw[e]at ht
 rw[← e,Znr,e]at hm
 have hq0:=Zcr a la
 have hq1:=Zcr b lb
 exact aGo (cj4 hres hs hd (cj3 hsb hdb hn)) trivial
theorem ZAG(n:Nat)(g:Int)(hg:g=1∨g = -1)(h:(n:Int)≤9223372036854775808)(h1:g=1→(n:Int)≤9223372036854775807):Zaa Tryz.prog 147 [dI (g*n)] (encB (ofZ (g*n))):=by
 have hres:=Tryz.results147
 refine inN Tryz.func147 rfl Tryz.ntmps147 fun I=>?_
 by_cases h0:n=0
 ·subst h0
  rw[show g*((0:Nat):Int)=0 by simp]
  refine aGo hres ?_
  rw[ZnO]
  rfl
 have c1:(g*(n:Int)==0)=false:=by rcases hg with rfl|rfl<;>simp<;>omega
 have h5:(digs n).length≤4:=Zba (by simp only[bp];omega)
 have k4:=ZnA g n (g*n) rfl (by rcases hg with h|h;exact .inl h;exact .inr (.inl h)) (by omega)
 by_cases c2:g*(n:Int)<0
 rotate_left
 have eg:g=1:=by rcases hg with rfl|rfl<;>omega
 rotate_left
 have eg:g = -1:=by rcases hg with rfl|rfl<;>omega
 all_goals
  refine aGo (cj3 hres c1 c2) ?_
  repeat with_reducible intro K hK
  refine aLe (ZcT 4 3 1 rfl) ?_
  refine Zat (fun(p:Nat×List Int×Nat)=>[(0,dI (g*p.1)),(2,.lp 0 0 0 0),(3,dI g),(4,.ls 1 p.2.2)]) (fun p=>[(0,⟨51,0,2,[[dI 0,.nil]],0,false⟩),(1,⟨3,p.2.2,1,p.2.1.map (fun x=>[dI x]),0,false⟩)]) 2 0 (fun p=>p.2.1++digs p.1=digs n∧p.1≤n∧p.2.1.length+(digs p.1).length≤4) (fun p=>p.1) (n,[],0) ⟨rfl,Ya4 _,by simpa using h5⟩ ?_ ?_
  ·exact leGo (cj2 hres eg)
  rintro⟨k,l,ver⟩ ⟨hl,hk,h4⟩
  simp only at hl hk h4 ⊢
  have j1:(l.map fun x=>[dI x]).map (List.map datJ)=l.map fun x=>[dI x]:=by rw[List.map_map];exact List.map_congr_left fun x _=>rfl
  clear eg c2
  by_cases h0:k=0
  ·subst h0
   rw[Za0,List.append_nil]at hl
   subst hl
   rw[show g*((0:Nat):Int)=0 by simp]
   have hc:((0:Int) !=0)=false:=rfl
   exact aGo (cj3 hres hc j1) trivial
  have hc:(g*(k:Int) !=0)=true:=by rcases hg with rfl|rfl<;>simp<;>omega
  have hd:=Zf0 h0
  have ha:(g*(k:Int)).tmod 1048576=g*((k%1048576:Nat):Int):=by
   rcases hg with rfl|rfl
   ·rw[Int.one_mul,Int.one_mul];rfl
   ·rw[Int.neg_one_mul,Int.neg_one_mul,Int.neg_tmod];rfl
  have hsh:IntKind.i64.wrap ((g*(k:Int)).tdiv 1048576)=g*((k / 1048576:Nat):Int):=by
   have e:(k:Int).tdiv 1048576=((k / 1048576:Nat):Int):=(Int.ofNat_tdiv k 1048576).symm
   rcases hg with rfl|rfl
   ·rw[Int.one_mul,Int.one_mul,e];exact ZaD (by omega) (by omega)
   ·rw[Int.neg_one_mul,Int.neg_one_mul,Int.neg_tdiv,e];exact ZaD (by omega) (by omega)
  by_cases hn:g*((k%1048576:Nat):Int)<0
  ·have hv:IntKind.i64.wrap (0-g*((k%1048576:Nat):Int))=((k%1048576:Nat):Int):=by
    rcases hg with rfl|rfl
    ·omega
    ·exact(ZaD (by omega) (by omega)).trans (by omega)
   refine aGo (cj4 hres hc ha (cj3 hn hsh hv)) ?_
   repeat with_reducible intro K hK
   refine Zac (k / 1048576,l++[((k%1048576:Nat):Int)],ver+1) ⟨by rw[← hl,hd,List.append_assoc];rfl,by have:=Nat.div_le_self k 1048576;show k / 1048576≤n;omega,?_⟩ (Nat.div_lt_self (by omega) (by decide)) (leGo (cj4 ha hn hsh hv))
   rw[hd]at h4
   simp only[List.length_append,List.length_cons,List.length_nil]at h4 ⊢
   omega
  ·have hv:g*((k%1048576:Nat):Int)=((k%1048576:Nat):Int):=by rcases hg with rfl|rfl<;>omega
   have hn:¬ ((k%1048576:Nat):Int)<0:=by omega
   refine aGo (cj4 hres hc ha (cj3 hn hsh hv)) ?_
   repeat with_reducible intro K hK
   refine Zac (k / 1048576,l++[((k%1048576:Nat):Int)],ver+1) ⟨by rw[← hl,hd,List.append_assoc];rfl,by have:=Nat.div_le_self k 1048576;show k / 1048576≤n;omega,?_⟩ (Nat.div_lt_self (by omega) (by decide)) (leGo (cj4 ha hn hsh hv))
   rw[hd]at h4
   simp only[List.length_append,List.length_cons,List.length_nil]at h4 ⊢
   omega
theorem ZvZ(n:Int)(h1 : -9223372036854775808≤n)(h2:n≤9223372036854775807):Zaa Tryz.prog 147 [dI n] (encB (ofZ n)):=by
 by_cases h:n<0
 ·have:=ZAG n.natAbs (-1) (.inr rfl) (by omega) (by omega)
  rwa [show -1*(n.natAbs:Int)=n by omega]at this
 ·have:=ZAG n.natAbs 1 (.inl rfl) (by omega) (by omega)
  rwa [show 1*(n.natAbs:Int)=n by omega]at this
theorem Zgt{a b:Int}(h:a<b):(a-b).sign = -1:=Yb3 (by omega)
theorem Ze0{a b:Int}(h:b<a):(a-b).sign=1:=Yb2 (by omega)
theorem ZaX{a b:Int}(h:a=b):dI a=dI b:=by rw[h]
theorem ZmA(a b:Int)(la:(szZ a:Int)≤1099511627776)(lb:(szZ b:Int)≤1099511627776):Zaf Tryz.prog 97 [encB (ofZ a),encB (ofZ b)] (dI (a-b).sign):=by
 refine inC Tryz.func97 rfl Tryz.ntmps97 ?_
 have hres:=Tryz.results97
 have hl:=Zv0 (digs a.natAbs) (digs b.natAbs) (ZkN _) (ZkN _) (by unfold szZ at la;omega) (by unfold szZ at lb;omega)
 rw[Zar,Zar]at hl
 have hs:=(ZBP (ofZ a) (ofZ b) (by rw[ZhV];omega)).toN rfl
 have sa:=Zcr a la
 have sb:=Zcr b lb
 have ea:(ofZ a).s=a.sign:=rfl
 have eb:(ofZ b).s=b.sign:=rfl
 have da:(ofZ a).d=digs a.natAbs:=rfl
 have db:(ofZ b).d=digs b.natAbs:=rfl
 by_cases hab:a=b
 ·have he:Ziy (ofZ a) (ofZ b)=true:=ZdP.2 (by rw[hab])
  rw[he]at hs
  refine aGo hres ?_
  repeat with_reducible intro K hK
  exact ZaX (by rw[hab];simp)
 have he:Ziy (ofZ a) (ofZ b)=false:=by
  cases h:Ziy (ofZ a) (ofZ b)with
  | false=>rfl
  | true=>exact absurd (ZwF (ZdP.1 h)) hab
 rw[he]at hs
 cases h1:a.sign !=b.sign
 ·have h1':a.sign=b.sign:=by simpa using h1
  by_cases h2:a.sign>0
  ·by_cases h3:(a.natAbs:Int)<b.natAbs
   ·refine aGo (cj4 hres ea eb (cj4 da db h1 (cj2 h2 h3))) ?_
    repeat with_reducible intro K hK
    exact ZaX (by rw[Zgt];have:=ZaL a;have:=ZaL b;omega)
   ·refine aGo (cj4 hres ea eb (cj4 da db h1 (cj2 h2 h3))) ?_
    repeat with_reducible intro K hK
    exact ZaX (by rw[Ze0];have:=ZaL a;have:=ZaL b;omega)
  ·by_cases h3:(a.natAbs:Int)<b.natAbs
   ·refine aGo (cj4 hres ea eb (cj4 da db h1 (cj2 h2 h3))) ?_
    repeat with_reducible intro K hK
    exact ZaX (by rw[Ze0];have:=ZaL a;have:=ZaL b;omega)
   ·refine aGo (cj4 hres ea eb (cj4 da db h1 (cj2 h2 h3))) ?_
    repeat with_reducible intro K hK
    exact ZaX (by rw[Zgt];have:=ZaL a;have:=ZaL b;omega)
 ·have h1':a.sign≠b.sign:=by simpa using h1
  by_cases h2:a.sign<b.sign
  ·refine aGo (cj4 hres ea eb (cj4 da db h1 h2)) ?_
   repeat with_reducible intro K hK
   exact ZaX (by rw[Zgt];have:=ZaL a;have:=ZaL b;omega)
  ·refine aGo (cj4 hres ea eb (cj4 da db h1 h2)) ?_
   repeat with_reducible intro K hK
   exact ZaX (by rw[Ze0];have:=ZaL a;have:=ZaL b;omega)
theorem Zv1(a b:Int)(la:(szZ a:Int)≤549755813888)(lb:(szZ b:Int)≤549755813888):Zaa Tryz.prog 146 [encB (ofZ a),encB (ofZ b)] (.tup [encB (ofZ (Nat.gcd a.natAbs b.natAbs)),dI 0]):=by
 refine inN Tryz.func146 rfl Tryz.ntmps146 fun I=>?_
 have hres:=Tryz.results146
 have sa:=Zcr a (by omega)
 have sb:=Zcr b (by omega)
 have ea:(ofZ a).s=a.sign:=rfl
 have eb:(ofZ b).s=b.sign:=rfl
 have da:(ofZ a).d=digs a.natAbs:=rfl
 have db:(ofZ b).d=digs b.natAbs:=rfl
 have ha:(szZ a:Int)=(digs a.natAbs).length:=rfl
 have hb:(szZ b:Int)=(digs b.natAbs).length:=rfl
 refine aGo (cj4 hres ea eb (cj2 da db)) ?_
 repeat with_reducible intro K hK
 refine Zat (fun(p:Nat×Nat)=>[(4,.lp 2 0 0 0),(6,Zab (digs p.1)),(7,Zab (digs p.2))]) (fun _=>[(2,⟨51,0,2,[[dI 0,.nil]],0,false⟩)]) 3 0 (fun p=>Nat.gcd p.1 p.2=Nat.gcd a.natAbs b.natAbs∧((digs p.1).length:Int)≤549755813888∧((digs p.2).length:Int)≤549755813888) (fun p=>p.2) (a.natAbs,b.natAbs) ⟨rfl,by rw[← ha];exact la,by rw[← hb];exact lb⟩ ?_ ?_
 ·exact leGo trivial
 ·rintro⟨x,y⟩ ⟨hg,hx,hy⟩
  dsimp only at hg hx hy
  by_cases h0:y=0
  ·subst h0
   have hgx:Nat.gcd a.natAbs b.natAbs=x:=by rw[← hg];simp
   have h1:¬ ((digs 0).length:Int)>0:=by rw[Za0];simp
   have hm:=ZnA 1 x x (by omega) (by omega) (by omega)
   refine aGo (cj2 hres h1) ?_
   repeat with_reducible intro K hK
   rw[hgx]
  ·have h1:((digs y).length:Int)>0:=by
    have:digs y≠[]:=fun h=>h0 (ZdY.1 h)
    have:=List.length_pos_iff.2 this
    omega
   have ho:=ZvX x y (by omega) (by omega) (by omega)
   have hlt:x%y<y:=Nat.mod_lt _ (by omega)
   refine aGo (cj2 hres h1) ?_
   repeat with_reducible intro K hK
   exact Zac (y,x%y) ⟨by rw[← hg];simp only;rw[Nat.gcd_comm x y,Nat.gcd_rec y x,Nat.gcd_comm],hy,by have:=ZgR (a:=x%y) (b:=y) (by omega);dsimp only;omega⟩ hlt (by exact leGo trivial)
theorem Zsk(a g c:Int)(hg:0<g)(h:a=g*c)(la:(szZ a:Int)≤549755813888)(lg:(szZ g:Int)≤549755813888):Zaa Tryz.prog 196 [encB (ofZ a),encB (ofZ g)] (.tup [encB (ofZ c),encB (ofZ 0),dI 0]):=by
 have hres:=Tryz.results196
 have sa:=Zcr a (by omega)
 have sg:=Zcr g (by omega)
 have eA:ofZ a=⟨a.sign,digs a.natAbs⟩:=rfl
 have eG:ofZ g=⟨1,digs g.natAbs⟩:=by rw[ofZ,Yb2 hg]
 have ha:(szZ a:Int)=(digs a.natAbs).length:=rfl
 have hb:(szZ g:Int)=(digs g.natAbs).length:=rfl
 have ho:=ZvX a.natAbs g.natAbs (by omega) (by omega) (by omega)
 have hn:a.natAbs=g.natAbs*c.natAbs:=by rw[h,Int.natAbs_mul]
 have hq:a.natAbs / g.natAbs=c.natAbs:=by rw[hn,Nat.mul_div_cancel_left _ (by omega)]
 have hr:a.natAbs%g.natAbs=0:=by rw[hn,Nat.mul_mod_right]
 have hc:((digs c.natAbs).length:Int)≤(digs a.natAbs).length:=by
  have:=ZgR (a:=c.natAbs) (b:=a.natAbs) (by rw[hn];exact Nat.le_mul_of_pos_left _ (by omega))
  omega
 rw[hq,hr,Za0]at ho
 rw[eA]at sa
 rw[eG]at sg
 rw[eA,eG]
 have hs:a.sign=c.sign:=by rw[h,Int.sign_mul,Yb2 hg,Int.one_mul]
 rw[hs]at sa ⊢
 have hm0:Zaa Tryz.prog 150 [dI c.sign,Zab []] (encB (ofZ 0)):=by
  have:=Znz c.sign [] (by simp)
  rwa [show sgnd c.sign []=ofZ 0 by rw[ZnO];rfl]at this
 have hm:=ZnA c.sign c.natAbs c (Int.sign_mul_natAbs c).symm (by have:=ZaL c;omega) (by omega)
 rcases ZaL c with⟨h1,h2,h3⟩|⟨h1,h2,h3⟩|⟨h1,h2,h3⟩<;>rw[h2]at sa hm hm0 ⊢
 all_goals
  refine inN Tryz.func196 rfl Tryz.ntmps196 fun I=>?_
  exact aGo hres trivial
end Go.Proofs.YtjeaacindikplaaGreat
