/-
  Which goals can be more than 0 (plain).
-/
import Derived.Test.YtblamlnjbjaokaaGreatVLib
import Derived.Test.YtblamlnjbjaokaaGreatVT01
import Derived.Test.YtblamlnjbjaokaaGreatVT03
import Derived.Test.YtblamlnjbjaokaaGreatVRefA
namespace Go.Proofs.YtblamlnjbjaokaaGreat
set_option linter.unusedVariables false
set_option linter.unusedSimpArgs false
set_option linter.unusedSectionVars false
open Go Go.RowKit
set_option maxRecDepth 100000
structure OutOk (s:SysD) (l:List (List Zaj)) (out:List Bool):Prop where
 len:out.length=l.length
 ok:∀ (i:Nat)(g:List Zaj),l[i]? =some g→out[i]? =some true→∃ x,Zba s x=true∧0<atG x g
section
variable {s:SysD} {l:List (List Zaj)} (hs:ZaF s=true) (hl:∀ g∈l,Zat g s.n=true) (hp:∀ x,Zba s x=true→∀ g∈l,0≤atG x g)
include hs hl hp
omit hs hl hp in
end
structure ResD where
 l:Nat
 is:List Bool
 z:List Zac
section
variable {t:TrD} (R:Zx5 t)
include R
end
structure OriD where
 k:Int
 v:Int
 m:Int
 i:Int
def sgnE(e:EvD)(i j:Nat):Int:=if (mvAt e j).f=(mvAt e i).f then -1 else if (mvAt e j).t=(mvAt e i).f then 1 else 0
def stkE(e:EvD)(i m:Nat):Nat→List Zaj
 | 0=>[]
 | k+1=>stkE e i m k++(if sgnE e i k=0 then []else [⟨(k:Int)*e.m+m,ofQ (sgnE e i k:Rat)⟩])
def cofE(b own more:Int)(k:Nat):Int:=if (k:Int)=own then b+more else b
def sumE(M:Int)(i:Nat)(b own more:Int):Nat→List Zaj
 | 0=>[]
 | k+1=>sumE M i b own more k++(if cofE b own more k=0 then []else [⟨(i:Int)*M+k,ofQ (cofE b own more k:Rat)⟩])
abbrev RoO:Type:=RowD×OriD
def Zb0(e:EvD)(i m:Nat):RoO:=(⟨stkE e i m (i+1),if (mvAt e i).a then 2 else 0,ofQ 0⟩,⟨0,i,m,-1⟩)
def Zbx(e:EvD)(iv:IntD)(i:Nat):List RoO :=
 if iv.ok then [(⟨sumE e.m i 1 (-1) 0 e.m.toNat,0,iv.lo⟩,⟨1,i,-1,-1⟩),(⟨sumE e.m i 1 (-1) 0 e.m.toNat,1,iv.hi⟩,⟨2,i,-1,-1⟩)]else []
def Zfl(e:EvD)(i:Nat)(n:Nat)(p:PuD):List RoO :=
 if p.v=i then [(⟨sumE e.m i (-p.lo) p.m 1000 e.m.toNat,0,ofQ 0⟩,⟨3,i,-1,n⟩),(⟨sumE e.m i p.hi p.m (-1000) e.m.toNat,0,ofQ 0⟩,⟨4,i,-1,n⟩)]else []
def Zbz(e:EvD)(i:Nat):Nat→List RoO
 | 0=>[]
 | n+1=>Zbz e i n++(match e.pu[n]? with|some p=>Zfl e i n p|none=>[])
def ivE(e:EvD)(x:MvD):IntD:=if x.s = -1 then noI else intD e.ce e.re x.s x.r x.d
def Zci(e:EvD)(i:Nat):List RoO:=if ZiM e i then []else(List.range e.m.toNat).map (Zb0 e i)
def Zhr(e:EvD)(iv:Nat→IntD)(i:Nat):List RoO:=Zci e i++(Zbx e (iv i) i++Zbz e i e.pu.length)
def Zd8(e:EvD)(iv:Nat→IntD):Nat→List RoO
 | 0=>[]
 | i+1=>Zd8 e iv i++Zhr e iv i
def ivF(e:EvD)(i:Nat):IntD:=ivE e (mvAt e i)
def Zp4(e:EvD):List RoO:=Zd8 e (ivF e) e.mv.length
def sysE(e:EvD):SysD:=⟨e.mv.length*e.m,(Zp4 e).map (·.1)⟩
structure ZiV (e u:EvD):Prop where
 m:e.m=u.m
 pl:e.pl=u.pl
 pu:e.pu=u.pu
 n:e.mv.length=u.mv.length
 f:∀ i,(mvAt e i).f=(mvAt u i).f
 t:∀ i,(mvAt e i).t=(mvAt u i).t
 a:∀ i,(mvAt e i).a=(mvAt u i).a
section
variable {e u:EvD} (h:ZiV e u)
include h
theorem ZiV.bin(i:Nat):ZiM e i=ZiM u i:=by unfold ZiM Zcx;rw[h.pl,h.f]
theorem ZiV.sgn(i j:Nat):sgnE e i j=sgnE u i j:=by unfold sgnE;rw[h.f,h.f,h.t]
theorem ZiV.stk(i m:Nat):∀ k,stkE e i m k=stkE u i m k
 | 0=>rfl
 | k+1=>by simp only[stkE,ZiV.stk i m k,h.sgn,h.m]
theorem ZiV.stock(i m:Nat):Zb0 e i m=Zb0 u i m:=by unfold Zb0;rw[h.stk,h.a]
theorem ZiV.stocks(i:Nat):Zci e i=Zci u i:=by
 unfold Zci
 rw[h.bin,h.m,show Zb0 e i=Zb0 u i from funext (h.stock i)]
theorem ZiV.weight(iv:IntD)(i:Nat):Zbx e iv i=Zbx u iv i:=by unfold Zbx;rw[h.m]
theorem ZiV.pures(i:Nat):∀ n,Zbz e i n=Zbz u i n
 | 0=>rfl
 | n+1=>by
   unfold Zbz
   rw[ZiV.pures i n,h.pu]
   cases u.pu[n]? with
   | none=>rfl
   | some p=>simp only[Zfl,h.m]
theorem ZiV.move{iv iw:Nat→IntD}{i:Nat}(hi:iv i=iw i):Zhr e iv i=Zhr u iw i:=by unfold Zhr;rw[h.stocks,h.weight,h.pures,h.pu,hi]
end
theorem Zyf{M:Int}{a b:Nat}{m m':Int}(h:a<b)(hm:m<M)(h0:0≤m')(hM:0≤M):(a:Int)*M+m<(b:Int)*M+m':=by
 have h1:((a:Int)+1)*M≤(b:Int)*M:=Int.mul_le_mul_of_nonneg_right (by omega) hM
 rw[Int.add_mul,Int.one_mul]at h1
 omega
theorem ZvC{M:Int}{a n:Nat}{m:Int}(h:a<n)(hm:m<M)(h0:0≤m)(hM:0≤M):0≤(a:Int)*M+m∧(a:Int)*M+m<(n:Int)*M:=by
 have h1:=Zyf (m':=0) h hm (Int.le_refl _) hM
 have h2:0≤(a:Int)*M:=Int.mul_nonneg (by omega) hM
 omega
section
variable {e:EvD} {i m:Nat} (hm:(m:Int)<e.m)
include hm
theorem Zlj(n:Nat):∀ k,k≤n→goR ((n:Int)*e.m) (-1) (stkE e i m k)=true∧∀ t∈stkE e i m k,t.v<(k:Int)*e.m
 | 0,_=>⟨rfl,fun t ht=>by cases ht⟩
 | k+1,hk=>by
   obtain⟨a,b⟩:=Zlj n k (by omega)
   have hM:0≤e.m:=by omega
   have hv:=ZvC (a:=k) (n:=n) (m:=m) (by omega) hm (by omega) hM
   have h1:((k+1:Nat):Int)*e.m=(k:Int)*e.m+e.m:=by rw[Int.natCast_add,Int.add_mul];simp
   unfold stkE
   by_cases h:sgnE e i k=0
   ·rw[if_pos h,List.append_nil]
    exact⟨a,fun t ht=>by have:=b t ht;omega⟩
   ·rw[if_neg h]
    have hs:((sgnE e i k:Int):Rat)≠0:=fun x=>h (Rat.intCast_inj.1 (x.trans rfl))
    refine⟨ZhH hv.2 (ZfE hs) _ _ a (by show(-1:Int)<(k:Int)*e.m+m;omega) fun u hu=>?_,fun t ht=>?_⟩
    ·have:=b u hu
     show u.v<(k:Int)*e.m+m
     omega
    ·rcases Yd5.1 ht with ht|ht
     ·have:=b t ht;omega
     ·rw[List.mem_singleton.1 ht,h1]
      show(k:Int)*e.m+m<_
      omega
end
theorem Zlg{M:Int}{i n:Nat}{b own more:Int}(hi:i<n):∀ k:Nat,(k:Int)≤M→goR ((n:Int)*M) (-1) (sumE M i b own more k)=true∧∀ t∈sumE M i b own more k,t.v<(i:Int)*M+k
 | 0,_=>⟨rfl,fun t ht=>by cases ht⟩
 | k+1,hk=>by
   obtain⟨a,c⟩:=Zlg (M:=M) (b:=b) (own:=own) (more:=more) hi k (by omega)
   have hkM:(k:Int)<M:=by omega
   have hv:0≤(i:Int)*M+(k:Int)∧(i:Int)*M+(k:Int)<(n:Int)*M:=ZvC hi hkM (by omega) (by omega)
   unfold sumE
   by_cases h:cofE b own more k=0
   ·rw[if_pos h,List.append_nil]
    exact⟨a,fun t ht=>by have:=c t ht;omega⟩
   ·rw[if_neg h]
    have hs:((cofE b own more k:Int):Rat)≠0:=fun x=>h (Rat.intCast_inj.1 (x.trans rfl))
    refine⟨ZhH hv.2 (ZfE hs) _ _ a (by show(-1:Int)<(i:Int)*M+k;omega) fun u hu=>c u hu,fun t ht=>?_⟩
    ·rcases Yd5.1 ht with ht|ht
     ·have:=c t ht;omega
     ·rw[List.mem_singleton.1 ht]
      show(i:Int)*M+k<_
      omega
theorem iv_ok(e:EvD)(x:MvD)(h:(ivE e x).ok=true):okF (ivE e x).lo=true∧okF (ivE e x).hi=true:=by
 unfold ivE at h ⊢
 split at h
 ·cases h
 ·rename_i h1
  rw[if_neg h1]
  unfold intD at h ⊢
  revert h
  cases ZnE e.ce x.s x.d with
  | none=>intro h;cases h
  | some b =>
    simp only
    cases e.ce[b]? with
    | none=>intro h;cases h
    | some c =>
      simp only
      split
      ·intro h;cases h
      ·intro _;exact⟨Zbj _,Zbj _⟩
theorem Zgg{e:EvD}{iv:Nat→IntD}{r:RoO}:∀ n,r∈Zd8 e iv n↔∃ i,i<n∧r∈Zhr e iv i
 | 0=>⟨fun h=>(by cases h),fun⟨i,h,_⟩=>(by omega)⟩
 | n+1=>by
   simp only[Zd8,Yd5,Zgg n]
   constructor
   ·rintro(⟨i,h,hw⟩|h)
    ·exact⟨i,by omega,hw⟩
    ·exact⟨n,by omega,h⟩
   ·rintro⟨i,h,hw⟩
    by_cases e:i=n
    ·subst e;exact .inr hw
    ·exact .inl ⟨i,by omega,hw⟩
theorem Zgh{e:EvD}{i:Nat}{r:RoO}:∀ n,r∈Zbz e i n→∃ (k:Nat)(p:PuD),e.pu[k]? =some p∧r∈Zfl e i k p
 | 0,h=>by cases h
 | n+1,h=>by
   unfold Zbz at h
   rcases Yd5.1 h with h|h
   ·exact Zgh n h
   ·cases hp:e.pu[n]? with
    | none=>rw[hp]at h;cases h
    | some p=>rw[hp]at h;exact⟨n,p,hp,h⟩
theorem ZeE{n k:Int}{l:List Zaj}{v:Zac}(hg:goR n (-1) l=true)(hn:0≤n)(h0:0≤k)(h3:k<3)(ho:okF v=true):Zcv n ⟨l,k,v⟩=true:=by
 simp only[Zcv,Zat,hg,ho,hn,h0,h3,decide_true,Bool.and_self]
theorem Zp0{e:EvD}(hM:1≤e.m){iv:Nat→IntD}(hiv:∀ i,(iv i).ok=true→okF (iv i).lo=true∧okF (iv i).hi=true){i n:Nat}(hi:i<n){r:RoO}(hr:r∈Zhr e iv i):Zcv ((n:Int)*e.m) r.1=true:=by
 have hn:0≤(n:Int)*e.m:=Int.mul_nonneg (by omega) (by omega)
 have sr:∀ b own more,goR ((n:Int)*e.m) (-1) (sumE e.m i b own more e.m.toNat)=true:=fun b own more=>(Zlg hi e.m.toNat (by omega)).1
 unfold Zhr at hr
 simp only[Yd5]at hr
 rcases hr with hr|hr|hr
 ·unfold Zci at hr
  split at hr
  ·cases hr
  ·obtain⟨m,hm,rfl⟩:=Yc6.1 hr
   have hm:=Yd2.1 hm
   refine ZeE (Zlj (by omega) n (i+1) (by omega)).1 hn ?_ ?_ (Zbj 0)
   ·cases(mvAt e i).a<;>decide
   ·cases(mvAt e i).a<;>decide
 ·unfold Zbx at hr
  split at hr
  ·rename_i ho
   obtain⟨o1,o2⟩:=hiv i ho
   simp only[List.mem_cons,List.not_mem_nil,or_false]at hr
   rcases hr with rfl|rfl
   ·exact ZeE (sr _ _ _) hn (by decide) (by decide) o1
   ·exact ZeE (sr _ _ _) hn (by decide) (by decide) o2
  ·cases hr
 ·obtain⟨k,p,_,hr⟩:=Zgh _ hr
  unfold Zfl at hr
  split at hr
  ·simp only[List.mem_cons,List.not_mem_nil,or_false]at hr
   rcases hr with rfl|rfl
   ·exact ZeE (sr _ _ _) hn (by decide) (by decide) (Zbj 0)
   ·exact ZeE (sr _ _ _) hn (by decide) (by decide) (Zbj 0)
  ·cases hr
theorem Zif(e:EvD)(i:Nat):∀ n,(Zbz e i n).length≤2*n
 | 0=>Ya4 _
 | n+1=>by
   have ih:=Zif e i n
   unfold Zbz
   rw[Yb9]
   cases e.pu[n]? with
   | none=>simp only[List.length_nil];omega
   | some p =>
     have:(Zfl e i n p).length≤2:=by unfold Zfl;split<;>simp
     simp only
     omega
theorem Zux(e:EvD)(iv:Nat→IntD)(i:Nat):(Zhr e iv i).length≤e.m.toNat+2+2*e.pu.length:=by
 have h1:(Zci e i).length≤e.m.toNat:=by unfold Zci;split<;>simp
 have h2:(Zbx e (iv i) i).length≤2:=by unfold Zbx;split<;>simp
 have h3:=Zif e i e.pu.length
 unfold Zhr
 rw[Yb9,Yb9]
 omega
theorem Zh7(e:EvD)(iv:Nat→IntD):∀ n,(Zd8 e iv n).length≤n*(e.m.toNat+2+2*e.pu.length)
 | 0=>by simp[Zd8]
 | n+1=>by
   have ih:=Zh7 e iv n
   have:=Zux e iv n
   simp only[Zd8,Yb9,Nat.add_mul,Nat.one_mul]at *
   omega
theorem Zpo{e:EvD}(R:Zd2 e)(hn:e.mv.length≤12)(hp:e.pu.length≤12):ZaF (sysE e)=true:=by
 have hM:=R.m
 have hl:=Zh7 e (ivF e) e.mv.length
 have h1:e.mv.length*(e.m.toNat+2+2*e.pu.length)≤12*(6+2+2*12):=Nat.mul_le_mul hn (by omega)
 have h2:(e.mv.length:Int)*e.m≤12*6:=by
  have a:=Int.mul_le_mul_of_nonneg_right (a:=(e.mv.length:Int)) (b:=12) (c:=e.m) (by omega) (by omega)
  omega
 have h0:0≤(e.mv.length:Int)*e.m:=Int.mul_nonneg (by omega) (by omega)
 have hn0:(sysE e).n=(e.mv.length:Int)*e.m:=rfl
 have hr:(sysE e).r.length≤6000:=by
  show((Zp4 e).map (·.1)).length≤6000
  rw[Yc0]
  unfold Zp4
  omega
 unfold ZaF
 rw[decide_eq_true (show 0≤(sysE e).n by omega),decide_eq_true (show(sysE e).n≤1500 by omega),decide_eq_true (show((sysE e).r.length:Int)≤6000 by omega),Bool.true_and,Bool.true_and,Bool.true_and,Ya6]
 intro w hw
 obtain⟨r,hr,rfl⟩:=Yc6.1 hw
 obtain⟨i,hi,hr⟩:=(Zgg _).1 hr
 exact Zp0 hM.1 (fun i h=>iv_ok e _ h) hi hr
def hAt(h:List (List Zac))(i m:Nat):Rat:=qOf ((((h[i]?).getD [])[m]?).getD zF)
def stK(e:EvD)(x:Nat→Nat→Rat)(p:Int)(m:Nat):Nat→Rat
 | 0=>0
 | k+1=>stK e x p m k+(if (mvAt e k).t=p then x k m else if (mvAt e k).f=p then -(x k m)else 0)
def Zc3(x:Nat→Nat→Rat)(i:Nat):Nat→Rat
 | 0=>0
 | M+1=>Zc3 x i M+x i M
structure Ztx (e:EvD) (x:Nat→Nat→Rat) (i:Nat):Prop where
 pos:∀ m,m<e.m.toNat→0≤x i m
 st:ZiM e i=false→∀ m,m<e.m.toNat→x i m≤stK e x (mvAt e i).f m i
 all:ZiM e i=false→(mvAt e i).a=true→∀ m,m<e.m.toNat→x i m=stK e x (mvAt e i).f m i
 iv:(ivE e (mvAt e i)).ok=true→qOf (ivE e (mvAt e i)).lo≤Zc3 x i e.m.toNat∧Zc3 x i e.m.toNat≤qOf (ivE e (mvAt e i)).hi
 pu:∀ p∈e.pu,p.v=i→(p.lo:Rat)*Zc3 x i e.m.toNat≤1000*x i p.m.toNat∧1000*x i p.m.toNat≤(p.hi:Rat)*Zc3 x i e.m.toNat
theorem ZsE{M:Nat}:∀ (h:List (List Zac)) (i m:Nat),(∀ l∈h,l.length=M)→i<h.length→m<M→h.flatten[i*M+m]? =((h[i]?).getD [])[m]?
 | [],i,m,_,hi,_=>by simp at hi
 | l ::h,0,m,hl,_,hm=>by
   rw[List.flatten_cons,Nat.zero_mul,Nat.zero_add,Yc3 (by rw[hl l Yb7];exact hm)]
   rfl
 | l ::h,i+1,m,hl,hi,hm=>by
   have h1:=hl l Yb7
   rw[List.flatten_cons,Yc4 (by rw[h1,Nat.add_mul];omega),h1,show(i+1)*M+m-M=i*M+m by rw[Nat.add_mul];omega]
   have:=ZsE h i m (fun l hl'=>hl l (Yb6 _ hl')) (by simpa using hi) hm
   rw[this]
   rfl
theorem Zl8{M:Nat}:∀ (h:List (List Zac)),(∀ l∈h,l.length=M)→h.flatten.length=h.length*M
 | [],_=>by simp
 | l ::h,hl=>by
   rw[List.flatten_cons,Yb9,hl l Yb7,Zl8 h fun l hl'=>hl l (Yb6 _ hl'),List.length_cons,Nat.add_mul]
   omega
section
variable {e:EvD} {h:List (List Zac)} (hM:0≤e.m) (hl:∀ l∈h,l.length=e.m.toNat) (hn:h.length=e.mv.length)
include hM hl hn
theorem Zj7{i m:Nat}(hi:i<e.mv.length)(hm:m<e.m.toNat):atP h.flatten ((i:Int)*e.m+m)=hAt h i m:=by
 have e1:((i:Int)*e.m+m).toNat=i*e.m.toNat+m:=by
  have:((i*e.m.toNat+m:Nat):Int)=(i:Int)*e.m+m:=by
   rw[Int.natCast_add,Int.natCast_mul,Int.toNat_of_nonneg hM]
  omega
 unfold atP hAt
 rw[e1,ZsE h i m hl (by omega) hm]
theorem Zmm{i m:Nat}(hm:m<e.m.toNat):∀ k,k≤e.mv.length→(∀ j,j<k→(mvAt e j).f≠(mvAt e j).t)→dotS (atP h.flatten) (stkE e i m k)=stK e (hAt h) (mvAt e i).f m k
 | 0,_,_=>rfl
 | k+1,hk,hd=>by
   have ih:=Zmm hm (i:=i) k (by omega) fun j hj=>hd j (by omega)
   have hp:=Zj7 hM hl hn (i:=k) (m:=m) (by omega) hm
   have hne:=hd k (by omega)
   unfold stkE stK
   rw[Zc8,ih]
   congr 1
   unfold sgnE
   by_cases h1:(mvAt e k).f=(mvAt e i).f
   ·have h2:¬ (mvAt e k).t=(mvAt e i).f:=fun x=>hne (h1.trans x.symm)
    simp only[h1,h2,if_true,if_false,dotS,Zbc,hp]
    rw[if_neg (by decide)]
    simp only[dotS,Zbc,hp]
    grind
   ·by_cases h2:(mvAt e k).t=(mvAt e i).f
    ·simp only[h1,h2,if_true,if_false]
     rw[if_neg (by decide)]
     simp only[dotS,Zbc,hp]
     grind
    ·simp only[h1,h2,if_true,if_false,dotS]
theorem ZhN{i:Nat}(hi:i<e.mv.length){b own more:Int}:∀ k,k≤e.m.toNat→dotS (atP h.flatten) (sumE e.m i b own more k)=(b:Rat)*Zc3 (hAt h) i k+(if 0≤own∧own<(k:Int)then(more:Rat)*hAt h i own.toNat else 0)
 | 0,_=>by
   rw[if_neg (by omega)]
   show(0:Rat)=(b:Rat)*0+0
   grind
 | k+1,hk=>by
   have ih:=ZhN hi (b:=b) (own:=own) (more:=more) k (by omega)
   have hp:=Zj7 hM hl hn (i:=i) (m:=k) hi (by omega)
   unfold sumE Zc3
   rw[Zc8,ih]
   have hc:dotS (atP h.flatten) (if cofE b own more k=0 then []else [⟨(i:Int)*e.m+k,ofQ (cofE b own more k:Rat)⟩])=(cofE b own more k:Rat)*hAt h i k:=by
    by_cases h0:cofE b own more k=0
    ·rw[if_pos h0,h0]
     show(0:Rat)=((0:Int):Rat)*_
     simp
    ·rw[if_neg h0]
     simp only[dotS,Zbc,hp]
     grind
   rw[hc]
   unfold cofE
   by_cases h1:(k:Int)=own
   ·subst h1
    rw[if_pos rfl,if_neg (by omega),if_pos ⟨by omega,by omega⟩,Int.toNat_natCast]
    rw[Rat.intCast_add]
    grind
   ·rw[if_neg h1]
    by_cases h2:0≤own∧own<(k:Int)
    ·rw[if_pos h2,if_pos ⟨h2.1,by omega⟩];grind
    ·rw[if_neg h2,if_neg (by omega)];grind
end
theorem Zqg{e:EvD}{h:List (List Zac)}(R:Zd2 e)(hs:ZaF (sysE e)=true)(hl:∀ l∈h,l.length=e.m.toNat)(hn:h.length=e.mv.length)(ho:∀ l∈h,okP l=true)(H:∀ i,i<e.mv.length→Ztx e (hAt h) i):Zba (sysE e) h.flatten=true:=by
 have hM:0≤e.m:=by have:=R.m;omega
 have hne:∀ j,j<e.mv.length→(mvAt e j).f≠(mvAt e j).t:=fun j hj=>(R.mv _ (Zot hj)).ne
 rw[Zqf]
 refine⟨hs,?_,?_,?_,?_⟩
 ·rw[Zl8 h hl,hn]
  show((e.mv.length*e.m.toNat:Nat):Int)=(e.mv.length:Int)*e.m
  rw[Int.natCast_mul,Int.toNat_of_nonneg hM]
 ·unfold okP
  rw[Ya6]
  intro f hf
  obtain⟨l,hl',hf⟩:=List.mem_flatten.1 hf
  exact Ya6.1 (ho l hl') f hf
 ·unfold Zge
  rw[Ya6]
  intro f hf
  obtain⟨l,hl',hf⟩:=List.mem_flatten.1 hf
  obtain⟨i,hi⟩:=List.mem_iff_getElem?.1 hl'
  obtain⟨m,hm⟩:=List.mem_iff_getElem?.1 hf
  have hi':=(Ya3.1 hi).1
  have hm':=(Ya3.1 hm).1
  rw[hl l hl']at hm'
  have hx:hAt h i m=qOf f:=by unfold hAt;rw[hi,Option.getD_some,hm];rfl
  have h0:=(H i (by omega)).pos m hm'
  rw[hx]at h0
  have hok:okF f=true:=Ya6.1 (ho l hl') f hf
  rw[decide_eq_true_eq]
  unfold sgnD
  rw[if_pos hok]
  rcases ZbC (qOf f)with⟨h1,_⟩|⟨_,h1⟩|⟨_,h1⟩
  ·grind
  ·omega
  ·omega
 ·rw[Ya6]
  intro w hw
  rw[Zqe (Ze2 hs hw),ZgW]
  obtain⟨r,hr,rfl⟩:=Yc6.1 hw
  obtain⟨i,hi,hr⟩:=(Zgg _).1 hr
  have Hi:=H i hi
  unfold Zhr at hr
  simp only[Yd5]at hr
  rcases hr with hr|hr|hr
  ·unfold Zci at hr
   cases hb:ZiM e i
   rotate_left
   ·rw[hb,if_pos rfl]at hr;cases hr
   rw[hb,if_neg Yc5]at hr
   obtain⟨m,hm,rfl⟩:=Yc6.1 hr
   have hm:=Yd2.1 hm
   have hd:=Zmm hM hl hn (i:=i) hm (i+1) (by omega) fun j hj=>hne j (by omega)
   have he:stK e (hAt h) (mvAt e i).f m (i+1)=stK e (hAt h) (mvAt e i).f m i-hAt h i m:=by
    show stK e (hAt h) (mvAt e i).f m i+(if (mvAt e i).t=(mvAt e i).f then _ else if (mvAt e i).f=(mvAt e i).f then _ else 0)=_
    rw[if_neg (fun x=>hne i hi x.symm),if_pos rfl]
    grind
   unfold Zb0
   simp only[hd,he,Zbc]
   have h1:=Hi.st hb m hm
   cases ha:(mvAt e i).a
   ·exact⟨fun _=>by grind,fun x=>absurd rfl x⟩
   ·have h2:=Hi.all hb ha m hm
    exact⟨fun _=>by grind,fun _=>by grind⟩
  ·unfold Zbx at hr
   split at hr
   ·rename_i hok
    have hd:=ZhN hM hl hn hi (b:=1) (own:= -1) (more:=0) e.m.toNat (Ya4 _)
    rw[if_neg (by omega)]at hd
    have h1:=Hi.iv hok
    have ei:ivF e i=ivE e (mvAt e i):=rfl
    simp only[List.mem_cons,List.not_mem_nil,or_false]at hr
    rcases hr with rfl|rfl
    ·simp only[hd,ei]
     exact⟨fun _=>by grind,fun x=>absurd rfl x⟩
    ·simp only[hd,ei]
     exact⟨fun x=>absurd rfl x,fun _=>by grind⟩
   ·cases hr
  ·obtain⟨k,p,hp,hr⟩:=Zgh _ hr
   unfold Zfl at hr
   split at hr
   ·rename_i hv
    have hpm:=Ya7 hp
    have h1:=Hi.pu p hpm hv
    have hk:=R.pu p hpm
    simp only[okPu,idx,Ya2,decide_eq_true_eq]at hk
    simp only[List.mem_cons,List.not_mem_nil,or_false]at hr
    rcases hr with rfl|rfl
    ·have hd:=ZhN hM hl hn hi (b:= -p.lo) (own:=p.m) (more:=1000) e.m.toNat (Ya4 _)
     rw[if_pos (by omega)]at hd
     simp only[hd,Zbc]
     rw[Rat.intCast_neg]
     exact⟨fun _=>by grind,fun x=>absurd rfl x⟩
    ·have hd:=ZhN hM hl hn hi (b:=p.hi) (own:=p.m) (more:= -1000) e.m.toNat (Ya4 _)
     rw[if_pos (by omega)]at hd
     simp only[hd,Zbc]
     exact⟨fun _=>by grind,fun x=>absurd rfl x⟩
   ·cases hr
def hRow(h:List (List Zac))(i:Nat):List Zac:=(h[i]?).getD []
def Zd7(e:EvD)(h:List (List Zac)):Bool:=decide ((h.length:Int)=e.mv.length)&&h.all fun l=>decide ((l.length:Int)=e.m)&&l.all okF
def Zhs(l:List Zac):Rat:=l.foldl (fun q f=>q+qOf f) 0
def negL(l:List Zac):Bool:=l.any fun f=>decide (sgnD f<0)
def Zes(e:EvD)(x:MvD)(l:List Zac)(s:Nat→Rat):Int :=
 if Zcx e x.f==0 then 0
 else if (List.range l.length).any (fun m=>decide (s m<qOf ((l[m]?).getD zF)))then 4
 else if (List.range l.length).any (fun m=>decide (qOf ((l[m]?).getD zF)<s m))&&x.a then 7 else 0
def ZcM(e:EvD)(x:MvD)(mass:Rat):Bool :=
 (x.s == -1)||(let v:=intD e.ce e.re x.s x.r x.d;!v.ok||(decide (qOf v.lo≤mass)&&decide (mass≤qOf v.hi)))
def ZpR(e:EvD)(i:Nat)(l:List Zac)(mass:Rat):Bool :=
 e.pu.all fun p=>(p.v !=(i:Int))||(decide ((p.lo:Rat)*mass≤1000*qOf ((l[p.m.toNat]?).getD zF))&&decide (1000*qOf ((l[p.m.toNat]?).getD zF)≤(p.hi:Rat)*mass))
def Zhp(e:EvD)(h:List (List Zac))(i:Nat):Int :=
 let x:=mvAt e i
 let l:=hRow h i
 if negL l then 3
 else if Zes e x l (fun m=>stK e (hAt h) x.f m i)≠0 then Zes e x l (fun m=>stK e (hAt h) x.f m i)
 else if !ZcM e x (Zhs l)then 24
 else if !ZpR e i l (Zhs l)then 13 else 0
def Zcq(e:EvD)(h:List (List Zac)):Nat→Nat→Int
 | 0,_=>0
 | n+1,i=>if Zhp e h i≠0 then Zhp e h i else Zcq e h n (i+1)
def ZgU(e:EvD)(h:List (List Zac)):Int :=
 if Zix e≠0 then 1 else if !Zd7 e h then 2 else Zcq e h e.mv.length 0
theorem Zgo{e:EvD}{h:List (List Zac)}:∀ (n i:Nat),Zcq e h n i=0→∀ k,i≤k→k<i+n→Zhp e h k=0
 | 0,i,_,k,h1,h2=>by omega
 | n+1,i,h0,k,h1,h2=>by
   unfold Zcq at h0
   split at h0
   ·rename_i hne;exact absurd h0 hne
   ·rename_i hz
    have hz:Zhp e h i=0:=Decidable.not_not.1 hz
    by_cases e1:k=i
    ·rw[e1];exact hz
    ·exact Zgo n (i+1) h0 k (by omega) (by omega)
theorem ZhG{h:List (List Zac)}{i m:Nat}:qOf (((hRow h i)[m]?).getD zF)=hAt h i m:=rfl
theorem ZlP:∀ (l:List Zac)(q:Rat),l.foldl (fun q f=>q+qOf f) q=q+Zc3 (fun _ m=>qOf ((l[m]?).getD zF)) 0 l.length
 | [],q=>by simp[Zc3];grind
 | f ::l,q=>by
   rw[List.foldl_cons,ZlP l (q+qOf f)]
   have hshift:∀ n,Zc3 (fun _ m=>qOf (((f ::l)[m]?).getD zF)) 0 (n+1)=qOf f+Zc3 (fun _ m=>qOf ((l[m]?).getD zF)) 0 n:=by
    intro n
    induction n with
    | zero=>simp[Zc3];grind
    | succ n ih=>rw[Zc3,ih];simp only[Zc3,List.getElem?_cons_succ];grind
   rw[List.length_cons,hshift]
   grind
theorem Zip{x y:Nat→Nat→Rat}{i j:Nat}:∀ n,(∀ m,m<n→x i m=y j m)→Zc3 x i n=Zc3 y j n
 | 0,_=>rfl
 | n+1,h=>by rw[Zc3,Zc3,Zip n fun m hm=>h m (by omega),h n (by omega)]
theorem Zp2{e:EvD}{h:List (List Zac)}{i:Nat}(hl:(hRow h i).length=e.m.toNat):Zhs (hRow h i)=Zc3 (hAt h) i e.m.toNat:=by
 unfold Zhs
 rw[ZlP,hl]
 have:Zc3 (fun _ m=>qOf (((hRow h i)[m]?).getD zF)) 0 e.m.toNat=Zc3 (hAt h) i e.m.toNat:=Zip _ fun m _=>rfl
 rw[this];grind
theorem ZtP{e:EvD}{h:List (List Zac)}(R:Zd2 e){i:Nat}(hi:i<e.mv.length)(hl:(hRow h i).length=e.m.toNat)(ho:(hRow h i).all okF=true)(h0:Zhp e h i=0):Ztx e (hAt h) i:=by
 have hM:=R.m
 unfold Zhp at h0
 simp only at h0
 split at h0
 ·cases h0
 rename_i hneg
 split at h0
 ·rename_i ht;exact absurd h0 ht
 rename_i ht
 have ht:=Decidable.not_not.1 ht
 split at h0
 ·cases h0
 rename_i hw
 split at h0
 ·cases h0
 rename_i hp
 rw[Zp2 hl]at hw hp
 have hget:∀ m,m<e.m.toNat→∃ f,(hRow h i)[m]? =some f∧f∈hRow h i:=fun m hm=>⟨_,Ya0 (by omega),List.getElem_mem _⟩
 refine⟨fun m hm=>?_,fun hb m hm=>?_,fun hb ha m hm=>?_,fun hv=>?_,fun p hp1 hp2=>?_⟩
 ·obtain⟨f,hf,hmem⟩:=hget m hm
  have h1:hAt h i m=qOf f:=by rw[← ZhG,hf];rfl
  have hok:okF f=true:=Ya6.1 ho f hmem
  have hn:¬ sgnD f<0:=fun hc=>hneg (List.any_eq_true.2 ⟨f,hmem,decide_eq_true hc⟩)
  rw[h1]
  unfold sgnD at hn
  rw[if_pos hok]at hn
  rcases ZbC (qOf f)with⟨_,h2⟩|⟨h2,_⟩|⟨h2,_⟩
  ·omega
  ·rw[h2];exact Rat.le_refl
  ·grind
 ·unfold Zes at ht
  rw[show(Zcx e (mvAt e i).f==0)=false from hb,if_neg Yc5]at ht
  split at ht
  ·cases ht
  ·rename_i hany
   have:=fun hc=>hany (List.any_eq_true.2 ⟨m,Yd2.2 (by omega),decide_eq_true hc⟩)
   rw[ZhG]at this
   exact Rat.not_lt.1 this
 ·unfold Zes at ht
  rw[show(Zcx e (mvAt e i).f==0)=false from hb,if_neg Yc5]at ht
  split at ht
  ·cases ht
  ·rename_i hany
   have h1:=fun hc=>hany (List.any_eq_true.2 ⟨m,Yd2.2 (by omega),decide_eq_true hc⟩)
   rw[ZhG]at h1
   split at ht
   ·cases ht
   ·rename_i hany2
    have h2:=fun hc=>hany2 (by rw[ha,Bool.and_true];exact List.any_eq_true.2 ⟨m,Yd2.2 (by omega),decide_eq_true hc⟩)
    rw[ZhG]at h2
    have:=Rat.not_lt.1 h1
    have:=Rat.not_lt.1 h2
    grind
 ·have hs:(mvAt e i).s ≠ -1:=fun hc=>by unfold ivE at hv;rw[if_pos hc]at hv;cases hv
  have hiv:ivE e (mvAt e i)=intD e.ce e.re (mvAt e i).s (mvAt e i).r (mvAt e i).d:=by unfold ivE;rw[if_neg hs]
  have hw:ZcM e (mvAt e i) (Zc3 (hAt h) i e.m.toNat)=true:=by simpa using hw
  unfold ZcM at hw
  rw[beq_eq_false_iff_ne.2 hs,Bool.false_or]at hw
  simp only at hw
  rw[← hiv,hv,Bool.not_true,Bool.false_or,Ya2,decide_eq_true_eq,decide_eq_true_eq]at hw
  exact hw
 ·have hp:ZpR e i (hRow h i) (Zc3 (hAt h) i e.m.toNat)=true:=by simpa using hp
  have:=Ya6.1 hp p hp1
  rw[Bool.or_eq_true,Ya2,decide_eq_true_eq,decide_eq_true_eq]at this
  rcases this with h1|h1
  ·rw[bne_iff_ne]at h1;exact absurd hp2 h1
  ·exact h1
theorem Znt{e:EvD}{h:List (List Zac)}(h0:ZgU e h=0):Zix e=0∧h.length=e.mv.length∧(∀ l∈h,l.length=e.m.toNat∧l.all okF=true)∧∀ i,i<e.mv.length→Ztx e (hAt h) i:=by
 unfold ZgU at h0
 split at h0
 ·cases h0
 rename_i hf
 have hf:=Decidable.not_not.1 hf
 split at h0
 ·cases h0
 rename_i hs
 have hs:Zd7 e h=true:=by simpa using hs
 have R:=ZfP hf
 have hM:=R.m
 simp only[Zd7,Ya2,decide_eq_true_eq,Ya6]at hs
 have hlen:h.length=e.mv.length:=by omega
 have hall:∀ l∈h,l.length=e.m.toNat∧l.all okF=true:=fun l hl=>⟨by have:=(hs.2 l hl).1;omega,Ya6.2 (hs.2 l hl).2⟩
 refine⟨hf,hlen,hall,fun i hi=>?_⟩
 have hmem:hRow h i∈h:=by unfold hRow;rw[Ya0 (by omega)];exact List.getElem_mem _
 exact ZtP R hi (hall _ hmem).1 (hall _ hmem).2 (Zgo _ _ h0 i (Yb0 _) (by omega))
set_option maxHeartbeats 8000000
theorem Zi0(i n:Int):Zaa Tryz.prog 110 [dI i,dI n] (dB (idx i n)):=by
 have Zr:=Tryz.results110
 refine inN Tryz.func110 rfl Tryz.ntmps110 fun I=>?_
 by_cases h1:i≥0
 ·refine aGo (cj2 Zr h1) ?_
  repeat with_reducible intro K hK
  exact Zae (by simp[idx,h1])
 ·refine aGo (cj2 Zr h1) ?_
  repeat with_reducible intro K hK
  exact Zae (by simp[idx,h1])
theorem Zmx(n lo hi:Int):Zaa Tryz.prog 111 [dI n,dI lo,dI hi] (dB (decide (lo≤n)&&decide (n≤hi))):=by
 have Zr:=Tryz.results111
 refine inN Tryz.func111 rfl Tryz.ntmps111 fun I=>?_
 by_cases h1:n≥lo
 ·exact aGo (cj2 Zr h1) trivial
 ·exact aGo (cj2 Zr h1) trivial
theorem Zzm(e:EvD):Zaa Tryz.prog 64 [Zej e] (dB (Zdc e)):=by
 refine⟨⟨_,_,Tryz.func64,rfl,by kernel_rfl⟩,fun S w vs hf hvs=>?_⟩
 obtain⟨v,rfl,h1⟩:=ZpJ hvs
 obtain⟨us,rfl,hl,h2⟩:=h1.inv_agg
 obtain⟨a,b,c,d,f,g,i,j,rfl⟩:∃ a b c d f g i j,us=[a,b,c,d,f,g,i,j]:=by
  match us,hl with
  | [a,b,c,d,f,g,i,j],_=>exact⟨a,b,c,d,f,g,i,j,rfl⟩
 obtain rfl:=(h2 0 _ _ rfl rfl).inv_v
 obtain rfl:=(h2 1 _ _ rfl rfl).inv_v
 obtain rfl:=(h2 2 _ _ rfl rfl).inv_v
 obtain⟨a3,c3,rfl,-,-,-⟩:=(h2 3 _ _ rfl rfl).inv_sl
 obtain⟨a4,c4,rfl,-,-,-⟩:=(h2 4 _ _ rfl rfl).inv_sl
 obtain⟨a5,c5,rfl,-,-,-⟩:=(h2 5 _ _ rfl rfl).inv_sl
 obtain⟨a6,c6,rfl,-,-,-⟩:=(h2 6 _ _ rfl rfl).inv_sl
 obtain⟨a7,c7,rfl,-,-,-⟩:=(h2 7 _ _ rfl rfl).inv_sl
 simp only[Yc0]
 go_enter Tryz.func64,Tryz.ntmps64
 go_wp2_with fail
 go_loopw [36] (fun i wr => ∃ k : Nat, k ≤ 8 ∧ i = I k ∧ (([(e.m, 6), (e.h, 100), (e.s, 30), ((e.pl.length : Int), 100), ((e.mv.length : Int), 200), ((e.ce.length : Int), 100), ((e.re.length : Int), 30), ((e.pu.length : Int), 200)] : List (Int × Int)).take k).any (fun c => decide (c.1 > c.2)) = false ∧
     wr.heap[w.heap.size+1]? =some (.cells #[I e.m,I 6,I e.h,I 100,I e.s,I 30,I e.pl.length,I 100,I e.mv.length,I 200,I e.ce.length,I 100,I e.re.length,I 30,I e.pu.length,I 200] 210)∧Below w.heap.size w wr) (fun i _=>8-(intOf i).toNat)
 case atStart =>
  refine⟨0,by omega,rfl,rfl,?_,((Below.refl _ _).alloc (Ya4 _) _).alloc (by simp) _⟩
  rw[← World.size_alloc w]
  exact World.alloc_heap_new _ _
 case round =>
  obtain⟨k,hk,rfl,hg,hB,hb⟩:=hrel
  have hc0:=ZbU hB (2*k)
  have hc1:=ZbU hB (2*k+1)
  rcases(by omega:k=0∨k=1∨k=2∨k=3∨k=4∨k=5∨k=6∨k=7∨k=8)with rfl|rfl|rfl|rfl|rfl|rfl|rfl|rfl|rfl
  case inr.inr.inr.inr.inr.inr.inr.inr =>
   have hfu:Zdc e=false:=by simp[Zdc]at hg ⊢;omega
   go_wp2_with fail
   rw[hfu]
   go_ret
   exact⟨_,rfl,hb,.v _⟩
  all_goals simp at hc0 hc1 hg
  ·by_cases hgt:e.m>6
   ·rw[show Zdc e=true by simp[Zdc];omega]
    go_wp2_with fail
    go_ret
    exact⟨_,rfl,hb.alloc hb.size _,.v _⟩
   ·go_wp2_with fail
    exact⟨⟨1,by omega,rfl,by simp;omega,(Below.heap_alloc _ _ _ (Ya5.1 hB).1).trans hB,hb.alloc hb.size _⟩,by simp[intOf]⟩
  ·by_cases hgt:e.h>100
   ·rw[show Zdc e=true by simp[Zdc];omega]
    go_wp2_with fail
    go_ret
    exact⟨_,rfl,hb.alloc hb.size _,.v _⟩
   ·go_wp2_with fail
    exact⟨⟨2,by omega,rfl,by simp;omega,(Below.heap_alloc _ _ _ (Ya5.1 hB).1).trans hB,hb.alloc hb.size _⟩,by simp[intOf]⟩
  ·by_cases hgt:e.s>30
   ·rw[show Zdc e=true by simp[Zdc];omega]
    go_wp2_with fail
    go_ret
    exact⟨_,rfl,hb.alloc hb.size _,.v _⟩
   ·go_wp2_with fail
    exact⟨⟨3,by omega,rfl,by simp;omega,(Below.heap_alloc _ _ _ (Ya5.1 hB).1).trans hB,hb.alloc hb.size _⟩,by simp[intOf]⟩
  ·by_cases hgt:(e.pl.length:Int)>100
   ·rw[show Zdc e=true by simp[Zdc];omega]
    go_wp2_with fail
    go_ret
    exact⟨_,rfl,hb.alloc hb.size _,.v _⟩
   ·go_wp2_with fail
    exact⟨⟨4,by omega,rfl,by simp;omega,(Below.heap_alloc _ _ _ (Ya5.1 hB).1).trans hB,hb.alloc hb.size _⟩,by simp[intOf]⟩
  ·by_cases hgt:(e.mv.length:Int)>200
   ·rw[show Zdc e=true by simp[Zdc];omega]
    go_wp2_with fail
    go_ret
    exact⟨_,rfl,hb.alloc hb.size _,.v _⟩
   ·go_wp2_with fail
    exact⟨⟨5,by omega,rfl,by simp;omega,(Below.heap_alloc _ _ _ (Ya5.1 hB).1).trans hB,hb.alloc hb.size _⟩,by simp[intOf]⟩
  ·by_cases hgt:(e.ce.length:Int)>100
   ·rw[show Zdc e=true by simp[Zdc];omega]
    go_wp2_with fail
    go_ret
    exact⟨_,rfl,hb.alloc hb.size _,.v _⟩
   ·go_wp2_with fail
    exact⟨⟨6,by omega,rfl,by simp;omega,(Below.heap_alloc _ _ _ (Ya5.1 hB).1).trans hB,hb.alloc hb.size _⟩,by simp[intOf]⟩
  ·by_cases hgt:(e.re.length:Int)>30
   ·rw[show Zdc e=true by simp[Zdc];omega]
    go_wp2_with fail
    go_ret
    exact⟨_,rfl,hb.alloc hb.size _,.v _⟩
   ·go_wp2_with fail
    exact⟨⟨7,by omega,rfl,by simp;omega,(Below.heap_alloc _ _ _ (Ya5.1 hB).1).trans hB,hb.alloc hb.size _⟩,by simp[intOf]⟩
  ·by_cases hgt:(e.pu.length:Int)>200
   ·rw[show Zdc e=true by simp[Zdc];omega]
    go_wp2_with fail
    go_ret
    exact⟨_,rfl,hb.alloc hb.size _,.v _⟩
   ·go_wp2_with fail
    exact⟨⟨8,by omega,rfl,by simp;omega,(Below.heap_alloc _ _ _ (Ya5.1 hB).1).trans hB,hb.alloc hb.size _⟩,by simp[intOf]⟩
theorem Zt6(e:EvD)(hl:(e.pl.length:Int)≤1099511627776):Zaa Tryz.prog 65 [Zej e] (dB (e.pl.all (okPl e.h e.m))):=by
 have Zr:=Tryz.results65
 refine inN Tryz.func65 rfl Tryz.ntmps65 fun I=>?_
 refine aGo Zr ?_
 repeat with_reducible intro K hK
 refine ZaE (fun(k:Nat)=>[(1,.lp 0 0 0 0),(6,ZoY e.pl),(7,dI e.pl.length),(8,dI k)]) (fun _=>[(0,⟨28,0,8,[cEv e],0,false⟩)]) 1 0 (fun k=>k≤e.pl.length∧(e.pl.take k).all (okPl e.h e.m)=true) (fun k=>e.pl.length-k) 0 ⟨by omega,rfl⟩ ?_ ?_
 ·exact leGo trivial
 rintro k ⟨hk,hg⟩
 obtain⟨hw,h0⟩:=Za6 k
 by_cases h1:(k:Int)<e.pl.length
 rotate_left
 ·refine aGo (cj2 Zr h1) ?_
  repeat with_reducible intro K hK
  rw[Ya8 (by omega)]at hg
  exact Zae hg.symm
 obtain⟨p,hx⟩:∃ p,e.pl[k]? =some p:=⟨_,Ya0 (by omega)⟩
 have bad:okPl e.h e.m p=false→D.v (.bool false)=dB (e.pl.all (okPl e.h e.m)):=fun h=>Zae (Zbf hx h).symm
 have fine:okPl e.h e.m p=true→k+1≤e.pl.length∧(e.pl.take (k+1)).all (okPl e.h e.m)=true:=fun h=>⟨by omega,Zan hx hg h⟩
 have k1:=Zi0 p.k 7
 have k2:=Zi0 p.h e.h
 have k3:=Zi0 p.m e.m
 cases h2:idx p.k 7
 ·rw[h2]at k1
  refine aGo (cj4 Zr h0 h1 (cj2 hx hw)) ?_
  repeat with_reducible intro K hK
  exact bad (by simp[okPl,h2])
 rw[h2]at k1
 cases h3:(p.k==0)
 ·have h3':¬ p.k=0:=by simpa using h3
  cases h4:(p.h != -1)
  rotate_left
  ·refine aGo (cj4 Zr h0 h1 (cj4 hx hw h3 h4)) ?_
   repeat with_reducible intro K hK
   exact bad (by simp at h4;simp[okPl,h2,h3',h4])
  cases h5:(p.m != -1)
  rotate_left
  ·refine aGo (cj4 Zr h0 h1 (cj4 hx hw h3 (cj2 h4 h5))) ?_
   repeat with_reducible intro K hK
   exact bad (by simp at h5;simp[okPl,h2,h3',h5])
  refine aGo (cj4 Zr h0 h1 (cj4 hx hw h3 (cj2 h4 h5))) ?_
  repeat with_reducible intro K hK
  exact Zai (k+1) (fine (by simp at h4 h5;simp[okPl,h2,h3',h4,h5])) (by omega) (by exact leGo trivial)
 ·have h3':p.k=0:=by simpa using h3
  cases h4:idx p.h e.h
  ·rw[h4]at k2
   refine aGo (cj4 Zr h0 h1 (cj3 hx hw h3)) ?_
   repeat with_reducible intro K hK
   exact bad (by simp[okPl,h2,h3',h4])
  rw[h4]at k2
  cases h5:idx p.m e.m
  ·rw[h5]at k3
   refine aGo (cj4 Zr h0 h1 (cj3 hx hw h3)) ?_
   repeat with_reducible intro K hK
   exact bad (by simp[okPl,h2,h3',h4,h5])
  rw[h5]at k3
  refine aGo (cj4 Zr h0 h1 (cj3 hx hw h3)) ?_
  repeat with_reducible intro K hK
  exact Zai (k+1) (fine (by simp[okPl,h3',h4,h5];rfl)) (by omega) (by exact leGo trivial)
theorem Zsg{e:EvD}{f:Int}{p:PlD}(h:e.pl[f.toNat]? =some p):Zcx e f=p.k:=by unfold Zcx;rw[h];rfl
theorem Zsp{i n:Int}:idx i n=true↔0≤i∧i<n:=by simp[idx]
theorem Zzb(e:EvD)(x:MvD):Zaa Tryz.prog 66 [Zej e,.agg (cMv x)] (dB (okMv e x)):=by
 have Zr:=Tryz.results66
 refine inN Tryz.func66 rfl Tryz.ntmps66 fun I=>?_
 have k1:=Zi0 x.f e.pl.length
 have k2:=Zi0 x.t e.pl.length
 have k3:=Zi0 x.s e.s
 have k4:=Zmx x.r 0 1099511627776
 cases h1:idx x.f e.pl.length
 ·rw[h1]at k1
  refine aGo Zr ?_
  repeat with_reducible intro K hK
  exact Zae (by simp[okMv,h1])
 rw[h1]at k1
 cases h2:idx x.t e.pl.length
 ·rw[h2]at k2
  refine aGo Zr ?_
  repeat with_reducible intro K hK
  exact Zae (by simp[okMv,h2])
 rw[h2]at k2
 cases h3:(x.f==x.t)
 rotate_left
 ·refine aGo (cj2 Zr h3) ?_
  repeat with_reducible intro K hK
  exact Zae (by simp at h3;simp[okMv,h3])
 obtain⟨f0,f1⟩:=Zsp.1 h1
 obtain⟨t0,t1⟩:=Zsp.1 h2
 obtain⟨p,hp⟩:∃ p,e.pl[x.f.toNat]? =some p:=⟨_,Ya0 (by omega)⟩
 obtain⟨q,hq⟩:∃ p,e.pl[x.t.toNat]? =some p:=⟨_,Ya0 (by omega)⟩
 have ep:=Zsg hp
 have eq:=Zsg hq
 have hne:x.f≠x.t:=by simpa using h3
 have e0:okMv e x=(!(p.k==5)&&(!(p.k==6)&&(!(p.k==0&&x.a)&&(!(q.k==0)&&(if x.s = -1 then x.r==0 else idx x.s e.s&&(decide (0≤x.r)&&decide (x.r≤1099511627776))))))):=by
  unfold okMv
  rw[h1,h2,ep,eq,bne_iff_ne.2 hne];simp
 rw[e0]
 clear e0 ep eq
 cases h4:(p.k==5)
 rotate_left
 ·exact aGo (cj4 Zr h3 hp (cj2 f0 h4)) trivial
 cases h5:(p.k==6)
 rotate_left
 ·exact aGo (cj4 Zr h3 hp (cj3 f0 h4 h5)) trivial
 cases h6:(p.k==0)
 ·cases h8:(q.k==0)
  rotate_left
  ·exact aGo (cj4 Zr h3 hp (cj4 hq f0 t0 (cj4 h4 h5 h6 h8))) trivial
  cases h9:(x.s == -1)
  ·have h9':¬ x.s = -1:=by simpa using h9
   cases h10:idx x.s e.s
   ·rw[h10]at k3
    refine aGo (cj4 Zr h3 hp (cj4 hq f0 t0 (cj4 h4 h5 h6 (cj2 h8 h9)))) ?_
    repeat with_reducible intro K hK
    exact Zae (by simp[h9'])
   ·rw[h10]at k3
    refine aGo (cj4 Zr h3 hp (cj4 hq f0 t0 (cj4 h4 h5 h6 (cj2 h8 h9)))) ?_
    repeat with_reducible intro K hK
    exact Zae (by simp[h9'])
  ·have h9':x.s = -1:=by simpa using h9
   refine aGo (cj4 Zr h3 hp (cj4 hq f0 t0 (cj4 h4 h5 h6 (cj2 h8 h9)))) ?_
   repeat with_reducible intro K hK
   exact Zae (by simp[h9'])
 ·cases h7:x.a
  rotate_left
  ·exact aGo (cj4 Zr h3 hp (cj4 hq f0 t0 (cj4 h4 h5 h6 h7))) trivial
  cases h8:(q.k==0)
  rotate_left
  ·exact aGo (cj4 Zr h3 hp (cj4 hq f0 t0 (cj4 h4 h5 h6 (cj2 h7 h8)))) trivial
  cases h9:(x.s == -1)
  ·have h9':¬ x.s = -1:=by simpa using h9
   cases h10:idx x.s e.s
   ·rw[h10]at k3
    refine aGo (cj4 Zr h3 hp (cj4 hq f0 t0 (cj4 h4 h5 h6 (cj3 h7 h8 h9)))) ?_
    repeat with_reducible intro K hK
    exact Zae (by simp[h9'])
   ·rw[h10]at k3
    refine aGo (cj4 Zr h3 hp (cj4 hq f0 t0 (cj4 h4 h5 h6 (cj3 h7 h8 h9)))) ?_
    repeat with_reducible intro K hK
    exact Zae (by simp[h9'])
  ·have h9':x.s = -1:=by simpa using h9
   refine aGo (cj4 Zr h3 hp (cj4 hq f0 t0 (cj4 h4 h5 h6 (cj3 h7 h8 h9)))) ?_
   repeat with_reducible intro K hK
   exact Zae (by simp[h9'])
theorem ZyK(e:EvD)(hl1:(e.ce.length:Int)≤1099511627776)(hl2:(e.re.length:Int)≤1099511627776)(hl3:(e.pu.length:Int)≤1099511627776):Zaa Tryz.prog 67 [Zej e] (dB (ZfF e)):=by
 have Zr:=Tryz.results67
 have bad1:e.ce.all (okCe e.s)=false→D.v (.bool false)=dB (ZfF e):=fun h=>Zae (by unfold ZfF;rw[h];rfl)
 have bad2:e.re.all (okRe e.s)=false→D.v (.bool false)=dB (ZfF e):=fun h=>Zae (by unfold ZfF;rw[h];simp)
 have bad3:e.pu.all (okPu e.mv.length e.m)=false→D.v (.bool false)=dB (ZfF e):=fun h=>Zae (by unfold ZfF;rw[h];simp)
 have fine:e.ce.all (okCe e.s)=true→e.re.all (okRe e.s)=true→e.pu.all (okPu e.mv.length e.m)=true→D.v (.bool true)=dB (ZfF e):=fun a b c=>Zae (by unfold ZfF;rw[a,b,c];rfl)
 generalize ZfF e=out at *
 refine inN Tryz.func67 rfl Tryz.ntmps67 fun I=>?_
 refine aGo Zr ?_
 repeat with_reducible intro K hK
 refine ZaE (fun(k:Nat)=>[(1,.lp 0 0 0 0),(11,Zmi e.ce),(12,dI e.ce.length),(13,dI k)]) (fun _=>[(0,⟨28,0,8,[cEv e],0,false⟩)]) 1 0 (fun k=>k≤e.ce.length∧(e.ce.take k).all (okCe e.s)=true) (fun k=>e.ce.length-k) 0 ⟨by omega,rfl⟩ ?_ ?_
 ·exact leGo trivial
 rintro k ⟨hk,hg⟩
 obtain⟨hw,h0⟩:=Za6 k
 by_cases h1:(k:Int)<e.ce.length
 ·obtain⟨c,hx⟩:∃ p,e.ce[k]? =some p:=⟨_,Ya0 (by omega)⟩
  have bad:okCe e.s c=false→D.v (.bool false)=dB out:=fun h=>bad1 (Zbf hx h)
  have k1:=Zi0 c.s e.s
  have k2:=Zmx c.g 0 1099511627776
  have k3:=Zmx c.p 0 1000
  have k4:=Zmx c.d 0 10000000
  have ed:okCe e.s c=((decide (0≤c.f)&&(decide (c.f≤c.u)&&decide (c.u≤100000)))&&(idx c.s e.s&&((decide (0≤c.g)&&decide (c.g≤1099511627776))&&((decide (0≤c.p)&&decide (c.p≤1000))&&(decide (0≤c.d)&&decide (c.d≤10000000)))))):=rfl
  by_cases d1:c.f≥0
  rotate_left
  ·refine aGo (cj4 Zr h0 h1 (cj3 hx hw d1)) ?_
   repeat with_reducible intro K hK
   exact bad (by rw[ed,decide_eq_false (by omega:¬ 0≤c.f)];rfl)
  by_cases d2:c.f≤c.u
  rotate_left
  ·refine aGo (cj4 Zr h0 h1 (cj4 hx hw d1 d2)) ?_
   repeat with_reducible intro K hK
   exact bad (by rw[ed,decide_eq_false d2];simp)
  by_cases d3:c.u≤100000
  rotate_left
  ·refine aGo (cj4 Zr h0 h1 (cj4 hx hw d1 (cj2 d2 d3))) ?_
   repeat with_reducible intro K hK
   exact bad (by rw[ed,decide_eq_false d3];simp)
  rw[decide_eq_true (by omega:0≤c.f),decide_eq_true d2,decide_eq_true d3]at ed
  cases h2:idx c.s e.s
  ·rw[h2]at k1
   refine aGo (cj4 Zr h0 h1 (cj4 hx hw d1 (cj2 d2 d3))) ?_
   repeat with_reducible intro K hK
   exact bad (by rw[ed,h2];rfl)
  rw[h2]at k1 ed
  generalize (decide (0≤c.g)&&decide (c.g≤1099511627776))=b1 at k2 ed
  generalize (decide (0≤c.p)&&decide (c.p≤1000))=b2 at k3 ed
  generalize (decide (0≤c.d)&&decide (c.d≤10000000))=b3 at k4 ed
  cases b1
  ·refine aGo (cj4 Zr h0 h1 (cj4 hx hw d1 (cj2 d2 d3))) ?_
   repeat with_reducible intro K hK
   exact bad ed
  cases b2
  ·refine aGo (cj4 Zr h0 h1 (cj4 hx hw d1 (cj2 d2 d3))) ?_
   repeat with_reducible intro K hK
   exact bad ed
  cases b3
  ·refine aGo (cj4 Zr h0 h1 (cj4 hx hw d1 (cj2 d2 d3))) ?_
   repeat with_reducible intro K hK
   exact bad ed
  refine aGo (cj4 Zr h0 h1 (cj4 hx hw d1 (cj2 d2 d3))) ?_
  repeat with_reducible intro K hK
  exact Zai (k+1) ⟨by omega,Zan hx hg ed⟩ (by omega) (by exact leGo trivial)
 rw[Ya8 (by omega)]at hg
 refine aGo (cj2 Zr h1) ?_
 repeat with_reducible intro K hK
 clear h1 h0 hw
 refine ZaE (fun(k:Nat)=>[(1,.lp 0 0 0 0),(62,Zgt e.re),(63,dI e.re.length),(64,dI k)]) (fun _=>[(0,⟨28,0,8,[cEv e],0,false⟩)]) 1 0 (fun k=>k≤e.re.length∧(e.re.take k).all (okRe e.s)=true) (fun k=>e.re.length-k) 0 ⟨by omega,rfl⟩ ?_ ?_
 ·exact leGo trivial
 rintro k ⟨hk,hg2⟩
 obtain⟨hw,h0⟩:=Za6 k
 by_cases h1:(k:Int)<e.re.length
 ·obtain⟨c,hx⟩:∃ p,e.re[k]? =some p:=⟨_,Ya0 (by omega)⟩
  have bad:okRe e.s c=false→D.v (.bool false)=dB out:=fun h=>bad2 (Zbf hx h)
  have k1:=Zi0 c.s e.s
  have k2:=Zmx c.d 0 100000
  have ed:okRe e.s c=(idx c.s e.s&&(decide (0≤c.d)&&decide (c.d≤100000))):=rfl
  generalize idx c.s e.s=b0 at k1 ed
  generalize (decide (0≤c.d)&&decide (c.d≤100000))=b1 at k2 ed
  cases b0
  ·refine aGo (cj4 Zr h0 h1 (cj2 hx hw)) ?_
   repeat with_reducible intro K hK
   exact bad ed
  cases b1
  ·refine aGo (cj4 Zr h0 h1 (cj2 hx hw)) ?_
   repeat with_reducible intro K hK
   exact bad ed
  refine aGo (cj4 Zr h0 h1 (cj2 hx hw)) ?_
  repeat with_reducible intro K hK
  exact Zai (k+1) ⟨by omega,Zan hx hg2 ed⟩ (by omega) (by exact leGo trivial)
 rw[Ya8 (by omega)]at hg2
 refine aGo (cj2 Zr h1) ?_
 repeat with_reducible intro K hK
 clear h1 h0 hw
 refine ZaE (fun(k:Nat)=>[(1,.lp 0 0 0 0),(82,ZjK e.pu),(83,dI e.pu.length),(84,dI k)]) (fun _=>[(0,⟨28,0,8,[cEv e],0,false⟩)]) 1 0 (fun k=>k≤e.pu.length∧(e.pu.take k).all (okPu e.mv.length e.m)=true) (fun k=>e.pu.length-k) 0 ⟨by omega,rfl⟩ ?_ ?_
 ·exact leGo trivial
 rintro k ⟨hk,hg3⟩
 obtain⟨hw,h0⟩:=Za6 k
 by_cases h1:(k:Int)<e.pu.length
 ·obtain⟨c,hx⟩:∃ p,e.pu[k]? =some p:=⟨_,Ya0 (by omega)⟩
  have bad:okPu e.mv.length e.m c=false→D.v (.bool false)=dB out:=fun h=>bad3 (Zbf hx h)
  have k1:=Zi0 c.v e.mv.length
  have k2:=Zi0 c.m e.m
  have ed:okPu e.mv.length e.m c=(idx c.v e.mv.length&&(idx c.m e.m&&(decide (0≤c.lo)&&(decide (c.lo≤c.hi)&&decide (c.hi≤1000))))):=rfl
  generalize idx c.v e.mv.length=b0 at k1 ed
  generalize idx c.m e.m=b1 at k2 ed
  cases b0
  ·refine aGo (cj4 Zr h0 h1 (cj2 hx hw)) ?_
   repeat with_reducible intro K hK
   exact bad ed
  cases b1
  ·refine aGo (cj4 Zr h0 h1 (cj2 hx hw)) ?_
   repeat with_reducible intro K hK
   exact bad ed
  by_cases d1:c.lo<0
  ·refine aGo (cj4 Zr h0 h1 (cj3 hx hw d1)) ?_
   repeat with_reducible intro K hK
   exact bad (by rw[ed,decide_eq_false (by omega:¬ 0≤c.lo)];rfl)
  by_cases d2:c.hi<c.lo
  ·refine aGo (cj4 Zr h0 h1 (cj4 hx hw d1 d2)) ?_
   repeat with_reducible intro K hK
   exact bad (by rw[ed,decide_eq_false (by omega:¬ c.lo≤c.hi)];simp)
  by_cases d3:c.hi>1000
  ·refine aGo (cj4 Zr h0 h1 (cj4 hx hw d1 (cj2 d2 d3))) ?_
   repeat with_reducible intro K hK
   exact bad (by rw[ed,decide_eq_false (by omega:¬ c.hi≤1000)];simp)
  refine aGo (cj4 Zr h0 h1 (cj4 hx hw d1 (cj2 d2 d3))) ?_
  repeat with_reducible intro K hK
  exact Zai (k+1) ⟨by omega,Zan hx hg3 (by rw[ed,decide_eq_true (by omega:0≤c.lo),decide_eq_true (by omega:c.lo≤c.hi),decide_eq_true (by omega:c.hi≤1000)];rfl)⟩ (by omega) (by exact leGo trivial)
 rw[Ya8 (by omega)]at hg3
 refine aGo (cj2 Zr h1) ?_
 repeat with_reducible intro K hK
 exact fine hg hg2 hg3
structure LenE (e:EvD):Prop where
 pl:(e.pl.length:Int)≤1099511627776
 mv:(e.mv.length:Int)≤1099511627776
 ce:(e.ce.length:Int)≤1099511627776
 re:(e.re.length:Int)≤1099511627776
 pu:(e.pu.length:Int)≤1099511627776
theorem ZvW(e:EvD)(L:LenE e):Zaa Tryz.prog 23 [Zej e] (dI (Zix e)):=by
 have Zr:=Tryz.results23
 have k1:=Zzm e
 have k2:=Zt6 e L.pl
 have k3:=ZyK e L.ce L.re L.pu
 obtain⟨-,hmv,-,-,-⟩:=L
 unfold Zix
 cases h1:Zdc e
 rotate_left
 ·rw[h1]at k1
  refine inN Tryz.func23 rfl Tryz.ntmps23 fun I=>?_
  exact aGo Zr trivial
 rw[h1]at k1
 rw[if_neg Yc5]
 have ea:argE e=(decide (1≤e.m)&&(decide (0≤e.h)&&(decide (0≤e.s)&&e.pl.all (okPl e.h e.m)))):=rfl
 have no:argE e=false→D.v (.int .i64 1)=dI (if argE e=true then(if ZcJ e 0 e.mv=0 then(if ZfF e=true then 0 else 1)else ZcJ e 0 e.mv)else 1):=fun h=>by rw[h];rfl
 by_cases h2:e.m<1
 ·refine inN Tryz.func23 rfl Tryz.ntmps23 fun I=>?_
  refine aGo (cj2 Zr h2) ?_
  repeat with_reducible intro K hK
  exact no (by rw[ea,decide_eq_false (by omega:¬ 1≤e.m)];rfl)
 by_cases h3:e.h<0
 ·refine inN Tryz.func23 rfl Tryz.ntmps23 fun I=>?_
  refine aGo (cj3 Zr h2 h3) ?_
  repeat with_reducible intro K hK
  exact no (by rw[ea,decide_eq_false (by omega:¬ 0≤e.h)];simp)
 by_cases h4:e.s<0
 ·refine inN Tryz.func23 rfl Tryz.ntmps23 fun I=>?_
  refine aGo (cj4 Zr h2 h3 h4) ?_
  repeat with_reducible intro K hK
  exact no (by rw[ea,decide_eq_false (by omega:¬ 0≤e.s)];simp)
 cases h5:e.pl.all (okPl e.h e.m)
 ·rw[h5]at k2
  refine inN Tryz.func23 rfl Tryz.ntmps23 fun I=>?_
  refine aGo (cj4 Zr h2 h3 h4) ?_
  repeat with_reducible intro K hK
  exact no (by rw[ea,h5];simp)
 rw[h5]at k2
 rw[show argE e=true by rw[ea,h5,decide_eq_true (by omega:1≤e.m),decide_eq_true (by omega:0≤e.h),decide_eq_true (by omega:0≤e.s)];rfl,if_pos rfl]
 clear no ea
 generalize ho:(if ZcJ e 0 e.mv=0 then(if ZfF e=true then(0:Int)else 1)else ZcJ e 0 e.mv)=out
 refine inN Tryz.func23 rfl Tryz.ntmps23 fun I=>?_
 refine aGo (cj4 Zr h2 h3 h4) ?_
 repeat with_reducible intro K hK
 clear h2 h3 h4
 refine ZaE (fun(x:Nat×Int)=>[(1,.lp 0 0 0 0),(3,dI x.2),(29,Zfv e.mv),(30,dI e.mv.length),(31,dI x.1)]) (fun _=>[(0,⟨28,0,8,[cEv e],0,false⟩)]) 1 0 (fun x=>x.1≤e.mv.length∧ZcJ e 0 e.mv=ZcJ e x.2 (e.mv.drop x.1)) (fun x=>e.mv.length-x.1) (0,0) ⟨by omega,rfl⟩ ?_ ?_
 ·exact leGo trivial
 rintro⟨k,last⟩ ⟨hk,hg⟩
 simp only at hk hg
 obtain⟨hw,h0⟩:=Za6 k
 by_cases h6:(k:Int)<e.mv.length
 ·obtain⟨x,hx⟩:∃ p,e.mv[k]? =some p:=⟨_,Ya0 (by omega)⟩
  have km:=Zzb e x
  have ed:e.mv.drop k=x ::e.mv.drop (k+1):=by
   obtain⟨hi,rfl⟩:=Ya3.1 hx
   exact Yd7 hi
  have em:ZcJ e last (e.mv.drop k)=if x.d<last∨x.d>100000 then 17 else if okMv e x=true then ZcJ e x.d (e.mv.drop (k+1))else 1:=by rw[ed];rfl
  by_cases h7:x.d<last
  ·refine aGo (cj4 Zr h0 h6 (cj3 hx hw h7)) ?_
   repeat with_reducible intro K hK
   exact Zcy (by rw[← ho,hg,em.trans (if_pos (.inl h7))];rfl)
  by_cases h8:x.d>100000
  ·refine aGo (cj4 Zr h0 h6 (cj4 hx hw h7 h8)) ?_
   repeat with_reducible intro K hK
   exact Zcy (by rw[← ho,hg,em.trans (if_pos (.inr h8))];rfl)
  have em2:ZcJ e last (e.mv.drop k)=if okMv e x=true then ZcJ e x.d (e.mv.drop (k+1))else 1:=by rw[em,if_neg (by omega)]
  cases h9:okMv e x
  ·rw[h9]at km em2
   refine aGo (cj4 Zr h0 h6 (cj4 hx hw h7 h8)) ?_
   repeat with_reducible intro K hK
   exact Zcy (by rw[← ho,hg,em2];rfl)
  ·rw[h9]at km em2
   rw[if_pos rfl]at em2
   refine aGo (cj4 Zr h0 h6 (cj4 hx hw h7 h8)) ?_
   repeat with_reducible intro K hK
   exact Zai (k+1,x.d) ⟨by show k+1≤_;omega,by rw[hg];exact em2⟩ (by show e.mv.length-(k+1)<e.mv.length-k;omega) (by exact leGo trivial)
 ·rw[show e.mv.drop k=[] by rw[List.drop_eq_nil_iff];omega]at hg
  have e0:ZcJ e last []=0:=rfl
  rw[hg,e0,if_pos rfl]at ho
  cases h7:ZfF e
  ·rw[h7]at k3 ho
   refine aGo (cj2 Zr h6) ?_
   repeat with_reducible intro K hK
   exact Zcy (by rw[← ho];rfl)
  ·rw[h7]at k3 ho
   refine aGo (cj2 Zr h6) ?_
   repeat with_reducible intro K hK
   exact Zcy (by rw[← ho];rfl)
abbrev encH(l:List (List Zac)):D:=.sl (l.map fun y=>[ZaM y])
theorem ZqF{α:Type}{l:List α}{p:α→Bool}{k:Nat}{x:α}(hx:l[k]? =some x)(hp:p x=true):l.any p=true:=List.any_eq_true.2 ⟨x,Ya7 hx,hp⟩
theorem ZqG{α:Type}{l:List α}{p:α→Bool}(h:l.all (fun x=> !p x)=true):l.any p=false:=List.any_eq_false.2 fun x hx=>by
 have:=Ya6.1 h x hx
 simpa using this
theorem Zhe(a b:Rat)(za:(szQ a:Int)≤549755813888)(zb:(szQ b:Int)≤549755813888):Zaa Tryz.prog 13 [encF (ofQ a),encF (ofQ b)] (dI (sgQ (a-b))):=ZrQ a b za zb
theorem neg_c(l:List Zac)(hl:l.length≤4096)(hz:∀ f∈l,(szF f:Int)≤1000000):Zaa Tryz.prog 26 [ZaM l] (dB (negL l)):=by
 have Zr:=Tryz.results26
 obtain⟨b,hb⟩:∃ b,negL l=b:=⟨_,rfl⟩
 rw[hb]
 refine inN Tryz.func26 rfl Tryz.ntmps26 fun I=>?_
 refine aGo Zr ?_
 repeat with_reducible intro K hK
 refine ZaE (fun(k:Nat)=>[(5,ZaM l),(6,dI l.length),(7,dI k)]) (fun _=>[]) 0 0 (fun k=>k≤l.length∧(l.take k).all (fun f=> !decide (sgnD f<0))=true) (fun k=>l.length-k) 0 ⟨by omega,rfl⟩ ?_ ?_
 ·exact leGo trivial
 rintro k ⟨hk,hn⟩
 obtain⟨hw,h0⟩:=Za6 k
 by_cases h1:(k:Int)<l.length
 ·obtain⟨f,hx⟩:=getE (l:=l) (k:=k) (by omega)
  have q:=Zc4 f (by have:=hz f (Ya7 hx);omega)
  by_cases h2:sgnD f<0
  ·refine aGo (cj4 Zr h0 h1 (cj2 hx h2)) ?_
   repeat with_reducible intro K hK
   exact Zae (by rw[← hb];exact(ZqF hx (decide_eq_true h2)).symm)
  ·refine aGo (cj4 Zr h0 h1 (cj3 hx h2 hw)) ?_
   repeat with_reducible intro K hK
   exact Zai (k+1) ⟨by omega,Zan hx hn (by simp[h2])⟩ (by omega) (by exact leGo trivial)
 ·rw[Ya8 (by omega)]at hn
  refine aGo (cj2 Zr h1) ?_
  repeat with_reducible intro K hK
  exact Zae (by rw[← hb];exact(ZqG hn).symm)
def sumK(l:List Zac)(k:Nat):Rat:=(l.take k).foldl (fun q f=>q+qOf f) 0
theorem Zlh{l:List Zac}{k:Nat}{f:Zac}(h:l[k]? =some f):sumK l (k+1)=sumK l k+qOf f:=by
 unfold sumK
 rw[Yb4,h,List.foldl_append];rfl
theorem Zoa(l:List Zac):sumK l l.length=Zhs l:=by unfold sumK;rw[Yc2];rfl
theorem ZmT{l:List Zac}(ho:l.all okF=true)(hz:∀ f∈l,szF f≤4):∀ k,szQ (sumK l k)≤1+k*5
 | 0=>by show szQ 0≤_;have:=sz_0;omega
 | k+1=>by
   have ih:=ZmT ho hz k
   cases hx:l[k]? with
   | none =>
     have:sumK l (k+1)=sumK l k:=by unfold sumK;rw[Yb4,hx];simp
     rw[this];omega
   | some f =>
     rw[Zlh hx]
     have h1:=ZfA (sumK l k) (qOf f)
     have hm:=Ya7 hx
     rw[ZbO (Ya6.1 ho f hm)]at h1
     have:=hz f hm
     omega
theorem ZuC{l:List Zac}(ho:l.all okF=true)(hz:∀ f∈l,szF f≤4):szQ (Zhs l)≤1+l.length*5:=by rw[← Zoa];exact ZmT ho hz _
theorem Zzj(l:List Zac)(hl:l.length≤4096)(ho:l.all okF=true)(hz:∀ f∈l,szF f≤4):Zaa Tryz.prog 28 [ZaM l] (encF (ofQ (Zhs l))):=by
 have Zr:=Tryz.results28
 have k0:=nZ_c
 rw[← Zoa]
 refine inN Tryz.func28 rfl Tryz.ntmps28 fun I=>?_
 refine aGo Zr ?_
 repeat with_reducible intro K hK
 refine ZaE (fun(k:Nat)=>[(2,.lp 0 0 0 0),(3,.lp 1 0 0 0),(7,ZaM l),(8,dI l.length),(9,dI k)]) (fun k=>[(0,⟨34,0,4,[zc],0,false⟩),(1,⟨34,0,4,[cF (ofQ (sumK l k))],0,false⟩)]) 2 0 (fun k=>k≤l.length) (fun k=>l.length-k) 0 (by omega) ?_ ?_
 ·have e0:sumK l 0=0:=rfl
  exact leGo e0
 rintro k hk
 obtain⟨hw,h0⟩:=Za6 k
 by_cases h1:(k:Int)<l.length
 ·obtain⟨f,hx⟩:=getE (l:=l) (k:=k) (by omega)
  have hm:=Ya7 hx
  have hof:=Ya6.1 ho f hm
  have es:=Zlh hx
  have zs:=ZmT ho hz k
  have zf:=hz f hm
  rw[← ZbO hof]at zf
  obtain⟨q,eq⟩:∃ q,qOf f=q:=⟨_,rfl⟩
  have ef:f=ofQ q:=by rw[← eq];exact Zc1 hof
  rw[eq]at es zf
  subst ef
  generalize sumK l k=S at es zs ⊢
  have k1:=Zjo S q (by omega) (by omega)
  rw[← es]at k1
  refine aGo (cj4 Zr h0 h1 (cj2 hx hw)) ?_
  repeat with_reducible intro K hK
  exact Zai (k+1) (by omega) (by omega) (by exact leGo trivial)
 ·obtain rfl:k=l.length:=by omega
  exact aGo (cj2 Zr h1) trivial
theorem Zsq(e:EvD)(h:List (List Zac))(hh:h.length≤4096)(hl:∀ l∈h,l.length≤4096)(hz:∀ l∈h,∀ f∈l,szF f≤4):Zaa Tryz.prog 24 [Zej e,encH h] (dB (Zd7 e h)):=by
 have Zr:=Tryz.results24
 obtain⟨b,hb⟩:∃ b,Zd7 e h=b:=⟨_,rfl⟩
 rw[hb]
 refine inN Tryz.func24 rfl Tryz.ntmps24 fun I=>?_
 cases g1:((h.length:Int) !=e.mv.length)
 rotate_left
 ·refine aGo (cj2 Zr g1) ?_
  repeat with_reducible intro K hK
  exact Zae (by rw[← hb];unfold Zd7;rw[decide_eq_false (by simpa using g1)];rfl)
 have g1':(h.length:Int)=e.mv.length:=by simpa using g1
 have hb2:(h.all fun l=>decide ((l.length:Int)=e.m)&&l.all okF)=b:=by rw[← hb];unfold Zd7;rw[decide_eq_true g1'];rfl
 refine aGo (cj2 Zr g1) ?_
 repeat with_reducible intro K hK
 refine ZaE (fun(k:Nat)=>[(1,encH h),(2,.lp 0 0 0 0),(15,encH h),(16,dI h.length),(17,dI k)]) (fun _=>[(0,⟨28,0,8,[cEv e],0,false⟩)]) 1 0 (fun k=>k≤h.length∧(h.take k).all (fun l=>decide ((l.length:Int)=e.m)&&l.all okF)=true) (fun k=>h.length-k) 0 ⟨by omega,rfl⟩ ?_ ?_
 ·exact leGo trivial
 rintro k ⟨hk,hn⟩
 obtain⟨hw,h0⟩:=Za6 k
 by_cases h1:(k:Int)<h.length
 rotate_left
 ·rw[Ya8 (by omega)]at hn
  refine aGo (cj2 Zr h1) ?_
  repeat with_reducible intro K hK
  exact Zae (hn.symm.trans hb2)
 obtain⟨l,hx⟩:=getE (l:=h) (k:=k) (by omega)
 have hm:=Ya7 hx
 have hll:=hl l hm
 cases g2:((l.length:Int) !=e.m)
 rotate_left
 ·refine aGo (cj4 Zr h0 h1 (cj2 hx g2)) ?_
  repeat with_reducible intro K hK
  refine Zae ?_
  rw[← hb2,Zbf hx (by rw[decide_eq_false (by simpa using g2)];rfl)]
 have g2':(l.length:Int)=e.m:=by simpa using g2
 refine aGo (cj4 Zr h0 h1 (cj2 hx g2)) ?_
 repeat with_reducible intro K hK
 refine ZaE (fun(j:Nat)=>[(1,encH h),(2,.lp 0 0 0 0),(15,encH h),(16,dI h.length),(17,dI k),(26,ZaM l),(27,dI l.length),(28,dI j)]) (fun _=>[(0,⟨28,0,8,[cEv e],0,false⟩)]) 1 0 (fun j=>j≤l.length∧(l.take j).all okF=true) (fun j=>l.length-j) 0 ⟨by omega,rfl⟩ ?_ ?_
 ·exact leGo trivial
 rintro j ⟨hj,hnj⟩
 obtain⟨hwj,j0⟩:=Za6 j
 by_cases h2:(j:Int)<l.length
 rotate_left
 ·rw[Ya8 (by omega)]at hnj
  refine aGo (cj3 Zr h2 hw) ?_
  repeat with_reducible intro K hK
  exact Zai (k+1) ⟨by omega,Zan hx hn (by rw[decide_eq_true g2',hnj];rfl)⟩ (by omega) (by exact leGo trivial)
 obtain⟨f,hy⟩:=getE (l:=l) (k:=j) (by omega)
 have q:=ZbA f (by have:=hz l hm f (Ya7 hy);omega)
 cases g3:okF f
 ·rw[g3]at q
  refine aGo (cj4 Zr j0 h2 hy) ?_
  repeat with_reducible intro K hK
  refine Zae ?_
  rw[← hb2,Zbf hx (by rw[Zbf hy g3,Bool.and_false])]
 ·rw[g3]at q
  refine aGo (cj4 Zr j0 h2 (cj2 hy hwj)) ?_
  repeat with_reducible intro K hK
  exact Zai (j+1) ⟨by omega,Zan hy hnj g3⟩ (by omega) (by exact leGo trivial)
theorem ZqT(e:EvD)(x:MvD)(q:Rat)(hc:(e.ce.length:Int)≤1000)(hr:(e.re.length:Int)≤1000)(zq:szQ q≤1000)(zi:x.s ≠ -1→∀ v,intD e.ce e.re x.s x.r x.d=v→v.ok=true→okF v.lo=true∧okF v.hi=true∧szF v.lo≤100∧szF v.hi≤100) :
 Zaa Tryz.prog 29 [Zej e,.agg (cMv x),encF (ofQ q)] (dB (ZcM e x q)):=by
 have Zr:=Tryz.results29
 refine Zag.toN ?_ rfl
 have k1:=Zsm e.ce e.re x.s x.r x.d (by omega) (by omega)
 obtain⟨b,hb⟩:∃ b,ZcM e x q=b:=⟨_,rfl⟩
 rw[hb]
 cases g1:(x.s == -1)
 rotate_left
 ·refine inC Tryz.func29 rfl Tryz.ntmps29 ?_
  refine aGo (cj2 Zr g1) ?_
  repeat with_reducible intro K hK
  exact Zae (by rw[← hb];unfold ZcM;rw[g1];rfl)
 obtain⟨v,ev⟩:∃ v,intD e.ce e.re x.s x.r x.d=v:=⟨_,rfl⟩
 have hb2:(!v.ok||(decide (qOf v.lo≤q)&&decide (q≤qOf v.hi)))=b:=by rw[← hb];unfold ZcM;rw[g1,ev];rfl
 rw[ev]at k1
 have zi:=zi (by simpa using g1) v ev
 clear ev hb
 obtain⟨lo,hi,ok⟩:=v
 cases ok
 ·refine inC Tryz.func29 rfl Tryz.ntmps29 ?_
  refine aGo (cj2 Zr g1) ?_
  repeat with_reducible intro K hK
  exact Zae hb2
 obtain⟨ol,oh,zl,zh⟩:=zi rfl
 simp only at ol oh zl zh hb2 k1
 rw[← ZbO ol]at zl
 rw[← ZbO oh]at zh
 have el:=Zc1 ol
 have eh:=Zc1 oh
 rw[Bool.not_true,Bool.false_or]at hb2
 generalize qOf lo=L at el zl hb2
 generalize qOf hi=H at eh zh hb2
 subst el eh
 have k2:=Zhe L q (by omega) (by omega)
 have k3:=Zhe q H (by omega) (by omega)
 have c2:decide (sgQ (L-q)≤0)=decide (L≤q):=by
  refine decide_eq_decide.2 ?_
  rcases ZbC (L-q)with⟨h,e⟩|⟨h,e⟩|⟨h,e⟩
  ·exact⟨fun _=>by grind,fun _=>by omega⟩
  ·exact⟨fun _=>by grind,fun _=>by omega⟩
  ·exact⟨fun hc=>by omega,fun hc=>by grind⟩
 have c3:decide (sgQ (q-H)≤0)=decide (q≤H):=by
  refine decide_eq_decide.2 ?_
  rcases ZbC (q-H)with⟨h,e⟩|⟨h,e⟩|⟨h,e⟩
  ·exact⟨fun _=>by grind,fun _=>by omega⟩
  ·exact⟨fun _=>by grind,fun _=>by omega⟩
  ·exact⟨fun hc=>by omega,fun hc=>by grind⟩
 rw[← c2,← c3]at hb2
 clear c2 c3
 generalize sgQ (L-q)=A at k2 hb2
 generalize sgQ (q-H)=B at k3 hb2
 by_cases a1:A≤0
 ·by_cases b1:B≤0
  ·refine inC Tryz.func29 rfl Tryz.ntmps29 ?_
   refine aGo (cj4 Zr g1 a1 b1) ?_
   repeat with_reducible intro K hK
   exact Zae (by rw[← hb2,decide_eq_true a1,decide_eq_true b1];rfl)
  ·refine inC Tryz.func29 rfl Tryz.ntmps29 ?_
   refine aGo (cj4 Zr g1 a1 b1) ?_
   repeat with_reducible intro K hK
   exact Zae (by rw[← hb2,decide_eq_true a1,decide_eq_false b1];rfl)
 ·refine inC Tryz.func29 rfl Tryz.ntmps29 ?_
  refine aGo (cj3 Zr g1 a1) ?_
  repeat with_reducible intro K hK
  exact Zae (by rw[← hb2,decide_eq_false a1];rfl)
theorem ZkQ{a b:Rat}:sgQ (a-b)<0↔a<b:=by
 rcases ZbC (a-b)with⟨h,e⟩|⟨h,e⟩|⟨h,e⟩
 ·exact⟨fun _=>by grind,fun _=>by omega⟩
 ·exact⟨fun hc=>by omega,fun hc=>by grind⟩
 ·exact⟨fun hc=>by omega,fun hc=>by grind⟩
theorem ZnM{a b:Rat}:sgQ (a-b)>0↔b<a:=by
 rcases ZbC (a-b)with⟨h,e⟩|⟨h,e⟩|⟨h,e⟩
 ·exact⟨fun hc=>by omega,fun hc=>by grind⟩
 ·exact⟨fun hc=>by omega,fun hc=>by grind⟩
 ·exact⟨fun _=>by grind,fun _=>by omega⟩
def pur1(i:Nat)(l:List Zac)(mass:Rat)(p:PuD):Bool:=(p.v !=(i:Int))||(decide ((p.lo:Rat)*mass≤1000*qOf ((l[p.m.toNat]?).getD zF))&&decide (1000*qOf ((l[p.m.toNat]?).getD zF)≤(p.hi:Rat)*mass))
theorem ZyS(e:EvD)(i:Nat)(l:List Zac)(q:Rat)(ho:l.all okF=true)(hz:∀ f∈l,szF f≤4)(zq:szQ q≤1000)(hn:(e.pu.length:Int)≤1000)(hp:∀ p∈e.pu,(0≤p.m∧p.m<l.length)∧0≤p.lo∧p.lo≤1000∧0≤p.hi∧p.hi≤1000) :
 Zaa Tryz.prog 30 [Zej e,dI i,ZaM l,encF (ofQ q)] (dB (ZpR e i l q)):=by
 have Zr:=Tryz.results30
 obtain⟨b,hb⟩:∃ b,ZpR e i l q=b:=⟨_,rfl⟩
 have hb2:e.pu.all (pur1 i l q)=b:=hb
 rw[hb]
 refine inN Tryz.func30 rfl Tryz.ntmps30 fun I=>?_
 refine aGo Zr ?_
 repeat with_reducible intro K hK
 refine ZaE (fun(k:Nat)=>[(1,dI i),(2,ZaM l),(4,.lp 0 0 0 0),(7,.lp 1 0 0 0),(18,ZjK e.pu),(19,dI e.pu.length),(20,dI k)]) (fun _=>[(0,⟨28,0,8,[cEv e],0,false⟩),(1,⟨34,0,4,[cF (ofQ q)],0,false⟩)]) 2 0 (fun k=>k≤e.pu.length∧(e.pu.take k).all (pur1 i l q)=true) (fun k=>e.pu.length-k) 0 ⟨by omega,rfl⟩ ?_ ?_
 ·exact leGo trivial
 rintro k ⟨hk,hnk⟩
 obtain⟨hw,h0⟩:=Za6 k
 by_cases h1:(k:Int)<e.pu.length
 rotate_left
 ·rw[Ya8 (by omega)]at hnk
  refine aGo (cj2 Zr h1) ?_
  repeat with_reducible intro K hK
  exact Zae (hnk.symm.trans hb2)
 obtain⟨p,hx⟩:∃ e',e.pu[k]? =some e':=⟨_,Ya0 (by omega)⟩
 have hm:=Ya7 hx
 obtain⟨⟨m0,m1⟩,a0,a1,b0,b1⟩:=hp p hm
 cases g1:(p.v !=(i:Int))
 rotate_left
 ·refine aGo (cj4 Zr h0 h1 (cj3 hx hw g1)) ?_
  repeat with_reducible intro K hK
  exact Zai (k+1) ⟨by omega,Zan hx hnk (by unfold pur1;rw[g1];rfl)⟩ (by omega) (by exact leGo trivial)
 obtain⟨f,hf⟩:∃ e',l[p.m.toNat]? =some e':=⟨_,Ya0 (by omega)⟩
 have hfm:=Ya7 hf
 have hof:=Ya6.1 ho f hfm
 have zf:=hz f hfm
 have hpur:pur1 i l q p=(decide ((p.lo:Rat)*q≤1000*qOf f)&&decide (1000*qOf f≤(p.hi:Rat)*q)):=by unfold pur1;rw[g1,hf];rfl
 rw[← ZbO hof]at zf
 have ef:=Zc1 hof
 generalize qOf f=F at ef zf hpur
 subst ef
 have k1:=ZeF 1000 (by decide) (by decide)
 have k2:=ZeF p.lo (by omega) (by omega)
 have k3:=ZeF p.hi (by omega) (by omega)
 have z1:=ZcW 1000 (by decide) (by decide)
 have z2:=ZcW p.lo (by omega) (by omega)
 have z3:=ZcW p.hi (by omega) (by omega)
 have e1:((1000:Int):Rat)=1000:=rfl
 rw[e1]at k1 z1
 have m1:=ZeA 1000 F
 have m2:=ZeA (p.lo:Rat) q
 have m3:=ZeA (p.hi:Rat) q
 have k4:=Zor 1000 F (by omega) (by omega)
 have k5:=Zor (p.lo:Rat) q (by omega) (by omega)
 have k6:=Zor (p.hi:Rat) q (by omega) (by omega)
 have k7:=Zhe (1000*F) ((p.lo:Rat)*q) (by omega) (by omega)
 have k8:=Zhe (1000*F) ((p.hi:Rat)*q) (by omega) (by omega)
 have c1:=@ZkQ (1000*F) ((p.lo:Rat)*q)
 have c2:=@ZnM (1000*F) ((p.hi:Rat)*q)
 clear z1 z2 z3 m1 m2 m3 e1
 generalize (p.lo:Rat)=LO at k2 k5 k7 c1 hpur
 generalize (p.hi:Rat)=HI at k3 k6 k8 c2 hpur
 generalize LO*q=U at k5 k7 c1 hpur
 generalize HI*q=V at k6 k8 c2 hpur
 generalize 1000*F=W at k4 k7 k8 c1 c2 hpur
 generalize sgQ (W-U)=X at k7 c1
 generalize sgQ (W-V)=Y at k8 c2
 by_cases g2:X<0
 ·have hp2:pur1 i l q p=false:=by rw[hpur,decide_eq_false (by have:=c1.1 g2;grind)];rfl
  refine aGo (cj4 Zr h0 h1 (cj4 hx hf m0 (cj2 g1 g2))) ?_
  repeat with_reducible intro K hK
  exact Zae (by rw[← hb2,Zbf hx hp2])
 by_cases g3:Y>0
 ·have hp2:pur1 i l q p=false:=by rw[hpur,decide_eq_false (p:=W≤V) (by have:=c2.1 g3;grind),Bool.and_false]
  refine aGo (cj4 Zr h0 h1 (cj4 hx hf m0 (cj3 g1 g2 g3))) ?_
  repeat with_reducible intro K hK
  exact Zae (by rw[← hb2,Zbf hx hp2])
 have hp2:pur1 i l q p=true:=by
  rw[hpur,decide_eq_true (by have:=fun h=>g2 (c1.2 h);grind),decide_eq_true (by have:=fun h=>g3 (c2.2 h);grind)];rfl
 refine aGo (cj4 Zr h0 h1 (cj4 hx hf m0 (cj4 hw g1 g2 g3))) ?_
 repeat with_reducible intro K hK
 exact Zai (k+1) ⟨by omega,Zan hx hnk hp2⟩ (by omega) (by exact leGo trivial)
set_option maxHeartbeats 16000000
abbrev cOri(o:OriD):List D:=[dI o.k,dI o.v,dI o.m,dI o.i]
abbrev mkB(e:EvD)(R vR O vO:Nat):Blk:=⟨161,0,10,[[dI e.m,dI e.h,dI e.s,ZoY e.pl,Zfv e.mv,Zmi e.ce,Zgt e.re,ZjK e.pu,.ls R vR,.ls O vO]],0,false⟩
abbrev rwB(vR:Nat)(rows:List RowD):Blk:=⟨228,vR,6,rows.map cW,0,false⟩
abbrev orB(vO:Nat)(os:List OriD):Blk:=⟨266,vO,4,os.map cOri,0,false⟩
theorem ZzD{m:Mem}{nx id n':Nat}{blk:Blk}(h:Cl m nx)(hb:Zcb (fun i=>(upd m id (some blk) i).isSome) blk)(hid:id<n')(hn:nx≤n'):Cl (upd m id (some blk)) n':=by
 intro i b hi
 by_cases e:i=id
 ·subst e;rw[Zab]at hi;cases hi;exact⟨hid,hb⟩
 ·rw[Zad _ _ e]at hi
  refine⟨by have:=(h i b hi).1;omega,fun x hx=>Zc2 (fun j hj=>?_) x ((h i b hi).2 x hx)⟩
  by_cases e2:j=id
  ·subst e2;rw[Zab];rfl
  ·rw[Zad _ _ e2];exact hj
section
variable [Ifl] {P:Program} {f:FuncId} {ds:List D} {m:Mem} {nx:Nat}
theorem Zas.kept0{d0:D}(hd:okD (fun _=>false) d0=true)(h:Zas P f ds m nx fun d m' nx'=>d=d0∧nx≤nx'∧∀ id,id<nx→m' id=m id):Zas P f ds m nx fun d m' nx'=>d=d0∧m'=m∧nx'=nx:=by
 refine Zas.cl h.1 fun hcl=>Zas.sub (h.mono ?_)
 rintro d m' nx' ⟨rfl,h1,h3⟩
 refine⟨_,_,hcl.sub fun id b hi=>?_,Zgc (fun _ h=>by cases h) d hd,fun id hi=>?_,rfl,rfl,rfl⟩
 ·rw[h3 id (hcl id b hi).1];exact hi
 ·cases hm:m id with
  | none=>rw[hm]at hi;cases hi
  | some b=>rw[h3 id (hcl id b hm).1,hm]
theorem Zas.kept3{d0:D}{a b c:Nat}{a0 b0 c0 x y z:Blk}(hA:m a=some a0)(hB:m b=some b0)(hC:m c=some c0)(ab:a≠b)(ac:a≠c)(bc:b≠c)(hd:okD (fun _=>false) d0=true)
 (hx:Zcb (fun i=>(upd (upd (upd m c (some z)) b (some y)) a (some x) i).isSome) x) (hy:Zcb (fun _=>false) y) (hz:Zcb (fun _=>false) z)
 (h:Zas P f ds m nx fun d m' nx'=>d=d0∧nx≤nx'∧m' a=some x∧m' b=some y∧m' c=some z∧∀ id,id<nx→id≠a→id≠b→id≠c→m' id=m id) :
 Zas P f ds m nx fun d m' nx'=>d=d0∧m'=upd (upd (upd m c (some z)) b (some y)) a (some x)∧nx'=nx:=by
 refine Zas.cl h.1 fun hcl=>Zas.sub (h.mono ?_)
 rintro d m' nx' ⟨rfl,h0,h1,h2,h3,h4⟩
 have key:∀ id,id<nx→m' id=upd (upd (upd m c (some z)) b (some y)) a (some x) id:=fun id hi=>by
  by_cases e1:id=a
  ·subst e1;rw[Zab,h1]
  by_cases e2:id=b
  ·subst e2;rw[Zad _ _ e1,Zab,h2]
  by_cases e3:id=c
  ·subst e3;rw[Zad _ _ e1,Zad _ _ e2,Zab,h3]
  rw[Zad _ _ e1,Zad _ _ e2,Zad _ _ e3,h4 id hi e1 e2 e3]
 have hC2:=(((hcl.upd hz (hcl c c0 hC).1 (Ya4 nx)).upd hy (hcl b b0 hB).1 (Ya4 nx)) |> fun h=>ZzD h hx (hcl a a0 hA).1 (Ya4 nx))
 refine⟨_,_,hC2.sub fun id b hi=>?_,Zgc (fun _ h=>by cases h) d hd,fun id hi=>?_,rfl,rfl,rfl⟩
 ·rw[key id (hC2 id b hi).1];exact hi
 ·cases hm:m id with
  | none=>rw[hm]at hi;cases hi
  | some b'=>rw[key id (hcl id b' hm).1]
end
theorem ZzK[Ifl]{e:EvD}{mk R O vR vO:Nat}{rows:List RowD}{os:List OriD}{m:Mem}{nx:Nat}(h1:m mk=some (mkB e R vR O vO))(h2:m R=some (rwB vR rows))(h3:m O=some (orB vO os))(n1:mk≠R)(n2:mk≠O)(n3:R≠O)
 (hl:(rows.length:Int)≤100000) (ho:(os.length:Int)≤100000) (w:RowD) (o:OriD) :
 Zas Tryz.prog 158 [.lp mk 0 0 0,ZbT w.t,dI w.k,encF w.v,.agg (cOri o)] m nx fun d m' nx'=>d=oneD []∧nx≤nx'∧m' mk=some (mkB e R (vR+1) O (vO+1))∧m' R=some (rwB (vR+1) (rows++[w]))∧m' O=some (orB (vO+1) (os++[o]))∧∀ id,id<nx→id≠mk→id≠R→id≠O→m' id=m id:=by
 obtain⟨wt,wk,wv⟩:=w
 obtain⟨ok,ov,om,oi⟩:=o
 refine Zas.cl ⟨_,_,Tryz.func158,rfl,by kernel_rfl⟩ fun hcl=>?_
 have Zr:=Tryz.results158
 refine inA Tryz.func158 rfl Tryz.ntmps158 ?_
 have lm:=(hcl _ _ h1).1
 have lR:=(hcl _ _ h2).1
 have lO:=(hcl _ _ h3).1
 have a1:mk≠nx:=by omega
 have a2:mk≠nx+1:=by omega
 have a3:mk≠nx+2:=by omega
 have b1:R≠nx:=by omega
 have b2:R≠nx+1:=by omega
 have b3:R≠nx+2:=by omega
 have b0:R≠mk:=fun e=>n1 e.symm
 have c0:nx≠nx+1:=by omega
 have r1:(rows.map cW).length=rows.length:=Yc0 ..
 have r2:((rows.length+1:Nat):Int)*72≤140737488355328:=by omega
 have r3:((rows.length+1:Nat):Int)≤9007199254740992:=by omega
 refine aGoS (cj4 Zr h1 h2 (cj4 h3 a1 a2 (cj4 a3 b1 b2 (cj4 b3 b0 c0 (cj4 r1 r2 r3 n1))))) ?_
 repeat with_reducible intro K hK
 with_reducible apply useE
 with_reducible assumption
 exact ZlD [mk,nx,nx+2,R] (by simp[a1,a3,n1,b1.symm,b3.symm]) [([],[]),([],[]),([],[]),([],[]),([0],[]),([],[]),([],[]),([1],[]),([],[]),([2,2],[2]),([3,2,3],[3]),([],[]),([],[]),([0,0],[0])] rfl rfl (by kernel_rfl)
 exact ZaG rfl
 have a4:mk≠nx+3:=by omega
 have d1:O≠nx:=by omega
 have d2:O≠nx+1:=by omega
 have d3:O≠nx+2:=by omega
 have d4:O≠nx+3:=by omega
 have d0:O≠mk:=fun e=>n2 e.symm
 have dR:O≠R:=fun e=>n3 e.symm
 have c2:nx+1≠nx+2:=by omega
 have c3:nx+1≠R:=fun e=>b2 e.symm
 have c4:nx+1≠mk:=fun e=>a2 e.symm
 have s1:(os.map cOri).length=os.length:=Yc0 ..
 have s2:((os.length+1:Nat):Int)*72≤140737488355328:=by omega
 have s3:((os.length+1:Nat):Int)≤9007199254740992:=by omega
 refine aGoS (cj4 Zr h3 a1 (cj4 a2 a3 a4 (cj4 d1 d2 d3 (cj4 d4 d0 dR (cj4 c2 c3 c4 (cj4 s1 s2 s3 n2)))))) ?_
 repeat with_reducible intro K hK
 with_reducible apply useE
 with_reducible assumption
 exact ZlD [mk,nx+1,nx+3,O] (by simp[a2,a4,n2,d2.symm,d4.symm]) [([],[]),([],[]),([],[]),([],[]),([0],[]),([1],[]),([2,2],[2]),([3,2,3],[3]),([],[]),([],[]),([0,0],[0])] rfl rfl (by kernel_rfl)
 exact ZaG rfl
 refine aGoM (cj4 Zr n1 n2 n3) ?_
 have rR:R≠nx+3:=by omega
 refine⟨?_,?_,fun id g1 g2 g3 g4=>?_⟩
 ·repeat(first|rw[if_pos rfl]|rw[if_neg (by assumption)])
  unfold rwB;rw[List.map_append];rfl
 ·repeat(first|rw[if_pos rfl]|rw[if_neg (by assumption)])
  unfold orB;rw[List.map_append];rfl
 ·repeat(rw[if_neg (by omega)])
theorem Zvw[Ifl]{e:EvD}{mk R O vR vO:Nat}{rows:List RowD}{os:List OriD}{m:Mem}{nx:Nat}(h1:m mk=some (mkB e R vR O vO))(h2:m R=some (rwB vR rows))(h3:m O=some (orB vO os))(n1:mk≠R)(n2:mk≠O)(n3:R≠O)
 (l1:mk<nx) (l2:R<nx) (l3:O<nx) (hl:(rows.length:Int)≤100000) (ho:(os.length:Int)≤100000) (w:RowD) (o:OriD) :
 EffC Tryz.prog 158 [.lp mk 0 0 0,ZbT w.t,dI w.k,encF w.v,.agg (cOri o)] m nx ⟨oneD [],[mk,R,O],[(O,orB (vO+1) (os++[o])),(R,rwB (vR+1) (rows++[w])),(mk,mkB e R (vR+1) O (vO+1))],false⟩ nx:=by
 refine EffC.of ⟨_,_,Tryz.func158,rfl,by kernel_rfl⟩ (fun p hp=>?_) fun m1 NX hN ht=>?_
 ·simp only[List.mem_cons,List.not_mem_nil,or_false]at hp
  rcases hp with rfl|rfl|rfl
  ·exact⟨by simp,l3⟩
  ·exact⟨by simp,l2⟩
  ·exact⟨by simp,l1⟩
 have g1:=(ht mk (by simp)).trans h1
 have g2:=(ht R (by simp)).trans h2
 have g3:=(ht O (by simp)).trans h3
 refine Zas.kept3 g1 g2 g3 n1 n2 n3 rfl ?_ ?_ ?_ (ZzK g1 g2 g3 n1 n2 n3 hl ho w o)
 ·intro x hx
  obtain rfl:=List.mem_singleton.1 hx
  have e1:(upd (upd (upd m1 O (some (orB (vO+1) (os++[o])))) R (some (rwB (vR+1) (rows++[w])))) mk (some (mkB e R (vR+1) O (vO+1))) R).isSome=true:=by
   rw[Zad _ _ (fun h=>n1 h.symm),Zab];rfl
  have e2:(upd (upd (upd m1 O (some (orB (vO+1) (os++[o])))) R (some (rwB (vR+1) (rows++[w])))) mk (some (mkB e R (vR+1) O (vO+1))) O).isSome=true:=by
   rw[Zad _ _ (fun h=>n2 h.symm),Zad _ _ (fun h=>n3 h.symm),Zab];rfl
  simp only[okDs,okD,e1,e2,Bool.and_self]
 ·intro x hx
  obtain⟨u,_,rfl⟩:=Yc6.1 hx
  rfl
 ·intro x hx
  obtain⟨u,_,rfl⟩:=Yc6.1 hx
  rfl
abbrev nmL(P i:Nat)(R:Nat→Nat):List (List D):=tabL P fun p=>if p<i then [.ls (R p) 1]else [.nil]
abbrev stB(P:Nat)(R:Nat→Nat):Blk:=⟨35,1,1,tabL P fun p=>[.ls (R p) 1],0,false⟩
abbrev mvX(x:MvD):Blk:=⟨93,0,6,[cMv x],0,false⟩
abbrev evX(e:EvD):Blk:=⟨28,0,8,[cEv e],0,false⟩
structure ZfQ (m:Mem) (s:Nat) (R:Nat→Nat) (P M:Nat) (c:Nat→Nat→Rat):Prop where
 hs:m s=some (stB P R)
 hr:∀ p,p<P→m (R p)=some (fB M (c p))
structure Apt (s:Nat) (R:Nat→Nat) (P:Nat):Prop where
 rs:∀ p,p<P→R p≠s
 rr:∀ p q,p<P→q<P→p≠q→R p≠R q
theorem ZfQ.keep{m m':Mem}{s:Nat}{R:Nat→Nat}{P M:Nat}{c:Nat→Nat→Rat}(h:ZfQ m s R P M c)(hs:m' s=m s)(hr:∀ p,p<P→m' (R p)=m (R p)):ZfQ m' s R P M c :=
 ⟨hs.trans h.hs,fun p hp=>(hr p hp).trans (h.hr p hp)⟩
theorem ZfQ.congr{m:Mem}{s:Nat}{R:Nat→Nat}{P M:Nat}{c d:Nat→Nat→Rat}(h:ZfQ m s R P M c)(hc:∀ p k,p<P→k<M→d p k=c p k):ZfQ m s R P M d :=
 ⟨h.hs,fun p hp=>by have:=h.hr p hp;unfold fB at this ⊢;rwa [← ZbP (hc p · hp)]at this⟩
theorem Zy4(P i:Nat)(R:Nat→Nat)(x:Nat):(nmL P i R).set i [.ls x 1]=nmL P (i+1) (fun p=>if p=i then x else R p):=by
 unfold nmL
 rw[ZmO]
 refine Zct fun u _=>?_
 by_cases e:u=i
 ·subst e;rw[if_pos rfl,if_pos (by omega)];simp only[if_pos]
 ·rw[if_neg e]
  by_cases h:u<i
  ·rw[if_pos h,if_pos (by omega)];simp only[if_neg e]
  ·rw[if_neg h,if_neg (by omega)]
theorem Zy6(P:Nat)(R:Nat→Nat):nmL P P R=tabL P fun p=>[.ls (R p) 1]:=Zct fun u hu=>by rw[if_pos hu]
theorem Zy5{P i k:Nat}{R:Nat→Nat}(h:k<P)(hk:k<i):(nmL P i R)[k]? =some [.ls (R k) 1]:=by unfold nmL;rw[Zez _ h,if_pos hk]
theorem Zy2[Ifl](e:EvD)(hM:0≤e.m∧e.m≤6)(hP:(e.pl.length:Int)≤100)(m:Mem)(nx:Nat) :
 Zas Tryz.prog 25 [Zej e] m nx fun d m' nx'=>∃ R,d = .ls (nx+1) 1∧nx+1<nx'∧ZfQ m' (nx+1) R e.pl.length e.m.toNat (fun _ _=>0)∧(∀ p,p<e.pl.length→nx+1<R p∧R p<nx')∧Apt (nx+1) R e.pl.length∧∀ id,id<nx→m' id=m id:=by
 refine Zas.cl ⟨_,_,Tryz.func25,rfl,by kernel_rfl⟩ fun hcl=>?_
 have Zr:=Tryz.results25
 refine inA Tryz.func25 rfl Tryz.ntmps25 ?_
 obtain⟨N,hN⟩:∃ N,e.pl.length=N:=⟨_,rfl⟩
 obtain⟨M,hMm⟩:∃ M:Nat,e.m.toNat=M:=⟨_,rfl⟩
 have eM:e.m=(M:Int):=by omega
 have N0:(0:Int)≤N:=by omega
 have hrep:List.replicate N [D.nil]=nmL N 0 fun _=>0:=by rw[Zq3];exact Zct fun u _=>by rw[if_neg (by omega)]
 have n1:24*(N:Int)≤140737488355328:=by omega
 have n2:(N:Int)≤9007199254740992:=by omega
 have n3:(N:Int)≤N:=by omega
 have o1:nx≠nx+1:=by omega
 have hl0:(nmL N 0 fun _=>0).length=N:=Zfy _ _
 rw[hN,hMm]
 refine aGoM (cj4 Zr N0 hrep (cj4 n1 n2 n3 (cj3 hN o1 hl0))) ?_
 repeat with_reducible intro K' hK
 refine Zho (fun(i:Nat)=>[(1,.lp nx 0 0 0),(3,.ls (nx+1) 1),(10,.ls (nx+1) 1),(11,dI N),(12,dI i)]) nx
  (fun i m1 nx1=>i≤N∧nx+1<nx1∧m1 nx=some (evX e)∧(∃ R,m1 (nx+1)=some ⟨35,1,1,nmL N i R,0,false⟩∧(∀ p,p<i→nx+1<R p∧R p<nx1∧m1 (R p)=some (fB M fun _=>0))∧∀ p q,p<i→q<i→p≠q→R p≠R q)∧∀ id,id<nx→m1 id=m id) (fun i=>N-i) 0 ?_ ?_ ?_ ?_
 ·refine⟨Yb0 _,by show nx+1<nx+2;omega,?_,⟨fun _=>0,?_,fun p hp=>absurd hp (Nat.not_lt_zero _),fun p q hp=>absurd hp (Nat.not_lt_zero _)⟩,fun id h=>?_⟩
  ·simp only[Zak,o1,↓reduceIte]
  ·simp only[Zak,↓reduceIte]
  ·simp only[Zak];repeat(rw[if_neg (by omega)])
 ·rfl
 ·simp[go_sem]
 rintro i m1 nx1 ⟨hi,hnx,hE,⟨R,hS,hR,hrr⟩,hfr⟩
 obtain⟨hw,i0⟩:=Za6 i
 by_cases h1:(i:Int)<N
 rotate_left
 ·obtain rfl:i=N:=by omega
  refine aGoM (cj2 Zr h1) ?_
  refine⟨R,hnx,⟨?_,fun p hp=>(hR p hp).2.2⟩,fun p hp=>⟨(hR p hp).1,(hR p hp).2.1⟩,⟨fun p hp=>by have:=(hR p hp).1;omega,hrr⟩,hfr⟩
  rw[hS,Zy6]
 have M0:(0:Int)≤M:=by omega
 have hrepM:List.replicate M zc=Zfn M 0:=(Zmc M).symm
 have q1:64*(M:Int)≤140737488355328:=by omega
 have q2:(M:Int)≤9007199254740992:=by omega
 have q3:(M:Int)≤M:=by omega
 have hlM:=ZhK M 0
 have hset:=Zy4 N i R nx1
 have hget:(nmL N (i+1) fun p=>if p=i then nx1 else R p)[i]? =some [.ls nx1 1]:=by rw[Zy5 (by omega) (by omega),if_pos rfl]
 have hlN:(nmL N i R).length=N:=Zfy _ _
 have hgi:(nmL N i R)[i]? =some [.nil]:=by unfold nmL;rw[Zez _ (by omega),if_neg (by omega)]
 have x1:nx≠nx1:=by omega
 have x2:nx+1≠nx1:=by omega
 have x3:nx1≠nx+1:=by omega
 generalize hR2:(fun p=>if p=i then nx1 else R p)=R2 at hset hget
 refine aGoM (cj4 Zr hE hS (cj4 i0 h1 hlN (cj4 M0 hrepM q1 (cj4 q2 q3 hlM (cj4 hset hget x1 (cj4 x2 x3 eM (cj2 hgi Yb0))))))) ?_
 repeat with_reducible intro K' hK
 refine Zho (fun(j:Nat)=>[(1,.lp nx 0 0 0),(3,.ls (nx+1) 1),(4,dI i),(10,.ls (nx+1) 1),(11,dI N),(12,dI i),(25,dI M),(26,dI j)]) nx
  (fun j m2 nx2=>j≤M∧nx1<nx2∧m2 nx=some (evX e)∧m2 (nx+1)=some ⟨35,1,1,nmL N (i+1) R2,0,false⟩∧m2 nx1=some ⟨34,1,4,Zfn M j,0,false⟩∧∀ id,id<nx1→id≠nx+1→m2 id=m1 id) (fun j=>M-j) 0 ?_ ?_ ?_ ?_
 ·refine⟨Yb0 _,Nat.lt_succ_self _,?_,?_,?_,fun id g1 g2=>?_⟩
  ·simp only[Zak,x1,o1,↓reduceIte];exact hE
  ·simp only[Zak,↓reduceIte]
  ·simp only[Zak,x3,↓reduceIte]
  ·simp only[Zak];repeat(rw[if_neg (by omega)])
 ·rfl
 ·simp[go_sem]
 rintro j m2 nx2 ⟨hj,hnx2,eE,eS,eR,hfr2⟩
 obtain⟨hwj,j0⟩:=Za6 j
 by_cases h2:(j:Int)<M
 ·have hlj:=ZhK M j
  have hgj:(Zfn M j)[j]? =some zc:=by unfold Zfn;rw[Zez _ (by omega),if_neg (by omega)]
  have hsj:=ZoP M j
  have k0:=nZ_c
  have hlN2:(nmL N (i+1) R2).length=N:=Zfy _ _
  refine aGoM (cj4 Zr eS eR (cj4 hget i0 j0 (cj4 hlj hgj hsj (cj4 h2 hwj hlN2 (cj3 h1 x3 Yb0))))) ?_
  repeat with_reducible intro K' hK
  refine Za9 (j+1) ⟨by omega,hnx2,?_,?_,?_,fun id g1 g2=>?_⟩ (by omega) rfl (by simp[go_sem])
  ·simp only[Zak,x1,↓reduceIte];exact eE
  ·simp only[Zak,x2,↓reduceIte];exact eS
  ·simp only[Zak,↓reduceIte]
  ·simp only[Zak];rw[if_neg (by omega)];exact hfr2 id g1 g2
 ·obtain rfl:M=j:=by omega
  refine aGoM (cj3 Zr h2 hw) ?_
  repeat with_reducible intro K' hK
  rw[ZoQ]at eR
  refine Za9 (i+1) ⟨by omega,(by show nx+1<nx2;omega),eE,⟨R2,eS,fun p hp=>?_,fun p q hp hq hpq=>?_⟩,fun id hid=>(hfr2 id (by omega) (by omega)).trans (hfr id hid)⟩ (by omega) rfl (by simp[go_sem])
  ·rw[← hR2];simp only
   by_cases ep:p=i
   ·rw[if_pos ep];exact⟨hnx,hnx2,eR⟩
   ·rw[if_neg ep]
    obtain⟨a,b,c⟩:=hR p (by omega)
    exact⟨a,by omega,(hfr2 _ b (by omega)).trans c⟩
  ·rw[← hR2];simp only
   by_cases ep:p=i
   ·rw[if_pos ep,if_neg (by omega)]
    have:=(hR q (by omega)).2.1
    omega
   ·rw[if_neg ep]
    by_cases eq:q=i
    ·rw[if_pos eq]
     have:=(hR p (by omega)).2.1
     omega
    ·rw[if_neg eq];exact hrr p q (by omega) (by omega) hpq
theorem Zfr(p:Nat→Bool)(k:Nat):(List.range (k+1)).any p=((List.range k).any p||p k):=by rw[List.range_succ,List.any_append];simp
theorem ZlC{p:Nat→Bool}{n k:Nat}(h:k<n)(hp:p k=true):(List.range n).any p=true:=List.any_eq_true.2 ⟨k,Yd2.2 h,hp⟩
theorem Zxl{e:EvD}{p:Int}{x:PlD}(h:e.pl[p.toNat]? =some x):Zcx e p=x.k:=by unfold Zcx;rw[h];rfl
section
variable [Ifl]
theorem EffC.looks{P:Program}{f:FuncId}{ds:List D}{m:Mem}{nx:Nat}{d:D}{touch:List Nat}(hb:Zdl P f)(hd:okD (fun _=>false) d=true)
 (h:∀ (m1:Mem)(NX:Nat),nx≤NX→(∀ id∈touch,m1 id=m id)→Zas P f ds m1 NX fun d' m' nx'=>d'=d∧NX≤nx'∧∀ id,id<NX→m' id=m1 id):EffC P f ds m nx ⟨d,touch,[],false⟩ nx :=
 EffC.of hb (fun p hp=>by cases hp) fun m1 NX hN ht=>Zas.kept0 hd (h m1 NX hN ht)
theorem Zas.kept2{P:Program}{f:FuncId}{ds:List D}{m:Mem}{nx:Nat}{d0:D}{a b:Nat}{a0 b0 x y:Blk}(hA:m a=some a0)(hB:m b=some b0)(ab:a≠b)(hd:okD (fun _=>false) d0=true)(hx:Zcb (fun _=>false) x)(hy:Zcb (fun _=>false) y)
 (h:Zas P f ds m nx fun d m' nx'=>d=d0∧nx≤nx'∧m' a=some x∧m' b=some y∧∀ id,id<nx→id≠a→id≠b→m' id=m id) :
 Zas P f ds m nx fun d m' nx'=>d=d0∧m'=upd (upd m a (some x)) b (some y)∧nx'=nx:=by
 refine Zas.cl h.1 fun hcl=>Zas.sub (h.mono ?_)
 rintro d m' nx' ⟨rfl,h0,h1,h2,h4⟩
 have key:∀ id,id<nx→m' id=upd (upd m a (some x)) b (some y) id:=fun id hi=>by
  by_cases e2:id=b
  ·subst e2;rw[Zab,h2]
  by_cases e1:id=a
  ·subst e1;rw[Zad _ _ e2,Zab,h1]
  rw[Zad _ _ e2,Zad _ _ e1,h4 id hi e1 e2]
 have hC2:=(hcl.upd hx (hcl a a0 hA).1 (Ya4 nx)).upd hy (hcl b b0 hB).1 (Ya4 nx)
 refine⟨_,_,hC2.sub fun id b hi=>?_,Zgc (fun _ h=>by cases h) d hd,fun id hi=>?_,rfl,rfl,rfl⟩
 ·rw[key id (hC2 id b hi).1];exact hi
 ·cases hm:m id with
  | none=>rw[hm]at hi;cases hi
  | some b'=>rw[key id (hcl id b' hm).1]
end
section
variable {e:EvD} {x:MvD} {l:List Zac} {m:Mem} {nx s:Nat} {R:Nat→Nat} {P M:Nat} {c:Nat→Nat→Rat}
theorem Zwj[Ifl](hS:m s=some (stB P R))(hF:m (R x.f.toNat)=some (fB M (c x.f.toNat)))(hP:e.pl.length=P)(f0:0≤x.f)(f1:x.f<P)(hl:l.length=M)(hM:(M:Int)≤6)(ho:l.all okF=true)(hz:∀ f∈l,szF f≤4)(zc:∀ k,k<M→szQ (c x.f.toNat k)≤1000) :
 Zas Tryz.prog 27 [.ls s 1,Zej e,.agg (cMv x),ZaM l] m nx fun d m' nx'=>d=dI (Zes e x l (c x.f.toNat))∧nx≤nx'∧∀ id,id<nx→m' id=m id:=by
 refine Zas.cl ⟨_,_,Tryz.func27,rfl,by kernel_rfl⟩ fun hcl=>?_
 have Zr:=Tryz.results27
 refine inA Tryz.func27 rfl Tryz.ntmps27 ?_
 obtain⟨p,hp⟩:∃ p,e.pl[x.f.toNat]? =some p:=⟨_,Ya0 (by omega)⟩
 have hk:=Zxl hp
 have ls:=(hcl _ _ hS).1
 have F1:x.f.toNat<P:=by omega
 have lF:=(hcl _ _ hF).1
 have gF:=Zez (fun p=>[D.ls (R p) 1]) F1
 have hln:(tabL P fun p=>[D.ls (R p) 1]).length=P:=Zfy _ _
 obtain⟨F,eF⟩:∃ F,x.f.toNat=F:=⟨_,rfl⟩
 obtain⟨T,eT⟩:∃ T,Zes e x l (c x.f.toNat)=T:=⟨_,rfl⟩
 rw[eT]
 have o1:nx≠nx+1:=by omega
 have a1:s≠nx:=by omega
 have a2:s≠nx+1:=by omega
 have b1:R F≠nx:=by rw[← eF];omega
 have b2:R F≠nx+1:=by rw[← eF];omega
 rw[eF]at hF gF zc eT hp
 cases g1:(p.k==0)
 rotate_left
 ·have e0:T=0:=by rw[← eT];unfold Zes;rw[hk,g1];rfl
  refine aGoM (cj4 Zr hp f0 (cj4 g1 o1 a1 (cj2 hP eF))) ?_
  repeat with_reducible intro K' hK
  refine⟨Zcy e0.symm,by omega,fun id hid=>?_⟩
  repeat(rw[if_neg (by omega)])
 have eT2:(if (List.range l.length).any (fun m=>decide (c F m<qOf ((l[m]?).getD zF)))then 4 else if (List.range l.length).any (fun m=>decide (qOf ((l[m]?).getD zF)<c F m))&&x.a then 7 else 0)=T:=by rw[← eT];unfold Zes;rw[hk,g1];rfl
 clear eT
 refine aGoM (cj4 Zr hp f0 (cj4 g1 o1 a1 (cj2 hP eF))) ?_
 repeat with_reducible intro K' hK
 refine Zho (fun(y:Nat×Bool)=>[(0,.ls s 1),(6,.lp (nx+1) 0 0 0),(9,dB y.2),(20,ZaM l),(21,dI l.length),(22,dI y.1)]) nx
  (fun y m1 nx1=>y.1≤l.length∧nx+1<nx1∧(List.range y.1).any (fun m=>decide (c F m<qOf ((l[m]?).getD zF)))=false∧y.2=(List.range y.1).any (fun m=>decide (qOf ((l[m]?).getD zF)<c F m))∧m1 s=some (stB P R)∧m1 (R F)=some (fB M (c F))∧m1 (nx+1)=some (mvX x)∧∀ id,id<nx→m1 id=m id) (fun y=>l.length-y.1) (0,false) ?_ ?_ ?_ ?_
 ·refine⟨Yb0 _,by show nx+1<nx+2;omega,rfl,rfl,?_,?_,?_,fun id hid=>?_⟩
  ·simp only[Zak,a1,a2,↓reduceIte];exact hS
  ·simp only[Zak,b1,b2,↓reduceIte];exact hF
  ·simp only[Zak,↓reduceIte]
  ·simp only[Zak];repeat(rw[if_neg (by omega)])
 ·rfl
 ·simp[go_sem]
 rintro⟨k,r⟩ m1 nx1 ⟨hk1,hnx,hA,hB,eS,eR,eX,hfr⟩
 simp only at hk1 hA hB
 obtain⟨hw,k0⟩:=Za6 k
 by_cases h1:(k:Int)<l.length
 rotate_left
 ·obtain rfl:k=l.length:=by omega
  rw[hA,if_neg Yc5,← hB]at eT2
  cases r
  ·refine aGoM (cj3 Zr h1 hw) ?_
   repeat with_reducible intro K' hK
   exact⟨Zcy (by rw[← eT2];rfl),by omega,hfr⟩
  ·cases ha:x.a
   ·rw[ha]at eT2
    refine aGoM (cj4 Zr h1 eX ha) ?_
    repeat with_reducible intro K' hK
    exact⟨Zcy (by rw[← eT2];rfl),by omega,hfr⟩
   ·rw[ha]at eT2
    refine aGoM (cj4 Zr h1 eX ha) ?_
    repeat with_reducible intro K' hK
    exact⟨Zcy (by rw[← eT2];rfl),by omega,hfr⟩
 obtain⟨f,hx⟩:∃ e',l[k]? =some e':=⟨_,Ya0 (by omega)⟩
 have hm:=Ya7 hx
 have hof:=Ya6.1 ho f hm
 have zf:=hz f hm
 rw[← ZbO hof]at zf
 have ef:=Zc1 hof
 have hAs:=Zfr (fun m=>decide (c F m<qOf ((l[m]?).getD zF))) k
 have hBs:=Zfr (fun m=>decide (qOf ((l[m]?).getD zF)<c F m)) k
 rw[hA,Bool.false_or]at hAs
 rw[← hB]at hBs
 simp only[hx,Option.getD_some]at hAs hBs
 have hA4:c F k<qOf f→T=4:=fun hc=>by
  rw[← eT2,if_pos (ZlC (k:=k) (by omega) (by rw[hx];exact decide_eq_true hc))]
 have zck:=zc k (by omega)
 have gR:=Zid (c F) (show k<M by omega)
 have lR:=ZgP M (c F)
 have hkM:(k:Int)<M:=by omega
 clear hA hB eT2 hk hp
 generalize qOf f=q at ef zf hAs hBs hA4
 subst ef
 have q1:=Zhe q (c F k) (by omega) (by omega)
 have x1:s≠nx1:=by omega
 have x2:R F≠nx1:=by rw[eF]at lF;omega
 have x3:nx+1≠nx1:=by omega
 have hlt:=@ZkQ q (c F k)
 have hgt:=@ZnM q (c F k)
 have hcase:=ZbC (q-c F k)
 generalize c F k=C at q1 gR hAs hBs hA4 hlt hgt hcase
 generalize sgQ (q-C)=X at q1 hlt hgt hcase
 have hX:X = -1∨X=0∨X=1:=by rcases hcase with⟨_,h⟩|⟨_,h⟩|⟨_,h⟩<;>omega
 clear hcase
 rcases hX with rfl|rfl|rfl
 ·have n1:decide (C<q)=false:=decide_eq_false fun hc=>by have:=hgt.2 hc;omega
  have n2:decide (q<C)=true:=decide_eq_true (hlt.1 (by decide))
  rw[n1]at hAs
  rw[n2,Bool.or_true]at hBs
  refine aGoM (cj4 Zr eS eR (cj4 eX hx gF (cj4 gR lR hln (cj4 x1 x2 x3 (cj4 k0 h1 hw (cj4 f0 eF hkM (cj2 f1 Yb0))))))) ?_
  repeat with_reducible intro K' hK
  refine Za9 (k+1,true) ⟨by show k+1≤_;omega,by show nx+1<nx1+1;omega,hAs,hBs.symm,?_,?_,?_,fun id hid=>?_⟩ (by show _-(k+1)<_-k;omega) rfl (by simp[go_sem])
  ·simp only[Zak,x1,↓reduceIte];exact eS
  ·simp only[Zak,x2,↓reduceIte];exact eR
  ·simp only[Zak,x3,↓reduceIte];exact eX
  ·simp only[Zak];repeat(rw[if_neg (by omega)])
   exact hfr id hid
 ·have n1:decide (C<q)=false:=decide_eq_false fun hc=>by have:=hgt.2 hc;omega
  have n2:decide (q<C)=false:=decide_eq_false fun hc=>by have:=hlt.2 hc;omega
  rw[n1]at hAs
  rw[n2,Bool.or_false]at hBs
  refine aGoM (cj4 Zr eS eR (cj4 eX hx gF (cj4 gR lR hln (cj4 x1 x2 x3 (cj4 k0 h1 hw (cj4 f0 eF hkM (cj2 f1 Yb0))))))) ?_
  repeat with_reducible intro K' hK
  refine Za9 (k+1,r) ⟨by show k+1≤_;omega,by show nx+1<nx1+1;omega,hAs,hBs.symm,?_,?_,?_,fun id hid=>?_⟩ (by show _-(k+1)<_-k;omega) rfl (by simp[go_sem])
  ·simp only[Zak,x1,↓reduceIte];exact eS
  ·simp only[Zak,x2,↓reduceIte];exact eR
  ·simp only[Zak,x3,↓reduceIte];exact eX
  ·simp only[Zak];repeat(rw[if_neg (by omega)])
   exact hfr id hid
 ·have e4:=hA4 (hgt.1 (by decide))
  refine aGoM (cj4 Zr eS eR (cj4 eX hx gF (cj4 gR lR hln (cj4 x1 x2 x3 (cj4 k0 h1 hw (cj4 f0 eF hkM (cj2 f1 Yb0))))))) ?_
  repeat with_reducible intro K' hK
  refine⟨Zcy e4.symm,by omega,fun id hid=>?_⟩
  repeat(rw[if_neg (by omega)])
  exact hfr id hid
theorem ZjZ[Ifl](h:ZfQ m s R P M c)(hP:e.pl.length=P)(f0:0≤x.f)(f1:x.f<P)(hl:l.length=M)(hM:(M:Int)≤6)(ho:l.all okF=true)(hz:∀ f∈l,szF f≤4)(zc:∀ k,k<M→szQ (c x.f.toNat k)≤1000) :
 EffC Tryz.prog 27 [.ls s 1,Zej e,.agg (cMv x),ZaM l] m nx ⟨dI (Zes e x l (c x.f.toNat)),[s,R x.f.toNat],[],false⟩ nx :=
 EffC.looks ⟨_,_,Tryz.func27,rfl,by kernel_rfl⟩ rfl fun m1 NX hN ht =>
  Zwj ((ht s (by simp)).trans h.hs) ((ht _ (by simp)).trans (h.hr _ (by omega))) hP f0 f1 hl hM ho hz zc
end
end Go.Proofs.YtblamlnjbjaokaaGreat
