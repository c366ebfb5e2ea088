/-
  Histories of true masses as data; what the checker of histories says, and that the system of the evidence holds at what it accepts (plain).
-/
import Derived.Test.YtiincpioidnciaaGreatVLib
import Derived.Test.YtiincpioidnciaaGreatVT06
import Derived.Test.YtiincpioidnciaaGreatVT00
import Derived.Test.YtiincpioidnciaaGreatVT04
import Derived.Test.YtiincpioidnciaaGreatVT01
namespace Go.Proofs.YtiincpioidnciaaGreat
set_option linter.unusedVariables false
set_option linter.unusedSimpArgs false
set_option linter.unusedSectionVars false
open Go Go.RowKit
set_option maxRecDepth 100000
def hAt(h:List (List Zag))(i m:Nat):Rat:=qOf ((((h[i]?).getD [])[m]?).getD zF)
def stK(e:EvD)(x:Nat→Nat→Rat)(p:Int)(m:Nat):Nat→Rat
 | 0=>0
 | k+1=>stK e x p m k+(if (mvAt e k).t=p then x k m else if (mvAt e k).f=p then -(x k m)else 0)
def Zl4(x:Nat→Nat→Rat)(i:Nat):Nat→Rat
 | 0=>0
 | M+1=>Zl4 x i M+x i M
structure ZBZ (e:EvD) (x:Nat→Nat→Rat) (i:Nat):Prop where
 pos:∀ m,m<e.m.toNat→0≤x i m
 st:Zku e i=false→∀ m,m<e.m.toNat→x i m≤stK e x (mvAt e i).f m i
 all:Zku e i=false→(mvAt e i).a=true→∀ m,m<e.m.toNat→x i m=stK e x (mvAt e i).f m i
 iv:(ivE e (mvAt e i)).ok=true→qOf (ivE e (mvAt e i)).lo≤Zl4 x i e.m.toNat∧Zl4 x i e.m.toNat≤qOf (ivE e (mvAt e i)).hi
 pu:∀ p∈e.pu,p.v=i→(p.lo:Rat)*Zl4 x i e.m.toNat≤1000*x i p.m.toNat∧1000*x i p.m.toNat≤(p.hi:Rat)*Zl4 x i e.m.toNat
theorem ZuI{M:Nat}:∀ (h:List (List Zag)) (i m:Nat),(∀ l∈h,l.length=M)→i<h.length→m<M→h.flatten[i*M+m]? =((h[i]?).getD [])[m]?
 | [],i,m,_,hi,_=>by simp at hi
 | l ::h,0,m,hl,_,hm=>by
   rw[List.flatten_cons,Nat.zero_mul,Nat.zero_add,Yc3 (by rw[hl l Yb7];exact hm)]
   rfl
 | l ::h,i+1,m,hl,hi,hm=>by
   have h1:=hl l Yb7
   rw[List.flatten_cons,Yc4 (by rw[h1,Nat.add_mul];omega),h1,show(i+1)*M+m-M=i*M+m by rw[Nat.add_mul];omega]
   have:=ZuI h i m (fun l hl'=>hl l (Yb6 _ hl')) (by simpa using hi) hm
   rw[this]
   rfl
theorem ZnK{M:Nat}:∀ (h:List (List Zag)),(∀ l∈h,l.length=M)→h.flatten.length=h.length*M
 | [],_=>by simp
 | l ::h,hl=>by
   rw[List.flatten_cons,Yb9,hl l Yb7,ZnK h fun l hl'=>hl l (Yb6 _ hl'),List.length_cons,Nat.add_mul]
   omega
section
variable {e:EvD} {h:List (List Zag)} (hM:0≤e.m) (hl:∀ l∈h,l.length=e.m.toNat) (hn:h.length=e.mv.length)
include hM hl hn
theorem Zqg{i m:Nat}(hi:i<e.mv.length)(hm:m<e.m.toNat):atP h.flatten ((i:Int)*e.m+m)=hAt h i m:=by
 have e1:((i:Int)*e.m+m).toNat=i*e.m.toNat+m:=by
  have:((i*e.m.toNat+m:Nat):Int)=(i:Int)*e.m+m:=by
   rw[Int.natCast_add,Int.natCast_mul,Int.toNat_of_nonneg hM]
  omega
 unfold atP hAt
 rw[e1,ZuI h i m hl (by omega) hm]
theorem ZnX{i m:Nat}(hm:m<e.m.toNat):∀ k,k≤e.mv.length→(∀ j,j<k→(mvAt e j).f≠(mvAt e j).t)→dotS (atP h.flatten) (stkE e i m k)=stK e (hAt h) (mvAt e i).f m k
 | 0,_,_=>rfl
 | k+1,hk,hd=>by
   have ih:=ZnX hm (i:=i) k (by omega) fun j hj=>hd j (by omega)
   have hp:=Zqg hM hl hn (i:=k) (m:=m) (by omega) hm
   have hne:=hd k (by omega)
   unfold stkE stK
   rw[ZdZ,ih]
   congr 1
   unfold sgnE
   by_cases h1:(mvAt e k).f=(mvAt e i).f
   ·have h2:¬ (mvAt e k).t=(mvAt e i).f:=fun x=>hne (h1.trans x.symm)
    simp only[h1,h2,if_true,if_false,dotS,ZaE,hp]
    rw[if_neg (by decide)]
    simp only[dotS,ZaE,hp]
    grind
   ·by_cases h2:(mvAt e k).t=(mvAt e i).f
    ·simp only[h1,h2,if_true,if_false]
     rw[if_neg (by decide)]
     simp only[dotS,ZaE,hp]
     grind
    ·simp only[h1,h2,if_true,if_false,dotS]
theorem Zjk{i:Nat}(hi:i<e.mv.length){b own more:Int}:∀ k,k≤e.m.toNat→dotS (atP h.flatten) (sumE e.m i b own more k)=(b:Rat)*Zl4 (hAt h) i k+(if 0≤own∧own<(k:Int)then(more:Rat)*hAt h i own.toNat else 0)
 | 0,_=>by
   rw[if_neg (by omega)]
   show(0:Rat)=(b:Rat)*0+0
   grind
 | k+1,hk=>by
   have ih:=Zjk hi (b:=b) (own:=own) (more:=more) k (by omega)
   have hp:=Zqg hM hl hn (i:=i) (m:=k) hi (by omega)
   unfold sumE Zl4
   rw[ZdZ,ih]
   have hc:dotS (atP h.flatten) (if cofE b own more k=0 then []else [⟨(i:Int)*e.m+k,ofQ (cofE b own more k:Rat)⟩])=(cofE b own more k:Rat)*hAt h i k:=by
    by_cases h0:cofE b own more k=0
    ·rw[if_pos h0,h0]
     show(0:Rat)=((0:Int):Rat)*_
     simp
    ·rw[if_neg h0]
     simp only[dotS,ZaE,hp]
     grind
   rw[hc]
   unfold cofE
   by_cases h1:(k:Int)=own
   ·subst h1
    rw[if_pos rfl,if_neg (by omega),if_pos ⟨by omega,by omega⟩,Int.toNat_natCast]
    rw[Rat.intCast_add]
    grind
   ·rw[if_neg h1]
    by_cases h2:0≤own∧own<(k:Int)
    ·rw[if_pos h2,if_pos ⟨h2.1,by omega⟩];grind
    ·rw[if_neg h2,if_neg (by omega)];grind
end
theorem Zsd{e:EvD}{h:List (List Zag)}(R:Zd7 e)(hs:Zao (sysE e)=true)(hl:∀ l∈h,l.length=e.m.toNat)(hn:h.length=e.mv.length)(ho:∀ l∈h,okP l=true)(H:∀ i,i<e.mv.length→ZBZ e (hAt h) i):ZaI (sysE e) h.flatten=true:=by
 have hM:0≤e.m:=by have:=R.m;omega
 have hne:∀ j,j<e.mv.length→(mvAt e j).f≠(mvAt e j).t:=fun j hj=>(R.mv _ (Zjb hj)).ne
 rw[Zb1]
 refine⟨hs,?_,?_,?_,?_⟩
 ·rw[ZnK h hl,hn]
  show((e.mv.length*e.m.toNat:Nat):Int)=(e.mv.length:Int)*e.m
  rw[Int.natCast_mul,Int.toNat_of_nonneg hM]
 ·unfold okP
  rw[Ya6]
  intro f hf
  obtain⟨l,hl',hf⟩:=List.mem_flatten.1 hf
  exact Ya6.1 (ho l hl') f hf
 ·unfold Zee
  rw[Ya6]
  intro f hf
  obtain⟨l,hl',hf⟩:=List.mem_flatten.1 hf
  obtain⟨i,hi⟩:=List.mem_iff_getElem?.1 hl'
  obtain⟨m,hm⟩:=List.mem_iff_getElem?.1 hf
  have hi':=(Ya3.1 hi).1
  have hm':=(Ya3.1 hm).1
  rw[hl l hl']at hm'
  have hx:hAt h i m=qOf f:=by unfold hAt;rw[hi,Option.getD_some,hm];rfl
  have h0:=(H i (by omega)).pos m hm'
  rw[hx]at h0
  have hok:okF f=true:=Ya6.1 (ho l hl') f hf
  rw[decide_eq_true_eq]
  unfold sgnD
  rw[if_pos hok]
  rcases ZeE (qOf f)with⟨h1,_⟩|⟨_,h1⟩|⟨_,h1⟩
  ·grind
  ·omega
  ·omega
 ·rw[Ya6]
  intro w hw
  rw[Zgn (ZdE hs hw),Zc9]
  obtain⟨r,hr,rfl⟩:=Yc6.1 hw
  obtain⟨i,hi,hr⟩:=(ZeS _).1 hr
  have Hi:=H i hi
  unfold Zii at hr
  simp only[Yd5]at hr
  rcases hr with hr|hr|hr
  ·unfold ZdN at hr
   cases hb:Zku e i
   rotate_left
   ·rw[hb,if_pos rfl]at hr;cases hr
   rw[hb,if_neg Yc5]at hr
   obtain⟨m,hm,rfl⟩:=Yc6.1 hr
   have hm:=Yd2.1 hm
   have hd:=ZnX hM hl hn (i:=i) hm (i+1) (by omega) fun j hj=>hne j (by omega)
   have he:stK e (hAt h) (mvAt e i).f m (i+1)=stK e (hAt h) (mvAt e i).f m i-hAt h i m:=by
    show stK e (hAt h) (mvAt e i).f m i+(if (mvAt e i).t=(mvAt e i).f then _ else if (mvAt e i).f=(mvAt e i).f then _ else 0)=_
    rw[if_neg (fun x=>hne i hi x.symm),if_pos rfl]
    grind
   unfold ZcH
   simp only[hd,he,ZaE]
   have h1:=Hi.st hb m hm
   cases ha:(mvAt e i).a
   ·exact⟨fun _=>by grind,fun x=>absurd rfl x⟩
   ·have h2:=Hi.all hb ha m hm
    exact⟨fun _=>by grind,fun _=>by grind⟩
  ·unfold Zb7 at hr
   split at hr
   ·rename_i hok
    have hd:=Zjk hM hl hn hi (b:=1) (own:= -1) (more:=0) e.m.toNat (Ya4 _)
    rw[if_neg (by omega)]at hd
    have h1:=Hi.iv hok
    have ei:ivF e i=ivE e (mvAt e i):=rfl
    simp only[List.mem_cons,List.not_mem_nil,or_false]at hr
    rcases hr with rfl|rfl
    ·simp only[hd,ei]
     exact⟨fun _=>by grind,fun x=>absurd rfl x⟩
    ·simp only[hd,ei]
     exact⟨fun x=>absurd rfl x,fun _=>by grind⟩
   ·cases hr
  ·obtain⟨k,p,hp,hr⟩:=ZhB _ hr
   unfold Zif at hr
   split at hr
   ·rename_i hv
    have hpm:=Ya7 hp
    have h1:=Hi.pu p hpm hv
    have hk:=R.pu p hpm
    simp only[okPu,idx,Ya2,decide_eq_true_eq]at hk
    simp only[List.mem_cons,List.not_mem_nil,or_false]at hr
    rcases hr with rfl|rfl
    ·have hd:=Zjk hM hl hn hi (b:= -p.lo) (own:=p.m) (more:=1000) e.m.toNat (Ya4 _)
     rw[if_pos (by omega)]at hd
     simp only[hd,ZaE]
     rw[Rat.intCast_neg]
     exact⟨fun _=>by grind,fun x=>absurd rfl x⟩
    ·have hd:=Zjk hM hl hn hi (b:=p.hi) (own:=p.m) (more:= -1000) e.m.toNat (Ya4 _)
     rw[if_pos (by omega)]at hd
     simp only[hd,ZaE]
     exact⟨fun _=>by grind,fun x=>absurd rfl x⟩
   ·cases hr
def Zcu(ns:List Nat→Bool)(m:Nat):Nat→List Nat
 | 0=>List.range m
 | i+1=>if ns ((Zcu ns m i).filter fun k=>k !=i)then(Zcu ns m i).filter fun k=>k !=i else Zcu ns m i
abbrev ZiX(ns:List Nat→Bool)(m i:Nat):List Nat:=(Zcu ns m i).filter fun k=>k !=i
abbrev Zf6(ns:List Nat→Bool)(m:Nat):List Nat:=Zcu ns m m
section
variable {ns:List Nat→Bool} {m:Nat}
theorem ZbZ(i:Nat):(ns (ZiX ns m i)=true∧Zcu ns m (i+1)=ZiX ns m i)∨(ns (ZiX ns m i)=false∧Zcu ns m (i+1)=Zcu ns m i):=by
 cases h:ns (ZiX ns m i)
 ·exact .inr ⟨rfl,by simp only[Zcu];rw[if_neg (by rw[h];decide)]⟩
 ·exact .inl ⟨rfl,by simp only[Zcu];rw[if_pos h]⟩
theorem Zqx(i k:Nat):k∈ZiX ns m i↔k∈Zcu ns m i∧k≠i:=by simp[ZiX]
theorem ZhE:∀ i k,k∈Zcu ns m i→k<m
 | 0,k,h=>by simpa[Zcu]using h
 | i+1,k,h=>by
   rcases ZbZ (ns:=ns) (m:=m) i with⟨_,e⟩|⟨_,e⟩
   ·rw[e,Zqx]at h;exact ZhE i k h.1
   ·rw[e]at h;exact ZhE i k h
theorem Zle:∀ i k,i≤k→k<m→k∈Zcu ns m i
 | 0,k,_,h=>by simpa[Zcu]using h
 | i+1,k,h1,h2=>by
   have ih:=Zle i k (by omega) h2
   rcases ZbZ (ns:=ns) (m:=m) i with⟨_,e⟩|⟨_,e⟩
   ·rw[e,Zqx];exact⟨ih,by omega⟩
   ·rw[e];exact ih
theorem ZqE(h:ns (List.range m)=true):∀ i,ns (Zcu ns m i)=true
 | 0=>h
 | i+1=>by
   rcases ZbZ (ns:=ns) (m:=m) i with⟨a,e⟩|⟨_,e⟩
   ·rw[e];exact a
   ·rw[e];exact ZqE h i
end
theorem Zqu(x:List Zag):∀ (r:List RowD)(y:List Zag),okP y=true→(∀ w∈r,0≤w.k∧w.k<3)→(r.zip y).all (fun p=>ZcI p.1 p.2)=true→(∀ p∈r.zip y,qOf p.2≠0→Zb4 p.1 x=true)→mixV r y≤mixG (atP x) r y
 | [],y,_,_,_,_=>by rw[Zgj,Zhz];exact Rat.le_refl
 | _ ::_,[],_,_,_,_=>by simp only[mixG,mixV];exact Rat.le_refl
 | w ::r,f ::y,ho,hk,hs,hh=>by
   simp only[okP,List.all_cons,Ya2]at ho
   simp only[List.zip_cons_cons,List.all_cons,Ya2]at hs
   have ih:=Zqu x r y ho.2 (fun u hu=>hk u (Yb6 _ hu)) hs.2 (fun p hp=>hh p (by rw[List.zip_cons_cons];exact Yb6 _ hp))
   simp only[mixG,mixV]
   by_cases h0:qOf f=0
   ·rw[h0];grind
   ·have h1:=ZmU ho.1 hs.1 (hk w Yb7).1 (hk w Yb7).2 (hh (w,f) (by rw[List.zip_cons_cons];exact Yb7) h0)
    rw[Zc9]at h1
    grind
theorem Zm6{s:SysD}{y x:List Zag}(h:ZbM s y=true)(hl:(x.length:Int)=s.n)(ho:okP x=true)(hn:Zee x=true):∃ p∈s.r.zip y,qOf p.2≠0∧Zb4 p.1 x=false:=by
 refine Classical.byContradiction fun hno=>?_
 have hall:∀ p∈s.r.zip y,qOf p.2≠0→Zb4 p.1 x=true:=fun p hp h0=>by
  cases hw:Zb4 p.1 x
  ·exact absurd ⟨p,hp,h0,hw⟩ hno
  ·rfl
 simp only[ZbM,Ya2,decide_eq_true_eq]at h
 obtain⟨h1,h2⟩:=h
 rw[ZeU h1,Zcw,gt_iff_lt,Zdr]at h2
 obtain⟨g1,g2,g3⟩:=ZeV.1 h1
 simp only[Zcp,Ya2]at g1
 obtain⟨hr,hlen,hoy⟩:=ZcL.1 g1.1
 have a:=Zqu x s.r y hoy (fun w hw=>⟨(ZbC hr hw).2.1,(ZbC hr hw).2.2.1⟩) g1.2 hall
 have hg:=Zca g2
 have b:=Zoc (ZcE hr y) hg ((Ze9 (ZcE hr y) hg).1 g3) (fun v=>Zoe ho hn v)
 rw[Zjd hr]at b
 have c:dotS (atP x) ([]:List Zah)=0:=rfl
 grind
def Zbr(s:SysD)(rows:List Nat):SysD:=⟨s.n,rows.filterMap fun i=>s.r[i]?⟩
structure ZvE (s:SysD) (x:List Zag):Prop where
 l:(x.length:Int)=s.n
 o:okP x=true
 n:Zee x=true
theorem Zi8{s:SysD}{rows:List Nat}{w:RowD}:w∈(Zbr s rows).r↔∃ i∈rows,s.r[i]? =some w:=by simp[Zbr,List.mem_filterMap]
theorem ZlO(s:SysD)(rows:List Nat):(Zbr s rows).r.length≤rows.length:=List.length_filterMap_le _ _
theorem ZeQ{s:SysD}{rows:List Nat}(hs:Zao s=true)(hl:rows.length≤6000):Zao (Zbr s rows)=true:=by
 have hn:=ZbL hs
 have h1:=ZlO s rows
 simp only[Zao,Ya2,decide_eq_true_eq]
 refine⟨⟨⟨hn.1,hn.2⟩,by omega⟩,Ya6.2 fun w hw=>?_⟩
 obtain⟨i,_,hi⟩:=Zi8.1 hw
 exact ZdE hs (Ya7 hi)
theorem Zk2{s:SysD}{rows:List Nat}(hs:Zao s=true)(hl:rows.length≤6000)(x:List Zag):ZaI (Zbr s rows) x=true↔ZvE s x∧∀ i∈rows,∀ w,s.r[i]? =some w→Zb4 w x=true:=by
 rw[Zb1]
 constructor
 ·rintro⟨_,b,c,d,e⟩
  exact⟨⟨b,c,d⟩,fun i hi w hw=>Ya6.1 e w (Zi8.2 ⟨i,hi,hw⟩)⟩
 ·rintro⟨⟨b,c,d⟩,e⟩
  refine⟨ZeQ hs hl,b,c,d,Ya6.2 fun w hw=>?_⟩
  obtain⟨i,hi,h⟩:=Zi8.1 hw
  exact e i hi w h
noncomputable def nsC (s:SysD) (rows:List Nat):Bool:=@decide (∀ x,ZvE s x→∃ i∈rows,∃ w,s.r[i]? =some w∧Zb4 w x=false) (Classical.propDecidable _)
theorem Zfk{s:SysD}{rows:List Nat}:nsC s rows=true↔∀ x,ZvE s x→∃ i∈rows,∃ w,s.r[i]? =some w∧Zb4 w x=false:=by unfold nsC;exact @decide_eq_true_iff _ (Classical.propDecidable _)
theorem ZwE(s:SysD)(l l':List Nat)(h:∀ k∈l,k∈l')(hn:nsC s l=true):nsC s l'=true :=
 Zfk.2 fun x hx=>by
  obtain⟨i,hi,w,h1,h2⟩:=Zfk.1 hn x hx
  exact⟨i,h i hi,w,h1,h2⟩
theorem ZwD{s:SysD}{rows:List Nat}(hs:Zao s=true)(hl:rows.length≤6000):nsC s rows=true↔∀ x,ZaI (Zbr s rows) x=false:=by
 rw[Zfk]
 constructor
 ·intro h x
  cases hx:ZaI (Zbr s rows) x
  ·rfl
  ·obtain⟨hb,hr⟩:=(Zk2 hs hl x).1 hx
   obtain⟨i,hi,w,h1,h2⟩:=h x hb
   rw[hr i hi w h1]at h2;cases h2
 ·intro h x hb
  refine Classical.byContradiction fun hno=>?_
  have:=(Zk2 hs hl x).2 ⟨hb,fun i hi w hw=>?_⟩
  ·rw[h x]at this;cases this
  ·cases hh:Zb4 w x
   ·exact absurd ⟨i,hi,w,hw,hh⟩ hno
   ·rfl
theorem Zt4{s:SysD}(hs:Zao s=true):Zai [] s.n=true:=by
 have:=(ZbL hs).1
 simp only[Zai,Ya2,decide_eq_true_eq];exact⟨this,rfl⟩
theorem ZjZ{s:SysD}{rows:List Nat}(hs:Zao s=true)(hl:rows.length≤6000):nsC s rows=true↔(Zax (Zbr s rows) []).k=1:=by
 have hp:=ZeQ hs hl
 rw[ZwD hs hl]
 rcases Zgk (Zcd hp (Zt4 hp))with⟨h,q,x,_,hx,_⟩|⟨h,hx⟩|⟨h,hx⟩
 ·rw[h]
  exact⟨fun h2=>absurd hx (by rw[h2 x];decide),fun h2=>absurd h2 (by decide)⟩
 ·exact⟨fun _=>h,fun _=>hx⟩
 ·obtain⟨x,hx,_⟩:=hx 0
  rw[h]
  exact⟨fun h2=>absurd hx (by rw[h2 x];decide),fun h2=>absurd h2 (by decide)⟩
def Zkz(rows:List Nat)(y:List Zag):List Nat:=(rows.zip y).filterMap fun p=>if qOf p.2=0 then none else some p.1
theorem ZpC{rows:List Nat}{y:List Zag}{i:Nat}:i∈Zkz rows y↔∃ f,(i,f)∈rows.zip y∧qOf f≠0:=by
 unfold Zkz
 rw[List.mem_filterMap]
 constructor
 ·rintro⟨⟨j,f⟩,h1,h2⟩
  by_cases e:qOf f=0
  ·simp only[e,if_true]at h2;cases h2
  ·simp only[e,if_false,Ya1]at h2;subst h2;exact⟨f,h1,e⟩
 ·rintro⟨f,h1,h2⟩
  exact⟨(i,f),h1,by simp only[h2,if_false]⟩
theorem ZvH{rows:List Nat}{y:List Zag}{i:Nat}(h:i∈Zkz rows y):i∈rows:=by
 obtain⟨f,h1,_⟩:=ZpC.1 h
 exact(List.of_mem_zip h1).1
theorem Zpz{s:SysD}:∀ {rows:List Nat} {y:List Zag},(∀ i∈rows,i<s.r.length)→∀ p∈(Zbr s rows).r.zip y,∃ i,(i,p.2)∈rows.zip y∧s.r[i]? =some p.1
 | [],_,_,p,h=>by simp[Zbr]at h
 | i ::rows,y,hr,p,h=>by
   obtain⟨w,hw⟩:∃ e,s.r[i]? =some e:=⟨_,Ya0 (hr i (by simp))⟩
   have e:(Zbr s (i ::rows)).r=w ::(Zbr s rows).r:=by simp[Zbr,hw]
   rw[e]at h
   match y,h with
   | [],h=>simp at h
   | f ::y,h =>
     rw[List.zip_cons_cons]at h ⊢
     rcases List.mem_cons.1 h with rfl|h
     ·exact⟨i,by simp,hw⟩
     ·obtain⟨j,h1,h2⟩:=Zpz (fun k hk=>hr k (by simp[hk])) p h
      exact⟨j,Yb6 _ h1,h2⟩
theorem ZyA{s:SysD}{rows:List Nat}{y:List Zag}(hr:∀ i∈rows,i<s.r.length)(h:ZbM (Zbr s rows) y=true):nsC s (Zkz rows y)=true :=
 Zfk.2 fun x hb=>by
  obtain⟨p,hp,h1,h2⟩:=Zm6 h (x:=x) hb.l hb.o hb.n
  obtain⟨i,h3,h4⟩:=Zpz hr p hp
  exact⟨i,ZpC.2 ⟨p.2,h3,h1⟩,p.1,h4,h2⟩
def recE(e:EvD)(S:List Int):EvD:={e with re:=e.re++S.map fun s=>⟨s,0⟩}
theorem Zv1(e:EvD)(S:List Int):Zd6 e (recE e S):=⟨rfl,rfl,rfl,rfl,fun _=>rfl,fun _=>rfl,fun _=>rfl⟩
theorem Zd6.symm{e u:EvD}(h:Zd6 e u):Zd6 u e:=⟨h.m.symm,h.pl.symm,h.pu.symm,h.n.symm,fun i=>(h.f i).symm,fun i=>(h.t i).symm,fun i=>(h.a i).symm⟩
theorem Zd6.trans{e u v:EvD}(h:Zd6 e u)(k:Zd6 u v):Zd6 e v:=⟨h.m.trans k.m,h.pl.trans k.pl,h.pu.trans k.pu,h.n.trans k.n,fun i=>(h.f i).trans (k.f i),fun i=>(h.t i).trans (k.t i),fun i=>(h.a i).trans (k.a i)⟩
theorem Zv9(l:List RecD)(S:List Int){s d:Int}(hd:0≤d):recC (l++S.map fun s=>⟨s,0⟩) s d=(recC l s d||S.contains s):=by
 unfold recC
 rw[List.any_append,List.any_map]
 congr 1
 induction S with
 | nil=>rfl
 | cons a S ih =>
   rw[List.any_cons,List.contains_cons,ih]
   congr 1
   simp only[Function.comp,hitR,decide_eq_true hd,Bool.and_true]
   rw[Bool.eq_iff_iff,beq_iff_eq,beq_iff_eq]
   exact eq_comm
theorem ZBu(e:EvD)(S:List Int){v:MvD}(hd:0≤v.d):ivE (recE e S) v=if v.s ≠ -1∧S.contains v.s=true then noI else ivE e v:=by
 unfold ivE
 by_cases hs:v.s = -1
 ·rw[if_pos hs,if_pos hs,if_neg (fun h=>h.1 hs)]
 ·rw[if_neg hs,if_neg hs]
  show intD e.ce (e.re++S.map fun s=>⟨s,0⟩) v.s v.r v.d=_
  unfold intD
  rw[Zv9 e.re S hd]
  cases hh:S.contains v.s
  ·rw[Bool.or_false,if_neg (fun h=>Yc5 h.2)]
  ·rw[Bool.or_true,Bool.true_or,if_pos ⟨hs,rfl⟩]
   cases ZnO e.ce v.s v.d with
   | none=>rfl
   | some b =>
     simp only
     cases e.ce[b]? with
     | none=>rfl
     | some c=>rfl
theorem Zfn(e:EvD)(S:List Int){i:Nat}(hi:i<e.mv.length):ivF (Zam e S) i=if (mvAt e i).s ≠ -1∧S.contains (mvAt e i).s=true then noI else ivE e (mvAt e i):=by
 unfold ivF
 rcases ZiE e S i with h|⟨_,h⟩
 ·rw[h];exact Zsa e S _
 ·omega
theorem ZyJ{e:EvD}(R:Zd7 e)(S:List Int):sysE (recE e S)=sysE (Zam e S):=by
 refine((Zv1 e S).symm.trans (ZfM e S)).sys fun i hi=>?_
 have hi:i<e.mv.length:=hi
 rw[Zfn e S hi]
 exact ZBu e S (R.mv _ (Zjb hi)).d.1
theorem ZyK(e:EvD):sysE (Zam e [])=sysE e:=by
 refine((ZfM e []).symm).sys fun i hi=>?_
 have hi:i<e.mv.length:=by simpa[Zam]using hi
 rw[Zfn e [] hi,if_neg (fun h=>by simp at h)]
 rfl
theorem ZrJ{e:EvD}(S:List Int){x:MvD}(h:okMv e x=true):okMv (Zam e S) (Zey S x)=true:=by
 unfold Zey
 split
 ·unfold okMv at *
  simp only[Ya2]at h ⊢
  refine⟨h.1,h.2.1,h.2.2.1,h.2.2.2.1,h.2.2.2.2.1,h.2.2.2.2.2.1,h.2.2.2.2.2.2.1,?_⟩
  rw[if_pos True.intro];rfl
 ·exact h
theorem Zk8{e:EvD}(S:List Int):∀ (l:List MvD)(last:Int),ZbV e last l=0→ZbV (Zam e S) last (l.map (Zey S))=0
 | [],_,_=>rfl
 | x ::l,last,h=>by
   rw[List.map_cons]
   unfold ZbV at h ⊢
   rw[(ZhR S x).2.2.2]
   split at h
   ·omega
   ·rename_i h1
    rw[if_neg h1]
    split at h
    ·rename_i h2
     rw[if_pos (ZrJ S h2)]
     exact Zk8 S l _ h
    ·omega
theorem ZnJ{e:EvD}(S:List Int)(h:Zb5 e=0):Zb5 (Zam e S)=0:=by
 unfold Zb5 at h ⊢
 have hl:(Zam e S).mv.length=e.mv.length:=by simp[Zam]
 have h1:Zc7 (Zam e S)=Zc7 e:=by unfold Zc7;rw[hl];rfl
 have h2:argE (Zam e S)=argE e:=rfl
 have h3:Zfi (Zam e S)=Zfi e:=by unfold Zfi;rw[hl];rfl
 rw[h1,h2,h3]
 split at h
 ·omega
 rename_i a
 rw[if_neg a]
 split at h
 ·rename_i b
  rw[if_pos b]
  split at h
  ·rename_i c
   rw[if_pos (show ZbV (Zam e S) 0 (Zam e S).mv=0 from Zk8 S _ _ c)]
   exact h
  ·rename_i c;exact absurd h c
 ·omega
theorem Zxc{e:EvD}(S:List Int)(h:Zb5 e=0)(hl:e.re.length+S.length≤30)(hS:∀ s∈S,0≤s∧s<e.s):Zb5 (recE e S)=0:=by
 unfold Zb5 at h ⊢
 have h2:argE (recE e S)=argE e:=rfl
 have h3:∀ l last,ZbV (recE e S) last l=ZbV e last l:=fun l=>by
  induction l with
  | nil=>intro;rfl
  | cons x l ih=>intro last;unfold ZbV;rw[ih];rfl
 split at h
 ·omega
 rename_i a
 have h1:¬ Zc7 (recE e S)=true:=by
  simp only[Zc7,Bool.or_eq_true,decide_eq_true_eq,not_or]at a ⊢
  have e1:(recE e S).re.length=e.re.length+S.length:=by simp[recE]
  exact⟨a.1,a.2.1,a.2.2.1,a.2.2.2.1,a.2.2.2.2.1,a.2.2.2.2.2.1,by omega,a.2.2.2.2.2.2.2⟩
 rw[if_neg h1,h2]
 split at h
 ·rename_i b
  rw[if_pos b]
  show(if ZbV (recE e S) 0 e.mv=0 then _ else ZbV (recE e S) 0 e.mv)=0
  rw[h3]
  split at h
  ·rename_i c
   rw[if_pos c]
   split at h
   ·rename_i d
    rw[if_pos]
    simp only[Zfi,Ya2,Ya6]at d ⊢
    refine⟨d.1,fun r hr=>?_,d.2.2⟩
    rcases Yd5.1 hr with hr|hr
    ·exact d.2.1 r hr
    ·obtain⟨s,hs,rfl⟩:=Yc6.1 hr
     obtain⟨s1,s2⟩:=hS s hs
     show(idx s e.s&&(decide ((0:Int)≤0)&&decide ((0:Int)≤100000)))=true
     unfold idx
     rw[decide_eq_true s1,decide_eq_true s2];rfl
   ·omega
  ·rename_i c;exact absurd h c
 ·omega
def Zbd(P:List Int→Bool):List Int→Nat→List Int→List (List Int)
 | [],0,c=>if P c then [c]else []
 | [],_+1,_=>[]
 | _ ::_,0,c=>if P c then [c]else []
 | s ::l,k+1,c=>Zbd P l k (c++[s])++Zbd P l (k+1) c
theorem Zea(P:List Int→Bool)(l c:List Int):Zbd P l 0 c=if P c then [c]else []:=by cases l<;>rfl
theorem ZeR{P:List Int→Bool}{S:List Int}:∀ (l:List Int)(k:Nat)(c:List Int),S∈Zbd P l k c↔∃ t:List Int,t.Sublist l∧t.length=k∧S=c++t∧P S=true
 | l,0,c=>by
   rw[Zea]
   constructor
   ·intro h
    split at h
    ·rename_i hp
     rw[List.mem_singleton.1 h]
     exact⟨[],List.nil_sublist _,rfl,by simp,hp⟩
    ·cases h
   ·rintro⟨t,_,h2,rfl,h4⟩
    obtain rfl:=List.length_eq_zero_iff.1 h2
    rw[List.append_nil]at h4 ⊢
    rw[if_pos h4];exact List.mem_singleton.2 rfl
 | [],k+1,c=>by
   constructor
   ·intro h;cases h
   ·rintro⟨t,h1,h2,_,_⟩
    rw[List.sublist_nil.1 h1]at h2
    cases h2
 | s ::l,k+1,c=>by
   rw[Zbd,Yd5,ZeR l k,ZeR l (k+1)]
   constructor
   ·rintro(⟨t,h1,h2,h3,h4⟩|⟨t,h1,h2,h3,h4⟩)
    ·exact⟨s ::t,h1.cons_cons s,by rw[List.length_cons,h2],by rw[h3];simp,h4⟩
    ·exact⟨t,h1.cons s,h2,h3,h4⟩
   ·rintro⟨t,h1,h2,h3,h4⟩
    cases h1 with
    | cons _ h1=>exact .inr ⟨t,h1,h2,h3,h4⟩
    | cons_cons _ h1 =>
      rename_i t
      refine .inl ⟨t,h1,?_,by rw[h3];simp,h4⟩
      rw[List.length_cons]at h2;omega
def ZcW(P:List Int→Bool)(u:List Int)(k:Nat):Nat→List (List Int)
 | 0=>[]
 | n+1=>if (Zbd P u k []).length=0 then ZcW P u (k+1) n else Zbd P u k []
theorem ZnL{P:List Int→Bool}{u S:List Int}:∀ (n k:Nat),S∈ZcW P u k n→∃ j,k≤j∧S∈Zbd P u j []∧∀ i,k≤i→i<j→Zbd P u i []=[]
 | 0,_,h=>by cases h
 | n+1,k,h=>by
   unfold ZcW at h
   split at h
   ·rename_i h0
    obtain⟨j,h1,h2,h3⟩:=ZnL n (k+1) h
    refine⟨j,by omega,h2,fun i hi hj=>?_⟩
    by_cases e:i=k
    ·subst e;exact List.length_eq_zero_iff.1 h0
    ·exact h3 i (by omega) hj
   ·exact⟨k,Ya4 _,h,fun i hi hj=>by omega⟩
theorem Zlp{P:List Int→Bool}{u:List Int}:∀ (n k j:Nat),k≤j→j<k+n→Zbd P u j []≠[]→ZcW P u k n≠[]
 | 0,_,_,h1,h2,_=>by omega
 | n+1,k,j,h1,h2,h3=>by
   unfold ZcW
   split
   ·rename_i h0
    have:j≠k:=fun e=>by subst e;exact h3 (List.length_eq_zero_iff.1 h0)
    exact Zlp n (k+1) j (by omega) (by omega) h3
   ·rename_i h0
    intro e;rw[e]at h0;exact h0 rfl
abbrev PosE(e:EvD):Prop:=∃ x,ZaI (sysE e) x=true
structure Zyr (e:EvD) (u:List Int):Prop where
 nd:u.Nodup
 mem:∀ s,s∈u↔s ≠ -1∧∃ x∈e.mv,x.s=s
section
variable {e:EvD} (R:Zd7 e) {u:List Int} (U:Zyr e u) {P:List Int→Bool} (hP:∀ S,P S=true↔PosE (Zam e S)) (hno:¬ PosE e)
include R U hP hno
theorem Zqe:P []=false:=by
 cases h:P []
 ·rfl
 ·have:=(hP []).1 h
  unfold PosE at this
  rw[ZyK]at this
  exact absurd this hno
theorem ZvO{S:List Int}(h:S∈ZcW P u 1 u.length):P S=true∧S.Sublist u∧1≤S.length∧∀ s∈S,P (S.filter fun x=>x !=s)=false:=by
 obtain⟨j,h1,h2,h3⟩:=ZnL _ _ h
 obtain⟨t,t1,t2,t3,t4⟩:=(ZeR _ _ _).1 h2
 rw[Yc8]at t3
 subst t3
 refine⟨t4,t1,by omega,fun s hs=>?_⟩
 cases hf:P (S.filter fun x=>x !=s)
 ·rfl
 exfalso
 have nd:S.Nodup:=t1.nodup U.nd
 have hl:(S.filter fun x=>x !=s).length=j-1:=by
  have e1:(S.filter fun x=>x !=s)=S.erase s:=(nd.erase_eq_filter s).symm
  rw[e1,List.length_erase_of_mem hs,t2]
 have hm:=(ZeR (P:=P) u (j-1) []).2 ⟨_,List.filter_sublist.trans t1,hl,(Yc8 _).symm,hf⟩
 by_cases hj:j=1
 ·have e2:(S.filter fun x=>x !=s)=[]:=List.length_eq_zero_iff.1 (by omega)
  rw[e2,Zqe R U hP hno]at hf
  cases hf
 ·rw[h3 (j-1) (by omega) (by omega)]at hm
  cases hm
theorem Zs2(hn:e.mv.length≤12)(hp:e.pu.length≤12):ZcW P u 1 u.length≠[]:=by
 have hz:PosE (Zam e u):=by
  have R':Zd7 (Zam e u):=by
   have hl:(Zam e u).mv.length=e.mv.length:=by simp[Zam]
   refine⟨R.m,R.h,R.s,R.lp,by rw[hl];exact R.lm,R.lc,R.lr,R.lu,R.pl,fun x hx=>?_,R.ce,R.re,fun p hp=>by rw[hl];exact R.pu p hp⟩
   obtain⟨y,hy,rfl⟩:=Yc6.1 hx
   have hy:=R.mv y hy
   unfold Zey
   split
   ·exact⟨hy.f,hy.t,hy.ne,hy.k5,hy.bin,hy.tob,fun h=>absurd rfl h,hy.d⟩
   ·exact⟨hy.f,hy.t,hy.ne,hy.k5,hy.bin,hy.tob,hy.s,hy.d⟩
  have hl:(Zam e u).mv.length=e.mv.length:=by simp[Zam]
  have hM:=R.m
  have hs:=ZkP R' (by omega) (by show e.pu.length≤12;omega)
  let z:List Zag:=List.replicate e.m.toNat (ofQ 0)
  have hat:∀ i m,hAt (List.replicate e.mv.length z) i m=0:=fun i m=>by
   have z0:qOf zF=0:=by decide +kernel
   unfold hAt
   by_cases h1:i<e.mv.length
   ·rw[List.getElem?_replicate_of_lt h1,Option.getD_some]
    by_cases h2:m<e.m.toNat
    ·rw[List.getElem?_replicate_of_lt h2,Option.getD_some,ZaE]
    ·rw[List.getElem?_eq_none (by simp only[z,List.length_replicate];omega)];exact z0
   ·rw[List.getElem?_eq_none (l:=List.replicate e.mv.length z) (i:=i) (by rw[List.length_replicate];omega)];exact z0
  have hst:∀ p m k,stK (Zam e u) (hAt (List.replicate e.mv.length z)) p m k=0:=fun p m k=>by
   induction k with
   | zero=>rfl
   | succ k ih =>
     show stK _ _ p m k+_=0
     rw[ih,hat]
     split
     ·grind
     ·split<;>grind
  have hms:∀ i k,Zl4 (hAt (List.replicate e.mv.length z)) i k=0:=fun i k=>by
   induction k with
   | zero=>rfl
   | succ k ih=>show Zl4 _ i k+_=0;rw[ih,hat];grind
  refine⟨_,Zsd R' hs (h:=List.replicate e.mv.length z) (fun l hl=>by rw[Yd4 hl];exact List.length_replicate ..) (by rw[List.length_replicate,hl]) (fun l hl=>?_) fun i hi=>?_⟩
  ·rw[Yd4 hl]
   unfold okP
   rw[Ya6]
   intro f hf
   rw[Yd4 hf]
   exact Zbi 0
  ·refine⟨fun m _=>by rw[hat];grind,fun _ m _=>by rw[hat,hst];grind,fun _ _ m _=>by rw[hat,hst],fun ho=>?_,fun p _ _=>by rw[hms,hat];grind⟩
   exfalso
   have hi':i<e.mv.length:=by omega
   have hv:=Zfn e u hi'
   unfold ivF at hv
   rw[hv]at ho
   have hx:=Zjb hi'
   by_cases h1:(mvAt e i).s = -1
   ·rw[if_neg (fun h=>h.1 h1)]at ho
    unfold ivE at ho
    rw[if_pos h1]at ho
    cases ho
   ·rw[if_pos ⟨h1,List.contains_iff_mem.2 ((U.mem _).2 ⟨h1,_,hx,rfl⟩)⟩]at ho
    cases ho
 have hu:1≤u.length:=by
  cases u with
  | nil =>
    have h0:=Zqe R U hP hno
    rw[(hP []).2 hz]at h0
    cases h0
  | cons _ _=>simp
 have hm:=(ZeR (P:=P) u u.length []).2 ⟨u,List.Sublist.refl _,rfl,(Yc8 _).symm,(hP u).2 hz⟩
 exact Zlp _ 1 u.length hu (by omega) (fun e=>by rw[e]at hm;cases hm)
theorem Zro{S:List Int}(h:P S=true)(hs:Zao (sysE e)=true){C:List Nat}(hC:nsC (sysE e) C=true) :
 ∃ k∈C,∃ w o,(ZfU e)[k]? =some (w,o)∧(o.k=1∨o.k=2)∧∃ i:Nat,o.v=i∧i<e.mv.length∧(mvAt e i).s∈S:=by
 obtain⟨x,hx⟩:=(hP S).1 h
 obtain⟨hr,hl,ho,hn,hall⟩:=Zb1.1 hx
 obtain⟨k,hk,w,hw,hf⟩:=Zfk.1 hC x ⟨hl.trans (by show((Zam e S).mv.length:Int)*e.m=e.mv.length*e.m;simp[Zam]),ho,hn⟩
 refine⟨k,hk,?_⟩
 have hw':((ZfU e)[k]?).map Prod.fst=some w:=by rw[← Yb8];exact hw
 cases hm:(ZfU e)[k]? with
 | none=>rw[hm]at hw';cases hw'
 | some r =>
   obtain⟨w',o⟩:=r
   rw[hm]at hw'
   obtain rfl:w'=w:=Option.some.inj hw'
   refine⟨w',o,rfl,?_⟩
   obtain⟨i,hi,hmv⟩:=(ZeS _).1 (Ya7 hm)
   have hnot:(w',o)∉Zii (Zam e S) (ivF (Zam e S)) i:=fun hin=>by
    have h1:(w',o)∈ZfU (Zam e S):=(ZeS _).2 ⟨i,by simpa[Zam]using hi,hin⟩
    have h2:=Ya6.1 hall w' (Yc6.2 ⟨_,h1,rfl⟩)
    rw[hf]at h2;cases h2
   have sm:=ZfM e S
   by_cases hv:(mvAt e i).s ≠ -1∧S.contains (mvAt e i).s=true
   ·unfold Zii at hmv hnot
    simp only[Yd5,not_or]at hmv hnot
    rcases hmv with hmv|hmv|hmv
    ·rw[← sm.stocks]at hnot;exact absurd hmv hnot.1
    ·unfold Zb7 at hmv
     split at hmv
     ·simp only[List.mem_cons,List.not_mem_nil,or_false,Prod.mk.injEq]at hmv
      rcases hmv with⟨_,rfl⟩|⟨_,rfl⟩
      ·exact⟨.inl rfl,i,rfl,hi,List.contains_iff_mem.1 hv.2⟩
      ·exact⟨.inr rfl,i,rfl,hi,List.contains_iff_mem.1 hv.2⟩
     ·cases hmv
    ·rw[← sm.pures,← sm.pu]at hnot;exact absurd hmv hnot.2.2
   ·rw[← sm.move (iv:=ivF e) (by rw[Zfn e S hi,if_neg hv];rfl)]at hnot
    exact absurd hmv hnot
end
section
variable {s:SysD} {goal:List Zah}
end
section
variable {s:SysD} {l:List Nat} (hs:Zao s=true) (hr:∀ i∈l,i<s.r.length) (hl:l.length≤6000)
theorem Zqi:∀ {l:List Nat},(∀ i∈l,i<s.r.length)→∀ k:Nat,(Zbr s l).r[k]? =(l[k]?).bind fun i=>s.r[i]?
 | [],_,k=>by simp[Zbr]
 | i ::l,hr,k=>by
   obtain⟨w,hw⟩:∃ e,s.r[i]? =some e:=⟨_,Ya0 (hr i (by simp))⟩
   have e:(Zbr s (i ::l)).r=w ::(Zbr s l).r:=by simp[Zbr,hw]
   rw[e]
   cases k with
   | zero=>simp[hw]
   | succ k=>rw[List.getElem?_cons_succ,List.getElem?_cons_succ];exact Zqi (fun j hj=>hr j (by simp[hj])) k
theorem ZoS(hr:∀ i∈l,i<s.r.length):(Zbr s l).r.length=l.length:=by
 refine Nat.le_antisymm (ZlO s l) ?_
 refine Nat.le_of_not_lt fun h=>?_
 have h1:=Zqi hr (Zbr s l).r.length
 rw[List.getElem?_eq_none (Ya4 _),Ya0 h]at h1
 have h2:=hr _ (List.getElem_mem h)
 simp only[Option.bind_some]at h1
 rw[Ya0 h2]at h1
 cases h1
include hr
include hs hl
end
set_option maxHeartbeats 16000000
def ZkE(rows:List Int):Nat→Int
 | 0=> -1
 | k+1=>rows[k]?.getD 0
def Zof(rows:List Int)(n:Int)(k:Nat):Bool:=decide (ZkE rows k<rows[k]?.getD 0)&&decide (rows[k]?.getD 0<n)
def ascR(rows:List Int)(n:Int):Bool:=(List.range rows.length).all (Zof rows n)
theorem Zts(rows:List Int)(n:Int)(hl:(rows.length:Int)≤1099511627776):Zaa Tryz.prog 143 [Zad rows,dI n] (dB (ascR rows n)):=by
 refine Zae.toN ?_ rfl
 have Zr:=Tryz.results143
 refine inC Tryz.func143 rfl Tryz.ntmps143 ?_
 refine aGo Zr ?_
 repeat with_reducible intro K hK
 have p0:ZkE rows 0 = -1:=rfl
 refine ZaF (fun(k:Nat)=>[(1,dI n),(5,dI (ZkE rows k)),(8,Zad rows),(9,dI rows.length),(10,dI k)]) (fun _=>[]) 0 0 (fun k=>k≤rows.length∧(List.range k).all (Zof rows n)=true) (fun k=>rows.length-k) 0 ⟨by omega,rfl⟩ ?_ ?_
 ·exact leGo p0
 rintro k ⟨hk,hg⟩
 obtain⟨hw,h0⟩:=ZaR k
 by_cases h1:(k:Int)<rows.length
 ·obtain⟨x,hx⟩:=getE (l:=rows) (k:=k) (by omega)
  have ea:Zof rows n k=(decide (ZkE rows k<x)&&decide (x<n)):=by unfold Zof;rw[hx];rfl
  have bad:Zof rows n k=false→D.v (.bool false)=dB (ascR rows n):=fun h=>Zaj (by
   unfold ascR
   exact(List.all_eq_false.2 ⟨k,Yd2.2 (by omega),by rw[h];decide⟩).symm)
  have pn:ZkE rows (k+1)=x:=by show rows[k]?.getD 0=x;rw[hx];rfl
  by_cases h2:x≤ZkE rows k
  ·refine aGo (cj4 Zr h0 h1 (cj3 hx hw h2)) ?_
   repeat with_reducible intro K hK
   exact bad (by rw[ea,decide_eq_false (by omega),Bool.false_and])
  by_cases h3:x≥n
  ·refine aGo (cj4 Zr h0 h1 (cj4 hx hw h2 h3)) ?_
   repeat with_reducible intro K hK
   exact bad (by rw[ea,decide_eq_false (p:=x<n) (by omega),Bool.and_false])
  refine aGo (cj4 Zr h0 h1 (cj4 hx hw h2 h3)) ?_
  repeat with_reducible intro K hK
  exact Zaf (k+1) ⟨by omega,by
   rw[List.range_succ,List.all_append,hg,Bool.true_and]
   simp only[List.all_cons,List.all_nil,Bool.and_true]
   rw[ea,decide_eq_true (by omega),decide_eq_true (p:=x<n) (by omega)];rfl⟩ (by omega) (by exact leGo pn)
 ·obtain rfl:k=rows.length:=by omega
  refine aGo (cj2 Zr h1) ?_
  repeat with_reducible intro K hK
  exact Zaj hg.symm
theorem ZnG(f:Zag)(hz:szF f≤262144):Zae Tryz.prog 184 [encF f] (encF f):=by
 have Zr:=Tryz.results184
 have hp:f.p.d.length≤262144:=by have:f.p.d.length≤szF f:=Nat.le_max_left _ _;omega
 have hq:f.q.d.length≤262144:=by have:f.q.d.length≤szF f:=Nat.le_max_right _ _;omega
 have k1:=Zhv f.p.d (by omega)
 have k2:=Zhv f.q.d (by omega)
 refine inC Tryz.func184 rfl Tryz.ntmps184 ?_
 exact aGo Zr trivial
theorem Zsc:(Tryz.prog.info? 144).map (fun i=>(i.zero.map fun z=>z.cells.size,i.size,i.bytes))=some (some 5,5,72):=by kernel_rfl
theorem Zpc:∃ i z,Tryz.prog.info? 144=some i∧i.zero=some z∧i.size=5∧i.bytes=72∧z.cells.size=5:=by
 have h:=Zsc
 cases hi:Tryz.prog.info? 144 with
 | none=>rw[hi]at h;cases h
 | some i =>
   rw[hi]at h
   simp only[Yd0,Ya1,Prod.mk.injEq]at h
   obtain⟨h1,h2,h3⟩:=h
   cases hz:i.zero with
   | none=>rw[hz]at h1;cases h1
   | some z=>rw[hz]at h1;exact⟨i,z,rfl,hz,h2,h3,by simpa using h1⟩
theorem Zu6:Zaa Tryz.prog 183 [.sl []] (.sl []):=by
 refine⟨⟨_,_,Tryz.func183,rfl,by kernel_rfl⟩,fun S w vs hf hvs=>?_⟩
 obtain⟨v,rfl,h1⟩:=ZrN hvs
 obtain⟨a,cap,rfl,hcap,_,_⟩:=h1.inv_sl
 obtain⟨i0,z,hi,hz0,hz1,hz2,hz3⟩:=Zpc
 have hnil:=fun(W:World) n c n' c'=>Lib.run_eql_slice_nil (P:=Tryz.prog) W 95 144 a n c n' c' Tryz.underlying95
 cases a with
 | none =>
   go_enter Tryz.func183,Tryz.ntmps183
   go_wp2_with fail
   go_ret
   exact⟨_,rfl,Below.refl _ _,.sl0 _ _ (by unfold maxLen;omega)⟩
 | some A =>
   go_enter Tryz.func183,Tryz.ntmps183
   go_wp2_with (at_builtin;refine ZcY _ (by rfl) _ _ _ (by rfl) w.heap.size 144 i0 z 5 _ Tryz.underlying95 hi hz0 hz1 hz2 hz3 (by omega) _ 0 [] (by rfl) (World.ownsRow_made w #[] 0 (Ya4 _) (Yb0 _) (by simp)) (some A) 0 cap [] (by rfl) ⟨rfl,.inl rfl⟩ (by simp) (by unfold maxLen;omega) (by omega) (by simp) ?_;intro v' w1 hown hgrow hat)
   go_ret
   refine⟨_,rfl,?_,?_⟩
   ·exact((Below.refl _ _).alloc (Ya4 _) _).grown hgrow (by simp) (by intro k hk;simp[Value.ownBlock]at hk;omega)
   ·rcases hown.2 with⟨rfl,_⟩|⟨g,cap,cur,rfl,_,_,_,hc,_⟩
    ·exact .sl0 _ _ (by unfold maxLen;omega)
    ·exact .sl0 _ _ hc
theorem Zv0{l:List (List D)}{k:Nat}{e:List D}(h:l[k]? =some e):l.set k e=l:=by
 refine List.ext_getElem? fun i=>?_
 by_cases hi:k=i
 ·subst hi;rw[List.getElem?_set_self (Ya3.1 h).1,h]
 ·rw[List.getElem?_set_ne hi]
theorem Zss(w:RowD)(hl:w.t.length≤64)(hv:szF w.v≤262144)(ht:∀ t∈w.t,szF t.f≤262144):Zae Tryz.prog 144 [encW w] (encW w):=by
 have Zr:=Tryz.results144
 have hresC:=Tryz.results183
 obtain⟨t,wk,wv⟩:=w
 have kv:=ZnG wv hv
 simp only at hl ht
 match t,hl,ht with
 | [],hl,ht =>
   have kc:=Zu6
   refine inC Tryz.func144 rfl Tryz.ntmps144 ?_
   refine aGo Zr ?_
   repeat with_reducible intro K hK
   refine ZaF (fun(_:Nat)=>[(1,.lp 0 0 0 0),(2,.lp 1 0 0 0),(10,.sl []),(11,dI 0),(12,dI 0)]) (fun _=>[(0,⟨175,0,6,[cW ⟨[],wk,wv⟩],0,false⟩),(1,⟨175,0,6,[[.nil,dI 0,dI 0,.nil,dI 0,.nil]],0,false⟩)]) 2 0 (fun _=>True) (fun _=>0) 0 trivial ?_ ?_
   ·exact leGo trivial
   rintro _ _
   refine aGo Zr ?_
   repeat with_reducible intro K hK
   rfl
 | t0 ::t,hl,ht =>
   obtain⟨T,eT⟩:∃ T,t0 ::t=T:=⟨_,rfl⟩
   rw[eT]at hl ht ⊢
   obtain⟨c0,cs,ec⟩:∃ c0 cs,T.map cT=c0 ::cs:=⟨_,_,by rw[← eT];rfl⟩
   have lT:(c0 ::cs).length=T.length:=by rw[← ec,Yc0]
   have lT':cs.length+1=T.length:=lT
   have e1:Zbs T = .sl (c0 ::cs):=by show D.sl (T.map cT)=_;rw[ec]
   have e2:List.map (List.map datJ) (c0 ::cs)=c0 ::cs:=by rw[← ec];exact ZaG (f:=cT) (g:=datJ) (fun _=>rfl) _
   have hb:((T.length:Nat):Int)*72≤140737488355328:=by omega
   have hb2:((T.length:Nat):Int)≤64:=by omega
   refine inC Tryz.func144 rfl Tryz.ntmps144 ?_
   refine aGo (cj2 Zr e1) ?_
   repeat with_reducible intro K hK
   refine ZcS Tryz.func183 rfl (by kernel_rfl) (by kernel_rfl) (by kernel_rfl) ?_
   rw[Tryz.ntmps183]
   refine aGo (cj4 hresC hb hb2 (cj3 e1 e2 lT')) ?_
   repeat with_reducible intro K hK
   have hcell:∀ x∈c0 ::cs,x.length=5∧x.all D.isCell=true:=by
    rw[← ec]
    intro x hx
    obtain⟨u,_,rfl⟩:=Yc6.1 hx
    exact⟨rfl,rfl⟩
   refine⟨⟨⟨hcell c0 (by simp),fun x hx=>hcell x (by simp[hx])⟩,by omega⟩,?_⟩
   refine aGo (cj3 Zr hresC lT') ?_
   repeat with_reducible intro K hK
   refine ZaF (fun(k:Nat)=>[(1,.lp 0 0 0 0),(2,.lp 1 0 0 0),(10,.ls 2 1),(11,dI T.length),(12,dI k)]) (fun _=>[(0,⟨175,0,6,[.ls 2 1 ::dI wk ::cF wv],0,false⟩),(1,⟨175,0,6,[[.nil,dI 0,dI 0,.nil,dI 0,.nil]],0,false⟩),(2,⟨144,1,5,T.map cT,0,false⟩)]) 3 0 (fun k=>k≤T.length) (fun k=>T.length-k) 0 (by omega) ?_ ?_
   ·have ec':=ec.symm
    exact leGo ec'
   rintro k hk
   obtain⟨hw,h0⟩:=ZaR k
   have kz:(0:Nat)≤k:=Yb0 _
   by_cases h1:(k:Int)<T.length
   ·obtain⟨x,hx⟩:=getE (l:=T) (k:=k) (by omega)
    have kx:=ZnG x.f (ht x (ZaK hx))
    have hs1:(T.map cT).set k (dI x.v ::cF x.f)=T.map cT:=Zv0 (by rw[Yb8,hx];rfl)
    refine aGo (cj4 Zr h0 kz (cj4 h1 hw hx hs1)) ?_
    repeat with_reducible intro K hK
    exact Zaf (k+1) (by omega) (by omega) (by exact leGo trivial)
   ·obtain rfl:k=T.length:=by omega
    refine aGo (cj2 Zr h1) ?_
    repeat with_reducible intro K hK
    rw[ZaG (fun _=>rfl)]
def Zqj(s:SysD)(rows:List Int):SysD:=if Zao s&&ascR rows s.r.length then Zbr s (rows.map Int.toNat)else⟨0,[]⟩
theorem Zrb{rows:List Int}{n:Int}(h:ascR rows n=true):∀ (k:Nat)(x:Int),rows[k]? =some x→(k:Int)≤x∧x<n
 | 0,x,hx=>by
   have:=Ya6.1 h 0 (Yd2.2 (Ya3.1 hx).1)
   simp only[Zof,ZkE,hx,Option.getD_some,Ya2,decide_eq_true_eq]at this
   omega
 | k+1,x,hx=>by
   have hk:=(Ya3.1 hx).1
   obtain⟨y,hy⟩:=getE (l:=rows) (k:=k) (by omega)
   have ih:=Zrb h k y hy
   have:=Ya6.1 h (k+1) (Yd2.2 hk)
   simp only[Zof,ZkE,hx,hy,Option.getD_some,Ya2,decide_eq_true_eq]at this
   push_cast
   omega
theorem Zmv{rows:List Int}{n:Nat}(h:ascR rows n=true):rows.length≤n:=by
 rcases Nat.eq_zero_or_pos rows.length with h0|h0
 ·omega
 ·obtain⟨x,hx⟩:=getE (l:=rows) (k:=rows.length-1) (by omega)
  have:=Zrb h _ x hx
  omega
structure Sm12 (s:SysD):Prop where
 sm:smS s
 l:s.r.length≤64
 w:∀ w∈s.r,w.t.length≤64∧szF w.v≤262144∧∀ t∈w.t,szF t.f≤262144
theorem Zwo(s:SysD)(rows:List Int)(h:Sm12 s)(hl:(rows.length:Int)≤1099511627776):Zae Tryz.prog 103 [encS s,Zad rows] (encS (Zqj s rows)):=by
 have Zr:=Tryz.results103
 have q1:=ZdS s h.sm
 have q2:=Zts rows s.r.length hl
 unfold Zqj
 cases h1:Zao s
 ·rw[h1]at q1
  refine inC Tryz.func103 rfl Tryz.ntmps103 ?_
  refine aGo Zr ?_
  repeat with_reducible intro K hK
  rfl
 rw[h1]at q1
 cases h2:ascR rows s.r.length
 ·rw[h2]at q2
  refine inC Tryz.func103 rfl Tryz.ntmps103 ?_
  refine aGo Zr ?_
  repeat with_reducible intro K hK
  rfl
 rw[h2]at q2
 rw[Bool.and_self,if_pos rfl]
 have hl2:=Zmv h2
 have hL:=h.l
 obtain⟨F,hF⟩:∃ F:Nat→List RowD,F=fun k=>(Zbr s ((rows.take k).map Int.toNat)).r:=⟨_,rfl⟩
 have F0:F 0=[]:=by rw[hF];rfl
 have Fs:∀ k i w,rows[k]? =some i→s.r[i.toNat]? =some w→F (k+1)=F k++[w]:=fun k i w hi hw=>by
  rw[hF]
  simp only[Zbr]
  rw[Yb4,hi]
  simp[hw]
 have Fe:Zbr s (rows.map Int.toNat)=⟨s.n,F rows.length⟩:=by rw[hF];simp only[Zbr];rw[Ya8 (Ya4 _)]
 rw[Fe]
 refine inC Tryz.func103 rfl Tryz.ntmps103 ?_
 refine aGo Zr ?_
 repeat with_reducible intro K hK
 clear q1 q2
 refine aLe (Zdx (b:=⟨88,0,2,[[dI s.n,.nil]],0,false⟩) (e:=[dI s.n,.nil]) 2 0 1 175 6 rfl rfl rfl) ?_
 refine ZaF (fun(k:Nat)=>[(2,.lp 0 0 0 0),(4,.lp 1 0 0 0),(5,.lp 2 0 0 0),(23,Zad rows),(24,dI rows.length),(25,dI k)])
  (fun k=>[(0,⟨88,0,2,[cS s],0,false⟩),(1,⟨88,0,2,[[dI 0,.nil]],0,false⟩),(2,⟨88,0,2,[[dI s.n,.ls 3 k]],0,false⟩),(3,⟨175,k,6,(F k).map cW,0,false⟩)]) 4 0 (fun k=>k≤rows.length∧(F k).length=k) (fun k=>rows.length-k) 0 ⟨by omega,by rw[F0];rfl⟩ ?_ ?_
 ·exact leGo F0
 rintro k ⟨hk,hf⟩
 obtain⟨hw,h0⟩:=ZaR k
 by_cases h3:(k:Int)<rows.length
 ·obtain⟨i,hi⟩:=getE (l:=rows) (k:=k) (by omega)
  have hib:=Zrb h2 k i hi
  obtain⟨j,rfl⟩:=Int.eq_ofNat_of_zero_le (show 0≤i by omega)
  have j0:(0:Int)≤j:=by omega
  have j1:(j:Int)<s.r.length:=by omega
  obtain⟨w,hw2⟩:=getE (l:=s.r) (k:=j) (by omega)
  obtain⟨w1,w2,w3⟩:=h.w w (ZaK hw2)
  have q3:=Zss w w1 w2 w3
  have F1:=Fs k j w hi hw2
  refine aGo (cj4 Zr h0 j0 (cj4 h3 j1 hi (cj3 hw2 hw hf))) ?_
  repeat with_reducible intro K hK
  exact Zaf (k+1) ⟨by omega,by rw[F1,Yb9,hf];rfl⟩ (by omega) (by exact leGo F1)
 ·obtain rfl:k=rows.length:=by omega
  refine aLe (ZgY 3 rfl) (aLe (ZwU 2 4 rfl) ?_)
  simp only[go_sem,fzT]
  refine aGo (cj2 Zr h3) ?_
  repeat with_reducible intro K hK
  rw[ZaG (fun _=>rfl)]
section
variable [Ifl]
theorem ZAf{n rid:Nat}{Q:Exit→St→Prop}{s:St}{o1 o2 o3 o4:Oper}{id ver i:Nat}{es:List (List D)}
 (g1:o1.guard=none) (g2:o2.guard=none) (g3:o3.guard=none) (g4:o4.guard=none)
 (d1:o1.dst=some 36) (d2:o2.dst=some 37) (d3:o3.dst=some 38) (d4:o4.dst=none)
 (p1:o1.op = .move (.tmp 0)) (p2:o2.op = .move (.tmp 5)) (p3:o3.op = .slice 31 (.tmp 36) (some (.tmp 37)) none none)
 (p4:o4.op = .call {callee:=.builtin .clear,args:=#[.tmp 38],argTypes:=#[31]})
 (hf1:ZbA n o1=true) (hf2:ZbA n o2=true) (hn:38<n) (h0:s.t 0 = .ls id ver) (h5:s.t 5=dI i) (hm:s.m id=some ⟨3,ver,1,es,0,false⟩) (hi:es.length=i+1)
 (hQ:Q .normal {s with t:=upd (upd (upd s.t 36 (.ls id ver)) 37 (dI i)) 38 .junk,m:=upd s.m id (some ⟨3,ver,1,es.set i [dI 0],0,false⟩)}) :
 AWP Tryz.prog n (.region rid #[o1,o2,o3,o4] false) Q s:=by
 intro E B β a w hr
 refine wp_region_lit (l:=[o1,o2,o3,o4]) ?_
 -- the two moves
 refine wpList_plain g1 fun K1 hK1=>Znh (K:=fun s'=>s'={s with t:=upd s.t 36 (.ls id ver)}) hf1 hr ?_ ?_
 ·unfold opA
  rw[p1,d1]
  simp only[opF,rd,h0,Res.pure,putT,ov,List.length_nil,Nat.add_zero]
  exact⟨trivial,.inl trivial,trivial⟩
 rintro s1 β1 a1 w1 r1 rfl
 refine hK1 _ _ (wpList_plain g2 fun K2 hK2=>Znh (K:=fun s'=>s'={s with t:=upd (upd s.t 36 (.ls id ver)) 37 (dI i)}) hf2 r1 ?_ ?_)
 ·unfold opA
  rw[p2,d2]
  simp only[opF,rd,Res.pure,putT,ov,List.length_nil,Nat.add_zero,Zab s.t (D.ls id ver) (show(5:Nat)≠36 by decide),h5]
  exact⟨trivial,.inl trivial,trivial⟩
 rintro s2 β2 a2 w2 r2 rfl
 refine hK2 _ _ ?_
 -- the slice
 have t36:Rep β2 s.m (safe E β2 s.m) w2 (a2.eval (.tmp 36)) (.ls id ver):=r2.tmp 36 (by omega)
 have t37:Rep β2 s.m (safe E β2 s.m) w2 (a2.eval (.tmp 37)) (dI i):=r2.tmp 37 (by omega)
 have e37:=t37.inv_v
 obtain⟨A,nn,cap,blk,e36,hb,hv,hcase⟩:=t36.inv_ls
 rw[hm]at hb
 obtain rfl:=Option.some.inj hb
 obtain⟨c1,c2,c3,c4⟩:=hcase rfl
 simp only at c1 c4
 obtain⟨b,hbe,rfl,hcap⟩:∃ b,β2 id=some b∧A=some ⟨b,0,none⟩∧Zeb w2 b (cap*1):=by
  rcases c4 with⟨h,_⟩|h
  ·have:=r2.mem.non id _ hm h
   simp only at this
   rw[this]at hi;simp at hi
  ·exact h
 obtain⟨_,cs,hcs,hlen,hcell⟩:=r2.mem.row id _ b hm hbe
 simp only[Nat.mul_one]at hlen hcell hcap
 have hlen':es.length≤cs.size:=hlen
 obtain⟨cs',T',fr',hcs',hsz⟩:=hcap
 rw[hcs]at hcs'
 cases hcs'
 obtain⟨i0,hinf,hz0,hz1,hz2⟩:=Zkd
 have hrb:=Zic (P:=Tryz.prog) (w:=w2) true nn cap i nn (some (.int .i64 i)) none (.inr ⟨_,rfl⟩) (.inl ⟨rfl,rfl⟩) (by omega) (by omega) (by omega) (by omega)
 have he3:execOp a2.eval o3=(do pure (.value (← Instr.sliceAt 31 (a2.eval (.tmp 36)) (some (a2.eval (.tmp 37))) none none))):=by unfold execOp;rw[p3];rfl
 have hsl:(Instr.sliceAt 31 (a2.eval (.tmp 36)) (some (a2.eval (.tmp 37))) none none).run Tryz.prog w2 = .ok (.slice (if cap=i then some ⟨b,0,none⟩else some ⟨b,i,none⟩) (nn-i) (cap-i)) w2:=by
  rw[e36,e37]
  unfold Instr.sliceAt
  simp only[Sem.run_bind,run_underlying Tryz.underlying31,Result.andThen_ok]
  unfold Instr.slice
  simp only[Sem.run_bind,run_underlying Tryz.underlying31,Result.andThen_ok,hrb]
  simp[sizeOf,typeInfo,hinf,hz1,Addr.add]
  by_cases hi0:i=0
  ·subst hi0;split<;>rfl
  ·rw[if_neg hi0]
 have hci:cap≠i:=by omega
 rw[if_neg hci,show nn-i=1 by omega]at hsl
 refine wpList_plain g3 fun K3 hK3=>?_
 unfold Oper.wp
 rw[show(execOp a2.eval o3).run Tryz.prog w2 = .ok (.value (.slice (some ⟨b,i,none⟩) 1 (cap-i))) w2 by rw[he3];simp[hsl]]
 show K3 (a2.put o3.dst (.slice (some ⟨b,i,none⟩) 1 (cap-i))) w2
 refine hK3 _ _ ?_
 obtain⟨β3,r3⟩:=r2.put (dst:=o3.dst) (ZbU.same r2.mem (.junk (.slice (some ⟨b,i,none⟩) 1 (cap-i))))
 have e38:(a2.put o3.dst (.slice (some ⟨b,i,none⟩) 1 (cap-i))).eval (.tmp 38) = .slice (some ⟨b,i,none⟩) 1 (cap-i):=by
  rw[eval_put (by rw[r2.width];exact hn),d3,if_pos rfl]
 have e36':(a2.put o3.dst (.slice (some ⟨b,i,none⟩) 1 (cap-i))).eval (.tmp 36) = .slice (some ⟨b,0,none⟩) nn cap:=by
  rw[eval_put (k:=36) (by rw[r2.width];exact Nat.lt_trans (by decide) hn),d3,if_neg (by decide)];exact e36
 generalize a2.put o3.dst (.slice (some ⟨b,i,none⟩) 1 (cap-i))=a3 at r3 e38 e36' ⊢
 rw[d3]at r3
 -- clear
 have hcl:=Lib.run_clear_slice (P:=Tryz.prog) w2 31 3 o4.type (.int .i64 0) Tryz.underlying31 (fun w=>by simp[zeroValue,typeInfo,hinf,hz0]) rfl rfl b i 1 (cap-i) (by omega)
  (fun j hj => by obtain rfl : j = 0 := by omega
                  rw[Nat.add_zero,Zcq hcs];simp;omega)
  (fun j hj=>by simp[World.frozen?,hcs])
 have e4:(execOp a3.eval o4).run Tryz.prog w2 = .ok (.value (.tuple #[])) (w2.setCells b i [.int .i64 0]):=by
  unfold execOp
  rw[p4]
  simp[resolve,invoke,builtin,e38,hcl]
 refine wpList_plain g4 fun K4 hK4=>?_
 unfold Oper.wp
 rw[e4]
 show K4 (a3.put o4.dst (.tuple #[])) (w2.setCells b i [.int .i64 0])
 refine hK4 _ _ ?_
 -- the store that does the same
 have hty:=ty_3
 have hb3:β3 id=some b:=by
  have t36:Rep β3 s.m (safe E β3 s.m) w2 (a3.eval (.tmp 36)) (.ls id ver):=r3.tmp 36 (by omega)
  rw[e36']at t36
  obtain⟨A,n',cap',blk,e,hb,hv,hcase⟩:=t36.inv_ls
  rw[hm]at hb
  obtain rfl:=Option.some.inj hb
  obtain⟨_,_,_,c4⟩:=hcase rfl
  rcases c4 with⟨_,h,_⟩|⟨b',h1,h2,_⟩
  ·subst h;cases e
  ·subst h2;cases e;exact h1
 have hlp:Rep β3 s.m (safe E β3 s.m) w2 (.pointer (some ⟨b,i,none⟩)) (.lp id ver i 0):=.lp b i id ver i 0 _ hm (Ya4 _) (fun _=>⟨hb3,by simp⟩)
 obtain⟨e0,he0⟩:=getE (l:=es) (k:=i) (by omega)
 have h01:e0.length=1:=r3.mem.wid id _ hm i e0 he0
 have hspl:Zc2 e0 0 [dI 0]=[dI 0]:=by
  match e0,h01 with
  | [x],_=>rfl
 obtain⟨w',hs,ha⟩:=ZmN (r:=⟨True,.v undef,[id],[(id,⟨3,ver,1,es.set i [dI 0],0,false⟩)],[]⟩) hty r3.mem hlp (.v (.int .i64 0)) (by
  have hbk:ZbJ s.m id ver=some ⟨3,ver,1,es,0,false⟩:=by unfold ZbJ;rw[hm];exact if_pos rfl
  unfold ZgJ
  simp only[D.cells?,Value.oneCell',if_true]
  rw[hbk]
  simp only[he0,hspl]
  rw[if_pos ⟨trivial,rfl,rfl,Yb0 _,by simp[h01]⟩])
 have hst:(Instr.storeAt 3 (.pointer (some ⟨b,i,none⟩)) (.int .i64 0)).run Tryz.prog w2 = .ok () (w2.setCells b i [.int .i64 0]):=by
  have hc:=run_storeCells_cells (P:=Tryz.prog) b i [.int .i64 0] 0 w2 (fun j hj=>by
   obtain rfl:j=0:=by simp at hj;omega
   simp only[Nat.add_zero];rw[Zcq hcs];simp;omega) (fun j hj=>by simp[World.frozen?,hcs]) (by simp[Value.oneCell'])
  unfold Instr.storeAt Instr.sureAddr storeVar
  simp[sizeOf,typeInfo,hinf,hz1,Value.cells]
  simpa using hc
 rw[hst]at hs
 obtain rfl:w2.setCells b i [.int .i64 0]=w':=by simpa using hs
 have ha':ZbU E β3 s.m s.nx w2 (upd s.m id (some ⟨3,ver,1,es.set i [dI 0],0,false⟩)) (.tuple #[]) .junk (w2.setCells b i [.int .i64 0]):=by
  obtain⟨β',x1,x2,x3,_⟩:=ha
  exact⟨β',x1,x2,x3,.junk _⟩
 obtain⟨β4,r4⟩:=r3.put (dst:=o4.dst) ha'
 rw[d4]at r4
 refine wpList_nil ?_
 rw[d4]
 exact⟨_,β4,r4,hQ⟩
end
abbrev ints(L:List Nat):List Int:=L.map fun(i:Nat)=>(i:Int)
theorem ZwX(L:List Nat):(ints L).map Int.toNat=L:=by
 rw[List.map_map]
 exact map_map_id0 L
where map_map_id0:∀ L:List Nat,L.map (Int.toNat∘fun(i:Nat)=>(i:Int))=L
 | []=>rfl
 | i ::L=>by simp only[List.map_cons,map_map_id0 L];rfl
def hasI(l:List Int)(x:Int):Bool:= !l.all (fun y=>x !=y)
theorem ZqK{l:List Int}{x:Int}:hasI l x=true↔x∈l:=by
 unfold hasI
 rw[Bool.not_eq_true',List.all_eq_false]
 constructor
 ·rintro⟨y,hy,h⟩
  have:x=y:=by simpa using h
  rw[this];exact hy
 ·intro h
  exact⟨x,h,by simp⟩
theorem Zuv{L:List Nat}{i:Nat}:hasI (ints L) i=true↔i∈L:=by
 rw[ZqK,Yc6]
 constructor
 ·rintro⟨a,h,e⟩
  have:a=i:=by exact_mod_cast e
  rw[← this];exact h
 ·exact fun h=>⟨i,h,rfl⟩
def Zke(l:List Int)(x:Int):Int:=if l.all (fun y=>x !=y)then -1 else l.findIdx (fun y=> !(x !=y))
theorem ZBv(l:List Int)(x:Int):decide (Zke l x≥0)=hasI l x:=by
 unfold Zke hasI
 cases l.all fun y=>x !=y
 ·simp only[Bool.false_eq_true,if_false,Bool.not_false];exact decide_eq_true (by omega)
 ·rfl
theorem Zut(l:List Int)(x:Int)(hl:(l.length:Int)≤1099511627776):Zaa Tryz.prog 76 [Zad l,dI x] (dI (Zke l x)):=by
 refine Zae.toN ?_ rfl
 refine inC Tryz.func76 rfl Tryz.ntmps76 ?_
 have Zr:=Tryz.results76
 refine aGo Zr ?_
 repeat with_reducible intro K hK
 refine ZaF (fun(k:Nat)=>[(0,Zad l),(1,dI x),(7,dI l.length),(8,dI k)]) (fun _=>[]) 0 0 (fun k=>k≤l.length∧(l.take k).all (fun y=>x !=y)=true) (fun k=>l.length-k) 0 ⟨by omega,rfl⟩ ?_ ?_
 ·exact leGo trivial
 rintro k ⟨hk,hn⟩
 obtain⟨hw,h0⟩:=ZaR k
 by_cases h1:(k:Int)<l.length
 ·obtain⟨y,hx⟩:=getE (l:=l) (k:=k) (by omega)
  cases h2:(x==y)
  ·refine aGo (cj4 Zr h0 h1 (cj3 hx hw h2)) ?_
   repeat with_reducible intro K hK
   exact Zaf (k+1) ⟨by omega,ZaH hx hn (by simp[bne,h2])⟩ (by omega) (by exact leGo trivial)
  ·have hx2:(fun y=>x !=y) y=false:=by simp[bne,h2]
   refine aGo (cj4 Zr h0 h1 (cj3 hx hw h2)) ?_
   repeat with_reducible intro K hK
   have:Zke l x=k:=by
    have h3:l.all (fun y=>x !=y)=false:=ZcC hx hx2
    unfold Zke
    rw[h3,Zg6 hx hn hx2];rfl
   rw[this]
 ·refine aGo (cj2 Zr h1) ?_
  repeat with_reducible intro K hK
  rw[Ya8 (by omega)]at hn
  have:Zke l x = -1:=by unfold Zke;rw[hn];rfl
  rw[this]
theorem ZiO(l:List Int)(x:Int)(hl:(l.length:Int)≤1099511627776):Zaa Tryz.prog 43 [Zad l,dI x] (dB (hasI l x)):=by
 refine Zae.toN ?_ rfl
 refine inC Tryz.func43 rfl Tryz.ntmps43 ?_
 have Zr:=Tryz.results43
 have hc:=Zut l x hl
 refine aGo Zr ?_
 repeat with_reducible intro K hK
 exact Zaj (ZBv _ _)
structure Conf (s:SysD):Prop where
 r:Zao s=true
 n:s.n≤8
 l:s.r.length≤32
 w:∀ w∈s.r,w.t.length≤8∧szF w.v≤3∧∀ t∈w.t,szF t.f≤3
theorem Zkg:Dic.grow 3 8=218453:=rfl
section
variable {s:SysD} (c:Conf s)
include c
theorem Conf.fit{L:List Nat}(hl:L.length≤32):Fit (Zbr s L) [] 3 8:=by
 have:=ZlO s L
 refine⟨by omega,fun _=>by have:=c.n;show s.n≤16;omega,fun _=>.inl (by have:=c.n;show s.n≤8;omega),fun w hw=>?_,⟨by simp,fun t ht=>by cases ht⟩,by decide,by rw[Zkg];decide⟩
 obtain⟨i,_,hi⟩:=Zi8.1 hw
 have:=c.w w (Ya7 hi)
 exact⟨by omega,this.2⟩
theorem Conf.fit0:Fit s [] 3 8 :=
 ⟨c.l,fun _=>by have:=c.n;omega,fun _=>.inl (by have:=c.n;omega),fun w hw=>by have:=c.w w hw;exact⟨by omega,this.2⟩,⟨by simp,fun t ht=>by cases ht⟩,by decide,by rw[Zkg];decide⟩
theorem Conf.sm:Sm12 s:=⟨c.fit0.tn.sm,by have:=c.l;omega,fun w hw=>by have:=c.w w hw;exact⟨by omega,by omega,fun t ht=>by have:=this.2.2 t ht;omega⟩⟩
theorem Conf.ysz{L:List Nat}(hl:L.length≤32):∀ f∈(Zax (Zbr s L) []).y,szF f≤2000000:=by
 have hp:=ZeQ c.r (rows:=L) (by omega)
 have h:=c.fit hl
 have hn0:=(ZbL hp).1
 have hn:(Zbr s L).n.toNat≤8:=by have:=c.n;show s.n.toNat≤8;omega
 have hg:=ZeK hp
 generalize Zbr s L=u at hp h hn0 hn hg
 have nil:∀ f∈([]:List Zag),szF f≤2000000:=fun f hf=>by cases hf
 have ref:∀ r,r<(fin u []).m→∀ f∈Zal u.r.length (refK (fin u []) (Zbp u []) r u.n.toNat),szF f≤2000000:=by
  intro r hrm f hf
  obtain⟨v,_,rfl⟩:=Ze0 hf
  have:=Zm8 (fin u []) (Zbp u []) r (B:=Dic.grow 3 8) (by rw[Zkg];decide) (fun j hj=>(Zcv h hp hg).a r j hrm hj) u.n.toNat (by rw[ZcG];exact Ya4 _) v
  rw[Zkg]at this
  have hm:=Nat.mul_le_mul_right (218453+1) (show u.n.toNat+1≤9 by omega)
  show szQ _≤_
  omega
 unfold Zax
 cases hnx:next (fin u [])with
 | ex r c=>exact nil
 | best =>
   intro f hf
   obtain⟨v,_,rfl⟩:=Ze0 hf
   have:=Zhm (fin u []) (Zbp u []) (B:=Dic.grow 3 8) (ZBF h hp hg) u.n.toNat (by rw[ZcG];exact Ya4 _) v
   rw[Zkg]at this
   have hm:=Nat.mul_le_mul_right (218453+1) (show u.n.toNat+1≤9 by omega)
   show szQ _≤_
   omega
 | row r=>exact ref r (ZdO hnx).1
 | col c=>exact nil
end
theorem Zmw{L:List Nat}{n:Nat}(h:ascR (ints L) n=true):L.length≤n∧∀ i∈L,i<n:=by
 have h1:=Zmv h
 simp only[ints,Yc0]at h1
 refine⟨h1,fun i hi=>?_⟩
 obtain⟨k,hk⟩:=List.getElem?_of_mem hi
 have:=Zrb h k i (by rw[Yb8,hk];rfl)
 omega
noncomputable def refU (s:SysD) (L:List Nat):List Nat:=if nsC s L then Zkz L (Zax (Zbr s L) []).y else []
theorem ZoT{s:SysD}(hs:Zao s=true){L:List Nat}(ha:ascR (ints L) s.r.length=true):Zqj s (ints L)=Zbr s L:=by
 unfold Zqj;rw[hs,ha,ZwX];rfl
theorem ZjN(s:SysD)(c:Conf s)(L:List Nat)(ha:ascR (ints L) s.r.length=true):Zae Tryz.prog 68 [encS s,Zad (ints L)] (.tup [Zad (ints (refU s L)),dB (nsC s L)]):=by
 have Zr:=Tryz.results68
 obtain⟨hl,hlt⟩:=Zmw ha
 have h8:=c.l
 have q1:=Zwo s (ints L) (c.sm) (by simp[ints];omega)
 rw[ZoT c.r ha]at q1
 have hp:=ZeQ c.r (rows:=L) (by omega)
 have q2:=Zrz (Zbr s L) (c.fit (L:=L) (by omega))
 cases hn:nsC s L
 ·have hk:(Zax (Zbr s L) []).k≠1:=fun h=>by rw[(ZjZ c.r (by omega)).2 h]at hn;cases hn
  rw[show solD (Zbr s L)=((Zax (Zbr s L) []).x,[],true) by unfold solD;rw[hp,if_pos rfl,if_neg hk]]at q2
  rw[show refU s L=[] by unfold refU;rw[hn];rfl]
  refine inC Tryz.func68 rfl Tryz.ntmps68 ?_
  refine aGo Zr ?_
  repeat with_reducible intro K hK
  rfl
 have hk:=(ZjZ c.r (by omega)).1 hn
 rw[show solD (Zbr s L)=([],(Zax (Zbr s L) []).y,false) by unfold solD;rw[hp,if_pos rfl,if_pos hk]]at q2
 rw[show refU s L=Zkz L (Zax (Zbr s L) []).y by unfold refU;rw[hn];rfl]
 have hchk:=Zcd hp (ZeK hp)
 have hysz:=c.ysz (L:=L) (by omega)
 have href:ZbM (Zbr s L) (Zax (Zbr s L) []).y=true:=by
  rcases Zg5 hchk with⟨h,_⟩|⟨_,h,_⟩|⟨h,_⟩
  ·rw[hk]at h;exact absurd h (by decide)
  ·exact h
  ·rw[hk]at h;exact absurd h (by decide)
 have hyz:∀ f∈(Zax (Zbr s L) []).y,szF f≤2000000:=hysz
 clear hysz
 generalize (Zax (Zbr s L) []).y=y at q2 href hyz
 have hlow:(Zbf (Zbr s L) [] y).2=true:=by
  simp only[ZbM,Ya2]at href;exact href.1
 obtain⟨_,hyl,hyo,_⟩:=Zuf.1 hlow
 rw[ZoS hlt]at hyl
 obtain⟨F,hF⟩:∃ F:Nat→List Nat,F=fun k=>((L.zip y).take k).filterMap fun p=>if qOf p.2=0 then none else some p.1:=⟨_,rfl⟩
 have F0:F 0=[]:=by rw[hF];rfl
 have Fz:∀ k i f,L[k]? =some i→y[k]? =some f→qOf f=0→F (k+1)=F k:=fun k i f hi hf h=>by
  have hz:(L.zip y)[k]? =some (i,f):=by rw[List.getElem?_zip_eq_some];exact⟨hi,hf⟩
  rw[hF];simp only;rw[Yb4,hz,List.filterMap_append];simp[h]
 have Fs:∀ k i f,L[k]? =some i→y[k]? =some f→qOf f≠0→F (k+1)=F k++[i]:=fun k i f hi hf h=>by
  have hz:(L.zip y)[k]? =some (i,f):=by rw[List.getElem?_zip_eq_some];exact⟨hi,hf⟩
  rw[hF];simp only;rw[Yb4,hz,List.filterMap_append];simp[h]
 have Fe:Zkz L y=F y.length:=by rw[hF];unfold Zkz;simp only;rw[Ya8 (by rw[List.length_zip];omega)]
 rw[Fe]
 refine inC Tryz.func68 rfl Tryz.ntmps68 ?_
 refine aGo Zr ?_
 repeat with_reducible intro K hK
 clear q1 q2
 refine aLe (Zef 9 3 1 rfl) ?_
 refine ZaF (fun(k:Nat)=>[(1,Zad (ints L)),(9,.ls 1 (F k).length),(21,ZbW y),(22,dI y.length),(23,dI k)]) (fun k=>[(1,⟨3,(F k).length,1,(ints (F k)).map fun x=>[dI x],0,false⟩)]) 2 0 (fun k=>k≤y.length∧(F k).length≤k) (fun k=>y.length-k) 0 ⟨by omega,by rw[F0];decide⟩ ?_ ?_
 ·exact leGo F0
 rintro k ⟨hkl,hfl⟩
 obtain⟨hw,h0⟩:=ZaR k
 by_cases h1:(k:Int)<y.length
 ·obtain⟨f,hf⟩:=getE (l:=y) (k:=k) (by omega)
  obtain⟨i,hi⟩:=getE (l:=L) (k:=k) (by omega)
  have h1L:(k:Int)<L.length:=by omega
  have of:=Ya6.1 hyo f (ZaK hf)
  have zf:=hyz f (ZaK hf)
  have q3:=ZdU f (by omega)
  have hsg:sgnD f=0↔qOf f=0:=by
   obtain⟨q,rfl⟩:∃ q,f=ofQ q:=⟨_,ZfS of⟩
   rw[Zcw,ZaE];exact Zfh
  by_cases h2:qOf f=0
  ·have e2:(sgnD f !=0)=false:=by simp[hsg.2 h2]
   have F1:=Fz k i f hi hf h2
   refine aGo (cj4 Zr h0 h1 (cj3 hf hw e2)) ?_
   repeat with_reducible intro K hK
   exact Zaf (k+1) ⟨by omega,by rw[F1];omega⟩ (by omega) (by exact leGo F1)
  ·have e2:(sgnD f !=0)=true:=by simp;exact fun h=>h2 (hsg.1 h)
   have F1:=Fs k i f hi hf h2
   refine aGo (cj4 Zr h0 h1 (cj4 h1L hf hi (cj2 hw e2))) ?_
   repeat with_reducible intro K hK
   exact Zaf (k+1) ⟨by omega,by rw[F1,Yb9];simp;omega⟩ (by omega) (by exact leGo F1)
 ·obtain rfl:k=y.length:=by omega
  refine aGo (cj2 Zr h1) ?_
  repeat with_reducible intro K hK
  rw[ZaG (fun _=>rfl)]
theorem ZmK(z:Int)(h1 : -1000000≤z)(h2:z≤1000000):szQ (z:Rat)≤3:=by
 rw[Zd9]
 have e1:szZ (z:Rat).num≤1:=ZeC (by simp only[Rat.num_intCast,bp];omega)
 have e2:szZ (((z:Rat).den:Nat):Int)≤1:=ZeC (by simp only[Rat.den_intCast,bp];decide)
 omega
theorem Zs0(p:Int)(p1 : -1000000000000000000≤p)(p2:p≤1000000000000000000):szQ (Rat.divInt p 1000)≤3:=by
 have h1:=ZdD p 1000 (by decide)
 have h2:szZ p≤3:=ZeC (by simp only[bp];omega)
 have h3:szZ 1000≤3:=ZeC (by simp only[bp];decide)
 omega
theorem ZyF{c:ZcT}{r day:Int}(h:ZhO c r day=true):szQ (maxQ ((r:Rat)-errQ c r day) 0)≤3∧szQ ((r:Rat)+errQ c r day)≤3:=by
 obtain⟨h1,h2,h3,h4,h5⟩:=Zgt h
 have e1:(r:Rat)-errQ c r day=Rat.divInt (1000*r-c.p*r-1000*(c.g+c.d*(day-c.f))) 1000:=by
  unfold errQ
  rw[Rat.divInt_eq_div,Rat.divInt_eq_div]
  generalize c.p*r=x
  generalize c.g+c.d*(day-c.f)=y
  simp only[Rat.intCast_sub,Rat.intCast_mul]
  grind
 have e2:(r:Rat)+errQ c r day=Rat.divInt (1000*r+c.p*r+1000*(c.g+c.d*(day-c.f))) 1000:=by
  unfold errQ
  rw[Rat.divInt_eq_div,Rat.divInt_eq_div]
  generalize c.p*r=x
  generalize c.g+c.d*(day-c.f)=y
  simp only[Rat.intCast_add,Rat.intCast_mul]
  grind
 have s1:=Zs0 (1000*r-c.p*r-1000*(c.g+c.d*(day-c.f))) (by omega) (by omega)
 have s2:=Zs0 (1000*r+c.p*r+1000*(c.g+c.d*(day-c.f))) (by omega) (by omega)
 have s0:szQ 0≤3:=by decide +kernel
 rw[e1,e2]
 refine⟨?_,s2⟩
 unfold maxQ
 split
 ·first|exact s1|exact s0
 ·first|exact s0|exact s1
theorem iv_sz{e:EvD}{x:MvD}(h:(ivE e x).ok=true):szF (ivE e x).lo≤3∧szF (ivE e x).hi≤3:=by
 unfold ivE at h ⊢
 split at h
 ·cases h
 ·rename_i h1
  rw[if_neg h1]
  unfold intD at h ⊢
  revert h
  cases hf:ZnO e.ce x.s x.d with
  | none=>intro h;cases h
  | some b =>
    obtain⟨_,c,hc,hcov,_⟩:=Zlr hf
    simp only[hc]
    split
    ·intro h;cases h
    ·rename_i hn
     intro _
     simp only[Bool.or_eq_true,Bool.not_eq_true',not_or]at hn
     have ho:ZhO c x.r x.d=true:=by
      unfold ZhO
      rw[hcov]
      cases hb:inB x.r 0 1099511627776
      ·exact absurd hb hn.2
      ·rfl
     exact ZyF ho
theorem Zs6(e:EvD)(i m:Nat):∀ k,(stkE e i m k).length≤k∧∀ t∈stkE e i m k,szF t.f≤3
 | 0=>⟨Ya4 _,fun t ht=>by cases ht⟩
 | k+1=>by
   obtain⟨a,b⟩:=Zs6 e i m k
   unfold stkE
   split
   ·rw[List.append_nil];exact⟨by omega,b⟩
   ·refine⟨by rw[Yb9];simp;omega,fun t ht=>?_⟩
    rcases Yd5.1 ht with ht|ht
    ·exact b t ht
    ·rw[List.mem_singleton.1 ht]
     have : -1000000≤sgnE e i k∧sgnE e i k≤1000000:=by unfold sgnE;split<;>(try split)<;>omega
     exact ZmK _ this.1 this.2
theorem ZlH(M:Int)(i:Nat){b own more:Int}(h1 : -1000≤b∧b≤1000)(h2 : -1000≤more∧more≤1000):∀ k,(sumE M i b own more k).length≤k∧∀ t∈sumE M i b own more k,szF t.f≤3
 | 0=>⟨Ya4 _,fun t ht=>by cases ht⟩
 | k+1=>by
   obtain⟨a,c⟩:=ZlH M i (own:=own) h1 h2 k
   unfold sumE
   split
   ·rw[List.append_nil];exact⟨by omega,c⟩
   ·refine⟨by rw[Yb9];simp;omega,fun t ht=>?_⟩
    rcases Yd5.1 ht with ht|ht
    ·exact c t ht
    ·rw[List.mem_singleton.1 ht]
     have : -1000000≤cofE b own more k∧cofE b own more k≤1000000:=by unfold cofE;split<;>omega
     exact ZmK _ this.1 this.2
theorem ZzX{e:EvD}(R:Zd7 e)(hn:e.mv.length≤4)(hm:e.m≤2)(hp:e.pu.length≤2):Conf (sysE e):=by
 have hM:=R.m
 have z0:szF (ofQ 0)≤3:=by decide +kernel
 refine⟨ZkP R (by omega) (by omega),?_,?_,fun w hw=>?_⟩
 ·show(e.mv.length:Int)*e.m≤8
  have:=Int.mul_le_mul (a:=(e.mv.length:Int)) (b:=e.m) (c:=4) (d:=2) (by omega) hm (by omega) (by omega)
  omega
 ·show((ZfU e).map (·.1)).length≤32
  rw[Yc0]
  have:=Zhh e (ivF e) e.mv.length
  have h2:e.mv.length*(e.m.toNat+2+2*e.pu.length)≤4*(2+2+2*2):=Nat.mul_le_mul hn (by omega)
  unfold ZfU
  omega
 ·obtain⟨r,hr,rfl⟩:=Yc6.1 hw
  obtain⟨i,hi,hr⟩:=(ZeS _).1 hr
  unfold Zii at hr
  simp only[Yd5]at hr
  rcases hr with hr|hr|hr
  ·unfold ZdN at hr
   split at hr
   ·cases hr
   ·obtain⟨m,_,rfl⟩:=Yc6.1 hr
    obtain⟨a,b⟩:=Zs6 e i m (i+1)
    exact⟨by show(stkE e i m (i+1)).length≤8;omega,z0,b⟩
  ·unfold Zb7 at hr
   split at hr
   ·rename_i ho
    obtain⟨s1,s2⟩:=iv_sz ho
    obtain⟨a,b⟩:=ZlH e.m i (b:=1) (own:= -1) (more:=0) (by decide) (by decide) e.m.toNat
    simp only[List.mem_cons,List.not_mem_nil,or_false]at hr
    rcases hr with rfl|rfl
    ·exact⟨by show(sumE e.m i 1 (-1) 0 e.m.toNat).length≤8;omega,s1,b⟩
    ·exact⟨by show(sumE e.m i 1 (-1) 0 e.m.toNat).length≤8;omega,s2,b⟩
   ·cases hr
  ·obtain⟨k,p,hpk,hr⟩:=ZhB _ hr
   have hk:=R.pu p (Ya7 hpk)
   simp only[okPu,idx,Ya2,decide_eq_true_eq]at hk
   unfold Zif at hr
   split at hr
   ·simp only[List.mem_cons,List.not_mem_nil,or_false]at hr
    rcases hr with rfl|rfl
    ·obtain⟨a,b⟩:=ZlH e.m i (b:= -p.lo) (own:=p.m) (more:=1000) (by omega) (by decide) e.m.toNat
     exact⟨by show(sumE e.m i (-p.lo) p.m 1000 e.m.toNat).length≤8;omega,z0,b⟩
    ·obtain⟨a,b⟩:=ZlH e.m i (b:=p.hi) (own:=p.m) (more:= -1000) (by omega) (by decide) e.m.toNat
     exact⟨by show(sumE e.m i p.hi p.m (-1000) e.m.toNat).length≤8;omega,z0,b⟩
   ·cases hr
noncomputable def posB (e:EvD):Bool:=(Zb5 e==0)&&((Zbn (sysE e) []).2==0)
theorem Zed{e:EvD}(hf:Zb5 e=0)(hs:Zao (sysE e)=true):posB e=true↔PosE e:=by
 have hg:=ZeK hs
 unfold posB Zbn
 rw[hf,hs,hg]
 simp only[beq_self_eq_true,Bool.true_and,Bool.and_self,if_true]
 rcases Zgk (Zcd hs hg)with⟨h,_,x,_,hx,_⟩|⟨h,hx⟩|⟨h,hx⟩
 ·rw[if_neg (by omega)]
  exact⟨fun _=>⟨x,hx⟩,fun _=>rfl⟩
 ·rw[if_pos h]
  constructor
  ·intro hc;cases hc
  ·rintro⟨x,hx'⟩;rw[hx x]at hx';cases hx'
 ·rw[if_neg (by omega)]
  obtain⟨x,hx',_⟩:=hx 0
  exact⟨fun _=>⟨x,hx'⟩,fun _=>rfl⟩
abbrev Zex(e:EvD):Blk:=⟨28,0,8,[cEv e],0,false⟩
abbrev mvB(x:MvD):Blk:=⟨55,0,6,[cMv x],0,false⟩
abbrev memE(e:EvD)(VR VO:Nat)(A:List RowD)(B:List OriD)(x:MvD):List (Nat×Blk):=[(0,Zex e),(1,mkB e 2 VR 3 VO),(2,rwB VR A),(3,orB VO B),(4,mvB x)]
theorem ZvG{e:EvD}(Ri:Zd7 e){VR VO:Nat}{A:List RowD}{B:List OriD}{i:Nat}(hi:(i:Int)<e.mv.length)(hA:(A.length:Int)≤99990)(hB:(B.length:Int)≤99990)(z:MvD) :
 Zar Tryz.prog 100 [.lp 1 0 0 0,dI i] (tabM (memE e VR VO A B z)) 5 fun d m' nx'=>d=oneD []∧ZsE e 1 2 3 A B (tabM (memE e VR VO A B z)) 5 (Zb7 e (ivF e i) i) m' nx':=by
 have Zr:=Tryz.results100
 have hx:=Zhx (e:=e) (i:=i) (by omega)
 have i0:(0:Int)≤i:=by omega
 have ei:ivF e i=ivE e (mvAt e i):=rfl
 have kI:=ZzG e.ce e.re (mvAt e i).s (mvAt e i).r (mvAt e i).d (by have:=Ri.lc;omega) (by have:=Ri.lr;omega)
 rw[ei]
 unfold ivE
 generalize mvAt e i=x at hx kI
 refine inA Tryz.func100 rfl Tryz.ntmps100 ?_
 cases hs:(x.s == -1)
 rotate_left
 ·have hs':x.s = -1:=by simpa using hs
  rw[if_pos hs']
  refine aGo (cj4 Zr hx i0 (cj2 hi hs)) ?_
  repeat with_reducible intro K hK
  refine⟨by omega,⟨VR,VO,rfl,?_,?_⟩,fun id g1 g2 g3 g4=>?_⟩
  ·show _=some (rwB VR (A++[]));rw[List.append_nil];rfl
  ·show _=some (orB VO (B++[]));rw[List.append_nil];rfl
  ·simp only[Zau];repeat(rw[if_neg (show ¬ id=5 by omega)])
   repeat(rw[if_neg (by omega)])
 ·have hs':¬ x.s = -1:=by simpa using hs
  rw[if_neg hs']
  generalize intD e.ce e.re x.s x.r x.d=iv at kI ⊢
  obtain⟨lo,hh,ok⟩:=iv
  cases ok
  ·refine aGo (cj4 Zr hx i0 (cj2 hi hs)) ?_
   repeat with_reducible intro K hK
   refine⟨by omega,⟨VR,VO,rfl,?_,?_⟩,fun id g1 g2 g3 g4=>?_⟩
   ·show _=some (rwB VR (A++[]));rw[List.append_nil];rfl
   ·show _=some (orB VO (B++[]));rw[List.append_nil];rfl
   ·simp only[Zau];repeat(rw[if_neg (show ¬ id=5 by omega)])
    repeat(rw[if_neg (by omega)])
  ·refine aGo (cj4 Zr hx i0 (cj2 hi hs)) ?_
   repeat(guard_target =~ ∀ _:St→Prop,_;intro K hK)
   intro KX hX
   refine Za3 (ZvR Ri (mk:=1) (R:=2) (O:=3) (vR:=VR) (vO:=VO) rfl (by decide) hi (by decide) (by decide)) ?_
   refine aGo Zr ?_
   repeat with_reducible intro K hK
   refine Za3 (ZxI (mk:=1) (R:=2) (O:=3) (vR:=VR) (vO:=VO) (rows:=A) (os:=B) rfl rfl rfl (by decide) (by decide) (by decide) (by decide) (by decide) (by decide) (by omega) (by omega) ⟨sumE e.m i 1 (-1) 0 e.m.toNat,0,lo⟩ ⟨1,i,-1,-1⟩) ?_
   refine aGo Zr ?_
   repeat with_reducible intro K hK
   refine hX _ _ (by kernel_rfl) (Zaz rfl) ?_
   clear hX
   clear KX
   refine aGo Zr ?_
   repeat(guard_target =~ ∀ _:St→Prop,_;intro K hK)
   intro KX hX
   refine Za3 (ZvR Ri (mk:=1) (R:=2) (O:=3) (vR:=VR+1) (vO:=VO+1) rfl (by decide) hi (by decide) (by decide)) ?_
   refine aGo Zr ?_
   repeat with_reducible intro K hK
   refine Za3 (ZxI (mk:=1) (R:=2) (O:=3) (vR:=VR+1) (vO:=VO+1) (rows:=A++[⟨sumE e.m i 1 (-1) 0 e.m.toNat,0,lo⟩]) (os:=B++[⟨1,i,-1,-1⟩]) rfl rfl rfl (by decide) (by decide) (by decide) (by decide) (by decide) (by decide) (by simp;omega) (by simp;omega) ⟨sumE e.m i 1 (-1) 0 e.m.toNat,1,hh⟩ ⟨2,i,-1,-1⟩) ?_
   refine aGo Zr ?_
   repeat with_reducible intro K hK
   refine hX _ _ (by kernel_rfl) (Zaz rfl) ?_
   clear hX
   clear KX
   refine aGo Zr ?_
   repeat with_reducible intro K hK
   refine⟨by omega,⟨VR+1+1,VO+1+1,rfl,?_,?_⟩,fun id g1 g2 g3 g4=>?_⟩
   ·refine Eq.trans (b:=some (rwB (VR+1+1) (A++[⟨sumE e.m i 1 (-1) 0 e.m.toNat,0,lo⟩]++[⟨sumE e.m i 1 (-1) 0 e.m.toNat,1,hh⟩]))) rfl ?_
    rw[Yd3];rfl
   ·refine Eq.trans (b:=some (orB (VO+1+1) (B++[⟨1,i,-1,-1⟩]++[⟨2,i,-1,-1⟩]))) rfl ?_
    rw[Yd3];rfl
   ·simp only[Zau]
    repeat(rw[if_neg (by omega)])
set_option maxHeartbeats 32000000
theorem lo5:∀ id,id<5→([0,1,2,3,4]:List Nat).contains id=true:=by
 intro id h
 have:id=0∨id=1∨id=2∨id=3∨id=4:=by omega
 rcases this with rfl|rfl|rfl|rfl|rfl<;>rfl
theorem leGo5{F X:Prop}(f:F)(h:F→X:=by
 intro hf
 refine Zb2 _ _ _ ?_ ?_ ?_ ?_ ?_ (.inr lo5)<;>simp[go_sem,okD,okDs,Zcc,hf] <;>
 (first|(intros;subst_vars;simp[okD,okDs];done)|(intro _ h;rcases h with⟨_,_,rfl⟩|rfl<;>simp[okD,okDs];done)|(intros;rename_i h;rcases h with⟨_,_,rfl⟩|rfl<;>simp[okD,okDs]))):X:=h f
theorem Zy7{e:EvD}(Ri:Zd7 e){VR VO:Nat}{A:List RowD}{B:List OriD}{i:Nat}(hi:(i:Int)<e.mv.length)(hA:(A.length:Int)≤90000)(hB:(B.length:Int)≤90000)(z:MvD) :
 Zar Tryz.prog 101 [.lp 1 0 0 0,dI i] (tabM (memE e VR VO A B z)) 5 fun d m' nx'=>d=oneD []∧ZsE e 1 2 3 A B (tabM (memE e VR VO A B z)) 5 (ZcK e i e.pu.length) m' nx':=by
 have Zr:=Tryz.results101
 have i0:(0:Int)≤i:=by omega
 have hU:=Ri.lu
 have k0:=ZiD 0 (by decide) (by decide)
 refine inA Tryz.func101 rfl Tryz.ntmps101 ?_
 refine aGo Zr ?_
 repeat with_reducible intro K hK
 refine ZaF (fun(x:Nat×Nat×Nat)=>[(0,.lp 1 0 0 0),(1,dI i),(11,ZhQ e.pu),(12,dI e.pu.length),(13,dI x.1)]) (fun x=>memE e x.2.1 x.2.2 (A++(ZcK e i x.1).map (·.1)) (B++(ZcK e i x.1).map (·.2)) z) 5 5 (fun x=>x.1≤e.pu.length) (fun x=>e.pu.length-x.1) (0,VR,VO) (by show 0≤e.pu.length;omega) ?_ ?_
 ·have p0:ZcK e i 0=[]:=rfl
  exact leGo5 p0
 rintro⟨n,V1,V2⟩ hn
 simp only at hn
 obtain⟨hw,h0⟩:=ZaR n
 by_cases h4:(n:Int)<e.pu.length
 rotate_left
 ·have en:n=e.pu.length:=by omega
  subst en
  refine aGo (cj2 Zr h4) ?_
  repeat with_reducible intro K hK
  exact⟨Ya4 _,⟨V1,V2,rfl,rfl,rfl⟩,fun id g1 g2 g3 g4=>by simp only[Zau,if_neg g2,if_neg g3,if_neg g4]⟩
 ·obtain⟨p,hp⟩:∃ p,e.pu[n]? =some p:=⟨_,Ya0 (by omega)⟩
  have hlen:=ZjP e i n
  have es:ZcK e i (n+1)=ZcK e i n++Zif e i n p:=by
   show ZcK e i n++_=_;rw[hp]
  generalize eL:ZcK e i n=L at es hlen ⊢
  have hLA:((A++L.map (·.1)).length:Int)≤99990:=by rw[Yb9,Yc0];omega
  have hLB:((B++L.map (·.2)).length:Int)≤99990:=by rw[Yb9,Yc0];omega
  have hk:=Ri.pu p (Ya7 hp)
  simp only[okPu,idx,Ya2,decide_eq_true_eq]at hk
  have wn:IntKind.i64.wrap (0-p.lo) = -p.lo:=(ZaO (by omega) (by omega)).trans (by omega)
  cases t1:(p.v !=(i:Int))
  ·have t1':p.v=i:=by simpa using t1
   have ep:Zif e i n p=[(⟨sumE e.m i (-p.lo) p.m 1000 e.m.toNat,0,ofQ ((0:Int):Rat)⟩,⟨3,i,-1,n⟩),(⟨sumE e.m i p.hi p.m (-1000) e.m.toNat,0,ofQ ((0:Int):Rat)⟩,⟨4,i,-1,n⟩)]:=by unfold Zif;rw[if_pos t1'];rfl
   rw[ep]at es
   refine aGo (cj4 Zr h0 h4 (cj3 hp t1 wn)) ?_
   repeat(guard_target =~ ∀ _:St→Prop,_;intro K hK)
   intro KX hX
   refine Za3 (ZvR Ri (mk:=1) (R:=2) (O:=3) (vR:=V1) (vO:=V2) rfl (by decide) hi (by omega) (by decide)) ?_
   refine aGo Zr ?_
   repeat with_reducible intro K hK
   refine Za3 (ZxI (mk:=1) (R:=2) (O:=3) (vR:=V1) (vO:=V2) (rows:=A++L.map (·.1)) (os:=B++L.map (·.2)) rfl rfl rfl (by decide) (by decide) (by decide) (by decide) (by decide) (by decide) (by omega) (by omega) ⟨sumE e.m i (-p.lo) p.m 1000 e.m.toNat,0,ofQ ((0:Int):Rat)⟩ ⟨3,i,-1,n⟩) ?_
   refine aGo Zr ?_
   repeat with_reducible intro K hK
   refine hX _ _ (by kernel_rfl) (Zaz rfl) ?_
   clear hX
   clear KX
   refine aGo Zr ?_
   repeat(guard_target =~ ∀ _:St→Prop,_;intro K hK)
   intro KX hX
   refine Za3 (ZvR Ri (mk:=1) (R:=2) (O:=3) (vR:=V1+1) (vO:=V2+1) rfl (by decide) hi (by omega) (by decide)) ?_
   refine aGo Zr ?_
   repeat with_reducible intro K hK
   refine Za3 (ZxI (mk:=1) (R:=2) (O:=3) (vR:=V1+1) (vO:=V2+1) (rows:=A++L.map (·.1)++[⟨sumE e.m i (-p.lo) p.m 1000 e.m.toNat,0,ofQ ((0:Int):Rat)⟩]) (os:=B++L.map (·.2)++[⟨3,i,-1,n⟩]) rfl rfl rfl (by decide) (by decide) (by decide) (by decide) (by decide) (by decide) (by rw[Yb9];simp at hLA ⊢;omega) (by rw[Yb9];simp at hLB ⊢;omega) ⟨sumE e.m i p.hi p.m (-1000) e.m.toNat,0,ofQ ((0:Int):Rat)⟩ ⟨4,i,-1,n⟩) ?_
   refine aGo Zr ?_
   repeat with_reducible intro K hK
   refine hX _ _ (by kernel_rfl) (Zaz rfl) ?_
   clear hX
   clear KX
   refine aGo (cj2 Zr hw) ?_
   repeat with_reducible intro K hK
   refine Zaf (n+1,V1+1+1,V2+1+1) (by show n+1≤e.pu.length;omega) (by show e.pu.length-(n+1)<e.pu.length-n;omega) ?_
   refine Zb2 _ _ _ ?_ ?_ ?_ ?_ ?_ (.inr lo5)<;>simp[go_sem,okD,okDs,Zcc,es,eL]
   exact⟨by rintro e (⟨a,_,rfl⟩|⟨a,_,rfl⟩|rfl|rfl)<;>rfl,by rintro e (⟨a,_,rfl⟩|⟨a,b,_,rfl⟩|rfl|rfl)<;>rfl⟩
  ·have t1':¬ p.v=i:=by simpa using t1
   refine aGo (cj4 Zr h0 h4 (cj3 hp t1 hw)) ?_
   repeat with_reducible intro K hK
   have ep:Zif e i n p=[]:=by unfold Zif;rw[if_neg t1']
   rw[ep,List.append_nil]at es
   exact Zaf (n+1,V1,V2) (by show n+1≤e.pu.length;omega) (by show e.pu.length-(n+1)<e.pu.length-n;omega) (by refine Zb2 _ _ _ ?_ ?_ ?_ ?_ ?_ (.inr lo5)<;>simp[go_sem,okD,okDs,Zcc,es,eL]<;>exact⟨(by rintro e (⟨a,_,rfl⟩|⟨a,_,rfl⟩)<;>rfl),(by rintro e (⟨a,_,rfl⟩|⟨a,b,_,rfl⟩)<;>rfl)⟩)
theorem ZqL{e:EvD}{A:List RowD}{B:List OriD}{z:MvD}{l:List RoO}{m:Mem}{nx:Nat}{s:St}(sl:List (Nat×D))(g:ZsE e 1 2 3 A B m nx l s.m s.nx)(h0:m 0=some (Zex e))(h4:m 4=some (mvB z))(hn:5≤nx)
 (ht:∀ p∈sl,s.t p.1=p.2) (hok:∀ p∈sl,okD (fun id=>([0,1,2,3,4]:List Nat).contains id) p.2=true) (hlo:s.lo=0) :
 ∃ VR VO,StLe s ⟨tabT sl,tabM (memE e VR VO (A++l.map (·.1)) (B++l.map (·.2)) z),5,s.lo⟩:=by
 obtain⟨VR,VO,c1,c2,c3⟩:=g.b
 refine⟨VR,VO,Zb2 sl (memE e VR VO (A++l.map (·.1)) (B++l.map (·.2)) z) 5 ht ?_ hok ?_ ?_ (.inl hlo)⟩
 ·intro p hp
  simp only[memE,List.mem_cons,List.not_mem_nil,or_false]at hp
  rcases hp with rfl|rfl|rfl|rfl|rfl
  ·exact(g.f 0 (by omega) (by decide) (by decide) (by decide)).trans h0
  ·exact c1
  ·exact c2
  ·exact c3
  ·exact(g.f 4 (by omega) (by decide) (by decide) (by decide)).trans h4
 ·intro p hp
  simp only[memE,List.mem_cons,List.not_mem_nil,or_false]at hp
  rcases hp with rfl|rfl|rfl|rfl|rfl
  ·intro x hx;obtain rfl:=List.mem_singleton.1 hx;rfl
  ·intro x hx;obtain rfl:=List.mem_singleton.1 hx;rfl
  ·intro x hx;obtain⟨u,_,rfl⟩:=Yc6.1 hx;rfl
  ·intro x hx;obtain⟨u,_,rfl⟩:=Yc6.1 hx;rfl
  ·intro x hx;obtain rfl:=List.mem_singleton.1 hx;rfl
 ·intro p hp
  simp only[memE,List.mem_cons,List.not_mem_nil,or_false]at hp
  rcases hp with rfl|rfl|rfl|rfl|rfl<;>simp
theorem Zuw{P:Program}{n:Nat}{c:Code}{Q:Exit→St→Prop}{e:EvD}{A:List RowD}{B:List OriD}{z:MvD}{l:List RoO}{m:Mem}{nx:Nat}{s:St}(sl:List (Nat×D))(g:ZsE e 1 2 3 A B m nx l s.m s.nx)(h0:m 0=some (Zex e))(h4:m 4=some (mvB z))(hn:5≤nx)
 (ht:∀ p∈sl,s.t p.1=p.2) (hok:∀ p∈sl,okD (fun id=>([0,1,2,3,4]:List Nat).contains id) p.2=true) (hlo:s.lo=0) (k:∀ VR VO,AWP P n c Q ⟨tabT sl,tabM (memE e VR VO (A++l.map (·.1)) (B++l.map (·.2)) z),5,s.lo⟩):AWP P n c Q s:=by
 obtain⟨VR,VO,hle⟩:=ZqL sl g h0 h4 hn ht hok hlo
 exact aLe hle (k VR VO)
abbrev encMk(e:EvD)(l:List RoO):D:=.ep [[dI e.m,dI e.h,dI e.s,ZiN e.pl,Zeg e.mv,Zi0 e.ce,ZfB e.re,ZhQ e.pu,Zsn (l.map (·.1)),.sl ((l.map (·.2)).map cOri)]] 0 0
theorem Zx9(e:EvD)(Ri:Zd7 e)(hn:e.mv.length≤12)(hp:e.pu.length≤12):Zae Tryz.prog 66 [Zb3 e] (encMk e (ZfU e)):=by
 have Zr:=Tryz.results66
 refine inC Tryz.func66 rfl Tryz.ntmps66 ?_
 refine aGo Zr ?_
 repeat with_reducible intro K hK
 refine aLe (Zdx 1 0 8 175 6 rfl rfl rfl) ?_
 refine aLe (Zdx 1 0 9 52 4 rfl rfl rfl) ?_
 simp only[go_sem]
 refine ZaF (fun(x:Nat×Nat×Nat)=>[(1,.lp 0 0 0 0),(3,.lp 1 0 0 0),(10,Zeg e.mv),(11,dI e.mv.length),(12,dI x.1)]) (fun x=>[(0,Zex e),(1,mkB e 2 x.2.1 3 x.2.2),(2,rwB x.2.1 ((ZeJ e (ivF e) x.1).map (·.1))),(3,orB x.2.2 ((ZeJ e (ivF e) x.1).map (·.2)))]) 4 0 (fun x=>x.1≤e.mv.length) (fun x=>e.mv.length-x.1) (0,0,0) (by show 0≤e.mv.length;omega) ?_ ?_
 ·have p0:ZeJ e (ivF e) 0=[]:=rfl
  refine Zb2 _ _ _ ?_ ?_ ?_ ?_ ?_ (.inl rfl)<;>simp[go_sem,okD,okDs,Zcc,p0]
 rintro⟨i,V1,V2⟩ hi
 simp only at hi
 obtain⟨hw,h0⟩:=ZaR i
 by_cases h4:(i:Int)<e.mv.length
 rotate_left
 ·have en:i=e.mv.length:=by omega
  subst en
  refine aGo (cj2 Zr h4) ?_
  repeat with_reducible intro K hK
  rw[ZaG (fun _=>rfl),ZaG (fun _=>rfl)];rfl
 ·have hx:=Zhx (e:=e) (i:=i) (by omega)
  have hlen:=Zhh e (ivF e) i
  have hM:=Ri.m
  have hl2:(ZeJ e (ivF e) i).length≤500:=by
   have:i*(e.m.toNat+2+2*e.pu.length)≤12*(6+2+2*12):=Nat.mul_le_mul (by omega) (by omega)
   omega
  obtain⟨f0,f1⟩:=(Ri.mv _ (Zjb (by omega:i<e.mv.length))).f
  obtain⟨pl,hpl⟩:∃ p,e.pl[(mvAt e i).f.toNat]? =some p:=⟨_,Ya0 (by omega)⟩
  have hb:Zku e i=(pl.k==0):=by unfold Zku Zfz;rw[hpl];rfl
  have es:ZeJ e (ivF e) (i+1)=ZeJ e (ivF e) i++(ZdN e i++(Zb7 e (ivF e i) i++ZcK e i e.pu.length)):=rfl
  unfold ZdN at es
  rw[hb]at es
  generalize mvAt e i=x at hx f0 f1 hpl
  generalize eL:ZeJ e (ivF e) i=L at es hlen hl2 ⊢
  refine aGo (cj4 Zr h0 h4 (cj3 hx hpl f0)) ?_
  repeat with_reducible intro K hK
  have r1:∀ (l1:List RoO)(W1 W2:Nat),ZeJ e (ivF e) (i+1)=L++(l1++(Zb7 e (ivF e i) i++ZcK e i e.pu.length))→l1.length≤10→∀ st,StLe st ⟨tabT [(1,.lp 0 0 0 0),(3,.lp 1 0 0 0),(4,dI i),(10,Zeg e.mv),(11,dI e.mv.length),(12,dI i)],tabM (memE e W1 W2 (L.map (·.1)++l1.map (·.1)) (L.map (·.2)++l1.map (·.2)) x),5,0⟩→K st:=by
   intro l1 W1 W2 e1 hl1 st hle
   refine hK _ (aLe hle ?_)
   clear hle hK
   refine aGo Zr ?_
   repeat with_reducible intro K hK
   refine ZaC (ZvG Ri (A:=L.map (·.1)++l1.map (·.1)) (B:=L.map (·.2)++l1.map (·.2)) h4 (by simp;omega) (by simp;omega) x) ?_
   rintro d m3 nx3 ⟨rfl,g⟩
   simp only[go_sem]
   refine hK _ ?_
   refine Zuw [(1,.lp 0 0 0 0),(3,.lp 1 0 0 0),(4,dI i),(10,Zeg e.mv),(11,dI e.mv.length),(12,dI i)] g rfl rfl (by decide) (by simp[go_sem]) (by simp[okD]) rfl fun W3 W4=>?_
   have hwl:(Zb7 e (ivF e i) i).length≤2:=by unfold Zb7;split<;>simp
   refine aGo Zr ?_
   repeat with_reducible intro K hK
   refine ZaC (Zy7 Ri (A:=L.map (·.1)++l1.map (·.1)++(Zb7 e (ivF e i) i).map (·.1)) (B:=L.map (·.2)++l1.map (·.2)++(Zb7 e (ivF e i) i).map (·.2)) h4 (by simp;omega) (by simp;omega) x) ?_
   rintro d m4 nx4 ⟨rfl,g2⟩
   refine aGo (cj2 Zr hw) ?_
   repeat with_reducible intro K hK
   obtain⟨W5,W6,c1,c2,c3⟩:=g2.b
   have c0:m4 0=some (Zex e):=g2.f 0 (by decide) (by decide) (by decide) (by decide)
   have c2':m4 2=some (rwB W5 ((ZeJ e (ivF e) (i+1)).map (·.1))):=by rw[c2,e1];simp only[List.map_append,Yd3]
   have c3':m4 3=some (orB W6 ((ZeJ e (ivF e) (i+1)).map (·.2))):=by rw[c3,e1];simp only[List.map_append,Yd3]
   refine Zaf (i+1,W5,W6) (by show i+1≤e.mv.length;omega) (by show e.mv.length-(i+1)<e.mv.length-i;omega) ?_
   refine Zb2 _ _ _ ?_ ?_ ?_ ?_ ?_ (.inl rfl)
   ·simp[go_sem]
   ·intro p hp
    simp only[List.mem_cons,List.not_mem_nil,or_false]at hp
    rcases hp with rfl|rfl|rfl|rfl
    ·exact c0
    ·exact c1
    ·exact c2'
    ·exact c3'
   ·simp[okD]
   ·intro p hp
    simp only[List.mem_cons,List.not_mem_nil,or_false]at hp
    rcases hp with rfl|rfl|rfl|rfl
    ·intro x hx;obtain rfl:=List.mem_singleton.1 hx;rfl
    ·intro x hx;obtain rfl:=List.mem_singleton.1 hx;rfl
    ·intro x hx;obtain⟨u,_,rfl⟩:=Yc6.1 hx;rfl
    ·intro x hx;obtain⟨u,_,rfl⟩:=Yc6.1 hx;rfl
   ·simp
  clear hK
  cases t1:(pl.k !=0)
  ·have t2:(pl.k==0)=true:=by simpa using t1
   rw[t2,if_pos rfl]at es
   refine aGo (cj2 Zr t1) ?_
   repeat with_reducible intro K hK
   refine r1 [] V1 V2 (by rw[es]) (by simp) _ ?_
   simp only[List.map_nil,List.append_nil]
   refine Zb2 _ _ _ ?_ ?_ ?_ ?_ ?_ (.inl rfl)
   ·simp[go_sem]
   ·simp[go_sem]
   ·simp[okD]
   ·intro p hp
    simp only[List.mem_cons,List.not_mem_nil,or_false]at hp
    rcases hp with rfl|rfl|rfl|rfl|rfl
    ·intro x hx;obtain rfl:=List.mem_singleton.1 hx;rfl
    ·intro x hx;obtain rfl:=List.mem_singleton.1 hx;rfl
    ·intro x hx;obtain⟨u,_,rfl⟩:=Yc6.1 hx;rfl
    ·intro x hx;obtain⟨u,_,rfl⟩:=Yc6.1 hx;rfl
    ·intro x hx;obtain rfl:=List.mem_singleton.1 hx;rfl
   ·simp
  ·have t2:(pl.k==0)=false:=by simpa using t1
   rw[t2,if_neg Yc5]at es
   refine aGo (cj2 Zr t1) ?_
   repeat with_reducible intro K hK
   have fin:∀ {m:Mem} {nx:Nat} (s:St),m 0=some (Zex e)→m 4=some (mvB x)→5≤nx→ZsE e 1 2 3 (L.map (·.1)) (L.map (·.2)) m nx ((List.range e.m.toNat).map (ZcH e i)) s.m s.nx→(∀ p∈[((1:Nat),D.lp 0 0 0 0),(3,.lp 1 0 0 0),(4,dI i),(10,Zeg e.mv),(11,dI e.mv.length),(12,dI i)],s.t p.1=p.2)→s.lo=0→K s:=by
    intro m nx s q0 q4 qn g ht hlo
    obtain⟨W1,W2,hle⟩:=ZqL _ g q0 q4 qn ht (by simp[okD]) hlo
    rw[hlo]at hle
    exact r1 _ W1 W2 es (by rw[Yc0,List.length_range];omega) s hle
   refine ZaC (ZyO Ri (mk:=1) (R:=2) (O:=3) (VR:=V1) (VO:=V2) (A:=L.map (·.1)) (B:=L.map (·.2)) rfl rfl rfl (by decide) (by decide) (by decide) h4 (by simp;omega) (by simp;omega)) ?_
   rintro d m3 nx3 ⟨rfl,g⟩
   simp only[go_sem]
   exact fin _ rfl rfl (by decide) g (by simp[go_sem]) rfl
set_option maxHeartbeats 8000000
theorem ZkF(i n:Int):Zaa Tryz.prog 61 [dI i,dI n] (dB (idx i n)):=by
 have Zr:=Tryz.results61
 refine inN Tryz.func61 rfl Tryz.ntmps61 fun I=>?_
 by_cases h1:i≥0
 ·refine aGo (cj2 Zr h1) ?_
  repeat with_reducible intro K hK
  exact Zaj (by simp[idx,h1])
 ·refine aGo (cj2 Zr h1) ?_
  repeat with_reducible intro K hK
  exact Zaj (by simp[idx,h1])
theorem Zob(n lo hi:Int):Zaa Tryz.prog 62 [dI n,dI lo,dI hi] (dB (decide (lo≤n)&&decide (n≤hi))):=by
 have Zr:=Tryz.results62
 refine inN Tryz.func62 rfl Tryz.ntmps62 fun I=>?_
 by_cases h1:n≥lo
 ·exact aGo (cj2 Zr h1) trivial
 ·exact aGo (cj2 Zr h1) trivial
theorem ZBy(e:EvD):Zaa Tryz.prog 27 [Zb3 e] (dB (Zc7 e)):=by
 refine⟨⟨_,_,Tryz.func27,rfl,by kernel_rfl⟩,fun S w vs hf hvs=>?_⟩
 obtain⟨v,rfl,h1⟩:=ZrN hvs
 obtain⟨us,rfl,hl,h2⟩:=h1.inv_agg
 obtain⟨a,b,c,d,f,g,i,j,rfl⟩:∃ a b c d f g i j,us=[a,b,c,d,f,g,i,j]:=by
  match us,hl with
  | [a,b,c,d,f,g,i,j],_=>exact⟨a,b,c,d,f,g,i,j,rfl⟩
 obtain rfl:=(h2 0 _ _ rfl rfl).inv_v
 obtain rfl:=(h2 1 _ _ rfl rfl).inv_v
 obtain rfl:=(h2 2 _ _ rfl rfl).inv_v
 obtain⟨a3,c3,rfl,-,-,-⟩:=(h2 3 _ _ rfl rfl).inv_sl
 obtain⟨a4,c4,rfl,-,-,-⟩:=(h2 4 _ _ rfl rfl).inv_sl
 obtain⟨a5,c5,rfl,-,-,-⟩:=(h2 5 _ _ rfl rfl).inv_sl
 obtain⟨a6,c6,rfl,-,-,-⟩:=(h2 6 _ _ rfl rfl).inv_sl
 obtain⟨a7,c7,rfl,-,-,-⟩:=(h2 7 _ _ rfl rfl).inv_sl
 simp only[Yc0]
 go_enter Tryz.func27,Tryz.ntmps27
 go_wp2_with fail
 go_loopw [36] (fun i wr => ∃ k : Nat, k ≤ 8 ∧ i = I k ∧ (([(e.m, 6), (e.h, 100), (e.s, 30), ((e.pl.length : Int), 100), ((e.mv.length : Int), 200), ((e.ce.length : Int), 100), ((e.re.length : Int), 30), ((e.pu.length : Int), 200)] : List (Int × Int)).take k).any (fun c => decide (c.1 > c.2)) = false ∧
     wr.heap[w.heap.size+1]? =some (.cells #[I e.m,I 6,I e.h,I 100,I e.s,I 30,I e.pl.length,I 100,I e.mv.length,I 200,I e.ce.length,I 100,I e.re.length,I 30,I e.pu.length,I 200] 128)∧Below w.heap.size w wr) (fun i _=>8-(intOf i).toNat)
 case atStart =>
  refine⟨0,by omega,rfl,rfl,?_,((Below.refl _ _).alloc (Ya4 _) _).alloc (by simp) _⟩
  rw[← World.size_alloc w]
  exact World.alloc_heap_new _ _
 case round =>
  obtain⟨k,hk,rfl,hg,hB,hb⟩:=hrel
  have hc0:=Zcq hB (2*k)
  have hc1:=Zcq hB (2*k+1)
  rcases(by omega:k=0∨k=1∨k=2∨k=3∨k=4∨k=5∨k=6∨k=7∨k=8)with rfl|rfl|rfl|rfl|rfl|rfl|rfl|rfl|rfl
  case inr.inr.inr.inr.inr.inr.inr.inr =>
   have hfu:Zc7 e=false:=by simp[Zc7]at hg ⊢;omega
   go_wp2_with fail
   rw[hfu]
   go_ret
   exact⟨_,rfl,hb,.v _⟩
  all_goals simp at hc0 hc1 hg
  ·by_cases hgt:e.m>6
   ·rw[show Zc7 e=true by simp[Zc7];omega]
    go_wp2_with fail
    go_ret
    exact⟨_,rfl,hb.alloc hb.size _,.v _⟩
   ·go_wp2_with fail
    exact⟨⟨1,by omega,rfl,by simp;omega,(Below.heap_alloc _ _ _ (Ya5.1 hB).1).trans hB,hb.alloc hb.size _⟩,by simp[intOf]⟩
  ·by_cases hgt:e.h>100
   ·rw[show Zc7 e=true by simp[Zc7];omega]
    go_wp2_with fail
    go_ret
    exact⟨_,rfl,hb.alloc hb.size _,.v _⟩
   ·go_wp2_with fail
    exact⟨⟨2,by omega,rfl,by simp;omega,(Below.heap_alloc _ _ _ (Ya5.1 hB).1).trans hB,hb.alloc hb.size _⟩,by simp[intOf]⟩
  ·by_cases hgt:e.s>30
   ·rw[show Zc7 e=true by simp[Zc7];omega]
    go_wp2_with fail
    go_ret
    exact⟨_,rfl,hb.alloc hb.size _,.v _⟩
   ·go_wp2_with fail
    exact⟨⟨3,by omega,rfl,by simp;omega,(Below.heap_alloc _ _ _ (Ya5.1 hB).1).trans hB,hb.alloc hb.size _⟩,by simp[intOf]⟩
  ·by_cases hgt:(e.pl.length:Int)>100
   ·rw[show Zc7 e=true by simp[Zc7];omega]
    go_wp2_with fail
    go_ret
    exact⟨_,rfl,hb.alloc hb.size _,.v _⟩
   ·go_wp2_with fail
    exact⟨⟨4,by omega,rfl,by simp;omega,(Below.heap_alloc _ _ _ (Ya5.1 hB).1).trans hB,hb.alloc hb.size _⟩,by simp[intOf]⟩
  ·by_cases hgt:(e.mv.length:Int)>200
   ·rw[show Zc7 e=true by simp[Zc7];omega]
    go_wp2_with fail
    go_ret
    exact⟨_,rfl,hb.alloc hb.size _,.v _⟩
   ·go_wp2_with fail
    exact⟨⟨5,by omega,rfl,by simp;omega,(Below.heap_alloc _ _ _ (Ya5.1 hB).1).trans hB,hb.alloc hb.size _⟩,by simp[intOf]⟩
  ·by_cases hgt:(e.ce.length:Int)>100
   ·rw[show Zc7 e=true by simp[Zc7];omega]
    go_wp2_with fail
    go_ret
    exact⟨_,rfl,hb.alloc hb.size _,.v _⟩
   ·go_wp2_with fail
    exact⟨⟨6,by omega,rfl,by simp;omega,(Below.heap_alloc _ _ _ (Ya5.1 hB).1).trans hB,hb.alloc hb.size _⟩,by simp[intOf]⟩
  ·by_cases hgt:(e.re.length:Int)>30
   ·rw[show Zc7 e=true by simp[Zc7];omega]
    go_wp2_with fail
    go_ret
    exact⟨_,rfl,hb.alloc hb.size _,.v _⟩
   ·go_wp2_with fail
    exact⟨⟨7,by omega,rfl,by simp;omega,(Below.heap_alloc _ _ _ (Ya5.1 hB).1).trans hB,hb.alloc hb.size _⟩,by simp[intOf]⟩
  ·by_cases hgt:(e.pu.length:Int)>200
   ·rw[show Zc7 e=true by simp[Zc7];omega]
    go_wp2_with fail
    go_ret
    exact⟨_,rfl,hb.alloc hb.size _,.v _⟩
   ·go_wp2_with fail
    exact⟨⟨8,by omega,rfl,by simp;omega,(Below.heap_alloc _ _ _ (Ya5.1 hB).1).trans hB,hb.alloc hb.size _⟩,by simp[intOf]⟩
end Go.Proofs.YtiincpioidnciaaGreat
