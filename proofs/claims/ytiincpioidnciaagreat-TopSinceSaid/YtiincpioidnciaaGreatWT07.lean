/-
  Histories of true masses as data; what the checker of histories says, and that the system of the evidence holds at what it accepts (plain).
-/
import Derived.Test.YtiincpioidnciaaGreatWLib
import Derived.Test.YtiincpioidnciaaGreatWT06
import Derived.Test.YtiincpioidnciaaGreatWT00
import Derived.Test.YtiincpioidnciaaGreatWT04
import Derived.Test.YtiincpioidnciaaGreatWT01
namespace Go.Proofs.YtiincpioidnciaaGreat
set_option linter.unusedVariables false
set_option linter.unusedSimpArgs false
set_option linter.unusedSectionVars false
open Go Go.RowKit
set_option maxRecDepth 100000
def stK(e:EvD)(x:Nat→Nat→Rat)(p:Int)(m:Nat):Nat→Rat
 | 0=>0
 | k+1=>stK e x p m k+(if (mvAt e k).t=p then x k m else if (mvAt e k).f=p then -(x k m)else 0)
def Zud(x:Nat→Nat→Rat)(i:Nat):Nat→Rat
 | 0=>0
 | M+1=>Zud x i M+x i M
structure HistOk (e:EvD) (x:Nat→Nat→Rat) (i:Nat):Prop where
 pos:∀ m,m<e.m.toNat→0≤x i m
 st:ZkF e i=false→∀ m,m<e.m.toNat→x i m≤stK e x (mvAt e i).f m i
 all:ZkF e i=false→(mvAt e i).a=true→∀ m,m<e.m.toNat→x i m=stK e x (mvAt e i).f m i
 iv:(ivE e (mvAt e i)).ok=true→qOf (ivE e (mvAt e i)).lo≤Zud x i e.m.toNat∧Zud x i e.m.toNat≤qOf (ivE e (mvAt e i)).hi
 pu:∀ p∈e.pu,p.v=i→(p.lo:Rat)*Zud x i e.m.toNat≤1000*x i p.m.toNat∧1000*x i p.m.toNat≤(p.hi:Rat)*Zud x i e.m.toNat
section
variable {e:EvD} {h:List (List Zaf)} (hM:0≤e.m) (hl:∀ l∈h,l.length=e.m.toNat) (hn:h.length=e.mv.length)
include hM hl hn
end
def Zcz(ns:List Nat→Bool)(m:Nat):Nat→List Nat
 | 0=>List.range m
 | i+1=>if ns ((Zcz ns m i).filter fun k=>k !=i)then(Zcz ns m i).filter fun k=>k !=i else Zcz ns m i
abbrev ZiU(ns:List Nat→Bool)(m i:Nat):List Nat:=(Zcz ns m i).filter fun k=>k !=i
abbrev ZfX(ns:List Nat→Bool)(m:Nat):List Nat:=Zcz ns m m
section
variable {ns:List Nat→Bool} {m:Nat}
theorem Zch(i:Nat):(ns (ZiU ns m i)=true∧Zcz ns m (i+1)=ZiU ns m i)∨(ns (ZiU ns m i)=false∧Zcz ns m (i+1)=Zcz ns m i):=by
 cases h:ns (ZiU ns m i)
 ·exact .inr ⟨rfl,by simp only[Zcz];rw[if_neg (by rw[h];decide)]⟩
 ·exact .inl ⟨rfl,by simp only[Zcz];rw[if_pos h]⟩
theorem Zqu(i k:Nat):k∈ZiU ns m i↔k∈Zcz ns m i∧k≠i:=by simp[ZiU]
theorem Zhv:∀ i k,k∈Zcz ns m i→k<m
 | 0,k,h=>by simpa[Zcz]using h
 | i+1,k,h=>by
   rcases Zch (ns:=ns) (m:=m) i with⟨_,e⟩|⟨_,e⟩
   ·rw[e,Zqu]at h;exact Zhv i k h.1
   ·rw[e]at h;exact Zhv i k h
theorem Zla:∀ i k,i≤k→k<m→k∈Zcz ns m i
 | 0,k,_,h=>by simpa[Zcz]using h
 | i+1,k,h1,h2=>by
   have ih:=Zla i k (by omega) h2
   rcases Zch (ns:=ns) (m:=m) i with⟨_,e⟩|⟨_,e⟩
   ·rw[e,Zqu];exact⟨ih,by omega⟩
   ·rw[e];exact ih
end
theorem Zqr(x:List Zaf):∀ (r:List RowD)(y:List Zaf),okP y=true→(∀ w∈r,0≤w.k∧w.k<3)→(r.zip y).all (fun p=>ZcM p.1 p.2)=true→(∀ p∈r.zip y,qOf p.2≠0→Zcc p.1 x=true)→mixV r y≤mixG (atP x) r y
 | [],y,_,_,_,_=>by rw[Zga,Zhr];exact Rat.le_refl
 | _ ::_,[],_,_,_,_=>by simp only[mixG,mixV];exact Rat.le_refl
 | w ::r,f ::y,ho,hk,hs,hh=>by
   simp only[okP,List.all_cons,Ya2]at ho
   simp only[List.zip_cons_cons,List.all_cons,Ya2]at hs
   have ih:=Zqr x r y ho.2 (fun u hu=>hk u (Yb6 _ hu)) hs.2 (fun p hp=>hh p (by rw[List.zip_cons_cons];exact Yb6 _ hp))
   simp only[mixG,mixV]
   by_cases h0:qOf f=0
   ·rw[h0];grind
   ·have h1:=ZmV ho.1 hs.1 (hk w Yb7).1 (hk w Yb7).2 (hh (w,f) (by rw[List.zip_cons_cons];exact Yb7) h0)
    rw[Zdr]at h1
    grind
theorem Zm7{s:SysD}{y x:List Zaf}(h:ZbM s y=true)(hl:(x.length:Int)=s.n)(ho:okP x=true)(hn:ZeH x=true):∃ p∈s.r.zip y,qOf p.2≠0∧Zcc p.1 x=false:=by
 refine Classical.byContradiction fun hno=>?_
 have hall:∀ p∈s.r.zip y,qOf p.2≠0→Zcc p.1 x=true:=fun p hp h0=>by
  cases hw:Zcc p.1 x
  ·exact absurd ⟨p,hp,h0,hw⟩ hno
  ·rfl
 simp only[ZbM,Ya2,decide_eq_true_eq]at h
 obtain⟨h1,h2⟩:=h
 rw[ZeJ h1,Zcw,gt_iff_lt,Zds]at h2
 obtain⟨g1,g2,g3⟩:=ZeK.1 h1
 simp only[Zcq,Ya2]at g1
 obtain⟨hr,hlen,hoy⟩:=ZcP.1 g1.1
 have a:=Zqr x s.r y hoy (fun w hw=>⟨(ZbC hr hw).2.1,(ZbC hr hw).2.2.1⟩) g1.2 hall
 have hg:=Zb6 g2
 have b:=Zoa (ZcG hr y) hg ((ZeZ (ZcG hr y) hg).1 g3) (fun v=>Zod ho hn v)
 rw[Zi7 hr]at b
 have c:dotS (atP x) ([]:List Zag)=0:=rfl
 grind
def Zbq(s:SysD)(rows:List Nat):SysD:=⟨s.n,rows.filterMap fun i=>s.r[i]?⟩
structure ZvG (s:SysD) (x:List Zaf):Prop where
 l:(x.length:Int)=s.n
 o:okP x=true
 n:ZeH x=true
theorem Zi2{s:SysD}{rows:List Nat}{w:RowD}:w∈(Zbq s rows).r↔∃ i∈rows,s.r[i]? =some w:=by simp[Zbq,List.mem_filterMap]
theorem ZlM(s:SysD)(rows:List Nat):(Zbq s rows).r.length≤rows.length:=List.length_filterMap_le _ _
theorem ZeG{s:SysD}{rows:List Nat}(hs:Zao s=true)(hl:rows.length≤6000):Zao (Zbq s rows)=true:=by
 have hn:=ZbL hs
 have h1:=ZlM s rows
 simp only[Zao,Ya2,decide_eq_true_eq]
 refine⟨⟨⟨hn.1,hn.2⟩,by omega⟩,Ya6.2 fun w hw=>?_⟩
 obtain⟨i,_,hi⟩:=Zi2.1 hw
 exact ZeA hs (Ya7 hi)
theorem ZkZ{s:SysD}{rows:List Nat}(hs:Zao s=true)(hl:rows.length≤6000)(x:List Zaf):ZaA (Zbq s rows) x=true↔ZvG s x∧∀ i∈rows,∀ w,s.r[i]? =some w→Zcc w x=true:=by
 rw[ZcH]
 constructor
 ·rintro⟨_,b,c,d,e⟩
  exact⟨⟨b,c,d⟩,fun i hi w hw=>Ya6.1 e w (Zi2.2 ⟨i,hi,hw⟩)⟩
 ·rintro⟨⟨b,c,d⟩,e⟩
  refine⟨ZeG hs hl,b,c,d,Ya6.2 fun w hw=>?_⟩
  obtain⟨i,hi,h⟩:=Zi2.1 hw
  exact e i hi w h
noncomputable def nsC (s:SysD) (rows:List Nat):Bool:=@decide (∀ x,ZvG s x→∃ i∈rows,∃ w,s.r[i]? =some w∧Zcc w x=false) (Classical.propDecidable _)
theorem Zh7{s:SysD}{rows:List Nat}:nsC s rows=true↔∀ x,ZvG s x→∃ i∈rows,∃ w,s.r[i]? =some w∧Zcc w x=false:=by unfold nsC;exact @decide_eq_true_iff _ (Classical.propDecidable _)
theorem ZwF(s:SysD)(l l':List Nat)(h:∀ k∈l,k∈l')(hn:nsC s l=true):nsC s l'=true :=
 Zh7.2 fun x hx=>by
  obtain⟨i,hi,w,h1,h2⟩:=Zh7.1 hn x hx
  exact⟨i,h i hi,w,h1,h2⟩
theorem ZwE{s:SysD}{rows:List Nat}(hs:Zao s=true)(hl:rows.length≤6000):nsC s rows=true↔∀ x,ZaA (Zbq s rows) x=false:=by
 rw[Zh7]
 constructor
 ·intro h x
  cases hx:ZaA (Zbq s rows) x
  ·rfl
  ·obtain⟨hb,hr⟩:=(ZkZ hs hl x).1 hx
   obtain⟨i,hi,w,h1,h2⟩:=h x hb
   rw[hr i hi w h1]at h2;cases h2
 ·intro h x hb
  refine Classical.byContradiction fun hno=>?_
  have:=(ZkZ hs hl x).2 ⟨hb,fun i hi w hw=>?_⟩
  ·rw[h x]at this;cases this
  ·cases hh:Zcc w x
   ·exact absurd ⟨i,hi,w,hw,hh⟩ hno
   ·rfl
theorem Zt3{s:SysD}(hs:Zao s=true):Zai [] s.n=true:=by
 have:=(ZbL hs).1
 simp only[Zai,Ya2,decide_eq_true_eq];exact⟨this,rfl⟩
theorem ZjT{s:SysD}{rows:List Nat}(hs:Zao s=true)(hl:rows.length≤6000):nsC s rows=true↔(Zax (Zbq s rows) []).k=1:=by
 have hp:=ZeG hs hl
 rw[ZwE hs hl]
 rcases Zgb (Zca hp (Zt3 hp))with⟨h,q,x,_,hx,_⟩|⟨h,hx⟩|⟨h,hx⟩
 ·rw[h]
  exact⟨fun h2=>absurd hx (by rw[h2 x];decide),fun h2=>absurd h2 (by decide)⟩
 ·exact⟨fun _=>h,fun _=>hx⟩
 ·obtain⟨x,hx,_⟩:=hx 0
  rw[h]
  exact⟨fun h2=>absurd hx (by rw[h2 x];decide),fun h2=>absurd h2 (by decide)⟩
def Zky(rows:List Nat)(y:List Zaf):List Nat:=(rows.zip y).filterMap fun p=>if qOf p.2=0 then none else some p.1
theorem ZpD{rows:List Nat}{y:List Zaf}{i:Nat}:i∈Zky rows y↔∃ f,(i,f)∈rows.zip y∧qOf f≠0:=by
 unfold Zky
 rw[List.mem_filterMap]
 constructor
 ·rintro⟨⟨j,f⟩,h1,h2⟩
  by_cases e:qOf f=0
  ·simp only[e,if_true]at h2;cases h2
  ·simp only[e,if_false,Ya1]at h2;subst h2;exact⟨f,h1,e⟩
 ·rintro⟨f,h1,h2⟩
  exact⟨(i,f),h1,by simp only[h2,if_false]⟩
theorem ZvJ{rows:List Nat}{y:List Zaf}{i:Nat}(h:i∈Zky rows y):i∈rows:=by
 obtain⟨f,h1,_⟩:=ZpD.1 h
 exact(List.of_mem_zip h1).1
theorem ZpA{s:SysD}:∀ {rows:List Nat} {y:List Zaf},(∀ i∈rows,i<s.r.length)→∀ p∈(Zbq s rows).r.zip y,∃ i,(i,p.2)∈rows.zip y∧s.r[i]? =some p.1
 | [],_,_,p,h=>by simp[Zbq]at h
 | i ::rows,y,hr,p,h=>by
   obtain⟨w,hw⟩:∃ e,s.r[i]? =some e:=⟨_,Ya0 (hr i (by simp))⟩
   have e:(Zbq s (i ::rows)).r=w ::(Zbq s rows).r:=by simp[Zbq,hw]
   rw[e]at h
   match y,h with
   | [],h=>simp at h
   | f ::y,h =>
     rw[List.zip_cons_cons]at h ⊢
     rcases List.mem_cons.1 h with rfl|h
     ·exact⟨i,by simp,hw⟩
     ·obtain⟨j,h1,h2⟩:=ZpA (fun k hk=>hr k (by simp[hk])) p h
      exact⟨j,Yb6 _ h1,h2⟩
theorem Zyz{s:SysD}{rows:List Nat}{y:List Zaf}(hr:∀ i∈rows,i<s.r.length)(h:ZbM (Zbq s rows) y=true):nsC s (Zky rows y)=true :=
 Zh7.2 fun x hb=>by
  obtain⟨p,hp,h1,h2⟩:=Zm7 h (x:=x) hb.l hb.o hb.n
  obtain⟨i,h3,h4⟩:=ZpA hr p hp
  exact⟨i,ZpD.2 ⟨p.2,h3,h1⟩,p.1,h4,h2⟩
theorem Zdo.symm{e u:EvD}(h:Zdo e u):Zdo u e:=⟨h.m.symm,h.pl.symm,h.pu.symm,h.n.symm,fun i=>(h.f i).symm,fun i=>(h.t i).symm,fun i=>(h.a i).symm⟩
theorem Zdo.trans{e u v:EvD}(h:Zdo e u)(k:Zdo u v):Zdo e v:=⟨h.m.trans k.m,h.pl.trans k.pl,h.pu.trans k.pu,h.n.trans k.n,fun i=>(h.f i).trans (k.f i),fun i=>(h.t i).trans (k.t i),fun i=>(h.a i).trans (k.a i)⟩
theorem Zj7(e:EvD)(S:List Int){i:Nat}(hi:i<e.mv.length):ivF (Zan e S) i=if (mvAt e i).s ≠ -1∧S.contains (mvAt e i).s=true then noI else ivE e (mvAt e i):=by
 unfold ivF
 rcases ZiA e S i with h|⟨_,h⟩
 ·rw[h];exact Zsc e S _
 ·omega
theorem ZrK{e:EvD}(S:List Int){x:MvD}(h:okMv e x=true):okMv (Zan e S) (ZeT S x)=true:=by
 unfold ZeT
 split
 ·unfold okMv at *
  simp only[Ya2]at h ⊢
  refine⟨h.1,h.2.1,h.2.2.1,h.2.2.2.1,h.2.2.2.2.1,h.2.2.2.2.2.1,h.2.2.2.2.2.2.1,?_⟩
  rw[if_pos True.intro];rfl
 ·exact h
theorem Zk5{e:EvD}(S:List Int):∀ (l:List MvD)(last:Int),ZcF e last l=0→ZcF (Zan e S) last (l.map (ZeT S))=0
 | [],_,_=>rfl
 | x ::l,last,h=>by
   rw[List.map_cons]
   unfold ZcF at h ⊢
   rw[(ZhH S x).2.2.2]
   split at h
   ·omega
   ·rename_i h1
    rw[if_neg h1]
    split at h
    ·rename_i h2
     rw[if_pos (ZrK S h2)]
     exact Zk5 S l _ h
    ·omega
theorem ZnL{e:EvD}(S:List Int)(h:Zcd e=0):Zcd (Zan e S)=0:=by
 unfold Zcd at h ⊢
 have hl:(Zan e S).mv.length=e.mv.length:=by simp[Zan]
 have h1:Zdq (Zan e S)=Zdq e:=by unfold Zdq;rw[hl];rfl
 have h2:argE (Zan e S)=argE e:=rfl
 have h3:Zfw (Zan e S)=Zfw e:=by unfold Zfw;rw[hl];rfl
 rw[h1,h2,h3]
 split at h
 ·omega
 rename_i a
 rw[if_neg a]
 split at h
 ·rename_i b
  rw[if_pos b]
  split at h
  ·rename_i c
   rw[if_pos (show ZcF (Zan e S) 0 (Zan e S).mv=0 from Zk5 S _ _ c)]
   exact h
  ·rename_i c;exact absurd h c
 ·omega
def ZbB(P:List Int→Bool):List Int→Nat→List Int→List (List Int)
 | [],0,c=>if P c then [c]else []
 | [],_+1,_=>[]
 | _ ::_,0,c=>if P c then [c]else []
 | s ::l,k+1,c=>ZbB P l k (c++[s])++ZbB P l (k+1) c
theorem ZfD(P:List Int→Bool)(l c:List Int):ZbB P l 0 c=if P c then [c]else []:=by cases l<;>rfl
def ZiH(P:List Int→Bool)(u:List Int)(k:Nat):Nat→List (List Int)
 | 0=>[]
 | n+1=>if (ZbB P u k []).length=0 then ZiH P u (k+1) n else ZbB P u k []
abbrev PosE(e:EvD):Prop:=∃ x,ZaA (sysE e) x=true
structure Zyp (e:EvD) (u:List Int):Prop where
 nd:u.Nodup
 mem:∀ s,s∈u↔s ≠ -1∧∃ x∈e.mv,x.s=s
section
variable {e:EvD} (R:Zfu e) {u:List Int} (U:Zyp e u) {P:List Int→Bool} (hP:∀ S,P S=true↔PosE (Zan e S)) (hno:¬ PosE e)
include R U hP hno
end
section
variable {s:SysD} {goal:List Zag}
end
section
variable {s:SysD} {l:List Nat} (hs:Zao s=true) (hr:∀ i∈l,i<s.r.length) (hl:l.length≤6000)
theorem Zqf:∀ {l:List Nat},(∀ i∈l,i<s.r.length)→∀ k:Nat,(Zbq s l).r[k]? =(l[k]?).bind fun i=>s.r[i]?
 | [],_,k=>by simp[Zbq]
 | i ::l,hr,k=>by
   obtain⟨w,hw⟩:∃ e,s.r[i]? =some e:=⟨_,Ya0 (hr i (by simp))⟩
   have e:(Zbq s (i ::l)).r=w ::(Zbq s l).r:=by simp[Zbq,hw]
   rw[e]
   cases k with
   | zero=>simp[hw]
   | succ k=>rw[List.getElem?_cons_succ,List.getElem?_cons_succ];exact Zqf (fun j hj=>hr j (by simp[hj])) k
theorem ZoU(hr:∀ i∈l,i<s.r.length):(Zbq s l).r.length=l.length:=by
 refine Nat.le_antisymm (ZlM s l) ?_
 refine Nat.le_of_not_lt fun h=>?_
 have h1:=Zqf hr (Zbq s l).r.length
 rw[List.getElem?_eq_none (Ya4 _),Ya0 h]at h1
 have h2:=hr _ (List.getElem_mem h)
 simp only[Option.bind_some]at h1
 rw[Ya0 h2]at h1
 cases h1
include hr
include hs hl
end
set_option maxHeartbeats 16000000
def ZkC(rows:List Int):Nat→Int
 | 0=> -1
 | k+1=>rows[k]?.getD 0
def Zoe(rows:List Int)(n:Int)(k:Nat):Bool:=decide (ZkC rows k<rows[k]?.getD 0)&&decide (rows[k]?.getD 0<n)
def ascR(rows:List Int)(n:Int):Bool:=(List.range rows.length).all (Zoe rows n)
theorem Ztq(rows:List Int)(n:Int)(hl:(rows.length:Int)≤1099511627776):Zaa Tryz.prog 143 [Zad rows,dI n] (dB (ascR rows n)):=by
 refine Zae.toN ?_ rfl
 have Zr:=Tryz.results143
 refine inC Tryz.func143 rfl Tryz.ntmps143 ?_
 refine aGo Zr ?_
 repeat with_reducible intro K hK
 have p0:ZkC rows 0 = -1:=rfl
 refine ZaH (fun(k:Nat)=>[(1,dI n),(5,dI (ZkC rows k)),(8,Zad rows),(9,dI rows.length),(10,dI k)]) (fun _=>[]) 0 0 (fun k=>k≤rows.length∧(List.range k).all (Zoe rows n)=true) (fun k=>rows.length-k) 0 ⟨by omega,rfl⟩ ?_ ?_
 ·exact leGo p0
 rintro k ⟨hk,hg⟩
 obtain⟨hw,h0⟩:=ZaS k
 by_cases h1:(k:Int)<rows.length
 ·obtain⟨x,hx⟩:=getE (l:=rows) (k:=k) (by omega)
  have ea:Zoe rows n k=(decide (ZkC rows k<x)&&decide (x<n)):=by unfold Zoe;rw[hx];rfl
  have bad:Zoe rows n k=false→D.v (.bool false)=dB (ascR rows n):=fun h=>Zaj (by
   unfold ascR
   exact(List.all_eq_false.2 ⟨k,Yd2.2 (by omega),by rw[h];decide⟩).symm)
  have pn:ZkC rows (k+1)=x:=by show rows[k]?.getD 0=x;rw[hx];rfl
  by_cases h2:x≤ZkC rows k
  ·refine aGo (cj4 Zr h0 h1 (cj3 hx hw h2)) ?_
   repeat with_reducible intro K hK
   exact bad (by rw[ea,decide_eq_false (by omega),Bool.false_and])
  by_cases h3:x≥n
  ·refine aGo (cj4 Zr h0 h1 (cj4 hx hw h2 h3)) ?_
   repeat with_reducible intro K hK
   exact bad (by rw[ea,decide_eq_false (p:=x<n) (by omega),Bool.and_false])
  refine aGo (cj4 Zr h0 h1 (cj4 hx hw h2 h3)) ?_
  repeat with_reducible intro K hK
  exact Zah (k+1) ⟨by omega,by
   rw[List.range_succ,List.all_append,hg,Bool.true_and]
   simp only[List.all_cons,List.all_nil,Bool.and_true]
   rw[ea,decide_eq_true (by omega),decide_eq_true (p:=x<n) (by omega)];rfl⟩ (by omega) (by exact leGo pn)
 ·obtain rfl:k=rows.length:=by omega
  refine aGo (cj2 Zr h1) ?_
  repeat with_reducible intro K hK
  exact Zaj hg.symm
theorem ZnI(f:Zaf)(hz:szF f≤262144):Zae Tryz.prog 184 [encF f] (encF f):=by
 have Zr:=Tryz.results184
 have hp:f.p.d.length≤262144:=by have:f.p.d.length≤szF f:=Nat.le_max_left _ _;omega
 have hq:f.q.d.length≤262144:=by have:f.q.d.length≤szF f:=Nat.le_max_right _ _;omega
 have k1:=Zhp f.p.d (by omega)
 have k2:=Zhp f.q.d (by omega)
 refine inC Tryz.func184 rfl Tryz.ntmps184 ?_
 exact aGo Zr trivial
theorem Zse:(Tryz.prog.info? 144).map (fun i=>(i.zero.map fun z=>z.cells.size,i.size,i.bytes))=some (some 5,5,72):=by kernel_rfl
theorem Zpe:∃ i z,Tryz.prog.info? 144=some i∧i.zero=some z∧i.size=5∧i.bytes=72∧z.cells.size=5:=by
 have h:=Zse
 cases hi:Tryz.prog.info? 144 with
 | none=>rw[hi]at h;cases h
 | some i =>
   rw[hi]at h
   simp only[Yd0,Ya1,Prod.mk.injEq]at h
   obtain⟨h1,h2,h3⟩:=h
   cases hz:i.zero with
   | none=>rw[hz]at h1;cases h1
   | some z=>rw[hz]at h1;exact⟨i,z,rfl,hz,h2,h3,by simpa using h1⟩
theorem Zu6:Zaa Tryz.prog 183 [.sl []] (.sl []):=by
 refine⟨⟨_,_,Tryz.func183,rfl,by kernel_rfl⟩,fun S w vs hf hvs=>?_⟩
 obtain⟨v,rfl,h1⟩:=ZrO hvs
 obtain⟨a,cap,rfl,hcap,_,_⟩:=h1.inv_sl
 obtain⟨i0,z,hi,hz0,hz1,hz2,hz3⟩:=Zpe
 have hnil:=fun(W:World) n c n' c'=>Lib.run_eql_slice_nil (P:=Tryz.prog) W 95 144 a n c n' c' Tryz.underlying95
 cases a with
 | none =>
   go_enter Tryz.func183,Tryz.ntmps183
   go_wp2_with fail
   go_ret
   exact⟨_,rfl,Below.refl _ _,.sl0 _ _ (by unfold maxLen;omega)⟩
 | some A =>
   go_enter Tryz.func183,Tryz.ntmps183
   go_wp2_with (at_builtin;refine Zc2 _ (by rfl) _ _ _ (by rfl) w.heap.size 144 i0 z 5 _ Tryz.underlying95 hi hz0 hz1 hz2 hz3 (by omega) _ 0 [] (by rfl) (World.ownsRow_made w #[] 0 (Ya4 _) (Yb0 _) (by simp)) (some A) 0 cap [] (by rfl) ⟨rfl,.inl rfl⟩ (by simp) (by unfold maxLen;omega) (by omega) (by simp) ?_;intro v' w1 hown hgrow hat)
   go_ret
   refine⟨_,rfl,?_,?_⟩
   ·exact((Below.refl _ _).alloc (Ya4 _) _).grown hgrow (by simp) (by intro k hk;simp[Value.ownBlock]at hk;omega)
   ·rcases hown.2 with⟨rfl,_⟩|⟨g,cap,cur,rfl,_,_,_,hc,_⟩
    ·exact .sl0 _ _ (by unfold maxLen;omega)
    ·exact .sl0 _ _ hc
theorem Zv2{l:List (List D)}{k:Nat}{e:List D}(h:l[k]? =some e):l.set k e=l:=by
 refine List.ext_getElem? fun i=>?_
 by_cases hi:k=i
 ·subst hi;rw[List.getElem?_set_self (Ya3.1 h).1,h]
 ·rw[List.getElem?_set_ne hi]
theorem Zsr(w:RowD)(hl:w.t.length≤64)(hv:szF w.v≤262144)(ht:∀ t∈w.t,szF t.f≤262144):Zae Tryz.prog 144 [encW w] (encW w):=by
 have Zr:=Tryz.results144
 have hresC:=Tryz.results183
 obtain⟨t,wk,wv⟩:=w
 have kv:=ZnI wv hv
 simp only at hl ht
 match t,hl,ht with
 | [],hl,ht =>
   have kc:=Zu6
   refine inC Tryz.func144 rfl Tryz.ntmps144 ?_
   refine aGo Zr ?_
   repeat with_reducible intro K hK
   refine ZaH (fun(_:Nat)=>[(1,.lp 0 0 0 0),(2,.lp 1 0 0 0),(10,.sl []),(11,dI 0),(12,dI 0)]) (fun _=>[(0,⟨175,0,6,[cW ⟨[],wk,wv⟩],0,false⟩),(1,⟨175,0,6,[[.nil,dI 0,dI 0,.nil,dI 0,.nil]],0,false⟩)]) 2 0 (fun _=>True) (fun _=>0) 0 trivial ?_ ?_
   ·exact leGo trivial
   rintro _ _
   refine aGo Zr ?_
   repeat with_reducible intro K hK
   rfl
 | t0 ::t,hl,ht =>
   obtain⟨T,eT⟩:∃ T,t0 ::t=T:=⟨_,rfl⟩
   rw[eT]at hl ht ⊢
   obtain⟨c0,cs,ec⟩:∃ c0 cs,T.map cT=c0 ::cs:=⟨_,_,by rw[← eT];rfl⟩
   have lT:(c0 ::cs).length=T.length:=by rw[← ec,Yc0]
   have lT':cs.length+1=T.length:=lT
   have e1:Zbr T = .sl (c0 ::cs):=by show D.sl (T.map cT)=_;rw[ec]
   have e2:List.map (List.map datJ) (c0 ::cs)=c0 ::cs:=by rw[← ec];exact ZaF (f:=cT) (g:=datJ) (fun _=>rfl) _
   have hb:((T.length:Nat):Int)*72≤140737488355328:=by omega
   have hb2:((T.length:Nat):Int)≤64:=by omega
   refine inC Tryz.func144 rfl Tryz.ntmps144 ?_
   refine aGo (cj2 Zr e1) ?_
   repeat with_reducible intro K hK
   refine ZcV Tryz.func183 rfl (by kernel_rfl) (by kernel_rfl) (by kernel_rfl) ?_
   rw[Tryz.ntmps183]
   refine aGo (cj4 hresC hb hb2 (cj3 e1 e2 lT')) ?_
   repeat with_reducible intro K hK
   have hcell:∀ x∈c0 ::cs,x.length=5∧x.all D.isCell=true:=by
    rw[← ec]
    intro x hx
    obtain⟨u,_,rfl⟩:=Yc6.1 hx
    exact⟨rfl,rfl⟩
   refine⟨⟨⟨hcell c0 (by simp),fun x hx=>hcell x (by simp[hx])⟩,by omega⟩,?_⟩
   refine aGo (cj3 Zr hresC lT') ?_
   repeat with_reducible intro K hK
   refine ZaH (fun(k:Nat)=>[(1,.lp 0 0 0 0),(2,.lp 1 0 0 0),(10,.ls 2 1),(11,dI T.length),(12,dI k)]) (fun _=>[(0,⟨175,0,6,[.ls 2 1 ::dI wk ::cF wv],0,false⟩),(1,⟨175,0,6,[[.nil,dI 0,dI 0,.nil,dI 0,.nil]],0,false⟩),(2,⟨144,1,5,T.map cT,0,false⟩)]) 3 0 (fun k=>k≤T.length) (fun k=>T.length-k) 0 (by omega) ?_ ?_
   ·have ec':=ec.symm
    exact leGo ec'
   rintro k hk
   obtain⟨hw,h0⟩:=ZaS k
   have kz:(0:Nat)≤k:=Yb0 _
   by_cases h1:(k:Int)<T.length
   ·obtain⟨x,hx⟩:=getE (l:=T) (k:=k) (by omega)
    have kx:=ZnI x.f (ht x (ZaJ hx))
    have hs1:(T.map cT).set k (dI x.v ::cF x.f)=T.map cT:=Zv2 (by rw[Yb8,hx];rfl)
    refine aGo (cj4 Zr h0 kz (cj4 h1 hw hx hs1)) ?_
    repeat with_reducible intro K hK
    exact Zah (k+1) (by omega) (by omega) (by exact leGo trivial)
   ·obtain rfl:k=T.length:=by omega
    refine aGo (cj2 Zr h1) ?_
    repeat with_reducible intro K hK
    rw[ZaF (fun _=>rfl)]
def Zqg(s:SysD)(rows:List Int):SysD:=if Zao s&&ascR rows s.r.length then Zbq s (rows.map Int.toNat)else⟨0,[]⟩
theorem Zrb{rows:List Int}{n:Int}(h:ascR rows n=true):∀ (k:Nat)(x:Int),rows[k]? =some x→(k:Int)≤x∧x<n
 | 0,x,hx=>by
   have:=Ya6.1 h 0 (Yd2.2 (Ya3.1 hx).1)
   simp only[Zoe,ZkC,hx,Option.getD_some,Ya2,decide_eq_true_eq]at this
   omega
 | k+1,x,hx=>by
   have hk:=(Ya3.1 hx).1
   obtain⟨y,hy⟩:=getE (l:=rows) (k:=k) (by omega)
   have ih:=Zrb h k y hy
   have:=Ya6.1 h (k+1) (Yd2.2 hk)
   simp only[Zoe,ZkC,hx,hy,Option.getD_some,Ya2,decide_eq_true_eq]at this
   push_cast
   omega
theorem Zmu{rows:List Int}{n:Nat}(h:ascR rows n=true):rows.length≤n:=by
 rcases Nat.eq_zero_or_pos rows.length with h0|h0
 ·omega
 ·obtain⟨x,hx⟩:=getE (l:=rows) (k:=rows.length-1) (by omega)
  have:=Zrb h _ x hx
  omega
structure Sm12 (s:SysD):Prop where
 sm:smS s
 l:s.r.length≤64
 w:∀ w∈s.r,w.t.length≤64∧szF w.v≤262144∧∀ t∈w.t,szF t.f≤262144
theorem Zwp(s:SysD)(rows:List Int)(h:Sm12 s)(hl:(rows.length:Int)≤1099511627776):Zae Tryz.prog 103 [encS s,Zad rows] (encS (Zqg s rows)):=by
 have Zr:=Tryz.results103
 have q1:=ZdR s h.sm
 have q2:=Ztq rows s.r.length hl
 unfold Zqg
 cases h1:Zao s
 ·rw[h1]at q1
  refine inC Tryz.func103 rfl Tryz.ntmps103 ?_
  refine aGo Zr ?_
  repeat with_reducible intro K hK
  rfl
 rw[h1]at q1
 cases h2:ascR rows s.r.length
 ·rw[h2]at q2
  refine inC Tryz.func103 rfl Tryz.ntmps103 ?_
  refine aGo Zr ?_
  repeat with_reducible intro K hK
  rfl
 rw[h2]at q2
 rw[Bool.and_self,if_pos rfl]
 have hl2:=Zmu h2
 have hL:=h.l
 obtain⟨F,hF⟩:∃ F:Nat→List RowD,F=fun k=>(Zbq s ((rows.take k).map Int.toNat)).r:=⟨_,rfl⟩
 have F0:F 0=[]:=by rw[hF];rfl
 have Fs:∀ k i w,rows[k]? =some i→s.r[i.toNat]? =some w→F (k+1)=F k++[w]:=fun k i w hi hw=>by
  rw[hF]
  simp only[Zbq]
  rw[Yb4,hi]
  simp[hw]
 have Fe:Zbq s (rows.map Int.toNat)=⟨s.n,F rows.length⟩:=by rw[hF];simp only[Zbq];rw[Ya8 (Ya4 _)]
 rw[Fe]
 refine inC Tryz.func103 rfl Tryz.ntmps103 ?_
 refine aGo Zr ?_
 repeat with_reducible intro K hK
 clear q1 q2
 refine aLe (Zdz (b:=⟨88,0,2,[[dI s.n,.nil]],0,false⟩) (e:=[dI s.n,.nil]) 2 0 1 175 6 rfl rfl rfl) ?_
 refine ZaH (fun(k:Nat)=>[(2,.lp 0 0 0 0),(4,.lp 1 0 0 0),(5,.lp 2 0 0 0),(23,Zad rows),(24,dI rows.length),(25,dI k)])
  (fun k=>[(0,⟨88,0,2,[cS s],0,false⟩),(1,⟨88,0,2,[[dI 0,.nil]],0,false⟩),(2,⟨88,0,2,[[dI s.n,.ls 3 k]],0,false⟩),(3,⟨175,k,6,(F k).map cW,0,false⟩)]) 4 0 (fun k=>k≤rows.length∧(F k).length=k) (fun k=>rows.length-k) 0 ⟨by omega,by rw[F0];rfl⟩ ?_ ?_
 ·exact leGo F0
 rintro k ⟨hk,hf⟩
 obtain⟨hw,h0⟩:=ZaS k
 by_cases h3:(k:Int)<rows.length
 ·obtain⟨i,hi⟩:=getE (l:=rows) (k:=k) (by omega)
  have hib:=Zrb h2 k i hi
  obtain⟨j,rfl⟩:=Int.eq_ofNat_of_zero_le (show 0≤i by omega)
  have j0:(0:Int)≤j:=by omega
  have j1:(j:Int)<s.r.length:=by omega
  obtain⟨w,hw2⟩:=getE (l:=s.r) (k:=j) (by omega)
  obtain⟨w1,w2,w3⟩:=h.w w (ZaJ hw2)
  have q3:=Zsr w w1 w2 w3
  have F1:=Fs k j w hi hw2
  refine aGo (cj4 Zr h0 j0 (cj4 h3 j1 hi (cj3 hw2 hw hf))) ?_
  repeat with_reducible intro K hK
  exact Zah (k+1) ⟨by omega,by rw[F1,Yb9,hf];rfl⟩ (by omega) (by exact leGo F1)
 ·obtain rfl:k=rows.length:=by omega
  refine aLe (ZgQ 3 rfl) (aLe (ZqB 2 4 rfl) ?_)
  simp only[go_sem,fzT]
  refine aGo (cj2 Zr h3) ?_
  repeat with_reducible intro K hK
  rw[ZaF (fun _=>rfl)]
section
variable [Ifl]
theorem Zz8{n rid:Nat}{Q:Exit→St→Prop}{s:St}{o1 o2 o3 o4:Oper}{id ver i:Nat}{es:List (List D)}
 (g1:o1.guard=none) (g2:o2.guard=none) (g3:o3.guard=none) (g4:o4.guard=none)
 (d1:o1.dst=some 36) (d2:o2.dst=some 37) (d3:o3.dst=some 38) (d4:o4.dst=none)
 (p1:o1.op = .move (.tmp 0)) (p2:o2.op = .move (.tmp 5)) (p3:o3.op = .slice 31 (.tmp 36) (some (.tmp 37)) none none)
 (p4:o4.op = .call {callee:=.builtin .clear,args:=#[.tmp 38],argTypes:=#[31]})
 (hf1:Zbz n o1=true) (hf2:Zbz n o2=true) (hn:38<n) (h0:s.t 0 = .ls id ver) (h5:s.t 5=dI i) (hm:s.m id=some ⟨3,ver,1,es,0,false⟩) (hi:es.length=i+1)
 (hQ:Q .normal {s with t:=upd (upd (upd s.t 36 (.ls id ver)) 37 (dI i)) 38 .junk,m:=upd s.m id (some ⟨3,ver,1,es.set i [dI 0],0,false⟩)}) :
 AWP Tryz.prog n (.region rid #[o1,o2,o3,o4] false) Q s:=by
 intro E B β a w hr
 refine wp_region_lit (l:=[o1,o2,o3,o4]) ?_
 -- the two moves
 refine wpList_plain g1 fun K1 hK1=>Zni (K:=fun s'=>s'={s with t:=upd s.t 36 (.ls id ver)}) hf1 hr ?_ ?_
 ·unfold opA
  rw[p1,d1]
  simp only[opF,rd,h0,Res.pure,putT,ov,List.length_nil,Nat.add_zero]
  exact⟨trivial,.inl trivial,trivial⟩
 rintro s1 β1 a1 w1 r1 rfl
 refine hK1 _ _ (wpList_plain g2 fun K2 hK2=>Zni (K:=fun s'=>s'={s with t:=upd (upd s.t 36 (.ls id ver)) 37 (dI i)}) hf2 r1 ?_ ?_)
 ·unfold opA
  rw[p2,d2]
  simp only[opF,rd,Res.pure,putT,ov,List.length_nil,Nat.add_zero,Zab s.t (D.ls id ver) (show(5:Nat)≠36 by decide),h5]
  exact⟨trivial,.inl trivial,trivial⟩
 rintro s2 β2 a2 w2 r2 rfl
 refine hK2 _ _ ?_
 -- the slice
 have t36:Rep β2 s.m (safe E β2 s.m) w2 (a2.eval (.tmp 36)) (.ls id ver):=r2.tmp 36 (by omega)
 have t37:Rep β2 s.m (safe E β2 s.m) w2 (a2.eval (.tmp 37)) (dI i):=r2.tmp 37 (by omega)
 have e37:=t37.inv_v
 obtain⟨A,nn,cap,blk,e36,hb,hv,hcase⟩:=t36.inv_ls
 rw[hm]at hb
 obtain rfl:=Option.some.inj hb
 obtain⟨c1,c2,c3,c4⟩:=hcase rfl
 simp only at c1 c4
 obtain⟨b,hbe,rfl,hcap⟩:∃ b,β2 id=some b∧A=some ⟨b,0,none⟩∧Zd7 w2 b (cap*1):=by
  rcases c4 with⟨h,_⟩|h
  ·have:=r2.mem.non id _ hm h
   simp only at this
   rw[this]at hi;simp at hi
  ·exact h
 obtain⟨_,cs,hcs,hlen,hcell⟩:=r2.mem.row id _ b hm hbe
 simp only[Nat.mul_one]at hlen hcell hcap
 have hlen':es.length≤cs.size:=hlen
 obtain⟨cs',T',fr',hcs',hsz⟩:=hcap
 rw[hcs]at hcs'
 cases hcs'
 obtain⟨i0,hinf,hz0,hz1,hz2⟩:=Zkd
 have hrb:=Zh3 (P:=Tryz.prog) (w:=w2) true nn cap i nn (some (.int .i64 i)) none (.inr ⟨_,rfl⟩) (.inl ⟨rfl,rfl⟩) (by omega) (by omega) (by omega) (by omega)
 have he3:execOp a2.eval o3=(do pure (.value (← Instr.sliceAt 31 (a2.eval (.tmp 36)) (some (a2.eval (.tmp 37))) none none))):=by unfold execOp;rw[p3];rfl
 have hsl:(Instr.sliceAt 31 (a2.eval (.tmp 36)) (some (a2.eval (.tmp 37))) none none).run Tryz.prog w2 = .ok (.slice (if cap=i then some ⟨b,0,none⟩else some ⟨b,i,none⟩) (nn-i) (cap-i)) w2:=by
  rw[e36,e37]
  unfold Instr.sliceAt
  simp only[Sem.run_bind,run_underlying Tryz.underlying31,Result.andThen_ok]
  unfold Instr.slice
  simp only[Sem.run_bind,run_underlying Tryz.underlying31,Result.andThen_ok,hrb]
  simp[sizeOf,typeInfo,hinf,hz1,Addr.add]
  by_cases hi0:i=0
  ·subst hi0;split<;>rfl
  ·rw[if_neg hi0]
 have hci:cap≠i:=by omega
 rw[if_neg hci,show nn-i=1 by omega]at hsl
 refine wpList_plain g3 fun K3 hK3=>?_
 unfold Oper.wp
 rw[show(execOp a2.eval o3).run Tryz.prog w2 = .ok (.value (.slice (some ⟨b,i,none⟩) 1 (cap-i))) w2 by rw[he3];simp[hsl]]
 show K3 (a2.put o3.dst (.slice (some ⟨b,i,none⟩) 1 (cap-i))) w2
 refine hK3 _ _ ?_
 obtain⟨β3,r3⟩:=r2.put (dst:=o3.dst) (ZbU.same r2.mem (.junk (.slice (some ⟨b,i,none⟩) 1 (cap-i))))
 have e38:(a2.put o3.dst (.slice (some ⟨b,i,none⟩) 1 (cap-i))).eval (.tmp 38) = .slice (some ⟨b,i,none⟩) 1 (cap-i):=by
  rw[eval_put (by rw[r2.width];exact hn),d3,if_pos rfl]
 have e36':(a2.put o3.dst (.slice (some ⟨b,i,none⟩) 1 (cap-i))).eval (.tmp 36) = .slice (some ⟨b,0,none⟩) nn cap:=by
  rw[eval_put (k:=36) (by rw[r2.width];exact Nat.lt_trans (by decide) hn),d3,if_neg (by decide)];exact e36
 generalize a2.put o3.dst (.slice (some ⟨b,i,none⟩) 1 (cap-i))=a3 at r3 e38 e36' ⊢
 rw[d3]at r3
 -- clear
 have hcl:=Lib.run_clear_slice (P:=Tryz.prog) w2 31 3 o4.type (.int .i64 0) Tryz.underlying31 (fun w=>by simp[zeroValue,typeInfo,hinf,hz0]) rfl rfl b i 1 (cap-i) (by omega)
  (fun j hj => by obtain rfl : j = 0 := by omega
                  rw[Nat.add_zero,Zcr hcs];simp;omega)
  (fun j hj=>by simp[World.frozen?,hcs])
 have e4:(execOp a3.eval o4).run Tryz.prog w2 = .ok (.value (.tuple #[])) (w2.setCells b i [.int .i64 0]):=by
  unfold execOp
  rw[p4]
  simp[resolve,invoke,builtin,e38,hcl]
 refine wpList_plain g4 fun K4 hK4=>?_
 unfold Oper.wp
 rw[e4]
 show K4 (a3.put o4.dst (.tuple #[])) (w2.setCells b i [.int .i64 0])
 refine hK4 _ _ ?_
 -- the store that does the same
 have hty:=ty_3
 have hb3:β3 id=some b:=by
  have t36:Rep β3 s.m (safe E β3 s.m) w2 (a3.eval (.tmp 36)) (.ls id ver):=r3.tmp 36 (by omega)
  rw[e36']at t36
  obtain⟨A,n',cap',blk,e,hb,hv,hcase⟩:=t36.inv_ls
  rw[hm]at hb
  obtain rfl:=Option.some.inj hb
  obtain⟨_,_,_,c4⟩:=hcase rfl
  rcases c4 with⟨_,h,_⟩|⟨b',h1,h2,_⟩
  ·subst h;cases e
  ·subst h2;cases e;exact h1
 have hlp:Rep β3 s.m (safe E β3 s.m) w2 (.pointer (some ⟨b,i,none⟩)) (.lp id ver i 0):=.lp b i id ver i 0 _ hm (Ya4 _) (fun _=>⟨hb3,by simp⟩)
 obtain⟨e0,he0⟩:=getE (l:=es) (k:=i) (by omega)
 have h01:e0.length=1:=r3.mem.wid id _ hm i e0 he0
 have hspl:Zc6 e0 0 [dI 0]=[dI 0]:=by
  match e0,h01 with
  | [x],_=>rfl
 obtain⟨w',hs,ha⟩:=ZmO (r:=⟨True,.v undef,[id],[(id,⟨3,ver,1,es.set i [dI 0],0,false⟩)],[]⟩) hty r3.mem hlp (.v (.int .i64 0)) (by
  have hbk:ZbJ s.m id ver=some ⟨3,ver,1,es,0,false⟩:=by unfold ZbJ;rw[hm];exact if_pos rfl
  unfold ZgA
  simp only[D.cells?,Value.oneCell',if_true]
  rw[hbk]
  simp only[he0,hspl]
  rw[if_pos ⟨trivial,rfl,rfl,Yb0 _,by simp[h01]⟩])
 have hst:(Instr.storeAt 3 (.pointer (some ⟨b,i,none⟩)) (.int .i64 0)).run Tryz.prog w2 = .ok () (w2.setCells b i [.int .i64 0]):=by
  have hc:=run_storeCells_cells (P:=Tryz.prog) b i [.int .i64 0] 0 w2 (fun j hj=>by
   obtain rfl:j=0:=by simp at hj;omega
   simp only[Nat.add_zero];rw[Zcr hcs];simp;omega) (fun j hj=>by simp[World.frozen?,hcs]) (by simp[Value.oneCell'])
  unfold Instr.storeAt Instr.sureAddr storeVar
  simp[sizeOf,typeInfo,hinf,hz1,Value.cells]
  simpa using hc
 rw[hst]at hs
 obtain rfl:w2.setCells b i [.int .i64 0]=w':=by simpa using hs
 have ha':ZbU E β3 s.m s.nx w2 (upd s.m id (some ⟨3,ver,1,es.set i [dI 0],0,false⟩)) (.tuple #[]) .junk (w2.setCells b i [.int .i64 0]):=by
  obtain⟨β',x1,x2,x3,_⟩:=ha
  exact⟨β',x1,x2,x3,.junk _⟩
 obtain⟨β4,r4⟩:=r3.put (dst:=o4.dst) ha'
 rw[d4]at r4
 refine wpList_nil ?_
 rw[d4]
 exact⟨_,β4,r4,hQ⟩
end
abbrev ints(L:List Nat):List Int:=L.map fun(i:Nat)=>(i:Int)
theorem ZwX(L:List Nat):(ints L).map Int.toNat=L:=by
 rw[List.map_map]
 exact map_map_id0 L
where map_map_id0:∀ L:List Nat,L.map (Int.toNat∘fun(i:Nat)=>(i:Int))=L
 | []=>rfl
 | i ::L=>by simp only[List.map_cons,map_map_id0 L];rfl
def hasI(l:List Int)(x:Int):Bool:= !l.all (fun y=>x !=y)
theorem ZqI{l:List Int}{x:Int}:hasI l x=true↔x∈l:=by
 unfold hasI
 rw[Bool.not_eq_true',List.all_eq_false]
 constructor
 ·rintro⟨y,hy,h⟩
  have:x=y:=by simpa using h
  rw[this];exact hy
 ·intro h
  exact⟨x,h,by simp⟩
theorem Zuv{L:List Nat}{i:Nat}:hasI (ints L) i=true↔i∈L:=by
 rw[ZqI,Yc6]
 constructor
 ·rintro⟨a,h,e⟩
  have:a=i:=by exact_mod_cast e
  rw[← this];exact h
 ·exact fun h=>⟨i,h,rfl⟩
def Zke(l:List Int)(x:Int):Int:=if l.all (fun y=>x !=y)then -1 else l.findIdx (fun y=> !(x !=y))
theorem ZBo(l:List Int)(x:Int):decide (Zke l x≥0)=hasI l x:=by
 unfold Zke hasI
 cases l.all fun y=>x !=y
 ·simp only[Bool.false_eq_true,if_false,Bool.not_false];exact decide_eq_true (by omega)
 ·rfl
theorem Zut(l:List Int)(x:Int)(hl:(l.length:Int)≤1099511627776):Zaa Tryz.prog 76 [Zad l,dI x] (dI (Zke l x)):=by
 refine Zae.toN ?_ rfl
 refine inC Tryz.func76 rfl Tryz.ntmps76 ?_
 have Zr:=Tryz.results76
 refine aGo Zr ?_
 repeat with_reducible intro K hK
 refine ZaH (fun(k:Nat)=>[(0,Zad l),(1,dI x),(7,dI l.length),(8,dI k)]) (fun _=>[]) 0 0 (fun k=>k≤l.length∧(l.take k).all (fun y=>x !=y)=true) (fun k=>l.length-k) 0 ⟨by omega,rfl⟩ ?_ ?_
 ·exact leGo trivial
 rintro k ⟨hk,hn⟩
 obtain⟨hw,h0⟩:=ZaS k
 by_cases h1:(k:Int)<l.length
 ·obtain⟨y,hx⟩:=getE (l:=l) (k:=k) (by omega)
  cases h2:(x==y)
  ·refine aGo (cj4 Zr h0 h1 (cj3 hx hw h2)) ?_
   repeat with_reducible intro K hK
   exact Zah (k+1) ⟨by omega,ZaG hx hn (by simp[bne,h2])⟩ (by omega) (by exact leGo trivial)
  ·have hx2:(fun y=>x !=y) y=false:=by simp[bne,h2]
   refine aGo (cj4 Zr h0 h1 (cj3 hx hw h2)) ?_
   repeat with_reducible intro K hK
   have:Zke l x=k:=by
    have h3:l.all (fun y=>x !=y)=false:=ZcD hx hx2
    unfold Zke
    rw[h3,ZgZ hx hn hx2];rfl
   rw[this]
 ·refine aGo (cj2 Zr h1) ?_
  repeat with_reducible intro K hK
  rw[Ya8 (by omega)]at hn
  have:Zke l x = -1:=by unfold Zke;rw[hn];rfl
  rw[this]
theorem ZiK(l:List Int)(x:Int)(hl:(l.length:Int)≤1099511627776):Zaa Tryz.prog 43 [Zad l,dI x] (dB (hasI l x)):=by
 refine Zae.toN ?_ rfl
 refine inC Tryz.func43 rfl Tryz.ntmps43 ?_
 have Zr:=Tryz.results43
 have hc:=Zut l x hl
 refine aGo Zr ?_
 repeat with_reducible intro K hK
 exact Zaj (ZBo _ _)
structure Conf (s:SysD):Prop where
 r:Zao s=true
 n:s.n≤8
 l:s.r.length≤32
 w:∀ w∈s.r,w.t.length≤8∧szF w.v≤3∧∀ t∈w.t,szF t.f≤3
theorem Zkg:Dic.grow 3 8=218453:=rfl
section
variable {s:SysD} (c:Conf s)
include c
theorem Conf.fit{L:List Nat}(hl:L.length≤32):Fit (Zbq s L) [] 3 8:=by
 have:=ZlM s L
 refine⟨by omega,fun _=>by have:=c.n;show s.n≤16;omega,fun _=>.inl (by have:=c.n;show s.n≤8;omega),fun w hw=>?_,⟨by simp,fun t ht=>by cases ht⟩,by decide,by rw[Zkg];decide⟩
 obtain⟨i,_,hi⟩:=Zi2.1 hw
 have:=c.w w (Ya7 hi)
 exact⟨by omega,this.2⟩
theorem Conf.fit0:Fit s [] 3 8 :=
 ⟨c.l,fun _=>by have:=c.n;omega,fun _=>.inl (by have:=c.n;omega),fun w hw=>by have:=c.w w hw;exact⟨by omega,this.2⟩,⟨by simp,fun t ht=>by cases ht⟩,by decide,by rw[Zkg];decide⟩
theorem Conf.sm:Sm12 s:=⟨c.fit0.tn.sm,by have:=c.l;omega,fun w hw=>by have:=c.w w hw;exact⟨by omega,by omega,fun t ht=>by have:=this.2.2 t ht;omega⟩⟩
theorem Conf.ysz{L:List Nat}(hl:L.length≤32):∀ f∈(Zax (Zbq s L) []).y,szF f≤2000000:=by
 have hp:=ZeG c.r (rows:=L) (by omega)
 have h:=c.fit hl
 have hn0:=(ZbL hp).1
 have hn:(Zbq s L).n.toNat≤8:=by have:=c.n;show s.n.toNat≤8;omega
 have hg:=Zez hp
 generalize Zbq s L=u at hp h hn0 hn hg
 have nil:∀ f∈([]:List Zaf),szF f≤2000000:=fun f hf=>by cases hf
 have ref:∀ r,r<(fin u []).m→∀ f∈Zal u.r.length (refK (fin u []) (Zbo u []) r u.n.toNat),szF f≤2000000:=by
  intro r hrm f hf
  obtain⟨v,_,rfl⟩:=ZeP hf
  have:=Zm9 (fin u []) (Zbo u []) r (B:=Dic.grow 3 8) (by rw[Zkg];decide) (fun j hj=>(Zcv h hp hg).a r j hrm hj) u.n.toNat (by rw[ZcK];exact Ya4 _) v
  rw[Zkg]at this
  have hm:=Nat.mul_le_mul_right (218453+1) (show u.n.toNat+1≤9 by omega)
  show szQ _≤_
  omega
 unfold Zax
 cases hnx:next (fin u [])with
 | ex r c=>exact nil
 | best =>
   intro f hf
   obtain⟨v,_,rfl⟩:=ZeP hf
   have:=Zhg (fin u []) (Zbo u []) (B:=Dic.grow 3 8) (ZBy h hp hg) u.n.toNat (by rw[ZcK];exact Ya4 _) v
   rw[Zkg]at this
   have hm:=Nat.mul_le_mul_right (218453+1) (show u.n.toNat+1≤9 by omega)
   show szQ _≤_
   omega
 | row r=>exact ref r (ZdN hnx).1
 | col c=>exact nil
end
theorem Zmv{L:List Nat}{n:Nat}(h:ascR (ints L) n=true):L.length≤n∧∀ i∈L,i<n:=by
 have h1:=Zmu h
 simp only[ints,Yc0]at h1
 refine⟨h1,fun i hi=>?_⟩
 obtain⟨k,hk⟩:=List.getElem?_of_mem hi
 have:=Zrb h k i (by rw[Yb8,hk];rfl)
 omega
noncomputable def refU (s:SysD) (L:List Nat):List Nat:=if nsC s L then Zky L (Zax (Zbq s L) []).y else []
theorem ZoV{s:SysD}(hs:Zao s=true){L:List Nat}(ha:ascR (ints L) s.r.length=true):Zqg s (ints L)=Zbq s L:=by
 unfold Zqg;rw[hs,ha,ZwX];rfl
theorem ZjH(s:SysD)(c:Conf s)(L:List Nat)(ha:ascR (ints L) s.r.length=true):Zae Tryz.prog 68 [encS s,Zad (ints L)] (.tup [Zad (ints (refU s L)),dB (nsC s L)]):=by
 have Zr:=Tryz.results68
 obtain⟨hl,hlt⟩:=Zmv ha
 have h8:=c.l
 have q1:=Zwp s (ints L) (c.sm) (by simp[ints];omega)
 rw[ZoV c.r ha]at q1
 have hp:=ZeG c.r (rows:=L) (by omega)
 have q2:=ZrA (Zbq s L) (c.fit (L:=L) (by omega))
 cases hn:nsC s L
 ·have hk:(Zax (Zbq s L) []).k≠1:=fun h=>by rw[(ZjT c.r (by omega)).2 h]at hn;cases hn
  rw[show solD (Zbq s L)=((Zax (Zbq s L) []).x,[],true) by unfold solD;rw[hp,if_pos rfl,if_neg hk]]at q2
  rw[show refU s L=[] by unfold refU;rw[hn];rfl]
  refine inC Tryz.func68 rfl Tryz.ntmps68 ?_
  refine aGo Zr ?_
  repeat with_reducible intro K hK
  rfl
 have hk:=(ZjT c.r (by omega)).1 hn
 rw[show solD (Zbq s L)=([],(Zax (Zbq s L) []).y,false) by unfold solD;rw[hp,if_pos rfl,if_pos hk]]at q2
 rw[show refU s L=Zky L (Zax (Zbq s L) []).y by unfold refU;rw[hn];rfl]
 have hchk:=Zca hp (Zez hp)
 have hysz:=c.ysz (L:=L) (by omega)
 have href:ZbM (Zbq s L) (Zax (Zbq s L) []).y=true:=by
  rcases ZgY hchk with⟨h,_⟩|⟨_,h,_⟩|⟨h,_⟩
  ·rw[hk]at h;exact absurd h (by decide)
  ·exact h
  ·rw[hk]at h;exact absurd h (by decide)
 have hyz:∀ f∈(Zax (Zbq s L) []).y,szF f≤2000000:=hysz
 clear hysz
 generalize (Zax (Zbq s L) []).y=y at q2 href hyz
 have hlow:(Zbe (Zbq s L) [] y).2=true:=by
  simp only[ZbM,Ya2]at href;exact href.1
 obtain⟨_,hyl,hyo,_⟩:=Zuf.1 hlow
 rw[ZoU hlt]at hyl
 obtain⟨F,hF⟩:∃ F:Nat→List Nat,F=fun k=>((L.zip y).take k).filterMap fun p=>if qOf p.2=0 then none else some p.1:=⟨_,rfl⟩
 have F0:F 0=[]:=by rw[hF];rfl
 have Fz:∀ k i f,L[k]? =some i→y[k]? =some f→qOf f=0→F (k+1)=F k:=fun k i f hi hf h=>by
  have hz:(L.zip y)[k]? =some (i,f):=by rw[List.getElem?_zip_eq_some];exact⟨hi,hf⟩
  rw[hF];simp only;rw[Yb4,hz,List.filterMap_append];simp[h]
 have Fs:∀ k i f,L[k]? =some i→y[k]? =some f→qOf f≠0→F (k+1)=F k++[i]:=fun k i f hi hf h=>by
  have hz:(L.zip y)[k]? =some (i,f):=by rw[List.getElem?_zip_eq_some];exact⟨hi,hf⟩
  rw[hF];simp only;rw[Yb4,hz,List.filterMap_append];simp[h]
 have Fe:Zky L y=F y.length:=by rw[hF];unfold Zky;simp only;rw[Ya8 (by rw[List.length_zip];omega)]
 rw[Fe]
 refine inC Tryz.func68 rfl Tryz.ntmps68 ?_
 refine aGo Zr ?_
 repeat with_reducible intro K hK
 clear q1 q2
 refine aLe (Zd9 9 3 1 rfl) ?_
 refine ZaH (fun(k:Nat)=>[(1,Zad (ints L)),(9,.ls 1 (F k).length),(21,ZbX y),(22,dI y.length),(23,dI k)]) (fun k=>[(1,⟨3,(F k).length,1,(ints (F k)).map fun x=>[dI x],0,false⟩)]) 2 0 (fun k=>k≤y.length∧(F k).length≤k) (fun k=>y.length-k) 0 ⟨by omega,by rw[F0];decide⟩ ?_ ?_
 ·exact leGo F0
 rintro k ⟨hkl,hfl⟩
 obtain⟨hw,h0⟩:=ZaS k
 by_cases h1:(k:Int)<y.length
 ·obtain⟨f,hf⟩:=getE (l:=y) (k:=k) (by omega)
  obtain⟨i,hi⟩:=getE (l:=L) (k:=k) (by omega)
  have h1L:(k:Int)<L.length:=by omega
  have of:=Ya6.1 hyo f (ZaJ hf)
  have zf:=hyz f (ZaJ hf)
  have q3:=ZdT f (by omega)
  have hsg:sgnD f=0↔qOf f=0:=by
   obtain⟨q,rfl⟩:∃ q,f=ofQ q:=⟨_,ZfK of⟩
   rw[Zcw,ZaM];exact Ze7
  by_cases h2:qOf f=0
  ·have e2:(sgnD f !=0)=false:=by simp[hsg.2 h2]
   have F1:=Fz k i f hi hf h2
   refine aGo (cj4 Zr h0 h1 (cj3 hf hw e2)) ?_
   repeat with_reducible intro K hK
   exact Zah (k+1) ⟨by omega,by rw[F1];omega⟩ (by omega) (by exact leGo F1)
  ·have e2:(sgnD f !=0)=true:=by simp;exact fun h=>h2 (hsg.1 h)
   have F1:=Fs k i f hi hf h2
   refine aGo (cj4 Zr h0 h1 (cj4 h1L hf hi (cj2 hw e2))) ?_
   repeat with_reducible intro K hK
   exact Zah (k+1) ⟨by omega,by rw[F1,Yb9];simp;omega⟩ (by omega) (by exact leGo F1)
 ·obtain rfl:k=y.length:=by omega
  refine aGo (cj2 Zr h1) ?_
  repeat with_reducible intro K hK
  rw[ZaF (fun _=>rfl)]
theorem ZmL(z:Int)(h1 : -1000000≤z)(h2:z≤1000000):szQ (z:Rat)≤3:=by
 rw[Zd6]
 have e1:szZ (z:Rat).num≤1:=Zet (by simp only[Rat.num_intCast,bp];omega)
 have e2:szZ (((z:Rat).den:Nat):Int)≤1:=Zet (by simp only[Rat.den_intCast,bp];decide)
 omega
theorem ZsY(p:Int)(p1 : -1000000000000000000≤p)(p2:p≤1000000000000000000):szQ (Rat.divInt p 1000)≤3:=by
 have h1:=ZdF p 1000 (by decide)
 have h2:szZ p≤3:=Zet (by simp only[bp];omega)
 have h3:szZ 1000≤3:=Zet (by simp only[bp];decide)
 omega
theorem ZyE{c:ZcX}{r day:Int}(h:ZhE c r day=true):szQ (maxQ ((r:Rat)-errQ c r day) 0)≤3∧szQ ((r:Rat)+errQ c r day)≤3:=by
 obtain⟨h1,h2,h3,h4,h5⟩:=Zgj h
 have e1:(r:Rat)-errQ c r day=Rat.divInt (1000*r-c.p*r-1000*(c.g+c.d*(day-c.f))) 1000:=by
  unfold errQ
  rw[Rat.divInt_eq_div,Rat.divInt_eq_div]
  generalize c.p*r=x
  generalize c.g+c.d*(day-c.f)=y
  simp only[Rat.intCast_sub,Rat.intCast_mul]
  grind
 have e2:(r:Rat)+errQ c r day=Rat.divInt (1000*r+c.p*r+1000*(c.g+c.d*(day-c.f))) 1000:=by
  unfold errQ
  rw[Rat.divInt_eq_div,Rat.divInt_eq_div]
  generalize c.p*r=x
  generalize c.g+c.d*(day-c.f)=y
  simp only[Rat.intCast_add,Rat.intCast_mul]
  grind
 have s1:=ZsY (1000*r-c.p*r-1000*(c.g+c.d*(day-c.f))) (by omega) (by omega)
 have s2:=ZsY (1000*r+c.p*r+1000*(c.g+c.d*(day-c.f))) (by omega) (by omega)
 have s0:szQ 0≤3:=by decide +kernel
 rw[e1,e2]
 refine⟨?_,s2⟩
 unfold maxQ
 split
 ·first|exact s1|exact s0
 ·first|exact s0|exact s1
theorem iv_sz{e:EvD}{x:MvD}(h:(ivE e x).ok=true):szF (ivE e x).lo≤3∧szF (ivE e x).hi≤3:=by
 unfold ivE at h ⊢
 split at h
 ·cases h
 ·rename_i h1
  rw[if_neg h1]
  unfold intD at h ⊢
  revert h
  cases hf:ZnO e.ce x.s x.d with
  | none=>intro h;cases h
  | some b =>
    obtain⟨_,c,hc,hcov,_⟩:=Zln hf
    simp only[hc]
    split
    ·intro h;cases h
    ·rename_i hn
     intro _
     simp only[Bool.or_eq_true,Bool.not_eq_true',not_or]at hn
     have ho:ZhE c x.r x.d=true:=by
      unfold ZhE
      rw[hcov]
      cases hb:inB x.r 0 1099511627776
      ·exact absurd hb hn.2
      ·rfl
     exact ZyE ho
theorem Zs2(e:EvD)(i m:Nat):∀ k,(stkE e i m k).length≤k∧∀ t∈stkE e i m k,szF t.f≤3
 | 0=>⟨Ya4 _,fun t ht=>by cases ht⟩
 | k+1=>by
   obtain⟨a,b⟩:=Zs2 e i m k
   unfold stkE
   split
   ·rw[List.append_nil];exact⟨by omega,b⟩
   ·refine⟨by rw[Yb9];simp;omega,fun t ht=>?_⟩
    rcases Yd5.1 ht with ht|ht
    ·exact b t ht
    ·rw[List.mem_singleton.1 ht]
     have : -1000000≤sgnE e i k∧sgnE e i k≤1000000:=by unfold sgnE;split<;>(try split)<;>omega
     exact ZmL _ this.1 this.2
theorem ZlD(M:Int)(i:Nat){b own more:Int}(h1 : -1000≤b∧b≤1000)(h2 : -1000≤more∧more≤1000):∀ k,(sumE M i b own more k).length≤k∧∀ t∈sumE M i b own more k,szF t.f≤3
 | 0=>⟨Ya4 _,fun t ht=>by cases ht⟩
 | k+1=>by
   obtain⟨a,c⟩:=ZlD M i (own:=own) h1 h2 k
   unfold sumE
   split
   ·rw[List.append_nil];exact⟨by omega,c⟩
   ·refine⟨by rw[Yb9];simp;omega,fun t ht=>?_⟩
    rcases Yd5.1 ht with ht|ht
    ·exact c t ht
    ·rw[List.mem_singleton.1 ht]
     have : -1000000≤cofE b own more k∧cofE b own more k≤1000000:=by unfold cofE;split<;>omega
     exact ZmL _ this.1 this.2
theorem ZzQ{e:EvD}(R:Zfu e)(hn:e.mv.length≤4)(hm:e.m≤2)(hp:e.pu.length≤2):Conf (sysE e):=by
 have hM:=R.m
 have z0:szF (ofQ 0)≤3:=by decide +kernel
 refine⟨Zro R (by omega) (by omega),?_,?_,fun w hw=>?_⟩
 ·show(e.mv.length:Int)*e.m≤8
  have:=Int.mul_le_mul (a:=(e.mv.length:Int)) (b:=e.m) (c:=4) (d:=2) (by omega) hm (by omega) (by omega)
  omega
 ·show((Zia e).map (·.1)).length≤32
  rw[Yc0]
  have:=Zha e (ivF e) e.mv.length
  have h2:e.mv.length*(e.m.toNat+2+2*e.pu.length)≤4*(2+2+2*2):=Nat.mul_le_mul hn (by omega)
  unfold Zia
  omega
 ·obtain⟨r,hr,rfl⟩:=Yc6.1 hw
  obtain⟨i,hi,hr⟩:=(ZjZ _).1 hr
  unfold ZjY at hr
  simp only[Yd5]at hr
  rcases hr with hr|hr|hr
  ·unfold Zeg at hr
   split at hr
   ·cases hr
   ·obtain⟨m,_,rfl⟩:=Yc6.1 hr
    obtain⟨a,b⟩:=Zs2 e i m (i+1)
    exact⟨by show(stkE e i m (i+1)).length≤8;omega,z0,b⟩
  ·unfold Zcp at hr
   split at hr
   ·rename_i ho
    obtain⟨s1,s2⟩:=iv_sz ho
    obtain⟨a,b⟩:=ZlD e.m i (b:=1) (own:= -1) (more:=0) (by decide) (by decide) e.m.toNat
    simp only[List.mem_cons,List.not_mem_nil,or_false]at hr
    rcases hr with rfl|rfl
    ·exact⟨by show(sumE e.m i 1 (-1) 0 e.m.toNat).length≤8;omega,s1,b⟩
    ·exact⟨by show(sumE e.m i 1 (-1) 0 e.m.toNat).length≤8;omega,s2,b⟩
   ·cases hr
  ·obtain⟨k,p,hpk,hr⟩:=Zj0 _ hr
   have hk:=R.pu p (Ya7 hpk)
   simp only[okPu,idx,Ya2,decide_eq_true_eq]at hk
   unfold ZiT at hr
   split at hr
   ·simp only[List.mem_cons,List.not_mem_nil,or_false]at hr
    rcases hr with rfl|rfl
    ·obtain⟨a,b⟩:=ZlD e.m i (b:= -p.lo) (own:=p.m) (more:=1000) (by omega) (by decide) e.m.toNat
     exact⟨by show(sumE e.m i (-p.lo) p.m 1000 e.m.toNat).length≤8;omega,z0,b⟩
    ·obtain⟨a,b⟩:=ZlD e.m i (b:=p.hi) (own:=p.m) (more:= -1000) (by omega) (by decide) e.m.toNat
     exact⟨by show(sumE e.m i p.hi p.m (-1000) e.m.toNat).length≤8;omega,z0,b⟩
   ·cases hr
noncomputable def posB (e:EvD):Bool:=(Zcd e==0)&&((Zbl (sysE e) []).2==0)
theorem ZlL{e:EvD}(hf:Zcd e=0)(hs:Zao (sysE e)=true):posB e=true↔PosE e:=by
 have hg:=Zez hs
 unfold posB Zbl
 rw[hf,hs,hg]
 simp only[beq_self_eq_true,Bool.true_and,Bool.and_self,if_true]
 rcases Zgb (Zca hs hg)with⟨h,_,x,_,hx,_⟩|⟨h,hx⟩|⟨h,hx⟩
 ·rw[if_neg (by omega)]
  exact⟨fun _=>⟨x,hx⟩,fun _=>rfl⟩
 ·rw[if_pos h]
  constructor
  ·intro hc;cases hc
  ·rintro⟨x,hx'⟩;rw[hx x]at hx';cases hx'
 ·rw[if_neg (by omega)]
  obtain⟨x,hx',_⟩:=hx 0
  exact⟨fun _=>⟨x,hx'⟩,fun _=>rfl⟩
abbrev Zfe(e:EvD):Blk:=⟨28,0,8,[cEv e],0,false⟩
abbrev mvB(x:MvD):Blk:=⟨55,0,6,[cMv x],0,false⟩
abbrev memE(e:EvD)(VR VO:Nat)(A:List RowD)(B:List OriD)(x:MvD):List (Nat×Blk):=[(0,Zfe e),(1,mkB e 2 VR 3 VO),(2,rwB VR A),(3,orB VO B),(4,mvB x)]
theorem ZvI{e:EvD}(Ri:Zfu e){VR VO:Nat}{A:List RowD}{B:List OriD}{i:Nat}(hi:(i:Int)<e.mv.length)(hA:(A.length:Int)≤99990)(hB:(B.length:Int)≤99990)(z:MvD) :
 Zar Tryz.prog 100 [.lp 1 0 0 0,dI i] (tabM (memE e VR VO A B z)) 5 fun d m' nx'=>d=oneD []∧ZsD e 1 2 3 A B (tabM (memE e VR VO A B z)) 5 (Zcp e (ivF e i) i) m' nx':=by
 have Zr:=Tryz.results100
 have hx:=Zi5 (e:=e) (i:=i) (by omega)
 have i0:(0:Int)≤i:=by omega
 have ei:ivF e i=ivE e (mvAt e i):=rfl
 have kI:=Zzz e.ce e.re (mvAt e i).s (mvAt e i).r (mvAt e i).d (by have:=Ri.lc;omega) (by have:=Ri.lr;omega)
 rw[ei]
 unfold ivE
 generalize mvAt e i=x at hx kI
 refine inA Tryz.func100 rfl Tryz.ntmps100 ?_
 cases hs:(x.s == -1)
 rotate_left
 ·have hs':x.s = -1:=by simpa using hs
  rw[if_pos hs']
  refine aGo (cj4 Zr hx i0 (cj2 hi hs)) ?_
  repeat with_reducible intro K hK
  refine⟨by omega,⟨VR,VO,rfl,?_,?_⟩,fun id g1 g2 g3 g4=>?_⟩
  ·show _=some (rwB VR (A++[]));rw[List.append_nil];rfl
  ·show _=some (orB VO (B++[]));rw[List.append_nil];rfl
  ·simp only[Zau];repeat(rw[if_neg (show ¬ id=5 by omega)])
   repeat(rw[if_neg (by omega)])
 ·have hs':¬ x.s = -1:=by simpa using hs
  rw[if_neg hs']
  generalize intD e.ce e.re x.s x.r x.d=iv at kI ⊢
  obtain⟨lo,hh,ok⟩:=iv
  cases ok
  ·refine aGo (cj4 Zr hx i0 (cj2 hi hs)) ?_
   repeat with_reducible intro K hK
   refine⟨by omega,⟨VR,VO,rfl,?_,?_⟩,fun id g1 g2 g3 g4=>?_⟩
   ·show _=some (rwB VR (A++[]));rw[List.append_nil];rfl
   ·show _=some (orB VO (B++[]));rw[List.append_nil];rfl
   ·simp only[Zau];repeat(rw[if_neg (show ¬ id=5 by omega)])
    repeat(rw[if_neg (by omega)])
  ·refine aGo (cj4 Zr hx i0 (cj2 hi hs)) ?_
   repeat(guard_target =~ ∀ _:St→Prop,_;intro K hK)
   intro KX hX
   refine Za3 (ZvT Ri (mk:=1) (R:=2) (O:=3) (vR:=VR) (vO:=VO) rfl (by decide) hi (by decide) (by decide)) ?_
   refine aGo Zr ?_
   repeat with_reducible intro K hK
   refine Za3 (ZxG (mk:=1) (R:=2) (O:=3) (vR:=VR) (vO:=VO) (rows:=A) (os:=B) rfl rfl rfl (by decide) (by decide) (by decide) (by decide) (by decide) (by decide) (by omega) (by omega) ⟨sumE e.m i 1 (-1) 0 e.m.toNat,0,lo⟩ ⟨1,i,-1,-1⟩) ?_
   refine aGo Zr ?_
   repeat with_reducible intro K hK
   refine hX _ _ (by kernel_rfl) (Zaz rfl) ?_
   clear hX
   clear KX
   refine aGo Zr ?_
   repeat(guard_target =~ ∀ _:St→Prop,_;intro K hK)
   intro KX hX
   refine Za3 (ZvT Ri (mk:=1) (R:=2) (O:=3) (vR:=VR+1) (vO:=VO+1) rfl (by decide) hi (by decide) (by decide)) ?_
   refine aGo Zr ?_
   repeat with_reducible intro K hK
   refine Za3 (ZxG (mk:=1) (R:=2) (O:=3) (vR:=VR+1) (vO:=VO+1) (rows:=A++[⟨sumE e.m i 1 (-1) 0 e.m.toNat,0,lo⟩]) (os:=B++[⟨1,i,-1,-1⟩]) rfl rfl rfl (by decide) (by decide) (by decide) (by decide) (by decide) (by decide) (by simp;omega) (by simp;omega) ⟨sumE e.m i 1 (-1) 0 e.m.toNat,1,hh⟩ ⟨2,i,-1,-1⟩) ?_
   refine aGo Zr ?_
   repeat with_reducible intro K hK
   refine hX _ _ (by kernel_rfl) (Zaz rfl) ?_
   clear hX
   clear KX
   refine aGo Zr ?_
   repeat with_reducible intro K hK
   refine⟨by omega,⟨VR+1+1,VO+1+1,rfl,?_,?_⟩,fun id g1 g2 g3 g4=>?_⟩
   ·refine Eq.trans (b:=some (rwB (VR+1+1) (A++[⟨sumE e.m i 1 (-1) 0 e.m.toNat,0,lo⟩]++[⟨sumE e.m i 1 (-1) 0 e.m.toNat,1,hh⟩]))) rfl ?_
    rw[Yd3];rfl
   ·refine Eq.trans (b:=some (orB (VO+1+1) (B++[⟨1,i,-1,-1⟩]++[⟨2,i,-1,-1⟩]))) rfl ?_
    rw[Yd3];rfl
   ·simp only[Zau]
    repeat(rw[if_neg (by omega)])
set_option maxHeartbeats 32000000
theorem lo5:∀ id,id<5→([0,1,2,3,4]:List Nat).contains id=true:=by
 intro id h
 have:id=0∨id=1∨id=2∨id=3∨id=4:=by omega
 rcases this with rfl|rfl|rfl|rfl|rfl<;>rfl
theorem leGo5{F X:Prop}(f:F)(h:F→X:=by
 intro hf
 refine Zb1 _ _ _ ?_ ?_ ?_ ?_ ?_ (.inr lo5)<;>simp[go_sem,okD,okDs,Zb8,hf] <;>
 (first|(intros;subst_vars;simp[okD,okDs];done)|(intro _ h;rcases h with⟨_,_,rfl⟩|rfl<;>simp[okD,okDs];done)|(intros;rename_i h;rcases h with⟨_,_,rfl⟩|rfl<;>simp[okD,okDs]))):X:=h f
theorem Zy0{e:EvD}(Ri:Zfu e){VR VO:Nat}{A:List RowD}{B:List OriD}{i:Nat}(hi:(i:Int)<e.mv.length)(hA:(A.length:Int)≤90000)(hB:(B.length:Int)≤90000)(z:MvD) :
 Zar Tryz.prog 101 [.lp 1 0 0 0,dI i] (tabM (memE e VR VO A B z)) 5 fun d m' nx'=>d=oneD []∧ZsD e 1 2 3 A B (tabM (memE e VR VO A B z)) 5 (ZcO e i e.pu.length) m' nx':=by
 have Zr:=Tryz.results101
 have i0:(0:Int)≤i:=by omega
 have hU:=Ri.lu
 have k0:=Ziz 0 (by decide) (by decide)
 refine inA Tryz.func101 rfl Tryz.ntmps101 ?_
 refine aGo Zr ?_
 repeat with_reducible intro K hK
 refine ZaH (fun(x:Nat×Nat×Nat)=>[(0,.lp 1 0 0 0),(1,dI i),(11,ZgE e.pu),(12,dI e.pu.length),(13,dI x.1)]) (fun x=>memE e x.2.1 x.2.2 (A++(ZcO e i x.1).map (·.1)) (B++(ZcO e i x.1).map (·.2)) z) 5 5 (fun x=>x.1≤e.pu.length) (fun x=>e.pu.length-x.1) (0,VR,VO) (by show 0≤e.pu.length;omega) ?_ ?_
 ·have p0:ZcO e i 0=[]:=rfl
  exact leGo5 p0
 rintro⟨n,V1,V2⟩ hn
 simp only at hn
 obtain⟨hw,h0⟩:=ZaS n
 by_cases h4:(n:Int)<e.pu.length
 rotate_left
 ·have en:n=e.pu.length:=by omega
  subst en
  refine aGo (cj2 Zr h4) ?_
  repeat with_reducible intro K hK
  exact⟨Ya4 _,⟨V1,V2,rfl,rfl,rfl⟩,fun id g1 g2 g3 g4=>by simp only[Zau,if_neg g2,if_neg g3,if_neg g4]⟩
 ·obtain⟨p,hp⟩:∃ p,e.pu[n]? =some p:=⟨_,Ya0 (by omega)⟩
  have hlen:=ZjJ e i n
  have es:ZcO e i (n+1)=ZcO e i n++ZiT e i n p:=by
   show ZcO e i n++_=_;rw[hp]
  generalize eL:ZcO e i n=L at es hlen ⊢
  have hLA:((A++L.map (·.1)).length:Int)≤99990:=by rw[Yb9,Yc0];omega
  have hLB:((B++L.map (·.2)).length:Int)≤99990:=by rw[Yb9,Yc0];omega
  have hk:=Ri.pu p (Ya7 hp)
  simp only[okPu,idx,Ya2,decide_eq_true_eq]at hk
  have wn:IntKind.i64.wrap (0-p.lo) = -p.lo:=(ZaQ (by omega) (by omega)).trans (by omega)
  cases t1:(p.v !=(i:Int))
  ·have t1':p.v=i:=by simpa using t1
   have ep:ZiT e i n p=[(⟨sumE e.m i (-p.lo) p.m 1000 e.m.toNat,0,ofQ ((0:Int):Rat)⟩,⟨3,i,-1,n⟩),(⟨sumE e.m i p.hi p.m (-1000) e.m.toNat,0,ofQ ((0:Int):Rat)⟩,⟨4,i,-1,n⟩)]:=by unfold ZiT;rw[if_pos t1'];rfl
   rw[ep]at es
   refine aGo (cj4 Zr h0 h4 (cj3 hp t1 wn)) ?_
   repeat(guard_target =~ ∀ _:St→Prop,_;intro K hK)
   intro KX hX
   refine Za3 (ZvT Ri (mk:=1) (R:=2) (O:=3) (vR:=V1) (vO:=V2) rfl (by decide) hi (by omega) (by decide)) ?_
   refine aGo Zr ?_
   repeat with_reducible intro K hK
   refine Za3 (ZxG (mk:=1) (R:=2) (O:=3) (vR:=V1) (vO:=V2) (rows:=A++L.map (·.1)) (os:=B++L.map (·.2)) rfl rfl rfl (by decide) (by decide) (by decide) (by decide) (by decide) (by decide) (by omega) (by omega) ⟨sumE e.m i (-p.lo) p.m 1000 e.m.toNat,0,ofQ ((0:Int):Rat)⟩ ⟨3,i,-1,n⟩) ?_
   refine aGo Zr ?_
   repeat with_reducible intro K hK
   refine hX _ _ (by kernel_rfl) (Zaz rfl) ?_
   clear hX
   clear KX
   refine aGo Zr ?_
   repeat(guard_target =~ ∀ _:St→Prop,_;intro K hK)
   intro KX hX
   refine Za3 (ZvT Ri (mk:=1) (R:=2) (O:=3) (vR:=V1+1) (vO:=V2+1) rfl (by decide) hi (by omega) (by decide)) ?_
   refine aGo Zr ?_
   repeat with_reducible intro K hK
   refine Za3 (ZxG (mk:=1) (R:=2) (O:=3) (vR:=V1+1) (vO:=V2+1) (rows:=A++L.map (·.1)++[⟨sumE e.m i (-p.lo) p.m 1000 e.m.toNat,0,ofQ ((0:Int):Rat)⟩]) (os:=B++L.map (·.2)++[⟨3,i,-1,n⟩]) rfl rfl rfl (by decide) (by decide) (by decide) (by decide) (by decide) (by decide) (by rw[Yb9];simp at hLA ⊢;omega) (by rw[Yb9];simp at hLB ⊢;omega) ⟨sumE e.m i p.hi p.m (-1000) e.m.toNat,0,ofQ ((0:Int):Rat)⟩ ⟨4,i,-1,n⟩) ?_
   refine aGo Zr ?_
   repeat with_reducible intro K hK
   refine hX _ _ (by kernel_rfl) (Zaz rfl) ?_
   clear hX
   clear KX
   refine aGo (cj2 Zr hw) ?_
   repeat with_reducible intro K hK
   refine Zah (n+1,V1+1+1,V2+1+1) (by show n+1≤e.pu.length;omega) (by show e.pu.length-(n+1)<e.pu.length-n;omega) ?_
   refine Zb1 _ _ _ ?_ ?_ ?_ ?_ ?_ (.inr lo5)<;>simp[go_sem,okD,okDs,Zb8,es,eL]
   exact⟨by rintro e (⟨a,_,rfl⟩|⟨a,_,rfl⟩|rfl|rfl)<;>rfl,by rintro e (⟨a,_,rfl⟩|⟨a,b,_,rfl⟩|rfl|rfl)<;>rfl⟩
  ·have t1':¬ p.v=i:=by simpa using t1
   refine aGo (cj4 Zr h0 h4 (cj3 hp t1 hw)) ?_
   repeat with_reducible intro K hK
   have ep:ZiT e i n p=[]:=by unfold ZiT;rw[if_neg t1']
   rw[ep,List.append_nil]at es
   exact Zah (n+1,V1,V2) (by show n+1≤e.pu.length;omega) (by show e.pu.length-(n+1)<e.pu.length-n;omega) (by refine Zb1 _ _ _ ?_ ?_ ?_ ?_ ?_ (.inr lo5)<;>simp[go_sem,okD,okDs,Zb8,es,eL]<;>exact⟨(by rintro e (⟨a,_,rfl⟩|⟨a,_,rfl⟩)<;>rfl),(by rintro e (⟨a,_,rfl⟩|⟨a,b,_,rfl⟩)<;>rfl)⟩)
theorem ZqJ{e:EvD}{A:List RowD}{B:List OriD}{z:MvD}{l:List RoO}{m:Mem}{nx:Nat}{s:St}(sl:List (Nat×D))(g:ZsD e 1 2 3 A B m nx l s.m s.nx)(h0:m 0=some (Zfe e))(h4:m 4=some (mvB z))(hn:5≤nx)
 (ht:∀ p∈sl,s.t p.1=p.2) (hok:∀ p∈sl,okD (fun id=>([0,1,2,3,4]:List Nat).contains id) p.2=true) (hlo:s.lo=0) :
 ∃ VR VO,StLe s ⟨tabT sl,tabM (memE e VR VO (A++l.map (·.1)) (B++l.map (·.2)) z),5,s.lo⟩:=by
 obtain⟨VR,VO,c1,c2,c3⟩:=g.b
 refine⟨VR,VO,Zb1 sl (memE e VR VO (A++l.map (·.1)) (B++l.map (·.2)) z) 5 ht ?_ hok ?_ ?_ (.inl hlo)⟩
 ·intro p hp
  simp only[memE,List.mem_cons,List.not_mem_nil,or_false]at hp
  rcases hp with rfl|rfl|rfl|rfl|rfl
  ·exact(g.f 0 (by omega) (by decide) (by decide) (by decide)).trans h0
  ·exact c1
  ·exact c2
  ·exact c3
  ·exact(g.f 4 (by omega) (by decide) (by decide) (by decide)).trans h4
 ·intro p hp
  simp only[memE,List.mem_cons,List.not_mem_nil,or_false]at hp
  rcases hp with rfl|rfl|rfl|rfl|rfl
  ·intro x hx;obtain rfl:=List.mem_singleton.1 hx;rfl
  ·intro x hx;obtain rfl:=List.mem_singleton.1 hx;rfl
  ·intro x hx;obtain⟨u,_,rfl⟩:=Yc6.1 hx;rfl
  ·intro x hx;obtain⟨u,_,rfl⟩:=Yc6.1 hx;rfl
  ·intro x hx;obtain rfl:=List.mem_singleton.1 hx;rfl
 ·intro p hp
  simp only[memE,List.mem_cons,List.not_mem_nil,or_false]at hp
  rcases hp with rfl|rfl|rfl|rfl|rfl<;>simp
theorem Zuw{P:Program}{n:Nat}{c:Code}{Q:Exit→St→Prop}{e:EvD}{A:List RowD}{B:List OriD}{z:MvD}{l:List RoO}{m:Mem}{nx:Nat}{s:St}(sl:List (Nat×D))(g:ZsD e 1 2 3 A B m nx l s.m s.nx)(h0:m 0=some (Zfe e))(h4:m 4=some (mvB z))(hn:5≤nx)
 (ht:∀ p∈sl,s.t p.1=p.2) (hok:∀ p∈sl,okD (fun id=>([0,1,2,3,4]:List Nat).contains id) p.2=true) (hlo:s.lo=0) (k:∀ VR VO,AWP P n c Q ⟨tabT sl,tabM (memE e VR VO (A++l.map (·.1)) (B++l.map (·.2)) z),5,s.lo⟩):AWP P n c Q s:=by
 obtain⟨VR,VO,hle⟩:=ZqJ sl g h0 h4 hn ht hok hlo
 exact aLe hle (k VR VO)
abbrev encMk(e:EvD)(l:List RoO):D:=.ep [[dI e.m,dI e.h,dI e.s,ZhG e.pl,ZdY e.mv,Zih e.ce,Zfr e.re,ZgE e.pu,Zsm (l.map (·.1)),.sl ((l.map (·.2)).map cOri)]] 0 0
theorem Zx8(e:EvD)(Ri:Zfu e)(hn:e.mv.length≤12)(hp:e.pu.length≤12):Zae Tryz.prog 66 [Zb2 e] (encMk e (Zia e)):=by
 have Zr:=Tryz.results66
 refine inC Tryz.func66 rfl Tryz.ntmps66 ?_
 refine aGo Zr ?_
 repeat with_reducible intro K hK
 refine aLe (Zdz 1 0 8 175 6 rfl rfl rfl) ?_
 refine aLe (Zdz 1 0 9 52 4 rfl rfl rfl) ?_
 simp only[go_sem]
 refine ZaH (fun(x:Nat×Nat×Nat)=>[(1,.lp 0 0 0 0),(3,.lp 1 0 0 0),(10,ZdY e.mv),(11,dI e.mv.length),(12,dI x.1)]) (fun x=>[(0,Zfe e),(1,mkB e 2 x.2.1 3 x.2.2),(2,rwB x.2.1 ((Zdx e (ivF e) x.1).map (·.1))),(3,orB x.2.2 ((Zdx e (ivF e) x.1).map (·.2)))]) 4 0 (fun x=>x.1≤e.mv.length) (fun x=>e.mv.length-x.1) (0,0,0) (by show 0≤e.mv.length;omega) ?_ ?_
 ·have p0:Zdx e (ivF e) 0=[]:=rfl
  refine Zb1 _ _ _ ?_ ?_ ?_ ?_ ?_ (.inl rfl)<;>simp[go_sem,okD,okDs,Zb8,p0]
 rintro⟨i,V1,V2⟩ hi
 simp only at hi
 obtain⟨hw,h0⟩:=ZaS i
 by_cases h4:(i:Int)<e.mv.length
 rotate_left
 ·have en:i=e.mv.length:=by omega
  subst en
  refine aGo (cj2 Zr h4) ?_
  repeat with_reducible intro K hK
  rw[ZaF (fun _=>rfl),ZaF (fun _=>rfl)];rfl
 ·have hx:=Zi5 (e:=e) (i:=i) (by omega)
  have hlen:=Zha e (ivF e) i
  have hM:=Ri.m
  have hl2:(Zdx e (ivF e) i).length≤500:=by
   have:i*(e.m.toNat+2+2*e.pu.length)≤12*(6+2+2*12):=Nat.mul_le_mul (by omega) (by omega)
   omega
  obtain⟨f0,f1⟩:=(Ri.mv _ (ZlX (by omega:i<e.mv.length))).f
  obtain⟨pl,hpl⟩:∃ p,e.pl[(mvAt e i).f.toNat]? =some p:=⟨_,Ya0 (by omega)⟩
  have hb:ZkF e i=(pl.k==0):=by unfold ZkF Zfp;rw[hpl];rfl
  have es:Zdx e (ivF e) (i+1)=Zdx e (ivF e) i++(Zeg e i++(Zcp e (ivF e i) i++ZcO e i e.pu.length)):=rfl
  unfold Zeg at es
  rw[hb]at es
  generalize mvAt e i=x at hx f0 f1 hpl
  generalize eL:Zdx e (ivF e) i=L at es hlen hl2 ⊢
  refine aGo (cj4 Zr h0 h4 (cj3 hx hpl f0)) ?_
  repeat with_reducible intro K hK
  have r1:∀ (l1:List RoO)(W1 W2:Nat),Zdx e (ivF e) (i+1)=L++(l1++(Zcp e (ivF e i) i++ZcO e i e.pu.length))→l1.length≤10→∀ st,StLe st ⟨tabT [(1,.lp 0 0 0 0),(3,.lp 1 0 0 0),(4,dI i),(10,ZdY e.mv),(11,dI e.mv.length),(12,dI i)],tabM (memE e W1 W2 (L.map (·.1)++l1.map (·.1)) (L.map (·.2)++l1.map (·.2)) x),5,0⟩→K st:=by
   intro l1 W1 W2 e1 hl1 st hle
   refine hK _ (aLe hle ?_)
   clear hle hK
   refine aGo Zr ?_
   repeat with_reducible intro K hK
   refine ZaD (ZvI Ri (A:=L.map (·.1)++l1.map (·.1)) (B:=L.map (·.2)++l1.map (·.2)) h4 (by simp;omega) (by simp;omega) x) ?_
   rintro d m3 nx3 ⟨rfl,g⟩
   simp only[go_sem]
   refine hK _ ?_
   refine Zuw [(1,.lp 0 0 0 0),(3,.lp 1 0 0 0),(4,dI i),(10,ZdY e.mv),(11,dI e.mv.length),(12,dI i)] g rfl rfl (by decide) (by simp[go_sem]) (by simp[okD]) rfl fun W3 W4=>?_
   have hwl:(Zcp e (ivF e i) i).length≤2:=by unfold Zcp;split<;>simp
   refine aGo Zr ?_
   repeat with_reducible intro K hK
   refine ZaD (Zy0 Ri (A:=L.map (·.1)++l1.map (·.1)++(Zcp e (ivF e i) i).map (·.1)) (B:=L.map (·.2)++l1.map (·.2)++(Zcp e (ivF e i) i).map (·.2)) h4 (by simp;omega) (by simp;omega) x) ?_
   rintro d m4 nx4 ⟨rfl,g2⟩
   refine aGo (cj2 Zr hw) ?_
   repeat with_reducible intro K hK
   obtain⟨W5,W6,c1,c2,c3⟩:=g2.b
   have c0:m4 0=some (Zfe e):=g2.f 0 (by decide) (by decide) (by decide) (by decide)
   have c2':m4 2=some (rwB W5 ((Zdx e (ivF e) (i+1)).map (·.1))):=by rw[c2,e1];simp only[List.map_append,Yd3]
   have c3':m4 3=some (orB W6 ((Zdx e (ivF e) (i+1)).map (·.2))):=by rw[c3,e1];simp only[List.map_append,Yd3]
   refine Zah (i+1,W5,W6) (by show i+1≤e.mv.length;omega) (by show e.mv.length-(i+1)<e.mv.length-i;omega) ?_
   refine Zb1 _ _ _ ?_ ?_ ?_ ?_ ?_ (.inl rfl)
   ·simp[go_sem]
   ·intro p hp
    simp only[List.mem_cons,List.not_mem_nil,or_false]at hp
    rcases hp with rfl|rfl|rfl|rfl
    ·exact c0
    ·exact c1
    ·exact c2'
    ·exact c3'
   ·simp[okD]
   ·intro p hp
    simp only[List.mem_cons,List.not_mem_nil,or_false]at hp
    rcases hp with rfl|rfl|rfl|rfl
    ·intro x hx;obtain rfl:=List.mem_singleton.1 hx;rfl
    ·intro x hx;obtain rfl:=List.mem_singleton.1 hx;rfl
    ·intro x hx;obtain⟨u,_,rfl⟩:=Yc6.1 hx;rfl
    ·intro x hx;obtain⟨u,_,rfl⟩:=Yc6.1 hx;rfl
   ·simp
  clear hK
  cases t1:(pl.k !=0)
  ·have t2:(pl.k==0)=true:=by simpa using t1
   rw[t2,if_pos rfl]at es
   refine aGo (cj2 Zr t1) ?_
   repeat with_reducible intro K hK
   refine r1 [] V1 V2 (by rw[es]) (by simp) _ ?_
   simp only[List.map_nil,List.append_nil]
   refine Zb1 _ _ _ ?_ ?_ ?_ ?_ ?_ (.inl rfl)
   ·simp[go_sem]
   ·simp[go_sem]
   ·simp[okD]
   ·intro p hp
    simp only[List.mem_cons,List.not_mem_nil,or_false]at hp
    rcases hp with rfl|rfl|rfl|rfl|rfl
    ·intro x hx;obtain rfl:=List.mem_singleton.1 hx;rfl
    ·intro x hx;obtain rfl:=List.mem_singleton.1 hx;rfl
    ·intro x hx;obtain⟨u,_,rfl⟩:=Yc6.1 hx;rfl
    ·intro x hx;obtain⟨u,_,rfl⟩:=Yc6.1 hx;rfl
    ·intro x hx;obtain rfl:=List.mem_singleton.1 hx;rfl
   ·simp
  ·have t2:(pl.k==0)=false:=by simpa using t1
   rw[t2,if_neg Yc5]at es
   refine aGo (cj2 Zr t1) ?_
   repeat with_reducible intro K hK
   have fin:∀ {m:Mem} {nx:Nat} (s:St),m 0=some (Zfe e)→m 4=some (mvB x)→5≤nx→ZsD e 1 2 3 (L.map (·.1)) (L.map (·.2)) m nx ((List.range e.m.toNat).map (ZcZ e i)) s.m s.nx→(∀ p∈[((1:Nat),D.lp 0 0 0 0),(3,.lp 1 0 0 0),(4,dI i),(10,ZdY e.mv),(11,dI e.mv.length),(12,dI i)],s.t p.1=p.2)→s.lo=0→K s:=by
    intro m nx s q0 q4 qn g ht hlo
    obtain⟨W1,W2,hle⟩:=ZqJ _ g q0 q4 qn ht (by simp[okD]) hlo
    rw[hlo]at hle
    exact r1 _ W1 W2 es (by rw[Yc0,List.length_range];omega) s hle
   refine ZaD (ZyK Ri (mk:=1) (R:=2) (O:=3) (VR:=V1) (VO:=V2) (A:=L.map (·.1)) (B:=L.map (·.2)) rfl rfl rfl (by decide) (by decide) (by decide) h4 (by simp;omega) (by simp;omega)) ?_
   rintro d m3 nx3 ⟨rfl,g⟩
   simp only[go_sem]
   exact fin _ rfl rfl (by decide) g (by simp[go_sem]) rfl
set_option maxHeartbeats 8000000
theorem ZkD(i n:Int):Zaa Tryz.prog 61 [dI i,dI n] (dB (idx i n)):=by
 have Zr:=Tryz.results61
 refine inN Tryz.func61 rfl Tryz.ntmps61 fun I=>?_
 by_cases h1:i≥0
 ·refine aGo (cj2 Zr h1) ?_
  repeat with_reducible intro K hK
  exact Zaj (by simp[idx,h1])
 ·refine aGo (cj2 Zr h1) ?_
  repeat with_reducible intro K hK
  exact Zaj (by simp[idx,h1])
theorem Zn9(n lo hi:Int):Zaa Tryz.prog 62 [dI n,dI lo,dI hi] (dB (decide (lo≤n)&&decide (n≤hi))):=by
 have Zr:=Tryz.results62
 refine inN Tryz.func62 rfl Tryz.ntmps62 fun I=>?_
 by_cases h1:n≥lo
 ·exact aGo (cj2 Zr h1) trivial
 ·exact aGo (cj2 Zr h1) trivial
theorem ZBr(e:EvD):Zaa Tryz.prog 27 [Zb2 e] (dB (Zdq e)):=by
 refine⟨⟨_,_,Tryz.func27,rfl,by kernel_rfl⟩,fun S w vs hf hvs=>?_⟩
 obtain⟨v,rfl,h1⟩:=ZrO hvs
 obtain⟨us,rfl,hl,h2⟩:=h1.inv_agg
 obtain⟨a,b,c,d,f,g,i,j,rfl⟩:∃ a b c d f g i j,us=[a,b,c,d,f,g,i,j]:=by
  match us,hl with
  | [a,b,c,d,f,g,i,j],_=>exact⟨a,b,c,d,f,g,i,j,rfl⟩
 obtain rfl:=(h2 0 _ _ rfl rfl).inv_v
 obtain rfl:=(h2 1 _ _ rfl rfl).inv_v
 obtain rfl:=(h2 2 _ _ rfl rfl).inv_v
 obtain⟨a3,c3,rfl,-,-,-⟩:=(h2 3 _ _ rfl rfl).inv_sl
 obtain⟨a4,c4,rfl,-,-,-⟩:=(h2 4 _ _ rfl rfl).inv_sl
 obtain⟨a5,c5,rfl,-,-,-⟩:=(h2 5 _ _ rfl rfl).inv_sl
 obtain⟨a6,c6,rfl,-,-,-⟩:=(h2 6 _ _ rfl rfl).inv_sl
 obtain⟨a7,c7,rfl,-,-,-⟩:=(h2 7 _ _ rfl rfl).inv_sl
 simp only[Yc0]
 go_enter Tryz.func27,Tryz.ntmps27
 go_wp2_with fail
 go_loopw [36] (fun i wr => ∃ k : Nat, k ≤ 8 ∧ i = I k ∧ (([(e.m, 6), (e.h, 100), (e.s, 30), ((e.pl.length : Int), 100), ((e.mv.length : Int), 200), ((e.ce.length : Int), 100), ((e.re.length : Int), 30), ((e.pu.length : Int), 200)] : List (Int × Int)).take k).any (fun c => decide (c.1 > c.2)) = false ∧
     wr.heap[w.heap.size+1]? =some (.cells #[I e.m,I 6,I e.h,I 100,I e.s,I 30,I e.pl.length,I 100,I e.mv.length,I 200,I e.ce.length,I 100,I e.re.length,I 30,I e.pu.length,I 200] 128)∧Below w.heap.size w wr) (fun i _=>8-(intOf i).toNat)
 case atStart =>
  refine⟨0,by omega,rfl,rfl,?_,((Below.refl _ _).alloc (Ya4 _) _).alloc (by simp) _⟩
  rw[← World.size_alloc w]
  exact World.alloc_heap_new _ _
 case round =>
  obtain⟨k,hk,rfl,hg,hB,hb⟩:=hrel
  have hc0:=Zcr hB (2*k)
  have hc1:=Zcr hB (2*k+1)
  rcases(by omega:k=0∨k=1∨k=2∨k=3∨k=4∨k=5∨k=6∨k=7∨k=8)with rfl|rfl|rfl|rfl|rfl|rfl|rfl|rfl|rfl
  case inr.inr.inr.inr.inr.inr.inr.inr =>
   have hfu:Zdq e=false:=by simp[Zdq]at hg ⊢;omega
   go_wp2_with fail
   rw[hfu]
   go_ret
   exact⟨_,rfl,hb,.v _⟩
  all_goals simp at hc0 hc1 hg
  ·by_cases hgt:e.m>6
   ·rw[show Zdq e=true by simp[Zdq];omega]
    go_wp2_with fail
    go_ret
    exact⟨_,rfl,hb.alloc hb.size _,.v _⟩
   ·go_wp2_with fail
    exact⟨⟨1,by omega,rfl,by simp;omega,(Below.heap_alloc _ _ _ (Ya5.1 hB).1).trans hB,hb.alloc hb.size _⟩,by simp[intOf]⟩
  ·by_cases hgt:e.h>100
   ·rw[show Zdq e=true by simp[Zdq];omega]
    go_wp2_with fail
    go_ret
    exact⟨_,rfl,hb.alloc hb.size _,.v _⟩
   ·go_wp2_with fail
    exact⟨⟨2,by omega,rfl,by simp;omega,(Below.heap_alloc _ _ _ (Ya5.1 hB).1).trans hB,hb.alloc hb.size _⟩,by simp[intOf]⟩
  ·by_cases hgt:e.s>30
   ·rw[show Zdq e=true by simp[Zdq];omega]
    go_wp2_with fail
    go_ret
    exact⟨_,rfl,hb.alloc hb.size _,.v _⟩
   ·go_wp2_with fail
    exact⟨⟨3,by omega,rfl,by simp;omega,(Below.heap_alloc _ _ _ (Ya5.1 hB).1).trans hB,hb.alloc hb.size _⟩,by simp[intOf]⟩
  ·by_cases hgt:(e.pl.length:Int)>100
   ·rw[show Zdq e=true by simp[Zdq];omega]
    go_wp2_with fail
    go_ret
    exact⟨_,rfl,hb.alloc hb.size _,.v _⟩
   ·go_wp2_with fail
    exact⟨⟨4,by omega,rfl,by simp;omega,(Below.heap_alloc _ _ _ (Ya5.1 hB).1).trans hB,hb.alloc hb.size _⟩,by simp[intOf]⟩
  ·by_cases hgt:(e.mv.length:Int)>200
   ·rw[show Zdq e=true by simp[Zdq];omega]
    go_wp2_with fail
    go_ret
    exact⟨_,rfl,hb.alloc hb.size _,.v _⟩
   ·go_wp2_with fail
    exact⟨⟨5,by omega,rfl,by simp;omega,(Below.heap_alloc _ _ _ (Ya5.1 hB).1).trans hB,hb.alloc hb.size _⟩,by simp[intOf]⟩
  ·by_cases hgt:(e.ce.length:Int)>100
   ·rw[show Zdq e=true by simp[Zdq];omega]
    go_wp2_with fail
    go_ret
    exact⟨_,rfl,hb.alloc hb.size _,.v _⟩
   ·go_wp2_with fail
    exact⟨⟨6,by omega,rfl,by simp;omega,(Below.heap_alloc _ _ _ (Ya5.1 hB).1).trans hB,hb.alloc hb.size _⟩,by simp[intOf]⟩
  ·by_cases hgt:(e.re.length:Int)>30
   ·rw[show Zdq e=true by simp[Zdq];omega]
    go_wp2_with fail
    go_ret
    exact⟨_,rfl,hb.alloc hb.size _,.v _⟩
   ·go_wp2_with fail
    exact⟨⟨7,by omega,rfl,by simp;omega,(Below.heap_alloc _ _ _ (Ya5.1 hB).1).trans hB,hb.alloc hb.size _⟩,by simp[intOf]⟩
  ·by_cases hgt:(e.pu.length:Int)>200
   ·rw[show Zdq e=true by simp[Zdq];omega]
    go_wp2_with fail
    go_ret
    exact⟨_,rfl,hb.alloc hb.size _,.v _⟩
   ·go_wp2_with fail
    exact⟨⟨8,by omega,rfl,by simp;omega,(Below.heap_alloc _ _ _ (Ya5.1 hB).1).trans hB,hb.alloc hb.size _⟩,by simp[intOf]⟩
end Go.Proofs.YtiincpioidnciaaGreat
