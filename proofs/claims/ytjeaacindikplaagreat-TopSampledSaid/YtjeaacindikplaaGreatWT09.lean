/-
  The example of a trace: what its verdicts, loads, proofs and explanations are (plain).
-/
import Derived.Test.YtjeaacindikplaaGreatWLib
import Derived.Test.YtjeaacindikplaaGreatWT07
import Derived.Test.YtjeaacindikplaaGreatWT00
import Derived.Test.YtjeaacindikplaaGreatWT05
import Derived.Test.YtjeaacindikplaaGreatWT08
import Derived.Test.YtjeaacindikplaaGreatWT06
import Derived.Test.YtjeaacindikplaaGreatWT01
import Derived.Test.YtjeaacindikplaaGreatWT03
namespace Go.Proofs.YtjeaacindikplaaGreat
set_option linter.unusedVariables false
set_option linter.unusedSimpArgs false
set_option linter.unusedSectionVars false
open Go Go.RowKit
set_option maxRecDepth 100000
set_option maxHeartbeats 4000000
theorem ExSol.r{x:List FracD}(S:ExSol fun i=>atP x (i:Nat)):0≤atP x (0:Nat)∧0≤atP x (1:Nat)∧atP x (2:Nat)=atP x (0:Nat)∧0≤atP x (3:Nat)∧atP x (3:Nat)≤atP x (2:Nat)∧atP x (4:Nat)=atP x (1:Nat):=⟨S.p0,S.p1,S.e2,S.p3,S.l3,S.e4⟩
theorem Ztb:Zax (sysT exT 0)=true:=ZaU ZbG 0
theorem Zp1:Zal (sysT exT 0) (exX 2 0 2 2 0)=true:=Ztf (by decide) (by decide) (by decide)
theorem ZA5:Zal (sysT exT 0) (exX 2 1 2 2 1)=true:=Ztf (by decide) (by decide) (by decide)
theorem own0:ownL exE 0=[0]:=by decide +kernel
theorem own1:ownL exE 1=[1]:=by decide +kernel
theorem ZlS{h:Int}{i:Nat}(ho:ownL exE h=[i]){x:List FracD}(hx:Zal (sysT exT 0) x=true):0≤atG x (ZbW exE h)∧(0<atG x (ZbW exE h)↔0<atP x (i:Nat)):=by
 have S:=((ZcN Ztb).1 hx).2.2
 obtain⟨a,b⟩:=ZpS (e:=exE) (h:=h) (x:=x) S.pos
 refine⟨a,b.trans ?_⟩
 rw[ho]
 simp
theorem ZlR:∃ a b:VerD,ZbL exT 0=([a,b],0)∧a.s=2∧b.s=1∧a.h=0∧b.h=1:=by
 have hx:∃ x,Zal (sysT exT 0) x=true:=⟨_,Zp1⟩
 have g0:=ZeG exE 0
 have g1:=ZeG exE 1
 obtain⟨a1,a2,a3,a4⟩:=Ziu (h:=0) Ztb (g:=ZbW exE 0) g0 hx fun x h=>(ZlS own0 h).1
 obtain⟨b1,b2,b3,b4⟩:=Ziu (h:=1) Ztb (g:=ZbW exE 1) g1 hx fun x h=>(ZlS own1 h).1
 refine⟨ZcL (sysT exT 0) (ZbW exE 0) 0,ZcL (sysT exT 0) (ZbW exE 1) 1,?_,a1.2 fun x h=>?_,?_,a4,b4⟩
 ·unfold ZbL
  rw[if_pos ⟨ZAc,by decide⟩]
  rcases Zno Ztb with⟨h,_⟩|⟨_,h⟩
  ·rw[h,if_pos rfl];rfl
  ·have:=Zp1
   rw[h]at this;cases this
 ·rw[(ZlS own0 h).2]
  obtain⟨S,h3⟩:=ZxE h
  obtain⟨_,_,_,_,_,_⟩:=S.r
  grind
 ·rcases b3 with h|h|h
  ·exfalso
   have h1:=(b2.1 h) _ ZA5
   have h2:=(ZlS own1 ZA5).2.2 (by rw[(ZeK 2 1 2 2 1).2.1];decide)
   grind
  ·exact h
  ·exfalso
   have h1:=(b1.1 h) _ Zp1
   have h2:=(ZlS own1 Zp1).2.1 h1
   rw[(ZeK 2 0 2 2 0).2.1]at h2
   exact absurd h2 (by decide)
theorem ZEN:2*exT.e.mv.length+exT.fi.length+exT.cl.length+exT.e.h.toNat*exT.e.mv.length≤6000:=by decide
theorem Zrt{set:List Int}:ZfD exT 0 set=true↔set.contains 0=true:=by
 rw[Zta ZbG ZEN]
 constructor
 ·rintro⟨x,hx,hz⟩
  cases hc:set.contains (0:Int)
  ·exfalso
   have h0:=hz 0 (by decide) hc 0 (by rw[show exT.e=exE from rfl,show((0:Nat):Int)=0 from rfl,own0];exact Yb7)
   obtain⟨S,h3⟩:=ZxE hx
   obtain⟨_,_,_,_,_,_⟩:=S.r
   grind
  ·rfl
 ·intro hc
  refine⟨exX 2 0 2 2 0,Zp1,fun h hh hs i hi=>?_⟩
  have h2:h<2:=hh
  have:h=0∨h=1:=by omega
  rcases this with rfl|rfl
  ·rw[show((0:Nat):Int)=0 from rfl,hc]at hs;cases hs
  ·rw[show exT.e=exE from rfl,show((1:Nat):Int)=1 from rfl,own1,List.mem_singleton]at hi
   subst hi
   exact(ZeK 2 0 2 2 0).2.1
theorem ZCQ:ZhW exT 0=([0,1],0):=by
 obtain⟨a,b,h,ha,hb,h0,h1⟩:=ZlR
 unfold ZhW
 rw[h]
 have e:([a,b].filter fun v=>v.s !=0)=[a,b]:=by simp[ha,hb]
 simp only[if_true,e,List.map,h0,h1]
 rfl
theorem ZEM:ZaJ exT 0=([[0]],0):=by
 unfold ZaJ
 rw[ZCQ,if_pos rfl]
 have e0:ZfD exT 0 []=false:=by
  cases h:ZfD exT 0 []
  ·rfl
  ·have:=Zrt.1 h;cases this
 have e1:ZfD exT 0 [0]=true:=Zrt.2 (by decide)
 have e2:ZfD exT 0 [1]=false:=by
  cases h:ZfD exT 0 [1]
  ·rfl
  ·have:=Zrt.1 h;exact absurd this (by decide)
 have c0:Ze7 [0,1] 0=[[]]:=rfl
 have c1:Ze7 [0,1] 1=[[0],[1]]:=rfl
 have f0:(Ze7 [0,1] 0).filter (ZfD exT 0)=[]:=by rw[c0];simp[e0]
 have f1:(Ze7 [0,1] 1).filter (ZfD exT 0)=[[0]]:=by rw[c1];simp[e1,e2]
 show(Zim exT 0 [0,1] 3 0,(0:Int))=_
 unfold Zim
 rw[f0]
 simp only[List.isEmpty_nil,if_true]
 unfold Zim
 rw[f1]
 rfl
theorem Zoo:Zau exE=[0,1]:=by decide +kernel
theorem Zhq{lift:Nat}{x:List FracD}:Zal (ZaG exT 0 lift) x=true↔Zal (sysT (Zds exT) 0) x=true∧(lift≠0→atP x (0:Nat)=0)∧(lift≠1→atP x (1:Nat)=0):=by
 rw[Zih ZbG]
 refine and_congr_right fun _=>?_
 constructor
 ·intro h
  exact⟨fun hl=>h 0 (by decide) (by decide +kernel) fun e=>hl e.symm,fun hl=>h 1 (by decide) (by decide +kernel) fun e=>hl e.symm⟩
 ·rintro⟨h0,h1⟩
  exact lt5 (fun _ hl=>h0 fun e=>hl e.symm) (fun _ hl=>h1 fun e=>hl e.symm) (fun h=>absurd h (by decide +kernel)) (fun h=>absurd h (by decide +kernel)) (fun h=>absurd h (by decide +kernel))
theorem Zp3:Zal (ZaG exT 0 0) (exX 1 0 1 1 0)=true:=Zhq.2 ⟨Zop (by decide) (by decide) (by decide) (by decide) rfl,fun h=>absurd rfl h,fun _=>(ZeK 1 0 1 1 0).2.1⟩
theorem ex_a2:Zal (ZaG exT 0 0) (exX 1 0 1 0 0)=true:=Zhq.2 ⟨Zop (by decide) (by decide) (by decide) (by decide) rfl,fun h=>absurd rfl h,fun _=>(ZeK 1 0 1 0 0).2.1⟩
theorem ZEL{i:Nat}{g:List TermD}(hg:(Zcu exE)[i]? =some g):((Zc4 exT 0 0).is[i]?).getD false=true↔∃ x,Zal (ZaG exT 0 0) x=true∧0<atG x g:=(Zhb ZbG 0 0).2 i g hg
theorem Zi8{x:List FracD}(h:Zal (ZaG exT 0 0) x=true):ExSol (fun i=>atP x (i:Nat))∧atP x (1:Nat)=0:=by
 obtain⟨a,_,c⟩:=Zhq.1 h
 exact⟨Zon a,c (by decide)⟩
theorem ZxF{i:Nat}(hi:i<5):((Zc4 exT 0 0).is[i]?).getD false=true↔∃ x,Zal (ZaG exT 0 0) x=true∧0<atP x (i:Nat):=Zsh ZbG hi
theorem ZAb{p:Nat}{pl:PlD}(hp:exPl[p]? =some pl)(hk:pl.k≠0):((Zc4 exT 0 0).is[5+p]?).getD false=true↔∃ x,Zal (ZaG exT 0 0) x=true∧0<stN exE (fun i=>atP x (i:Nat)) p 5:=by
 rw[show 5+p=exE.mv.length+p from rfl,ZEL (ZlM (e:=exE) hp)]
 simp only[Zqe (e:=exE) hk]
 exact Iff.rfl
theorem ZA7{p:Nat}{pl:PlD}(hp:exPl[p]? =some pl)(hk:pl.k=0):((Zc4 exT 0 0).is[5+p]?).getD false=false:=by
 cases h:((Zc4 exT 0 0).is[5+p]?).getD false
 ·rfl
 ·obtain⟨x,_,b⟩:=(ZEL (ZlM (e:=exE) hp)).1 h
  rw[Zyp hk]at b
  exact absurd b (by decide)
theorem Ztc(f:Nat→Rat):stN exE f (2:Nat) 5=f 0-f 2∧stN exE f (3:Nat) 5=f 1-f 4∧stN exE f (4:Nat) 5=f 2-f 3+f 4∧stN exE f (5:Nat) 5=f 3:=by
 refine⟨?_,?_,?_,?_⟩
 ·show 0+f 0+0 + -(f 2)+0+0=_;grind
 ·show 0+0+f 1+0+0 + -(f 4)=_;grind
 ·show 0+0+0+f 2 + -(f 3)+f 4=_;grind
 ·show 0+0+0+0+f 3+0=_;grind
theorem Zf1{b:Bool}(h:¬ b=true):b=false:=by cases b;rfl;exact absurd rfl h
theorem ZEK:((Zc4 exT 0 0).is[0]?).getD false=true:=(ZxF (by decide)).2 ⟨_,Zp3,by rw[(ZeK 1 0 1 1 0).1];decide⟩
theorem ZEJ:((Zc4 exT 0 0).is[1]?).getD false=false:=Zf1 fun h=>by
 obtain⟨x,a,b⟩:=(ZxF (by decide)).1 h
 rw[(Zi8 a).2]at b
 exact absurd b (by decide)
theorem ZEI:((Zc4 exT 0 0).is[2]?).getD false=true:=(ZxF (by decide)).2 ⟨_,Zp3,by rw[(ZeK 1 0 1 1 0).2.2.1];decide⟩
theorem ZA9:((Zc4 exT 0 0).is[3]?).getD false=true:=(ZxF (by decide)).2 ⟨_,Zp3,by rw[(ZeK 1 0 1 1 0).2.2.2.1];decide⟩
theorem ZEA{x:List FracD}(h:Zal (ZaG exT 0 0) x=true):atP x (4:Nat)=0:=by
 obtain⟨S,h1⟩:=Zi8 h
 exact S.r.2.2.2.2.2.trans h1
theorem ZA8:((Zc4 exT 0 0).is[4]?).getD false=false:=Zf1 fun h=>by
 obtain⟨x,a,b⟩:=(ZxF (by decide)).1 h
 rw[ZEA a]at b
 exact absurd b (by decide)
theorem ZEH:((Zc4 exT 0 0).is[7]?).getD false=false:=Zf1 fun h=>by
 obtain⟨x,a,b⟩:=(ZAb (p:=2) rfl (by decide)).1 h
 rw[(Ztc _).1,(Zi8 a).1.e2]at b
 grind
theorem ZEG:((Zc4 exT 0 0).is[8]?).getD false=false:=Zf1 fun h=>by
 obtain⟨x,a,b⟩:=(ZAb (p:=3) rfl (by decide)).1 h
 rw[(Ztc _).2.1,(Zi8 a).1.e4]at b
 grind
theorem ZEF:((Zc4 exT 0 0).is[9]?).getD false=true:=(ZAb (p:=4) rfl (by decide)).2 ⟨_,ex_a2,by
 obtain⟨_,_,h2,h3,h4⟩:=ZeK 1 0 1 0 0
 rw[(Ztc _).2.2.1,h2,h3,h4];decide +kernel⟩
theorem ZCT:((Zc4 exT 0 0).is[10]?).getD false=true:=(ZAb (p:=5) rfl (by decide)).2 ⟨_,Zp3,by rw[(Ztc _).2.2.2,(ZeK 1 0 1 1 0).2.2.2.1];decide⟩
theorem ZCS{x:List FracD}(h:Zal (ZaG exT 0 1) x=true):atP x (3:Nat)≤0:=by
 obtain⟨a,b,_⟩:=Zhq.1 h
 have S:=Zon a
 have h0:=b (by decide)
 obtain⟨_,_,_,_,_,_⟩:=S.r
 grind
theorem ZEC:Zbs exT exF=[Zc4 exT 0 0]:=by
 have h1:((Zc4 exT 0 1).is[3]?).getD false=false:=Zf1 fun h=>by
  obtain⟨x,a,b⟩:=(Zsh (lift:=1) (kind:=0) ZbG (i:=3) (by decide)).1 h
  have:=ZCS a
  grind
 unfold Zbs
 rw[show exT.e=exE from rfl,Zoo]
 simp only[List.map,List.filter]
 rw[show exF.v.toNat=3 from rfl,show exF.k=0 from rfl,ZA9,h1]
theorem ZxH(i:Nat):hasR (Zbs exT exF) i=((Zc4 exT 0 0).is[i]?).getD false:=by rw[ZEC];simp[hasR]
theorem Zp2:Zj5 exT exF=[0,2,3]:=by
 unfold Zj5
 rw[show exT.e.mv.length=5 from rfl,show List.range 5=[0,1,2,3,4]from rfl]
 simp only[List.filter,ZxH,ZEK,ZEJ,ZEI,ZA9,ZA8]
theorem ZxG:ZlC exT exF=[4,5]:=by
 unfold ZlC
 rw[show exT.e.pl.length=6 from rfl,show exT.e.mv.length=5 from rfl,show List.range 6=[0,1,2,3,4,5]from rfl]
 have h5:=ZA7 (p:=0) rfl rfl
 have h6:=ZA7 (p:=1) rfl rfl
 simp only[List.filter,ZxH,Nat.reduceAdd,Nat.add_zero,h5,h6,ZEH,ZEG,ZEF,ZCT]
theorem ZCR:ZvA exT exF=[3]:=by
 unfold ZvA
 rw[Zp2]
 decide +kernel
theorem Zte:Zir exT exF 4 (Zf9 exT exF 4)=true∧Zir exT exF 3 (Zf9 exT exF 4)=false:=by
 have hs0:=Zc9 ZbG 0 0
 have hs1:=Zc9 ZbG 0 1
 have p0:ZiH exT exF 4 0=maxY (ZaG exT 0 0) (ZaY (4:Nat) 1):=by
  unfold ZiH
  have hm:=ZnZ (g:=ZaY (3:Nat) 1) hs0 (Zck (by decide) (by decide)) fun x hx=>by
   have:=(Zi8 hx).1.r.2.2.2.1
   rw[Zej];grind
  have:posD (ZaY exF.v 1) (maxX (ZaG exT exF.k 0) (ZaY exF.v 1))=true:=by
   rcases hm with⟨h,_⟩|⟨h1,h2⟩
   ·have:=Zp3
    rw[h]at this;cases this
   ·obtain⟨_,a,b,_⟩:=Za2.1 h1
    refine(ZkB (n:=5) (Zck (by decide) (by decide)) a b).2 (h2 _ Zp3 ?_)
    rw[Zej,(ZeK 1 0 1 1 0).2.2.2.1];decide +kernel
  rw[this,if_pos rfl];rfl
 have p1:ZiH exT exF 4 1=maxY (ZaG exT 0 1) (ZaY (3:Nat) 1):=by
  unfold ZiH
  have:posD (ZaY exF.v 1) (maxX (ZaG exT exF.k 1) (ZaY exF.v 1))=false:=Zf1 fun h=>by
   have hm:=ZnZ (g:=ZaY (3:Nat) 1) hs1 (Zck (by decide) (by decide)) fun x hx=>by
    have:=(Zon (Zhq.1 hx).1).r.2.2.2.1
    rw[Zej];grind
   rcases hm with⟨_,h2⟩|⟨h1,_⟩
   ·rw[show maxX (ZaG exT exF.k 1) (ZaY exF.v 1)=[]from h2,Zwk]at h;cases h
   ·obtain⟨_,a,b,_⟩:=Za2.1 h1
    have h3:=(ZkB (n:=5) (Zck (by decide) (by decide)) a b).1 h
    have h4:=ZCS h1
    have h5:atG (maxX (ZaG exT 0 1) (ZaY (3:Nat) 1)) (ZaY (3:Nat) 1)=1*atP (maxX (ZaG exT 0 1) (ZaY (3:Nat) 1)) (3:Nat):=Zej
    have h6:0<atG (maxX (ZaG exT 0 1) (ZaY (3:Nat) 1)) (ZaY (3:Nat) 1):=h3
    rw[h5]at h6
    grind
  rw[this,if_neg Bool.false_ne_true];rfl
 have n0:ZdS (ZaG exT 0 0) (4:Nat) (maxY (ZaG exT 0 0) (ZaY (4:Nat) 1))=true:=ZmL hs0 (by decide) ⟨_,Zp3⟩ fun x hx=>by rw[ZEA hx];exact Rat.le_refl
 have z1:Zal (ZaG exT 0 1) (exX 0 1 0 0 1)=true:=Zhq.2 ⟨Zop (by decide) (by decide) (by decide) (by decide) rfl,fun _=>(ZeK 0 1 0 0 1).1,fun h=>absurd rfl h⟩
 have n1:ZdS (ZaG exT 0 1) (3:Nat) (maxY (ZaG exT 0 1) (ZaY (3:Nat) 1))=true:=ZmL hs1 (by decide) ⟨_,z1⟩ fun x hx=>ZCS hx
 have n2:∀ y,ZdS (ZaG exT 0 0) (3:Nat) y=false:=fun y=>Zf1 fun h=>by
  have:=Zq4 hs0 (by decide) h Zp3
  rw[(ZeK 1 0 1 1 0).2.2.2.1]at this
  exact absurd this (by decide)
 have ep:Zf9 exT exF 4=[maxY (ZaG exT 0 0) (ZaY (4:Nat) 1),maxY (ZaG exT 0 1) (ZaY (3:Nat) 1)]:=by
  unfold Zf9
  rw[show exT.e=exE from rfl,Zoo]
  simp only[List.map,p0,p1]
 rw[ep]
 unfold Zir
 rw[show exT.e=exE from rfl,Zoo,show exF.k=0 from rfl,show exF.v=(3:Nat)from rfl]
 constructor
 ·simp only[List.length_cons,List.length_nil,List.zip_cons_cons,List.zip_nil_right,List.all_cons,List.all_nil,n0,n1,n2,Bool.or_true,Bool.true_or,decide_true,Bool.and_self]
 ·simp only[List.length_cons,List.length_nil,List.zip_cons_cons,List.zip_nil_right,List.all_cons,List.all_nil,n2,Bool.or_false,Bool.false_and,Bool.and_false]
set_option maxHeartbeats 16000000
theorem ZzN[Ifl]{s:St}(id i j:Nat){b:Blk}{e:List D}(hb:s.m id=some b)(he:b.es[i]? =some e)(hj:e[j]? =some .nil) :
 StLe s {s with m:=upd s.m id (some {b with es:=b.es.set i (e.set j (.sl []))})}:=by
 intro E B n β a w h
 obtain⟨g1,g2,g3⟩:=ZmR (id:=id) (b:=b) (es':=b.es.set i (e.set j (.sl []))) h.mem hb (by simp) (fun i' e' hi'=>by
  rw[List.getElem?_set]at hi'
  split at hi'
  ·rename_i hii
   subst hii
   split at hi'
   ·cases hi';exact⟨e,he,by simp⟩
   ·cases hi'
  ·exact⟨e',hi',rfl⟩) (fun i' j' d' hd'=>by
  obtain⟨e',he',hj'⟩:=Zak.1 hd'
  rw[List.getElem?_set]at he'
  split at he'
  ·rename_i hii
   subst hii
   split at he'
   ·cases he'
    rw[List.getElem?_set]at hj'
    split at hj'
    ·rename_i hjj
     subst hjj
     split at hj'
     ·cases hj'
      exact⟨.nil,Zak.2 ⟨e,he,hj⟩,fun u hu=>ZdB hu.inv_nil⟩
     ·cases hj'
    ·exact⟨d',Zak.2 ⟨e,he,hj'⟩,fun _ hu=>hu⟩
   ·cases he'
  ·exact⟨d',Zak.2 ⟨e',he',hj'⟩,fun _ hu=>hu⟩)
 exact⟨_,g1,fun k hk=>(h.tmp k hk).mono g2 g3,h.width,h.defers,h.le.trans g2,h.sle.trans g3,h.lo⟩
theorem lo2{l:List Nat}(h0:l[0]? =some 0)(h1:l[1]? =some 1):∀ id,id<2→l.contains id=true:=by
 intro id h
 rw[List.contains_iff_mem]
 have:id=0∨id=1:=by omega
 rcases this with rfl|rfl
 ·exact Ya7 h0
 ·exact Ya7 h1
theorem ZuQ{t:TrD}(h:ZaZ t=0):ZaZ (Zds t)=0:=by
 obtain⟨h1,h2,h3⟩:=ZfO h
 have R:=Zby h
 unfold ZaZ Zds
 rw[if_pos h1,if_neg (by have:=R.lc;simp;omega)]
 simpa[Zdc]using h3
theorem ZrG(t0:TrD)(R0:RightTr t0)(h1:ZaZ t0=0)(L0:LenT t0)(find:Nat)(f:FiD)(hx:t0.fi[find]? =some f)(lift:Nat) :
 Zaf Tryz.prog 71 [ZbC t0,dI find,dI lift,Zab (natI (Zau t0.e))] (encS (ZaG t0 f.k lift)):=by
 have hresA:=Tryz.results71
 have hres:=Tryz.results40
 have hresR:=Tryz.results85
 obtain⟨-,hk,-⟩:=R0.fi f (Ya7 hx)
 obtain⟨kind,ekind⟩:∃ k,f.k=k:=⟨_,rfl⟩
 rw[ekind]at hk
 have f0:(0:Int)≤find:=by omega
 obtain⟨t,et⟩:∃ t,Zds t0=t:=⟨_,rfl⟩
 have R:RightTr t:=et▸Zdd R0
 have h1:ZaZ t=0:=et▸ZuQ h1
 have L:LenT t:=by rw[← et];exact⟨L0.e,by simp[Zds],L0.cl⟩
 have eE:t.e=t0.e:=by rw[← et];rfl
 have eT:[dI t0.e.m,dI t0.e.h,dI t0.e.s,Zkc t0.e.pl,ZhR t0.e.mv,Zmc t0.e.ce,ZgO t0.e.re,Zna t0.e.pu,.sl [],Zja t0.cl]=cTr t:=by rw[← et];rfl
 have eS:ZaG t0 f.k lift=⟨t.e.mv.length,ZbS t kind t.e.mv.length++Zga t.e lift⟩:=by unfold ZaG;rw[et,eE,ekind]
 rw[eS,← eE]
 have k1:=ZhU t L
 have k2:=Zrf t R kind
 have k3:=nZ_c
 have k4:=nO_c
 have Lm:=R.e.lm
 rw[h1]at k1
 have h2:¬ kind<0:=by omega
 have h3:¬ kind≥8:=by omega
 refine inC Tryz.func71 rfl Tryz.ntmps71 ?_
 repeat ((fail_if_success (with_reducible refine Zdt 3 ?_)); first
     | (refine hK _ ?_;clear hK;clear K)
     | (refine aSeq fun K hK=>?_)
     | (refine ZcK ?_)
     | (refine ZeV ?_)
     | (refine ZeX ?_)
     | (refine aRet ?_)
     | (refine aOps _ rfl (by kernel_rfl) ?_)
     | (refine ZeW _ rfl Zeb (by kernel_rfl) (by kernel_rfl) fun KE hE=>?_)
     | (refine hE _ _ (by kernel_rfl) (Zay rfl) ?_;clear hE;clear KE)
     | (refine hE _ _ (by kernel_rfl) (Za8 ?hi ?hj) ?_;(case hi=>(repeat(refine Zam rfl ?_));exact Zao);(case hj=>simp);clear hE;clear KE)
     | (refine ZcI rfl ?hc ?_;case hc=>simp only[go_sem,↓reduceIte,hresA,hx,f0,ekind])
     | (refine ZcJ rfl ?hc ?_;case hc=>simp only[go_sem,↓reduceIte,hresA,hx,f0,ekind])
     | (simp only[go_sem,↓reduceIte,hresA,hx,f0,ekind])
     | (refine And.intro ?ho ?_;(case ho=>omega))
     | (clear hK;clear K))
 refine aLe (ZzN 0 0 8 rfl rfl rfl) ?_
 simp only[go_sem,eT]
 refine aGo hresA ?_
 repeat with_reducible intro K hK
 refine Zbf Tryz.func40 rfl (by kernel_rfl) (by kernel_rfl) (by kernel_rfl) ?_
 rw[Tryz.ntmps40]
 refine aGo (cj3 hres h2 h3) ?_
 repeat with_reducible intro K hK
 have kl:(Zb7 t kind).length=t.e.mv.length:=by simp[Zb7]
 refine aLe (ZdK 5 0 1 153 6 rfl rfl rfl) ?_
 simp only[go_sem]
 refine Zat (fun(x:Nat×Nat)=>[(2,.lp 2 0 0 0),(4,.lp 3 0 0 0),(6,.lp 4 0 0 0),(7,.lp 5 0 0 0),(8,.clo 85 [.lp 5 0 0 0]),(34,Zgc (Zb7 t kind)),(35,dI t.e.mv.length),(36,dI x.1)]) (fun x=>[(0,⟨32,0,10,[cTr t],0,false⟩),(1,⟨99,0,2,[[dI 0,.nil]],0,false⟩),(2,⟨32,0,10,[cTr t],0,false⟩),(3,⟨99,0,2,[[dI 0,.nil]],0,false⟩),(4,⟨28,0,8,[cEv t.e],0,false⟩),(5,⟨99,0,2,[[dI t.e.mv.length,.ls 6 x.2]],0,false⟩),(6,⟨153,x.2,6,(ZbS t kind x.1).map cW,0,false⟩)]) 7 2 (fun x=>x.1≤t.e.mv.length) (fun x=>t.e.mv.length-x.1) (0,0) (by show 0≤t.e.mv.length;omega) ?_ ?_
 ·have e0:ZbS t kind 0=[]:=rfl
  refine Zag _ _ _ ?_ ?_ ?_ ?_ ?_ (.inr (lo2 rfl rfl))<;>simp[go_sem,okD,okDs,Zap,e0,kl]
 rintro⟨k,V⟩ hk2
 simp only at hk2
 obtain⟨hw,h0⟩:=ZaM k
 have hA:=Zha t R kind k
 have hA2:=Zha t R kind (k+1)
 have eR:ZbS t kind (k+1)=ZbS t kind k++ZhD t kind k:=rfl
 by_cases h4:(k:Int)<t.e.mv.length
 ·have hka:(Zb7 t kind)[k]? =some (abK t kind k):=by unfold Zb7;rw[List.getElem?_map,List.getElem?_range (by omega)];rfl
  have kb:=ZC9 t.e R.e k (by omega)
  have ks:=Zvt t.e R.e k (by omega)
  have eK:ZhD t kind k=(if ZbK t.e k then []else [ZcR t.e k])++((if (abK t kind k).cap then [oneR k 1 (abK t kind k).hi]else [])++((abK t kind k).fi.map (fun(g:Int)=>oneR k 0 (ofQ (g:Rat)))++List.replicate (abK t kind k).cl.toNat (oneR k 2 (ofQ 0)))):=by
   unfold ZhD abK;rfl
  have hcl:0≤(abK t kind k).cl∧(abK t kind k).cl≤50:=by
   have q2:=Yb1 (fun f:ClD=>f.k==kind&&f.v==(k:Int)) t.cl
   have l5:=R.lc
   unfold abK cleK
   simp only;omega
  have hfi:(abK t kind k).fi.length≤20∧∀ g∈(abK t kind k).fi,1≤g∧g≤1099511627776:=by
   have q2:=Yb1 (fun f:FiD=>f.k==kind&&f.v==(k:Int)) t.fi
   have l4:=R.lf
   refine⟨by unfold abK finK;simp only[List.length_map];omega,fun g hg=>?_⟩
   obtain⟨f,hf,rfl⟩:=List.mem_map.1 hg
   exact(R.fi f (List.mem_filter.1 hf).1).2.2
  generalize abK t kind k=ab at hka hcl hfi eK
  obtain⟨hi,cap,fi,cl⟩:=ab
  dsimp only at eK hcl hfi
  rw[eK]at eR
  clear eK
  obtain⟨A,eA⟩:∃ A,ZbS t kind k=A:=⟨_,rfl⟩
  obtain⟨A',eA'⟩:∃ A,ZbS t kind (k+1)=A:=⟨_,rfl⟩
  rw[eA]at hA
  rw[eA']at hA2
  rw[eA,eA']at eR
  generalize ZbK t.e k=b at kb eR
  rw[eA]
  refine aGo (cj4 hres h0 h4 hka) ?_
  repeat with_reducible intro K hK
  have Zgh:∀ (A1 A2:List RowD),A'=A1++A2→A1.length≤14400:=fun A1 A2 h=>by
   have:=congrArg List.length h
   rw[List.length_append]at this;omega
  have r1:∀ (A1:List RowD)(V1:Nat),A'=A1++((if cap then [oneR k 1 hi]else [])++(fi.map (fun(g:Int)=>oneR k 0 (ofQ (g:Rat)))++List.replicate cl.toNat (oneR k 2 (ofQ 0))))→∀ st,StLe st ⟨tabT [(2,.lp 2 0 0 0),(4,.lp 3 0 0 0),(6,.lp 4 0 0 0),(7,.lp 5 0 0 0),(8,.clo 85 [.lp 5 0 0 0]),(34,Zgc (Zb7 t kind)),(35,dI t.e.mv.length),(36,dI k),(9,dI k),(10,.lp 7 0 0 0)],tabM [(0,⟨32,0,10,[cTr t],0,false⟩),(1,⟨99,0,2,[[dI 0,.nil]],0,false⟩),(2,⟨32,0,10,[cTr t],0,false⟩),(3,⟨99,0,2,[[dI 0,.nil]],0,false⟩),(4,⟨28,0,8,[cEv t.e],0,false⟩),(5,⟨99,0,2,[[dI t.e.mv.length,.ls 6 V1]],0,false⟩),(6,⟨153,V1,6,A1.map cW,0,false⟩),(7,⟨88,0,7,[cAb ⟨hi,cap,fi,cl⟩],0,false⟩)],8,2⟩→K st:=by
   clear eR hA
   intro A1 V1 e1 st hle
   refine hK _ (aLe hle ?_)
   clear hle hK
   have bA1:=Zgh A1 _ e1
   refine aGo hres ?_
   repeat with_reducible intro K hK
   have r2:∀ (A2:List RowD)(V2:Nat),A'=A2++(fi.map (fun(g:Int)=>oneR k 0 (ofQ (g:Rat)))++List.replicate cl.toNat (oneR k 2 (ofQ 0)))→∀ st,StLe st ⟨tabT [(2,.lp 2 0 0 0),(4,.lp 3 0 0 0),(6,.lp 4 0 0 0),(7,.lp 5 0 0 0),(8,.clo 85 [.lp 5 0 0 0]),(34,Zgc (Zb7 t kind)),(35,dI t.e.mv.length),(36,dI k),(9,dI k),(10,.lp 7 0 0 0)],tabM [(0,⟨32,0,10,[cTr t],0,false⟩),(1,⟨99,0,2,[[dI 0,.nil]],0,false⟩),(2,⟨32,0,10,[cTr t],0,false⟩),(3,⟨99,0,2,[[dI 0,.nil]],0,false⟩),(4,⟨28,0,8,[cEv t.e],0,false⟩),(5,⟨99,0,2,[[dI t.e.mv.length,.ls 6 V2]],0,false⟩),(6,⟨153,V2,6,A2.map cW,0,false⟩),(7,⟨88,0,7,[cAb ⟨hi,cap,fi,cl⟩],0,false⟩)],8,2⟩→K st:=by
    clear e1 bA1
    intro A2 V2 e2 st hle
    refine hK _ (aLe hle ?_)
    clear hle hK
    refine aGo hres ?_
    repeat with_reducible intro K hK
    obtain⟨F,hF⟩:∃ F:Nat→List RowD,F=fun j=>A2++(fi.take j).map (fun(g:Int)=>oneR k 0 (ofQ (g:Rat))):=⟨_,rfl⟩
    have F0:F 0=A2:=by rw[hF];simp
    have Fn:F fi.length=A2++fi.map (fun(g:Int)=>oneR k 0 (ofQ (g:Rat))):=by rw[hF];simp
    have Fs:∀ (j:Nat)(g:Int),fi[j]? =some g→F (j+1)=F j++[oneR k 0 (ofQ (g:Rat))]:=fun j g hg=>by rw[hF];simp only;rw[Yb4,hg];simp
    have bA2:=Zgh A2 _ e2
    have Fl:∀ j:Nat,j≤fi.length→(F j).length≤14420:=fun j hj=>by rw[hF];simp;omega
    refine Zat (fun(x:Nat×Nat)=>[(2,.lp 2 0 0 0),(4,.lp 3 0 0 0),(6,.lp 4 0 0 0),(7,.lp 5 0 0 0),(8,.clo 85 [.lp 5 0 0 0]),(34,Zgc (Zb7 t kind)),(35,dI t.e.mv.length),(36,dI k),(9,dI k),(10,.lp 7 0 0 0),(61,Zab fi),(62,dI fi.length),(63,dI x.1)]) (fun x=>[(0,⟨32,0,10,[cTr t],0,false⟩),(1,⟨99,0,2,[[dI 0,.nil]],0,false⟩),(2,⟨32,0,10,[cTr t],0,false⟩),(3,⟨99,0,2,[[dI 0,.nil]],0,false⟩),(4,⟨28,0,8,[cEv t.e],0,false⟩),(5,⟨99,0,2,[[dI t.e.mv.length,.ls 6 x.2]],0,false⟩),(6,⟨153,x.2,6,(F x.1).map cW,0,false⟩),(7,⟨88,0,7,[cAb ⟨hi,cap,fi,cl⟩],0,false⟩)]) 8 2 (fun x=>x.1≤fi.length) (fun x=>fi.length-x.1) (0,V2) (by show 0≤fi.length;omega) ?_ ?_
    ·refine Zag _ _ _ ?_ ?_ ?_ ?_ ?_ (.inr (lo2 rfl rfl))<;>simp[go_sem,okD,okDs,Zap,F0]<;>exact ZbQ _ _
    rintro⟨j,W⟩ hj
    simp only at hj
    obtain⟨hwj,j0⟩:=ZaM j
    by_cases h5:(j:Int)<fi.length
    ·obtain⟨g,hg⟩:∃ g,fi[j]? =some g:=⟨_,Ya0 (by omega)⟩
     obtain⟨g1,g2⟩:=hfi.2 g (Ya7 hg)
     have kg:=ZhN g (by omega) (by omega)
     have eB:=Fs j g hg
     have bl:=Fl j hj
     generalize F j=B at eB bl
     have ew:cW (oneR k 0 (ofQ (g:Rat)))=[.sl [cT ⟨k,ofQ 1⟩],dI 0,dI (ofQ (g:Rat)).p.s,Zab (ofQ (g:Rat)).p.d,dI (ofQ (g:Rat)).q.s,Zab (ofQ (g:Rat)).q.d]:=rfl
     refine aGo (cj4 hres j0 h5 hg) ?_
     repeat with_reducible intro K hK
     refine Zbf Tryz.func85 rfl (by kernel_rfl) (by kernel_rfl) (by kernel_rfl) ?_
     rw[Tryz.ntmps85]
     refine aGo (cj3 hres hresR hwj) ?_
     repeat with_reducible intro K hK
     refine Zac (j+1,W+1) ?_ ?_ ?_
     ·show j+1≤fi.length;omega
     ·show fi.length-(j+1)<fi.length-j;omega
     have ez:∀ M:Mem,List.map (List.map (fzT false M 4)) (B.map cW)=B.map cW:=fun M=>Zan (fun _=>rfl) _
     refine StLe.trans (ZcM 9 rfl) (StLe.trans (ZcY 6 4 rfl) (ZlE (by simp only[go_sem,fzT,ez];exact rfl) ?_))
     refine Zag _ _ _ ?_ ?_ ?_ ?_ ?_ (.inr (lo2 rfl rfl))<;>simp[go_sem,okD,okDs,Zap,ew,eB]
     all_goals (rintro e (⟨a,_,rfl⟩|rfl)<;>rfl)
    obtain rfl:j=fi.length:=by omega
    have e3:A'=F fi.length++List.replicate cl.toNat (oneR k 2 (ofQ 0)):=by rw[Fn,e2,List.append_assoc]
    have bF:=Fl fi.length (Ya4 _)
    generalize F fi.length=A3 at e3 bF
    clear Fs Fn F0 hF e2 Fl bA2
    refine aGo (cj2 hres h5) ?_
    repeat with_reducible intro K hK
    obtain⟨G,hG⟩:∃ G:Nat→List RowD,G=fun j=>A3++List.replicate j (oneR k 2 (ofQ 0)):=⟨_,rfl⟩
    have G0:G 0=A3:=by rw[hG];simp
    have Gs:∀ j:Nat,G (j+1)=G j++[oneR k 2 (ofQ 0)]:=fun j=>by rw[hG];simp only;rw[List.replicate_succ',List.append_assoc]
    have Gl:∀ j:Nat,j≤50→(G j).length≤14470:=fun j hj=>by rw[hG];simp at bF ⊢;omega
    refine Zat (fun(x:Nat×Nat)=>[(2,.lp 2 0 0 0),(4,.lp 3 0 0 0),(6,.lp 4 0 0 0),(7,.lp 5 0 0 0),(8,.clo 85 [.lp 5 0 0 0]),(34,Zgc (Zb7 t kind)),(35,dI t.e.mv.length),(36,dI k),(9,dI k),(10,.lp 7 0 0 0),(74,dI cl),(75,dI x.1)]) (fun x=>[(0,⟨32,0,10,[cTr t],0,false⟩),(1,⟨99,0,2,[[dI 0,.nil]],0,false⟩),(2,⟨32,0,10,[cTr t],0,false⟩),(3,⟨99,0,2,[[dI 0,.nil]],0,false⟩),(4,⟨28,0,8,[cEv t.e],0,false⟩),(5,⟨99,0,2,[[dI t.e.mv.length,.ls 6 x.2]],0,false⟩),(6,⟨153,x.2,6,(G x.1).map cW,0,false⟩),(7,⟨88,0,7,[cAb ⟨hi,cap,fi,cl⟩],0,false⟩)]) 8 2 (fun x=>(x.1:Int)≤cl) (fun x=>cl.toNat-x.1) (0,W) (by show((0:Nat):Int)≤cl;omega) ?_ ?_
    ·refine Zag _ _ _ ?_ ?_ ?_ ?_ ?_ (.inr (lo2 rfl rfl))<;>simp[go_sem,okD,okDs,Zap,G0]<;>exact ZbQ _ _
    clear h5 hwj j0 W
    rintro⟨j,W⟩ hj
    simp only at hj
    have hwj:=ZtF j
    by_cases h5:(j:Int)<cl
    ·have eB:=Gs j
     have bl:=Gl j (by omega)
     generalize G j=B at eB bl
     have ew:cW (oneR k 2 (ofQ 0))=[.sl [cT ⟨k,ofQ 1⟩],dI 2,dI (ofQ 0).p.s,Zab (ofQ 0).p.d,dI (ofQ 0).q.s,Zab (ofQ 0).q.d]:=rfl
     refine aGo (cj2 hres h5) ?_
     repeat with_reducible intro K hK
     refine Zbf Tryz.func85 rfl (by kernel_rfl) (by kernel_rfl) (by kernel_rfl) ?_
     rw[Tryz.ntmps85]
     refine aGo (cj3 hres hresR hwj) ?_
     repeat with_reducible intro K hK
     refine Zac (j+1,W+1) ?_ ?_ ?_
     ·show((j+1:Nat):Int)≤cl;omega
     ·show cl.toNat-(j+1)<cl.toNat-j;omega
     have ez:∀ M:Mem,List.map (List.map (fzT false M 4)) (B.map cW)=B.map cW:=fun M=>Zan (fun _=>rfl) _
     refine StLe.trans (ZcM 9 rfl) (StLe.trans (ZcY 6 4 rfl) (ZlE (by simp only[go_sem,fzT,ez];exact rfl) ?_))
     refine Zag _ _ _ ?_ ?_ ?_ ?_ ?_ (.inr (lo2 rfl rfl))<;>simp[go_sem,okD,okDs,Zap,ew,eB]
     all_goals (rintro e (⟨a,_,rfl⟩|rfl)<;>rfl)
    have e4:ZbS t kind (k+1)=G j:=by rw[eA',e3,hG];simp only;congr 2;omega
    refine aGo (cj3 hres h5 hw) ?_
    repeat with_reducible intro K hK
    exact Zac (k+1,W) (by show k+1≤t.e.mv.length;omega) (by show t.e.mv.length-(k+1)<t.e.mv.length-k;omega) (by refine Zag _ _ _ ?_ ?_ ?_ ?_ ?_ (.inr (lo2 rfl rfl))<;>simp[go_sem,okD,okDs,Zap,e4]<;>exact ZbQ _ _)
   clear hK
   cases cap
   ·rw[if_neg Bool.false_ne_true,List.nil_append]at e1
    refine aGo hres ?_
    repeat with_reducible intro K hK
    exact r2 A1 V1 e1 _ (by refine Zag _ _ _ ?_ ?_ ?_ ?_ ?_ (.inr (lo2 rfl rfl))<;>simp[go_sem,okD,okDs,Zap]<;>exact ZbQ _ _)
   ·rw[if_pos rfl,List.cons_append,List.nil_append]at e1
    have ew:cW (oneR k 1 hi)=[.sl [cT ⟨k,ofQ 1⟩],dI 1,dI hi.p.s,Zab hi.p.d,dI hi.q.s,Zab hi.q.d]:=rfl
    have bl:(A1.map cW).length≤14400:=by simpa using bA1
    refine aGo hres ?_
    repeat with_reducible intro K hK
    refine Zbf Tryz.func85 rfl (by kernel_rfl) (by kernel_rfl) (by kernel_rfl) ?_
    rw[Tryz.ntmps85]
    refine aGo hresR ?_
    repeat with_reducible intro K hK
    refine r2 (A1++[oneR k 1 hi]) (V1+1) (by rw[e1];simp) _ ?_
    have ez:∀ M:Mem,List.map (List.map (fzT false M 4)) (A1.map cW)=A1.map cW:=fun M=>Zan (fun _=>rfl) _
    refine StLe.trans (ZcM 9 rfl) (StLe.trans (ZcY 6 4 rfl) (ZlE (by simp only[go_sem,fzT,ez];exact rfl) ?_))
    refine Zag _ _ _ ?_ ?_ ?_ ?_ ?_ (.inr (lo2 rfl rfl))<;>simp[go_sem,okD,okDs,Zap,ew]
    all_goals (rintro e (⟨a,_,rfl⟩|rfl)<;>rfl)
  clear hK
  cases b
  ·rw[if_neg Bool.false_ne_true]at eR
   refine aGo hres ?_
   repeat with_reducible intro K hK
   exact r1 (A++[ZcR t.e k]) (V+1) (by rw[eR];simp) _ (by refine Zag _ _ _ ?_ ?_ ?_ ?_ ?_ (.inr (lo2 rfl rfl))<;>simp[go_sem,okD,okDs,Zap]<;>(rintro e (⟨a,_,rfl⟩|rfl)<;>rfl))
  ·rw[if_pos rfl,List.nil_append]at eR
   refine aGo hres ?_
   repeat with_reducible intro K hK
   exact r1 A V eR _ (by refine Zag _ _ _ ?_ ?_ ?_ ?_ ?_ (.inr (lo2 rfl rfl))<;>simp[go_sem,okD,okDs,Zap]<;>exact ZbQ _ _)
 obtain rfl:k=t.e.mv.length:=by omega
 refine aGo (cj3 hres hresA h4) ?_
 repeat with_reducible intro K hK
 have hA9:=Zha t R kind t.e.mv.length
 have lf:=Zft t.e
 obtain⟨F,hF⟩:∃ F:Nat→List RowD,F=fun j=>ZbS t kind t.e.mv.length++((((Zau t.e).take j).filter fun i=>i !=lift).map fun i=>oneR i 2 (ofQ 0)):=⟨_,rfl⟩
 have F0:F 0=ZbS t kind t.e.mv.length:=by rw[hF];simp
 have Fn:F (Zau t.e).length=ZbS t kind t.e.mv.length++Zga t.e lift:=by rw[hF];simp[Zga]
 have Fs:∀ (j i:Nat),(Zau t.e)[j]? =some i→F (j+1)=F j++if (i !=lift)=true then [oneR i 2 (ofQ 0)]else []:=fun j i hi=>by
  rw[hF];simp only
  rw[Yb4,hi,List.filter_append,List.map_append,List.append_assoc]
  cases h:i !=lift<;>simp[h]
 have Fl:∀ j:Nat,(F j).length≤14600:=fun j=>by
  have q1:=Yb1 (fun i:Nat=>i !=lift) ((Zau t.e).take j)
  have q2:=List.length_take_le' j (Zau t.e)
  rw[hF];simp only[List.length_append,List.length_map];omega
 have nl:(natI (Zau t.e)).length=(Zau t.e).length:=by simp[natI]
 refine Zat (fun(x:Nat×Nat)=>[(2,dI lift),(8,.lp 1 0 0 0),(10,.lp 7 0 0 0),(27,Zab (natI (Zau t.e))),(28,dI (Zau t.e).length),(29,dI x.1)]) (fun x=>[(1,⟨99,0,2,[[dI 0,.nil]],0,false⟩),(6,⟨153,x.2,6,(F x.1).map cW,0,false⟩),(7,⟨99,0,2,[[dI t.e.mv.length,.ls 6 x.2]],0,false⟩)]) 8 0 (fun x=>x.1≤(Zau t.e).length) (fun x=>(Zau t.e).length-x.1) (0,V) (by show 0≤_;omega) ?_ ?_
 ·refine Zag _ _ _ ?_ ?_ ?_ ?_ ?_ (.inl rfl)<;>simp[go_sem,okD,okDs,Zap,F0,nl]<;>exact ZbQ _ _
 rintro⟨j,W⟩ hj
 simp only at hj
 obtain⟨hwj,j0⟩:=ZaM j
 by_cases h5:(j:Int)<(Zau t.e).length
 ·obtain⟨i,hi⟩:∃ i,(Zau t.e)[j]? =some i:=⟨_,Ya0 (by omega)⟩
  have hiI:(natI (Zau t.e))[j]? =some (i:Int):=by unfold natI;rw[List.getElem?_map,hi];rfl
  have eB:=Fs j i hi
  have bl:=Fl j
  generalize F j=B at eB bl
  have kO:=Zlt i 1 (by decide) (by decide)
  rw[show(((1:Int)):Rat)=1 from rfl]at kO
  have ew:cW (oneR i 2 (ofQ 0))=[Zbh (ZaY i 1),dI 2,dI (ofQ 0).p.s,Zab (ofQ 0).p.d,dI (ofQ 0).q.s,Zab (ofQ 0).q.d]:=rfl
  cases h6:((i:Int) !=(lift:Int))
  ·have h6':(i !=lift)=false:=by simp at h6;simpa using (by omega:i=lift)
   rw[h6',if_neg Bool.false_ne_true,List.append_nil]at eB
   refine aGo (cj4 hresA j0 h5 (cj3 hiI h6 hwj)) ?_
   repeat with_reducible intro K hK
   exact Zac (j+1,W) (by show j+1≤_;omega) (by show(Zau t.e).length-(j+1)<(Zau t.e).length-j;omega) (by refine Zag _ _ _ ?_ ?_ ?_ ?_ ?_ (.inl rfl)<;>simp[go_sem,okD,okDs,Zap,eB]<;>exact ZbQ _ _)
  ·have h6':(i !=lift)=true:=by simp at h6;simpa using (by omega:¬ i=lift)
   rw[h6',if_pos rfl]at eB
   refine aGo (cj4 hresA j0 h5 (cj3 hiI h6 hwj)) ?_
   repeat with_reducible intro K hK
   exact Zac (j+1,W+1) (by show j+1≤_;omega) (by show(Zau t.e).length-(j+1)<(Zau t.e).length-j;omega) (by refine Zag _ _ _ ?_ ?_ ?_ ?_ ?_ (.inl rfl)<;>simp[go_sem,okD,okDs,Zap,eB,ew]<;>(rintro e (⟨a,_,rfl⟩|rfl)<;>rfl))
 obtain rfl:j=(Zau t.e).length:=by omega
 refine aGo (cj2 hresA h5) ?_
 repeat with_reducible intro K hK
 rw[Zan (fun _=>rfl),Fn]
set_option maxHeartbeats 8000000
theorem Zxj{e:EvD}{x:MvD}(h:(hiI e x).2=true):0≤qOf (hiI e x).1:=by
 unfold hiI at h ⊢
 split at h
 ·cases h
 ·rename_i h1
  rw[if_neg h1]
  unfold intD at h ⊢
  revert h
  cases hf:ZpZ e.ce x.s x.d with
  | none=>intro h;cases h
  | some b =>
    simp only
    cases hb:e.ce[b]? with
    | none=>intro h;cases h
    | some c =>
      simp only
      obtain⟨_,c',hb',hcov,_⟩:=ZjP hf
      rw[hb]at hb'
      obtain rfl:=Option.some.inj hb'
      cases hr:inB x.r 0 1099511627776
      ·simp only[Bool.not_false,Bool.or_true,if_true];intro h;cases h
      ·split
       ·intro h;cases h
       ·intro _
        have hok:Zin c x.r x.d=true:=by simp[Zin,hcov,hr]
        obtain⟨b1,b2,b3,b4,b5⟩:=ZfE hok
        have e1:((x.r:Int):Rat)+errQ c x.r x.d=Rat.divInt (c.p*x.r+1000*(x.r+(c.g+c.d*(x.d-c.f)))) 1000:=by
         unfold errQ
         rw[Rat.divInt_eq_div,Rat.divInt_eq_div]
         simp only[Rat.intCast_add,Rat.intCast_mul]
         grind
        show 0≤qOf (ofQ (((x.r:Int):Rat)+errQ c x.r x.d))
        rw[e1,Zav]
        exact(Rat.divInt_nonneg_iff_of_pos_right (by decide)).2 (by omega)
structure SmQ (t:TrD):Prop where
 n:t.e.mv.length≤6
 p:t.e.pl.length≤20
 fi:t.fi.length≤8
 cl:t.cl.length≤8
theorem ZBg(n:Nat)(i:Int):atP (List.replicate n (ofQ 0)) i=0:=by
 unfold atP
 rw[List.getElem?_replicate]
 split
 ·exact Zav 0
 ·rfl
theorem Znj{t:TrD}(R:RightTr t)(kind:Int)(lift:Nat):∃ x,Zal (ZaG t kind lift) x=true:=by
 refine⟨List.replicate t.e.mv.length (ofQ 0),(Zih R).2 ⟨(ZcN (ZaU (Zdd R) kind)).2 ⟨by simp[Zds],?_,?_⟩,fun i _ _ _=>ZBg _ _⟩⟩
 ·exact Ya6.2 fun f hf=>by rw[(List.mem_replicate.1 hf).2];exact Zbw _
 ·have hs:∀ (p:Int)(n:Nat),stN (Zds t).e (fun(_:Nat)=>(0:Rat)) p n=0:=fun p n=>by
   unfold stN
   have:(fun j=>if (mvAt (Zds t).e j).t=p then(0:Rat)else if (mvAt (Zds t).e j).f=p then -0 else 0)=fun _=>(0:Rat):=by
    funext j
    split
    ·rfl
    ·split<;>rfl
   rw[this,Zbo]
  have h0:(fun(i:Nat)=>atP (List.replicate t.e.mv.length (ofQ 0)) (i:Nat))=fun _=>(0:Rat):=by funext i;exact ZBg _ _
  rw[h0]
  exact⟨fun _ _=>Rat.le_refl,fun i _ _=>by rw[hs];exact Rat.le_refl,fun i _ _ _=>(hs _ _).symm,fun i _ h=>Zxj h,fun i _ g hg=>by simp[finK,Zds]at hg,fun _ _ _=>rfl⟩
theorem ZrF{t:TrD}(R:RightTr t)(S:SmQ t)(kind:Int)(lift:Nat):(ZaG t kind lift).r.length≤32∧∀ w∈(ZaG t kind lift).r,RowZ w:=by
 have h1:=S.n
 have h3:=S.cl
 have h4:=Zg9 (Zds t) kind
 have h5:=Zpp t.e lift
 have h6:(Zds t).fi.length=0:=rfl
 have h7:(Zds t).cl=t.cl:=rfl
 have h8:(Zds t).e=t.e:=rfl
 rw[h6,h7,h8]at h4
 refine⟨by show(ZbS (Zds t) kind t.e.mv.length++Zga t.e lift).length≤32;rw[List.length_append];omega,fun w hw=>?_⟩
 rcases List.mem_append.1 hw with hw|hw
 ·exact ZvT (Zdd R) (by rw[h8];omega) hw
 ·simp only[Zga,List.mem_map,List.mem_filter]at hw
  obtain⟨i,_,rfl⟩:=hw
  exact Zwz (by decide +kernel)
theorem Zqh{t:TrD}(R:RightTr t)(S:SmQ t)(kind:Int)(lift:Nat)(g:List TermD)(K:Nat)(hg:Zah g t.e.mv.length=true)(hk:IntK K g)(hK:K≤1000000):FitG (ZaG t kind lift) g :=
 Zrq S.n (ZrF R S kind lift).1 (ZrF R S kind lift).2 (Zc9 R kind lift) hg hk hK
abbrev cRes(r:ResD):List D:=[dI r.l,.sl (r.is.map fun b=>[dB b]),ZaQ r.z]
abbrev Zkb(l:List ResD):D:=.sl (l.map cRes)
noncomputable def resA (t:TrD) (f:FiD) (k:Nat):List ResD:=(((Zau t.e).take k).map (Zc4 t f.k)).filter fun r=>(r.is[f.v.toNat]?).getD false
theorem Zv4{t:TrD}{f:FiD}{k lift:Nat}(h:(Zau t.e)[k]? =some lift):resA t f (k+1)=resA t f k++if ((Zc4 t f.k lift).is[f.v.toNat]?).getD false then [Zc4 t f.k lift]else []:=by
 unfold resA
 rw[Yb4,h,List.map_append,List.filter_append]
 congr 1
 simp only[Option.toList_some,List.map_cons,List.map_nil,List.filter_cons,List.filter_nil]
theorem Zy2(t:TrD)(f:FiD)(k:Nat):(resA t f k).length≤k:=by
 unfold resA
 refine Nat.le_trans (Yb1 _ _) ?_
 rw[List.length_map,List.length_take];omega
theorem Zy5(t:TrD)(R:RightTr t)(S:SmQ t)(kind:Int){lift:Nat}(hl:lift<t.e.mv.length) :
 Zaf Tryz.prog 110 [encS (ZaG t kind lift),Zou (Zcu t.e)] (.tup [.sl ((Zc4 t kind lift).is.map fun b=>[dB b]),ZaQ (Zc4 t kind lift).z]):=by
 have h1:=S.n
 have h2:=S.p
 refine Zwa (ZaG t kind lift) (Zcu t.e) (Zc9 R kind lift) (by show(1:Int)≤(t.e.mv.length:Int);omega) (by show(t.e.mv.length:Int)≤6;omega) (by rw[ZpR];omega) (fun g hg=>⟨ZlL hg,ZuA hg⟩) (fun g K hg hk hK=>Zqh R S kind lift g K hg hk hK) (Znj R kind lift)
theorem Zv2(t:TrD)(R:RightTr t)(S:SmQ t)(h1:ZaZ t=0)(L:LenT t)(find:Nat)(f:FiD)(hx:t.fi[find]? =some f) :
 Zaf Tryz.prog 57 [ZbC t,dI find] (Zkb (Zbs t f)):=by
 have hres:=Tryz.results57
 have k1:=Zso t.e R.e
 have k2:=ZCE t.e R.e
 have ll:=Zft t.e
 have s1:=S.n
 obtain⟨⟨v0,v1⟩,-,-⟩:=R.fi f (Ya7 hx)
 have f0:(0:Int)≤find:=by omega
 have eR:Zbs t f=resA t f (Zau t.e).length:=by unfold resA;rw[List.take_length];rfl
 rw[eR]
 refine inC Tryz.func57 rfl Tryz.ntmps57 ?_
 refine aGo hres ?_
 repeat with_reducible intro K hK
 refine aLe (ZcT 5 123 3 rfl) ?_
 simp only[go_sem]
 have lI:(natI (Zau t.e)).length=(Zau t.e).length:=by simp[natI]
 refine Zat (fun(k:Nat)=>[(1,dI find),(2,.lp 0 0 0 0),(5,.ls 1 (resA t f k).length),(6,Zab (natI (Zau t.e))),(7,Zou (Zcu t.e)),(18,Zab (natI (Zau t.e))),(19,dI (Zau t.e).length),(20,dI k)]) (fun k=>[(0,⟨32,0,10,[cTr t],0,false⟩),(1,⟨123,(resA t f k).length,3,(resA t f k).map cRes,0,false⟩)]) 2 0 (fun k=>k≤(Zau t.e).length) (fun k=>(Zau t.e).length-k) 0 (by omega) ?_ ?_
 ·have e0:resA t f 0=[]:=rfl
  refine Zag _ _ _ ?_ ?_ ?_ ?_ ?_ (.inl rfl)<;>simp[go_sem,okD,okDs,Zap,e0,lI]
 rintro k hk
 obtain⟨hw,h0⟩:=ZaM k
 by_cases h2:(k:Int)<(Zau t.e).length
 rotate_left
 ·obtain rfl:k=(Zau t.e).length:=by omega
  refine aGo (cj2 hres h2) ?_
  repeat with_reducible intro K hK
  exact congrArg D.sl (Zan (fun _=>rfl) _)
 obtain⟨lift,hl⟩:∃ x,(Zau t.e)[k]? =some x:=⟨_,Ya0 (by omega)⟩
 have hl2:(natI (Zau t.e))[k]? =some (lift:Int):=by unfold natI;rw[List.getElem?_map,hl];rfl
 obtain⟨g1,g2⟩:=ZgG.1 (Ya7 hl)
 have k3:=ZrG t R h1 L find f hx lift
 have k4:=Zy5 t R S f.k g1
 have hlen:=(Zhb R f.k lift).1
 obtain⟨o,ho⟩:∃ o,(Zc4 t f.k lift).is[f.v.toNat]? =some o:=⟨_,Ya0 (by omega)⟩
 have eN:=Zv4 (f:=f) hl
 have lN:=Zy2 t f k
 rw[ho,Option.getD_some]at eN
 have e1:(Zc4 t f.k lift).l=lift:=rfl
 generalize Zc4 t f.k lift=r at *
 obtain⟨r0,r1,r2⟩:=r
 obtain rfl:r0=lift:=e1
 simp only at ho hlen k4
 generalize ZaG t f.k r0=s at *
 generalize natI (Zau t.e)=A at *
 generalize Zcu t.e=G at *
 cases o
 ·rw[if_neg Bool.false_ne_true,List.append_nil]at eN
  generalize resA t f k=B at *
  refine aGo (cj4 hres h0 h2 (cj4 hl2 hx f0 (cj3 v0 ho hw))) ?_
  repeat with_reducible intro K hK
  exact Zac (k+1) (by omega) (by omega) (by refine Zag _ _ _ ?_ ?_ ?_ ?_ ?_ (.inl rfl)<;>simp[go_sem,okD,okDs,Zap,eN])
 ·rw[if_pos rfl]at eN
  generalize resA t f k=B at *
  refine aGo (cj4 hres h0 h2 (cj4 hl2 hx f0 (cj3 v0 ho hw))) ?_
  repeat with_reducible intro K hK
  exact Zac (k+1) (by omega) (by omega) (by refine Zag _ _ _ ?_ ?_ ?_ ?_ ?_ (.inl rfl)<;>simp[go_sem,okD,okDs,Zap,eN]<;>(rintro e (⟨a,_,rfl⟩|rfl)<;>rfl))
section
variable [Ifl]
def clrE:List (List D)→Nat→Nat→List (List D)
 | es,_,0=>es
 | es,i,m+1=>clrE (es.set i [dI 0]) (i+1) m
theorem Zx2:∀ (m:Nat) (es:List (List D)) (i:Nat),(clrE es i m).length=es.length
 | 0,_,_=>rfl
 | m+1,es,i=>by show(clrE (es.set i [dI 0]) (i+1) m).length=_;rw[Zx2 m,List.length_set]
theorem Ztw:∀ (m:Nat) (es:List (List D)) (i k:Nat),k≤i→(clrE es i m).take k=es.take k
 | 0,_,_,_,_=>rfl
 | m+1,es,i,k,h=>by
   show(clrE (es.set i [dI 0]) (i+1) m).take k=_
   rw[Ztw m _ _ _ (by omega),List.take_set_of_le (by omega)]
theorem Zrz{p:List D→Prop}(h0:p [dI 0]):∀ (m:Nat) (es:List (List D)) (i:Nat),(∀ x∈es,p x)→∀ x∈clrE es i m,p x
 | 0,_,_,h=>h
 | m+1,es,i,h=>Zrz h0 m _ _ fun x hx=>by
   rcases List.mem_or_eq_of_mem_set hx with hx|rfl
   ·exact h x hx
   ·exact h0
theorem Zx4{E:Env}{B:Base}{n:Nat}{β:Bet}{S:St}{a:Act}{w:World}{id ver nn cap b i:Nat}{es:List (List D)}(r:RelA E B n β S a w)(hn:36<n)(h36:S.t 36 = .ls id ver)(hm:S.m id=some ⟨3,ver,1,es,0,false⟩)
 (e36:a.eval (.tmp 36) = .slice (some ⟨b,0,none⟩) nn cap) (hi:i<es.length) :
 ∃ β',RelA E B n β' {S with m:=upd S.m id (some ⟨3,ver,1,es.set i [dI 0],0,false⟩)} a (w.setCells b i [.int .i64 0]):=by
 have hty:=ty_3
 obtain⟨i0,hinf,hz0,hz1,hz2⟩:=ZiX
 have hb:β id=some b:=by
  have t36:Rep β S.m (safe E β S.m) w (a.eval (.tmp 36)) (.ls id ver):=h36▸r.tmp 36 hn
  rw[e36]at t36
  obtain⟨A,n',cap',blk,e,hb,hv,hcase⟩:=t36.inv_ls
  rw[hm]at hb
  obtain rfl:=Option.some.inj hb
  obtain⟨_,_,_,c4⟩:=hcase rfl
  rcases c4 with⟨_,h,_⟩|⟨b',h1,h2,_⟩
  ·subst h;cases e
  ·subst h2;cases e;exact h1
 obtain⟨_,cs,hcs,hlen,hcell⟩:=r.mem.row id _ b hm hb
 simp only[Nat.mul_one]at hlen hcell
 have hlen':es.length≤cs.size:=hlen
 have hlp:Rep β S.m (safe E β S.m) w (.pointer (some ⟨b,i,none⟩)) (.lp id ver i 0):=.lp b i id ver i 0 _ hm (Ya4 _) (fun _=>⟨hb,by simp⟩)
 obtain⟨e0,he0⟩:=getE (l:=es) (k:=i) (by omega)
 have h01:e0.length=1:=r.mem.wid id _ hm i e0 he0
 have hspl:Zdz e0 0 [dI 0]=[dI 0]:=by
  match e0,h01 with
  | [x],_=>rfl
 obtain⟨w',hs,ha⟩:=ZoV (r:=⟨True,.v undef,[id],[(id,⟨3,ver,1,es.set i [dI 0],0,false⟩)],[]⟩) hty r.mem hlp (.v (.int .i64 0)) (by
  have hbk:ZbU S.m id ver=some ⟨3,ver,1,es,0,false⟩:=by unfold ZbU;rw[hm];exact if_pos rfl
  unfold ZhK
  simp only[D.cells?,Value.oneCell',if_true]
  rw[hbk]
  simp only[he0,hspl]
  rw[if_pos ⟨trivial,rfl,rfl,Yb0 _,by simp[h01]⟩])
 have hst:(Instr.storeAt 3 (.pointer (some ⟨b,i,none⟩)) (.int .i64 0)).run Tryz.prog w = .ok () (w.setCells b i [.int .i64 0]):=by
  have hc:=run_storeCells_cells (P:=Tryz.prog) b i [.int .i64 0] 0 w (fun j hj=>by
   obtain rfl:j=0:=by simp at hj;omega
   simp only[Nat.add_zero];rw[Zcz hcs];simp;omega) (fun j hj=>by simp[World.frozen?,hcs]) (by simp[Value.oneCell'])
  unfold Instr.storeAt Instr.sureAddr storeVar
  simp[sizeOf,typeInfo,hinf,hz1,Value.cells]
  simpa using hc
 rw[hst]at hs
 obtain rfl:w.setCells b i [.int .i64 0]=w':=by simpa using hs
 have ha':Zb5 E β S.m S.nx w (upd S.m id (some ⟨3,ver,1,es.set i [dI 0],0,false⟩)) (.tuple #[]) .junk (w.setCells b i [.int .i64 0]):=by
  obtain⟨β',x1,x2,x3,_⟩:=ha
  exact⟨β',x1,x2,x3,.junk _⟩
 obtain⟨β4,r4⟩:=r.put (dst:=none) ha'
 exact⟨β4,r4⟩
theorem Znd{E:Env}{B:Base}{n:Nat}{a:Act}{id ver nn cap b:Nat}(hn:36<n)(e36:a.eval (.tmp 36) = .slice (some ⟨b,0,none⟩) nn cap):∀ (m i:Nat) (es:List (List D)) (w:World) (β:Bet) (S:St),RelA E B n β S a w→S.t 36 = .ls id ver→S.m id=some ⟨3,ver,1,es,0,false⟩→i+m≤es.length →
 ∃ β',RelA E B n β' {S with m:=upd S.m id (some ⟨3,ver,1,clrE es i m,0,false⟩)} a (w.setCells b i (List.replicate m (.int .i64 0)))
 | 0,i,es,w,β,S,r,h36,hm,_=>by
   have:upd S.m id (some ⟨3,ver,1,clrE es i 0,0,false⟩)=S.m:=by
    funext j
    by_cases h:j=id
    ·subst h;rw[Zae,hm];rfl
    ·rw[Zad _ _ h]
   rw[this]
   exact⟨β,r⟩
 | m+1,i,es,w,β,S,r,h36,hm,hi=>by
   obtain⟨β1,r1⟩:=Zx4 r hn h36 hm e36 (i:=i) (by omega)
   obtain⟨β2,r2⟩:=Znd hn e36 m (i+1) (es.set i [dI 0]) _ β1 _ r1 h36 (Zae _ _ _) (by rw[List.length_set];omega)
   refine⟨β2,?_⟩
   have e1:upd (upd S.m id (some ⟨3,ver,1,es.set i [dI 0],0,false⟩)) id (some ⟨3,ver,1,clrE (es.set i [dI 0]) (i+1) m,0,false⟩)=upd S.m id (some ⟨3,ver,1,clrE es i (m+1),0,false⟩):=by
    funext j
    by_cases h:j=id
    ·subst h;rw[Zae,Zae];rfl
    ·rw[Zad _ _ h,Zad _ _ h,Zad _ _ h]
   simp only[e1]at r2
   exact r2
theorem ZDf{n rid:Nat}{Q:Exit→St→Prop}{s:St}{o1 o2 o3 o4:Oper}{id ver i:Nat}{es:List (List D)}
 (g1:o1.guard=none) (g2:o2.guard=none) (g3:o3.guard=none) (g4:o4.guard=none)
 (d1:o1.dst=some 36) (d2:o2.dst=some 37) (d3:o3.dst=some 38) (d4:o4.dst=none)
 (p1:o1.op = .move (.tmp 0)) (p2:o2.op = .move (.tmp 5)) (p3:o3.op = .slice 43 (.tmp 36) (some (.tmp 37)) none none)
 (p4:o4.op = .call {callee:=.builtin .clear,args:=#[.tmp 38],argTypes:=#[43]})
 (hf1:Zbq n o1=true) (hf2:Zbq n o2=true) (hn:38<n) (h0:s.t 0 = .ls id ver) (h5:s.t 5=dI i) (hm:s.m id=some ⟨3,ver,1,es,0,false⟩) (hi:i<es.length)
 (hQ:Q .normal {s with t:=upd (upd (upd s.t 36 (.ls id ver)) 37 (dI i)) 38 .junk,m:=upd s.m id (some ⟨3,ver,1,clrE es i (es.length-i),0,false⟩)}) :
 AWP Tryz.prog n (.region rid #[o1,o2,o3,o4] false) Q s:=by
 intro E B β a w hr
 refine wp_region_lit (l:=[o1,o2,o3,o4]) ?_
 -- the two moves
 refine wpList_plain g1 fun K1 hK1=>Zj2 (K:=fun s'=>s'={s with t:=upd s.t 36 (.ls id ver)}) hf1 hr ?_ ?_
 ·unfold opA
  rw[p1,d1]
  simp only[opF,rd,h0,Res.pure,putT,ov,List.length_nil,Nat.add_zero]
  exact⟨trivial,.inl trivial,trivial⟩
 rintro s1 β1 a1 w1 r1 rfl
 refine hK1 _ _ (wpList_plain g2 fun K2 hK2=>Zj2 (K:=fun s'=>s'={s with t:=upd (upd s.t 36 (.ls id ver)) 37 (dI i)}) hf2 r1 ?_ ?_)
 ·unfold opA
  rw[p2,d2]
  simp only[opF,rd,Res.pure,putT,ov,List.length_nil,Nat.add_zero,Zad s.t (D.ls id ver) (show(5:Nat)≠36 by decide),h5]
  exact⟨trivial,.inl trivial,trivial⟩
 rintro s2 β2 a2 w2 r2 rfl
 refine hK2 _ _ ?_
 -- the slice
 have t36:Rep β2 s.m (safe E β2 s.m) w2 (a2.eval (.tmp 36)) (.ls id ver):=r2.tmp 36 (by omega)
 have t37:Rep β2 s.m (safe E β2 s.m) w2 (a2.eval (.tmp 37)) (dI i):=r2.tmp 37 (by omega)
 have e37:=t37.inv_v
 obtain⟨A,nn,cap,blk,e36,hb,hv,hcase⟩:=t36.inv_ls
 rw[hm]at hb
 obtain rfl:=Option.some.inj hb
 obtain⟨c1,c2,c3,c4⟩:=hcase rfl
 simp only at c1 c4
 obtain⟨b,hbe,rfl,hcap⟩:∃ b,β2 id=some b∧A=some ⟨b,0,none⟩∧Ze2 w2 b (cap*1):=by
  rcases c4 with⟨h,_⟩|h
  ·have:=r2.mem.non id _ hm h
   simp only at this
   rw[this]at hi;simp at hi
  ·exact h
 obtain⟨_,cs,hcs,hlen,hcell⟩:=r2.mem.row id _ b hm hbe
 simp only[Nat.mul_one]at hlen hcell hcap
 have hlen':es.length≤cs.size:=hlen
 obtain⟨cs',T',fr',hcs',hsz⟩:=hcap
 rw[hcs]at hcs'
 cases hcs'
 obtain⟨i0,hinf,hz0,hz1,hz2⟩:=ZiX
 have hrb:=Zju (P:=Tryz.prog) (w:=w2) true nn cap i nn (some (.int .i64 i)) none (.inr ⟨_,rfl⟩) (.inl ⟨rfl,rfl⟩) (by omega) (by omega) (by omega) (by omega)
 have he3:execOp a2.eval o3=(do pure (.value (← Instr.sliceAt 43 (a2.eval (.tmp 36)) (some (a2.eval (.tmp 37))) none none))):=by unfold execOp;rw[p3];rfl
 have hsl:(Instr.sliceAt 43 (a2.eval (.tmp 36)) (some (a2.eval (.tmp 37))) none none).run Tryz.prog w2 = .ok (.slice (if cap=i then some ⟨b,0,none⟩else some ⟨b,i,none⟩) (nn-i) (cap-i)) w2:=by
  rw[e36,e37]
  unfold Instr.sliceAt
  simp only[Sem.run_bind,run_underlying Tryz.underlying43,Result.andThen_ok]
  unfold Instr.slice
  simp only[Sem.run_bind,run_underlying Tryz.underlying43,Result.andThen_ok,hrb]
  simp[sizeOf,typeInfo,hinf,hz1,Addr.add]
  by_cases hi0:i=0
  ·subst hi0;split<;>rfl
  ·rw[if_neg hi0]
 have hci:cap≠i:=by omega
 rw[if_neg hci,show nn-i=es.length-i by omega]at hsl
 refine wpList_plain g3 fun K3 hK3=>?_
 unfold Oper.wp
 rw[show(execOp a2.eval o3).run Tryz.prog w2 = .ok (.value (.slice (some ⟨b,i,none⟩) (es.length-i) (cap-i))) w2 by rw[he3];simp[hsl]]
 show K3 (a2.put o3.dst (.slice (some ⟨b,i,none⟩) (es.length-i) (cap-i))) w2
 refine hK3 _ _ ?_
 obtain⟨β3,r3⟩:=r2.put (dst:=o3.dst) (Zb5.same r2.mem (.junk (.slice (some ⟨b,i,none⟩) (es.length-i) (cap-i))))
 have e38:(a2.put o3.dst (.slice (some ⟨b,i,none⟩) (es.length-i) (cap-i))).eval (.tmp 38) = .slice (some ⟨b,i,none⟩) (es.length-i) (cap-i):=by
  rw[eval_put (by rw[r2.width];exact hn),d3,if_pos rfl]
 have e36':(a2.put o3.dst (.slice (some ⟨b,i,none⟩) (es.length-i) (cap-i))).eval (.tmp 36) = .slice (some ⟨b,0,none⟩) nn cap:=by
  rw[eval_put (k:=36) (by rw[r2.width];exact Nat.lt_trans (by decide) hn),d3,if_neg (by decide)];exact e36
 generalize a2.put o3.dst (.slice (some ⟨b,i,none⟩) (es.length-i) (cap-i))=a3 at r3 e38 e36' ⊢
 rw[d3]at r3
 -- clear
 have hcl:=Lib.run_clear_slice (P:=Tryz.prog) w2 43 3 o4.type (.int .i64 0) Tryz.underlying43 (fun w=>by simp[zeroValue,typeInfo,hinf,hz0]) rfl rfl b i (es.length-i) (cap-i) (by omega)
  (fun j hj=>by rw[Zcz hcs];simp;omega)
  (fun j hj=>by simp[World.frozen?,hcs])
 have e4:(execOp a3.eval o4).run Tryz.prog w2 = .ok (.value (.tuple #[])) (w2.setCells b i (List.replicate (es.length-i) (.int .i64 0))):=by
  unfold execOp
  rw[p4]
  simp[resolve,invoke,builtin,e38,hcl]
 refine wpList_plain g4 fun K4 hK4=>?_
 unfold Oper.wp
 rw[e4]
 show K4 (a3.put o4.dst (.tuple #[])) (w2.setCells b i (List.replicate (es.length-i) (.int .i64 0)))
 refine hK4 _ _ ?_
 obtain⟨β5,r5⟩:=Znd (Nat.lt_trans (by decide) hn) e36' (es.length-i) i es w2 β3 _ r3 rfl hm (by omega)
 obtain⟨β4,r4⟩:=r5.put (dst:=o4.dst) (Zb5.same r5.mem (.junk (.tuple #[])))
 rw[d4]at r4
 refine wpList_nil ?_
 rw[d4]
 exact⟨_,β4,r4,hQ⟩
end
def isR(i:Nat)(r:ResD):Bool:=(r.is[i]?).getD false
theorem ld1_c(r:ResD)(i:Nat)(h:i<r.is.length):Zaa Tryz.prog 59 [.agg (cRes r),.ep [[dI i]] 0 0] (dB (isR i r)):=by
 have hres:=Tryz.results59
 obtain⟨o,ho⟩:∃ o,r.is[i]? =some o:=⟨_,Ya0 h⟩
 have i0:(0:Int)≤i:=by omega
 unfold isR
 rw[ho]
 obtain⟨r0,r1,r2⟩:=r
 simp only at ho
 refine inN Tryz.func59 rfl Tryz.ntmps59 fun I=>?_
 exact aGo (cj3 hres ho i0) trivial
abbrev cloL(i:Nat):D:=.clo 59 [.ep [[dI i]] 0 0]
theorem ldI_c(l:List ResD)(i:Nat)(hl:l.length≤4096)(h:∀ r∈l,i<r.is.length):Zaa Tryz.prog 111 [Zkb l,cloL i] (dI (idxI (isR i) l)):=by
 have hres:=Tryz.results111
 refine inN Tryz.func111 rfl Tryz.ntmps111 fun I=>?_
 refine aGo hres ?_
 repeat with_reducible intro K hK
 refine Zat (fun(k:Nat)=>[(0,Zkb l),(1,cloL i),(7,dI l.length),(8,dI k)]) (fun _=>[]) 0 0 (fun k=>k≤l.length∧(l.take k).any (isR i)=false) (fun k=>l.length-k) 0 ⟨by omega,rfl⟩ ?_ ?_
 ·exact leGo trivial
 ·rintro k ⟨hk,hn⟩
  obtain⟨hw,h0⟩:=ZaM k
  by_cases h1:(k:Int)<l.length
  ·obtain⟨r,hx⟩:=getE (l:=l) (k:=k) (by omega)
   have hc:=ld1_c r i (h r (Ya7 hx))
   cases h2:isR i r
   ·rw[h2]at hc
    refine aGo (cj4 hres h0 h1 (cj2 hx hw)) ?_
    repeat with_reducible intro K hK
    exact Zac (k+1) ⟨by omega,Zdu hx hn h2⟩ (by omega) (by exact leGo trivial)
   ·rw[h2]at hc
    refine aGo (cj4 hres h0 h1 (cj2 hx hw)) ?_
    repeat with_reducible intro K hK
    exact ZaX (Zrm hx hn h2).symm
  ·refine aGo (cj2 hres h1) ?_
   repeat with_reducible intro K hK
   rw[Ya8 (by omega)]at hn
   exact ZaX (Zrk hn).symm
theorem ZEl(l:List ResD)(i:Nat)(hl:l.length≤4096)(h:∀ r∈l,i<r.is.length):Zaa Tryz.prog 58 [Zkb l,cloL i] (dB (hasR l i)):=by
 have hres:=Tryz.results58
 have hc:=ldI_c l i hl h
 refine inN Tryz.func58 rfl Tryz.ntmps58 fun I=>?_
 refine aGo hres ?_
 repeat with_reducible intro K hK
 exact Zai (Zrl _ _)
theorem Zh1(t:TrD)(f:FiD):(Zbs t f).length≤t.e.mv.length:=by
 unfold Zbs
 refine Nat.le_trans (Yb1 _ _) ?_
 rw[List.length_map]
 exact Zft _
structure FiOk (t:TrD) (find:Nat) (f:FiD):Prop where
 R:RightTr t
 S:SmQ t
 ta:ZaZ t=0
 L:LenT t
 x:t.fi[find]? =some f
theorem FiOk.fits{t:TrD}{find:Nat}{f:FiD}(h:FiOk t find f):Zrp t find=true:=by
 have:find<t.fi.length:=(Ya3.1 h.x).1
 simp only[Zrp,h.ta,decide_true,Bool.true_and,Ya2,decide_eq_true_eq]
 omega
theorem FiOk.c{t:TrD}{find:Nat}{f:FiD}(h:FiOk t find f):Zaa Tryz.prog 56 [ZbC t,dI find] (dB true):=by
 have:=ZEx t h.L find
 rwa [h.fits]at this
theorem FiOk.r{t:TrD}{find:Nat}{f:FiD}(h:FiOk t find f):Zaf Tryz.prog 57 [ZbC t,dI find] (Zkb (Zbs t f)):=Zv2 t h.R h.S h.ta h.L find f h.x
def lM(l:List ResD)(n k:Nat):List Nat:=(List.range (min k n)).filter (hasR l)
def lP(l:List ResD)(n k:Nat):List Nat:=(List.range (k-n)).filter fun p=>hasR l (n+p)
theorem Zxb(l:List ResD)(n k:Nat):lM l n (k+1)=if k<n∧hasR l k=true then lM l n k++[k]else lM l n k:=by
 unfold lM
 by_cases h:k<n
 ·rw[show min (k+1) n=min k n+1 by omega,List.range_succ,List.filter_append,show min k n=k by omega]
  cases hr:hasR l k<;>simp[h,hr]
 ·rw[show min (k+1) n=min k n by omega,if_neg fun e=>h e.1]
theorem Zxa(l:List ResD)(n k:Nat):lP l n (k+1)=if n≤k∧hasR l k=true then lP l n k++[k-n]else lP l n k:=by
 unfold lP
 by_cases h:n≤k
 ·rw[show k+1-n=(k-n)+1 by omega,List.range_succ,List.filter_append]
  cases hr:hasR l k<;>simp[h,hr,show n+(k-n)=k by omega]
 ·rw[show k+1-n=k-n by omega,if_neg fun e=>h e.1]
theorem ZAY(l:List ResD)(n k:Nat):(lM l n k).length≤k:=by
 unfold lM
 refine Nat.le_trans (Yb1 _ _) ?_
 rw[List.length_range];omega
theorem ZAX(l:List ResD)(n k:Nat):(lP l n k).length≤k:=by
 unfold lP
 refine Nat.le_trans (Yb1 _ _) ?_
 rw[List.length_range];omega
theorem ZCs(t:TrD)(find:Nat)(f:FiD)(h:FiOk t find f):Zaf Tryz.prog 18 [ZbC t,dI find] (.tup [Zab (natI (Zj5 t f)),Zab (natI (ZlC t f)),dI 0]):=by
 have hres:=Tryz.results18
 have hresL:=hres
 have k1:=h.c
 have k2:=h.r
 have s1:=h.S.n
 have s2:=h.S.p
 have ll:=Zh1 t f
 have hlen:∀ r∈Zbs t f,r.is.length=t.e.mv.length+t.e.pl.length:=fun r hr=>by
  obtain⟨a,_,_,rfl⟩:=Zh8 h.R hr
  exact(Zhb h.R f.k a).1
 have hs:IntKind.i64.wrap ((t.e.mv.length:Int)+t.e.pl.length)=(t.e.mv.length:Int)+t.e.pl.length:=ZaD (by omega) (by omega)
 obtain⟨MM,hMM⟩:∃ M,Zj5 t f=M:=⟨_,rfl⟩
 obtain⟨PP,hPP⟩:∃ P,ZlC t f=P:=⟨_,rfl⟩
 rw[hMM,hPP]
 unfold Zj5 at hMM
 unfold ZlC at hPP
 generalize Zbs t f=l at *
 refine inC Tryz.func18 rfl Tryz.ntmps18 ?_
 refine aGo (cj3 hres hresL hs) ?_
 repeat with_reducible intro K hK
 refine aLe (StLe.trans (ZcT 4 3 1 rfl) (ZcT 5 3 1 rfl)) ?_
 simp only[go_sem]
 refine Zat (fun(k:Nat)=>[(2,.lp 0 0 0 0),(4,.ls 1 (lM l t.e.mv.length k).length),(5,.ls 2 (lP l t.e.mv.length k).length),(7,dI t.e.mv.length),(8,Zkb l),(26,dI ((t.e.mv.length:Int)+t.e.pl.length)),(27,dI k)]) (fun k=>[(0,⟨32,0,10,[cTr t],0,false⟩),(1,⟨3,(lM l t.e.mv.length k).length,1,(natI (lM l t.e.mv.length k)).map fun x=>[dI x],0,false⟩),(2,⟨3,(lP l t.e.mv.length k).length,1,(natI (lP l t.e.mv.length k)).map fun x=>[dI x],0,false⟩)]) 3 0 (fun k=>k≤t.e.mv.length+t.e.pl.length) (fun k=>t.e.mv.length+t.e.pl.length-k) 0 (by omega) ?_ ?_
 ·have e0:lM l t.e.mv.length 0=[]:=by simp[lM]
  have e1:lP l t.e.mv.length 0=[]:=by simp[lP]
  have e2:natI []=[]:=rfl
  refine Zag _ _ _ ?_ ?_ ?_ ?_ ?_ (.inl rfl)<;>simp[go_sem,okD,okDs,Zap,e0,e1,e2]<;>(rintro e (⟨a,_,rfl⟩|rfl)<;>rfl)
 rintro k hk
 obtain⟨hw,h0⟩:=ZaM k
 have eM:=Zxb l t.e.mv.length k
 have eP:=Zxa l t.e.mv.length k
 have nM:=ZAY l t.e.mv.length k
 have nP:=ZAX l t.e.mv.length k
 have sM:(natI (lM l t.e.mv.length k)).length=(lM l t.e.mv.length k).length:=by simp[natI]
 have sP:(natI (lP l t.e.mv.length k)).length=(lP l t.e.mv.length k).length:=by simp[natI]
 by_cases h2:(k:Int)<(t.e.mv.length:Int)+t.e.pl.length
 ·have kc:=ZEl l k (by omega) (fun r hr=>by rw[hlen r hr];omega)
  cases h3:hasR l k
  ·rw[h3]at eM eP kc
   rw[if_neg fun e=>by cases e.2]at eM eP
   refine aGo (cj4 hres hresL h0 (cj2 h2 hw)) ?_
   repeat with_reducible intro K hK
   exact Zac (k+1) (by omega) (by omega) (by rw[eM,eP];refine Zag _ _ _ ?_ ?_ ?_ ?_ ?_ (.inl rfl)<;>simp[go_sem,okD,okDs,Zap]<;>(rintro e (⟨a,_,rfl⟩|rfl)<;>rfl))
  rw[h3]at eM eP kc
  by_cases h4:(k:Int)<t.e.mv.length
  ·rw[if_pos ⟨by omega,rfl⟩]at eM
   rw[if_neg fun e=>by omega]at eP
   have eN:natI (lM l t.e.mv.length (k+1))=natI (lM l t.e.mv.length k)++[(k:Int)]:=by rw[eM];simp[natI]
   have eL:(lM l t.e.mv.length (k+1)).length=(lM l t.e.mv.length k).length+1:=by rw[eM];simp
   refine aGo (cj4 hres hresL h0 (cj4 h2 h4 hw sM)) ?_
   repeat with_reducible intro K hK
   exact Zac (k+1) (by omega) (by omega) (by rw[eP,eN,eL];refine Zag _ _ _ ?_ ?_ ?_ ?_ ?_ (.inl rfl)<;>simp[go_sem,okD,okDs,Zap]<;>(rintro e (⟨a,_,rfl⟩|rfl)<;>rfl))
  ·rw[if_neg fun e=>by omega]at eM
   rw[if_pos ⟨by omega,rfl⟩]at eP
   have hv:IntKind.i64.wrap ((k:Int)-t.e.mv.length)=(k:Int)-t.e.mv.length:=ZaD (by omega) (by omega)
   have eN:natI (lP l t.e.mv.length (k+1))=natI (lP l t.e.mv.length k)++[(k:Int)-t.e.mv.length]:=by
    rw[eP]
    simp only[natI,List.map_append,List.map_cons,List.map_nil]
    rw[show(((k-t.e.mv.length:Nat)):Int)=(k:Int)-t.e.mv.length by omega]
   have eL:(lP l t.e.mv.length (k+1)).length=(lP l t.e.mv.length k).length+1:=by rw[eP];simp
   refine aGo (cj4 hres hresL h0 (cj4 h2 h4 hw (cj2 hv sP))) ?_
   repeat with_reducible intro K hK
   exact Zac (k+1) (by omega) (by omega) (by rw[eM,eN,eL];refine Zag _ _ _ ?_ ?_ ?_ ?_ ?_ (.inl rfl)<;>simp[go_sem,okD,okDs,Zap]<;>(rintro e (⟨a,_,rfl⟩|rfl)<;>rfl))
 obtain rfl:k=t.e.mv.length+t.e.pl.length:=by omega
 have eM1:lM l t.e.mv.length (t.e.mv.length+t.e.pl.length)=MM:=by rw[← hMM];unfold lM;rw[show min (t.e.mv.length+t.e.pl.length) t.e.mv.length=t.e.mv.length by omega]
 have eP1:lP l t.e.mv.length (t.e.mv.length+t.e.pl.length)=PP:=by rw[← hPP];unfold lP;rw[show t.e.mv.length+t.e.pl.length-t.e.mv.length=t.e.pl.length by omega]
 clear eM eP
 rw[eM1,eP1]
 rw[eM1]at nM sM
 rw[eP1]at nP sP
 refine aGo (cj2 hres h2) ?_
 repeat with_reducible intro K hK
 rw[Zan (fun _=>rfl),Zan (fun _=>rfl)]
def Zec(e:EvD)(v:Int):Bool:=Zct e (mvAt e v.toNat).t==5
theorem ZvB(t:TrD)(R:RightTr t){v:Nat}(hv:v<t.e.mv.length):Zaa Tryz.prog 54 [dI v,.ep [cTr t] 0 0] (dB (!Zec t.e v)):=by
 have hres:=Tryz.results54
 have hx:=Zlx (e:=t.e) (i:=v) hv
 obtain⟨f0,f1⟩:=(R.e.mv _ (ZiP hv)).t
 obtain⟨p,hp⟩:∃ p,t.e.pl[(mvAt t.e v).t.toNat]? =some p:=⟨_,Ya0 (by omega)⟩
 have v0:(0:Int)≤v:=by omega
 have eb:Zec t.e v=(p.k==5):=by unfold Zec;rw[Int.toNat_natCast,ZjK hp]
 rw[eb]
 generalize mvAt t.e v=x at *
 refine inN Tryz.func54 rfl Tryz.ntmps54 fun I=>?_
 refine aGo (cj4 hres hx hp (cj2 v0 f0)) ?_
 repeat with_reducible intro K hK
 exact Zai rfl
structure DelOk (p:Int→Bool) (L:List Int) (j:Nat) (W:List Int):Prop where
 len:W.length=L.length
 hi:j≤L.length
 rest:W.drop j=L.drop j
 front:W.take ((L.take j).filter p).length=(L.take j).filter p
 lt:((L.take j).filter p).length<j
theorem DelOk.get{p:Int→Bool}{L W:List Int}{j:Nat}(h:DelOk p L j W):W[j]? =L[j]?:=by
 have:=congrArg (·[0]?) h.rest
 simpa[List.getElem?_drop]using this
theorem DelOk.skip{p:Int→Bool}{L W:List Int}{j:Nat}{v:Int}(h:DelOk p L j W)(hv:L[j]? =some v)(hp:p v=false):(L.take (j+1)).filter p=(L.take j).filter p∧DelOk p L (j+1) W:=by
 have e:(L.take (j+1)).filter p=(L.take j).filter p:=by rw[Yb4,hv,List.filter_append];simp[hp]
 have hj:=(Ya3.1 hv).1
 refine⟨e,h.len,by omega,?_,by rw[e];exact h.front,by rw[e];have:=h.lt;omega⟩
 rw[← List.drop_drop,← List.drop_drop,h.rest]
theorem DelOk.take{p:Int→Bool}{L W:List Int}{j:Nat}{v:Int}(h:DelOk p L j W)(hv:L[j]? =some v)(hp:p v=true):((L.take (j+1)).filter p).length=((L.take j).filter p).length+1∧DelOk p L (j+1) (W.set ((L.take j).filter p).length v):=by
 have e:(L.take (j+1)).filter p=(L.take j).filter p++[v]:=by rw[Yb4,hv,List.filter_append];simp[hp]
 have hj:=(Ya3.1 hv).1
 have hl:=h.lt
 have hw:=h.len
 refine⟨by rw[e];simp,by rw[List.length_set];exact h.len,by omega,?_,?_,by rw[e];simp;omega⟩
 ·rw[List.drop_set_of_lt (by omega),← List.drop_drop,← List.drop_drop,h.rest]
 ·rw[e,List.length_append]
  show(W.set _ v).take (_+1)=_
  rw[Yb4,List.getElem?_set_self (by omega),List.take_set_of_le (Ya4 _),h.front]
  rfl
theorem ZxY{p:Int→Bool}{L:List Int}{i:Nat}{v:Int}(hv:L[i]? =some v)(hp:p v=false)(ha:(L.take i).any (fun x=> !p x)=false):((L.take (i+1)).filter p).length=i∧DelOk p L (i+1) L:=by
 have hi:=(Ya3.1 hv).1
 have e0:(L.take i).filter p=L.take i:=List.filter_eq_self.2 fun x hx=>by
  have:=List.any_eq_false.1 ha x hx
  simpa using this
 have e:(L.take (i+1)).filter p=L.take i:=by rw[Yb4,hv,List.filter_append,e0];simp[hp]
 have hl:(L.take i).length=i:=by rw[List.length_take];omega
 rw[e]
 refine⟨hl,rfl,by omega,rfl,by rw[e,hl],by rw[e,hl];omega⟩
theorem Zq5(e:EvD)(l:List Nat):natI (l.filter fun i=>Zct e (mvAt e i).t==5)=(natI l).filter (Zec e):=by
 unfold natI
 rw[List.filter_map]
 rfl
theorem ZDL(t:TrD)(find:Nat)(f:FiD)(h:FiOk t find f):Zaf Tryz.prog 17 [ZbC t,dI find] (.tup [Zab (natI (ZvA t f)),dI 0]):=by
 have hres:=Tryz.results17
 have hresL:=Tryz.results18
 have hresD:=Tryz.results55
 have hresI:=Tryz.results108
 have k1:=h.c
 have k2:=h.r
 have s1:=h.S.n
 have s2:=h.S.p
 have ll:=Zh1 t f
 have hlen:∀ r∈Zbs t f,r.is.length=t.e.mv.length+t.e.pl.length:=fun r hr=>by
  obtain⟨a,_,_,rfl⟩:=Zh8 h.R hr
  exact(Zhb h.R f.k a).1
 have hs:IntKind.i64.wrap ((t.e.mv.length:Int)+t.e.pl.length)=(t.e.mv.length:Int)+t.e.pl.length:=ZaD (by omega) (by omega)
 obtain⟨MM,hMM⟩:∃ M,Zj5 t f=M:=⟨_,rfl⟩
 obtain⟨PP,hPP⟩:∃ P,ZlC t f=P:=⟨_,rfl⟩
 have hmem:∀ v∈natI MM,∃ u:Nat,v=u∧u<t.e.mv.length:=fun v hv=>by
  obtain⟨u,hu,rfl⟩:=List.mem_map.1 hv
  rw[← hMM]at hu
  exact⟨u,rfl,List.mem_range.1 (List.mem_filter.1 hu).1⟩
 rw[show ZvA t f=MM.filter fun i=>Zct t.e (mvAt t.e i).t==5 by unfold ZvA;rw[hMM],Zq5]
 unfold Zj5 at hMM
 unfold ZlC at hPP
 generalize Zbs t f=l at *
 refine inC Tryz.func17 rfl Tryz.ntmps17 ?_
 refine aGo hres ?_
 repeat with_reducible intro K hK
 refine Zbf Tryz.func18 rfl (by kernel_rfl) (by kernel_rfl) (by kernel_rfl) ?_
 rw[Tryz.ntmps18]
 refine aGo (cj3 hres hresL hs) ?_
 repeat with_reducible intro K hK
 refine aLe (StLe.trans (ZcT 4 3 1 rfl) (ZcT 5 3 1 rfl)) ?_
 simp only[go_sem]
 refine Zat (fun(k:Nat)=>[(2,.lp 1 0 0 0),(4,.ls 2 (lM l t.e.mv.length k).length),(5,.ls 3 (lP l t.e.mv.length k).length),(7,dI t.e.mv.length),(8,Zkb l),(26,dI ((t.e.mv.length:Int)+t.e.pl.length)),(27,dI k)]) (fun k=>[(0,⟨32,0,10,[cTr t],0,false⟩),(1,⟨32,0,10,[cTr t],0,false⟩),(2,⟨3,(lM l t.e.mv.length k).length,1,(natI (lM l t.e.mv.length k)).map fun x=>[dI x],0,false⟩),(3,⟨3,(lP l t.e.mv.length k).length,1,(natI (lP l t.e.mv.length k)).map fun x=>[dI x],0,false⟩)]) 4 1 (fun k=>k≤t.e.mv.length+t.e.pl.length) (fun k=>t.e.mv.length+t.e.pl.length-k) 0 (by omega) ?_ ?_
 ·have e0:lM l t.e.mv.length 0=[]:=by simp[lM]
  have e1:lP l t.e.mv.length 0=[]:=by simp[lP]
  have e2:natI []=[]:=rfl
  refine Zag _ _ _ ?_ ?_ ?_ ?_ ?_ (.inr fun id hid=>?_)<;>simp[go_sem,okD,okDs,Zap,e0,e1,e2]<;>first|(have:id<1:=hid;omega)|(rintro e (⟨a,_,rfl⟩|rfl)<;>rfl)
 rintro k hk
 obtain⟨hw,h0⟩:=ZaM k
 have eM:=Zxb l t.e.mv.length k
 have eP:=Zxa l t.e.mv.length k
 have nM:=ZAY l t.e.mv.length k
 have nP:=ZAX l t.e.mv.length k
 have sM:(natI (lM l t.e.mv.length k)).length=(lM l t.e.mv.length k).length:=by simp[natI]
 have sP:(natI (lP l t.e.mv.length k)).length=(lP l t.e.mv.length k).length:=by simp[natI]
 by_cases h2:(k:Int)<(t.e.mv.length:Int)+t.e.pl.length
 ·have kc:=ZEl l k (by omega) (fun r hr=>by rw[hlen r hr];omega)
  cases h3:hasR l k
  ·rw[h3]at eM eP kc
   rw[if_neg fun e=>by cases e.2]at eM eP
   refine aGo (cj4 hres hresL h0 (cj2 h2 hw)) ?_
   repeat with_reducible intro K hK
   exact Zac (k+1) (by omega) (by omega) (by rw[eM,eP];refine Zag _ _ _ ?_ ?_ ?_ ?_ ?_ (.inr fun id hid=>?_)<;>simp[go_sem,okD,okDs,Zap]<;>first|(have:id<1:=hid;omega)|(rintro e (⟨a,_,rfl⟩|rfl)<;>rfl))
  rw[h3]at eM eP kc
  by_cases h4:(k:Int)<t.e.mv.length
  ·rw[if_pos ⟨by omega,rfl⟩]at eM
   rw[if_neg fun e=>by omega]at eP
   have eN:natI (lM l t.e.mv.length (k+1))=natI (lM l t.e.mv.length k)++[(k:Int)]:=by rw[eM];simp[natI]
   have eL:(lM l t.e.mv.length (k+1)).length=(lM l t.e.mv.length k).length+1:=by rw[eM];simp
   refine aGo (cj4 hres hresL h0 (cj4 h2 h4 hw sM)) ?_
   repeat with_reducible intro K hK
   exact Zac (k+1) (by omega) (by omega) (by rw[eP,eN,eL];refine Zag _ _ _ ?_ ?_ ?_ ?_ ?_ (.inr fun id hid=>?_)<;>simp[go_sem,okD,okDs,Zap]<;>first|(have:id<1:=hid;omega)|(rintro e (⟨a,_,rfl⟩|rfl)<;>rfl))
  ·rw[if_neg fun e=>by omega]at eM
   rw[if_pos ⟨by omega,rfl⟩]at eP
   have hv:IntKind.i64.wrap ((k:Int)-t.e.mv.length)=(k:Int)-t.e.mv.length:=ZaD (by omega) (by omega)
   have eN:natI (lP l t.e.mv.length (k+1))=natI (lP l t.e.mv.length k)++[(k:Int)-t.e.mv.length]:=by
    rw[eP]
    simp only[natI,List.map_append,List.map_cons,List.map_nil]
    rw[show(((k-t.e.mv.length:Nat)):Int)=(k:Int)-t.e.mv.length by omega]
   have eL:(lP l t.e.mv.length (k+1)).length=(lP l t.e.mv.length k).length+1:=by rw[eP];simp
   refine aGo (cj4 hres hresL h0 (cj4 h2 h4 hw (cj2 hv sP))) ?_
   repeat with_reducible intro K hK
   exact Zac (k+1) (by omega) (by omega) (by rw[eM,eN,eL];refine Zag _ _ _ ?_ ?_ ?_ ?_ ?_ (.inr fun id hid=>?_)<;>simp[go_sem,okD,okDs,Zap]<;>first|(have:id<1:=hid;omega)|(rintro e (⟨a,_,rfl⟩|rfl)<;>rfl))
 obtain rfl:k=t.e.mv.length+t.e.pl.length:=by omega
 have eM1:lM l t.e.mv.length (t.e.mv.length+t.e.pl.length)=MM:=by rw[← hMM];unfold lM;rw[show min (t.e.mv.length+t.e.pl.length) t.e.mv.length=t.e.mv.length by omega]
 have eP1:lP l t.e.mv.length (t.e.mv.length+t.e.pl.length)=PP:=by rw[← hPP];unfold lP;rw[show t.e.mv.length+t.e.pl.length-t.e.mv.length=t.e.pl.length by omega]
 clear eM eP
 rw[eM1,eP1]
 rw[eM1]at nM sM
 rw[eP1]at nP sP
 refine aGo (cj3 hres hresL h2) ?_
 repeat with_reducible intro K hK
 have lL:(natI MM).length≤6:=by
  have e:=congrArg List.length hMM
  have:=Yb1 (fun i=>hasR l i) (List.range t.e.mv.length)
  rw[List.length_range]at this
  simp only[natI,List.length_map]
  omega
 generalize MM.length=ver at *
 generalize natI MM=L at *
 refine Zbf Tryz.func55 rfl (by kernel_rfl) (by kernel_rfl) (by kernel_rfl) ?_
 rw[Tryz.ntmps55]
 refine aGo hresD ?_
 repeat with_reducible intro K hK
 refine Zbf Tryz.func108 rfl (by kernel_rfl) (by kernel_rfl) (by kernel_rfl) ?_
 rw[Tryz.ntmps108]
 refine aGo hresI ?_
 repeat with_reducible intro K hK
 refine aLe (ZcM 0 rfl) ?_
 clear hw h0 hk h2 hs
 refine Zat (fun(q:Nat)=>[(0,.ls 2 ver),(1,.clo 54 [.lp 0 0 0 0]),(6,.ls 2 ver),(7,dI L.length),(8,dI q)]) (fun _=>[(0,⟨32,0,10,[cTr t],0,true⟩),(1,⟨32,0,10,[cTr t],0,false⟩),(2,⟨3,ver,1,L.map fun x=>[dI x],0,false⟩),(3,⟨3,PP.length,1,(natI PP).map fun x=>[dI x],0,false⟩)]) 4 4 (fun q=>q≤L.length∧(L.take q).any (fun x=> !Zec t.e x)=false) (fun q=>L.length-q) 0 ⟨by omega,rfl⟩ ?_ ?_
 ·refine Zag _ _ _ ?_ ?_ ?_ ?_ ?_ (.inr fun id hid=>?_)<;>simp[go_sem,okD,okDs,Zap]<;>(have:id<4:=hid;omega)
 rintro q ⟨hq,ha⟩
 obtain⟨hw,q0⟩:=ZaM q
 by_cases hql:(q:Int)<L.length
 rotate_left
 ·rw[Ya8 (by omega)]at ha
  have e:L.filter (Zec t.e)=L:=List.filter_eq_self.2 fun x hx=>by
   have:=List.any_eq_false.1 ha x hx
   simpa using this
  refine aGo (cj4 hres hresD hresI hql) ?_
  repeat with_reducible intro K hK
  rw[Zan (fun _=>rfl),e]
 obtain⟨v,hv⟩:=getE (l:=L) (k:=q) (by omega)
 obtain⟨u,rfl,hu⟩:=hmem v (Ya7 hv)
 have kc:=ZvB t h.R hu
 cases hkp:Zec t.e u
 rotate_left
 ·rw[hkp]at kc
  refine aGo (cj4 hresI hql q0 (cj2 hv hw)) ?_
  repeat with_reducible intro K hK
  exact Zac (q+1) ⟨by omega,Zdu hv ha (by rw[hkp];rfl)⟩ (by omega) (by refine Zag _ _ _ ?_ ?_ ?_ ?_ ?_ (.inr fun id hid=>?_)<;>simp[go_sem,okD,okDs,Zap]<;>(have:id<4:=hid;omega))
 rw[hkp]at kc
 have hpm:((q:Int) == -1)=false:=beq_eq_false_iff_ne.2 (by omega)
 obtain⟨hc,hok⟩:=ZxY hv hkp ha
 refine aGo (cj4 hresI hresD hql (cj4 q0 hv hpm hw)) ?_
 repeat with_reducible intro K hK
 clear kc hpm hw q0 ha
 refine Zat (fun(x:Nat×List Int)=>[(0,.ls 2 ver),(1,.clo 54 [.lp 0 0 0 0]),(5,dI ((L.take x.1).filter (Zec t.e)).length),(6,dI x.1)]) (fun x=>[(0,⟨32,0,10,[cTr t],0,true⟩),(1,⟨32,0,10,[cTr t],0,false⟩),(2,⟨3,ver,1,x.2.map fun x=>[dI x],0,false⟩),(3,⟨3,PP.length,1,(natI PP).map fun x=>[dI x],0,false⟩)]) 4 4 (fun x=>DelOk (Zec t.e) L x.1 x.2) (fun x=>L.length-x.1) (q+1,L) hok ?_ ?_
 ·refine Zag _ _ _ ?_ ?_ ?_ ?_ ?_ (.inr fun id hid=>?_)<;>simp[go_sem,okD,okDs,Zap,hc]<;>(have:id<4:=hid;omega)
 rintro⟨j,W⟩ hD
 simp only at hD
 have wl:=hD.len
 have jl:=hD.hi
 have lt:=hD.lt
 have fr:=hD.front
 have hw:=ZtF j
 have hwc:IntKind.i64.wrap ((((L.take j).filter (Zec t.e)).length:Int)+1)=(((L.take j).filter (Zec t.e)).length:Int)+1:=ZaD (by omega) (by omega)
 have j0:(0:Int)≤j:=by omega
 have c0:(0:Int)≤((L.take j).filter (Zec t.e)).length:=by omega
 have cz:(0:Nat)≤((L.take j).filter (Zec t.e)).length:=Yb0 _
 have cW:(((L.take j).filter (Zec t.e)).length:Int)<W.length:=by omega
 by_cases hjl:(j:Int)<W.length
 ·obtain⟨v,hv'⟩:=getE (l:=L) (k:=j) (by omega)
  have hvW:=hD.get.trans hv'
  obtain⟨u2,rfl,hu2⟩:=hmem v (Ya7 hv')
  have kc:=ZvB t h.R hu2
  cases hkp2:Zec t.e u2
  ·obtain⟨e,hD'⟩:=hD.skip hv' hkp2
   rw[hkp2]at kc
   have e:=congrArg List.length e
   generalize ((L.take j).filter (Zec t.e)).length=c at *
   refine aGo (cj4 hresD hjl j0 (cj2 hvW hw)) ?_
   repeat with_reducible intro K hK
   exact Zac (j+1,W) hD' (by show L.length-(j+1)<L.length-j;omega) (by rw[e];refine Zag _ _ _ ?_ ?_ ?_ ?_ ?_ (.inr fun id hid=>?_)<;>simp[go_sem,okD,okDs,Zap]<;>(have:id<4:=hid;omega))
  ·obtain⟨e,hD'⟩:=hD.take hv' hkp2
   rw[hkp2]at kc
   generalize ((L.take j).filter (Zec t.e)).length=c at *
   obtain⟨y,hy⟩:∃ y,W[c]? =some y:=⟨_,Ya0 (by omega)⟩
   have hset:(W.map fun x=>[dI x]).set c [dI u2]=(W.set c u2).map fun x=>[dI x]:=List.map_set.symm
   obtain⟨W2,hW2⟩:∃ W2,W.set c u2=W2:=⟨_,rfl⟩
   rw[hW2]at hset hD'
   refine aGo (cj4 hresD hjl j0 (cj4 c0 cz cW (cj4 hvW hy hset (cj2 hw hwc)))) ?_
   repeat with_reducible intro K hK
   exact Zac (j+1,W2) hD' (by show L.length-(j+1)<L.length-j;omega) (by rw[e];refine Zag _ _ _ ?_ ?_ ?_ ?_ ?_ (.inr fun id hid=>?_)<;>simp[go_sem,okD,okDs,Zap]<;>(have:id<4:=hid;omega))
 obtain rfl:j=L.length:=by omega
 have hi:((L.take L.length).filter (Zec t.e)).length<(W.map fun x=>[dI x]).length:=by rw[List.length_map];omega
 repeat ((fail_if_success (with_reducible refine Zdt 11 ?_)); first
     | (refine hK _ ?_;clear hK;clear K)
     | (refine aSeq fun K hK=>?_)
     | (refine ZcK ?_)
     | (refine ZeV ?_)
     | (refine ZeX ?_)
     | (refine aRet ?_)
     | (refine aOps _ rfl (by kernel_rfl) ?_)
     | (refine ZeW _ rfl Zeb (by kernel_rfl) (by kernel_rfl) fun KE hE=>?_)
     | (refine hE _ _ (by kernel_rfl) (Zay rfl) ?_;clear hE;clear KE)
     | (refine hE _ _ (by kernel_rfl) (Za8 ?hi ?hj) ?_;(case hi=>(repeat(refine Zam rfl ?_));exact Zao);(case hj=>simp);clear hE;clear KE)
     | (refine ZcI rfl ?hc ?_;case hc=>simp only[go_sem,↓reduceIte,hresD,hjl])
     | (refine ZcJ rfl ?hc ?_;case hc=>simp only[go_sem,↓reduceIte,hresD,hjl])
     | (simp only[go_sem,↓reduceIte,hresD,hjl])
     | (refine And.intro ?ho ?_;(case ho=>omega))
     | (clear hK;clear K))
 refine ZDf (es:=W.map fun x=>[dI x]) rfl rfl rfl rfl rfl rfl rfl rfl rfl rfl rfl rfl (by kernel_rfl) (by kernel_rfl) (by decide) rfl rfl rfl hi ?_
 obtain⟨E,hE⟩:∃ E,clrE (W.map fun x=>[dI x]) ((L.take L.length).filter (Zec t.e)).length ((W.map fun x=>[dI x]).length-((L.take L.length).filter (Zec t.e)).length)=E:=⟨_,rfl⟩
 have eT:E.take ((L.take L.length).filter (Zec t.e)).length=((L.filter (Zec t.e)).map fun x=>[dI x]):=by
  rw[← hE,Ztw _ _ _ _ (Ya4 _),← List.map_take,fr,List.take_length]
 have eL:E.length=W.length:=by rw[← hE,Zx2,List.length_map]
 have eW:∀ x∈E,x.length=1:=by
  rw[← hE]
  refine Zrz (p:=fun x=>x.length=1) rfl _ _ _ fun x hx=>?_
  obtain⟨u,_,rfl⟩:=List.mem_map.1 hx
  rfl
 have eC:∀ m,List.map (List.map (fzT false m 4)) E=E:=fun m=>by
  have:∀ x∈E,List.map (fzT false m 4) x=x:=by
   rw[← hE]
   refine Zrz (p:=fun x=>List.map (fzT false m 4) x=x) rfl _ _ _ fun x hx=>?_
   obtain⟨u,_,rfl⟩:=List.mem_map.1 hx
   rfl
  exact(List.map_congr_left (g:=id) this).trans (List.map_id _)
 rw[hE]
 clear hE hi hw hwc hD hok
 refine hK _ ?_
 clear hK
 simp only[go_sem]
 refine aLe ((ZcM 2 rfl).trans (Zn6 0 5)) ?_
 simp only[go_sem,fzT]
 have e1:((((L.take L.length).filter (Zec t.e)).length:Nat):Int)≤(E.length:Int):=by omega
 generalize ((L.take L.length).filter (Zec t.e)).length=c at *
 exact aGo (cj4 hres hresD c0 (cj4 e1 eT eC eW)) trivial
theorem ZnC(t:TrD)(find:Nat)(f:FiD)(h:FiOk t find f)(move:Nat)(hm:move<t.e.mv.length):Zaa Tryz.prog 69 [ZbC t,dI find,dI move] (dB true):=by
 have hres:=Tryz.results69
 have k1:=h.c
 have h2:(move:Int)≥0:=by omega
 have h3:(move:Int)<t.e.mv.length:=by omega
 have h4:=h.S.n
 refine inN Tryz.func69 rfl Tryz.ntmps69 fun I=>?_
 exact aGo (cj3 hres h2 h3) trivial
theorem ZtG(t:TrD)(find:Nat)(f:FiD)(h:FiOk t find f)(move:Nat)(hm:move<t.e.mv.length)(hno:hasR (Zbs t f) move=false):Zaf Tryz.prog 68 [ZbC t,dI find,dI move] (.tup [dI 0,.sl [],dB false]):=by
 have hres:=Tryz.results68
 have k1:=ZnC t find f h move hm
 have k2:=h.r
 have s1:=h.S.n
 have ll:=Zh1 t f
 have hlen:∀ r∈Zbs t f,r.is.length=t.e.mv.length+t.e.pl.length:=fun r hr=>by
  obtain⟨a,_,_,rfl⟩:=Zh8 h.R hr
  exact(Zhb h.R f.k a).1
 generalize Zbs t f=l at *
 refine inC Tryz.func68 rfl Tryz.ntmps68 ?_
 refine aGo hres ?_
 repeat with_reducible intro K hK
 refine Zat (fun(k:Nat)=>[(2,dI move),(6,dI 0),(7,.nil),(8,dB false),(18,Zkb l),(19,dI l.length),(20,dI k)]) (fun _=>[]) 1 0 (fun k=>k≤l.length) (fun k=>l.length-k) 0 (by omega) ?_ ?_
 ·refine Zag _ _ _ ?_ ?_ ?_ ?_ ?_ (.inl rfl)<;>simp[go_sem,okD,okDs,Zap]
 rintro k hk
 obtain⟨hw,h0⟩:=ZaM k
 have m0:(0:Int)≤move:=by omega
 by_cases h2:(k:Int)<l.length
 ·obtain⟨r,hx⟩:=getE (l:=l) (k:=k) (by omega)
  have hr:=Ya7 hx
  have hrl:=hlen r hr
  obtain⟨o,ho⟩:∃ o,r.is[move]? =some o:=⟨_,Ya0 (by omega)⟩
  have:o=false:=by
   have:=List.any_eq_false.1 hno r hr
   rw[ho]at this
   cases o
   ·rfl
   ·exact absurd rfl this
  subst this
  obtain⟨r0,r1,r2⟩:=r
  simp only at ho
  refine aGo (cj4 hres h0 h2 (cj4 m0 hx ho hw)) ?_
  repeat with_reducible intro K hK
  exact Zac (k+1) (by omega) (by omega) (by refine Zag _ _ _ ?_ ?_ ?_ ?_ ?_ (.inl rfl)<;>simp[go_sem,okD,okDs,Zap])
 obtain rfl:k=l.length:=by omega
 exact aGo (cj2 hres h2) trivial
theorem ZwN(s:SysD)(v:Int)(y:List FracD)(hs:tnS s)(hy:tnFs y):Zaf Tryz.prog 75 [encS s,dI v,ZaQ y] (dB (ZdS s v y)):=by
 have hres:=Tryz.results75
 have k1:=Zlt v (-1) (by decide) (by decide)
 rw[show((((-1:Int)):Int):Rat) = -1 from rfl]at k1
 have sg:smT (ZaY v (-1)):=⟨by show(1:Int)≤_;decide,fun t ht=>by rw[List.mem_singleton.1 ht];show(szF (ofQ (-1)):Int)≤_;decide +kernel⟩
 have k2:=ZAh s (ZaY v (-1)) y hs sg hy
 have zl:=ZyJ (goal:=ZaY v (-1)) hs hy
 have k3:=Zd1 (Zb6 s (ZaY v (-1)) y).1 (by omega)
 unfold ZdS
 generalize Zb6 s (ZaY v (-1)) y=q at *
 obtain⟨q1,q2⟩:=q
 simp only at k2 k3
 refine inC Tryz.func75 rfl Tryz.ntmps75 ?_
 cases q2
 ·exact aGo hres trivial
 ·exact aGo hres trivial
theorem Zuz{v:Int}(h:0≤v):IntK 1 (ZaY v 1):=by
 obtain⟨n,rfl⟩:=Int.eq_ofNat_of_zero_le h
 exact ZpN n
theorem ZfX{v n:Int}(h0:0≤v)(h:v<n):Zah (ZaY v 1) n=true:=by
 obtain⟨k,rfl⟩:=Int.eq_ofNat_of_zero_le h0
 exact Zck h (by decide)
section
variable {t:TrD} {find:Nat} {f:FiD} (h:FiOk t find f)
include h
theorem FiOk.only(kind:Int)(lift:Nat){v:Int}(h0:0≤v)(hv:v<t.e.mv.length):FitG (ZaG t kind lift) (oppT (ZaY v 1)) :=
 Zqh h.R h.S kind lift _ 1 (Zdj (ZfX h0 hv)) ((Zuz h0).opp (ZfX h0 hv) (by have:=h.S.n;omega)) (by decide)
theorem FiOk.muchC(kind:Int)(lift:Nat){v:Int}(h0:0≤v)(hv:v<t.e.mv.length):Zaf Tryz.prog 72 [encS (ZaG t kind lift),Zbh (ZaY v 1)] (.tup [ZaQ (maxX (ZaG t kind lift) (ZaY v 1)),ZaQ (maxY (ZaG t kind lift) (ZaY v 1))]) :=
 ZAU _ _ (h.only kind lift h0 hv) ⟨by show(1:Int)≤_;decide,fun t ht=>by rw[List.mem_singleton.1 ht];show(szF (ofQ 1):Int)≤_;decide +kernel⟩
theorem FiOk.posC(kind:Int)(lift:Nat){v:Int}(h0:0≤v)(hv:v<t.e.mv.length):Zaf Tryz.prog 74 [Zbh (ZaY v 1),ZaQ (maxX (ZaG t kind lift) (ZaY v 1))] (dB (posD (ZaY v 1) (maxX (ZaG t kind lift) (ZaY v 1)))):=by
 have hX:=ZEj (h.only kind lift h0 hv) (ZfX h0 hv) (Znj h.R kind lift)
 have sX:smFs (maxX (ZaG t kind lift) (ZaY v 1)):=⟨by have:=hX.l;have:=h.S.n;have:(ZaG t kind lift).n=t.e.mv.length:=rfl;omega,fun f hf=>by have:=hX.z f hf;show(szF f:Int)≤4194304;omega⟩
 have sg:smT (ZaY v 1):=⟨by show(1:Int)≤_;decide,fun t ht=>by rw[List.mem_singleton.1 ht];show(szF (ofQ 1):Int)≤_;decide +kernel⟩
 exact ZmB _ _ sg sX (ZrQ sg sX)
theorem FiOk.yTn(kind:Int)(lift:Nat){v:Int}(h0:0≤v)(hv:v<t.e.mv.length):tnFs (maxY (ZaG t kind lift) (ZaY v 1)):=by
 unfold maxY
 rw[Zel (Zc9 h.R kind lift) (ZfX h0 hv)]
 split
 ·exact⟨by simp,fun f hf=>by cases hf⟩
 ·exact(h.only kind lift h0 hv).tn.2.2.1
theorem FiOk.sTn(kind:Int)(lift:Nat):tnS (ZaG t kind lift):=by
 obtain⟨a,b⟩:=ZrF h.R h.S kind lift
 refine⟨by omega,fun w hw=>?_⟩
 obtain⟨c,d,e⟩:=b w hw
 exact⟨⟨by omega,fun t ht=>by have:=e t ht;show(szF t.f:Int)≤262144;omega⟩,by show(szF w.v:Int)≤262144;omega⟩
theorem FiOk.liftC:Zaa Tryz.prog 70 [Zio t.e] (Zab (natI (Zau t.e))):=Zso t.e h.R.e
end
abbrev ZxN(l:List (List FracD)):D:=.sl (l.map fun y=>[ZaQ y])
theorem ZBY(t:TrD)(find:Nat)(f:FiD)(h:FiOk t find f)(move:Nat)(hm:move<t.e.mv.length)(hno:hasR (Zbs t f) move=false):Zaf Tryz.prog 26 [ZbC t,dI find,dI move] (.tup [ZxN (Zf9 t f move),dB true]):=by
 have hres:=Tryz.results26
 have k1:=ZnC t find f h move hm
 have k2:=ZtG t find f h move hm hno
 have k3:=h.liftC
 have s1:=h.S.n
 have ll:=Zft t.e
 have hx:=h.x
 have f0:(0:Int)≤find:=by omega
 obtain⟨⟨v0,v1⟩,-,-⟩:=h.R.fi f (Ya7 hx)
 have m0:(0:Int)≤move:=by omega
 have m1:(move:Int)<t.e.mv.length:=by omega
 obtain⟨kind,ekind⟩:∃ k,f.k=k:=⟨_,rfl⟩
 obtain⟨v,ev⟩:∃ k,f.v=k:=⟨_,rfl⟩
 rw[ev]at v0 v1
 refine inC Tryz.func26 rfl Tryz.ntmps26 ?_
 refine aGo hres ?_
 repeat with_reducible intro K hK
 refine aLe (ZcT 11 33 1 rfl) ?_
 simp only[go_sem]
 have lI:(natI (Zau t.e)).length=(Zau t.e).length:=by simp[natI]
 obtain⟨A,eA⟩:∃ A:Nat→List (List FracD),A=fun k=>((Zau t.e).take k).map (ZiH t f move):=⟨_,rfl⟩
 have A0:A 0=[]:=by rw[eA];rfl
 have Al:∀ k,k≤(Zau t.e).length→(A k).length=k:=fun k hk=>by rw[eA];simp;omega
 refine Zat (fun(k:Nat)=>[(1,dI find),(2,dI move),(3,.lp 0 0 0 0),(11,.ls 1 k),(12,Zab (natI (Zau t.e))),(37,Zab (natI (Zau t.e))),(38,dI (Zau t.e).length),(39,dI k)]) (fun k=>[(0,⟨32,0,10,[cTr t],0,false⟩),(1,⟨33,k,1,(A k).map fun y=>[ZaQ y],0,false⟩)]) 2 0 (fun k=>k≤(Zau t.e).length) (fun k=>(Zau t.e).length-k) 0 (by omega) ?_ ?_
 ·refine Zag _ _ _ ?_ ?_ ?_ ?_ ?_ (.inl rfl)<;>simp[go_sem,okD,okDs,Zap,A0,lI]
 rintro k hk
 obtain⟨hw,h0⟩:=ZaM k
 have la:=Al k hk
 by_cases h2:(k:Int)<(Zau t.e).length
 rotate_left
 ·obtain rfl:k=(Zau t.e).length:=by omega
  have e1:A (Zau t.e).length=Zf9 t f move:=by rw[eA];simp only;rw[List.take_length];rfl
  refine aGo (cj2 hres h2) ?_
  repeat with_reducible intro K hK
  rw[Zan (fun _=>rfl),e1]
 obtain⟨lift,hl⟩:∃ x,(Zau t.e)[k]? =some x:=⟨_,Ya0 (by omega)⟩
 have hl2:(natI (Zau t.e))[k]? =some (lift:Int):=by unfold natI;rw[List.getElem?_map,hl];rfl
 have q1:=ZrG t h.R h.ta h.L find f hx lift
 have q2:=Zlt v 1 (by decide) (by decide)
 have q3:=Zlt move 1 (by decide) (by decide)
 rw[show(((1:Int)):Rat)=1 from rfl]at q2 q3
 have q4:=h.muchC f.k lift v0 v1
 have q5:=h.muchC f.k lift m0 m1
 have q6:=h.posC f.k lift v0 v1
 have eN:A (k+1)=A k++[ZiH t f move lift]:=by rw[eA];simp only;rw[Yb4,hl];simp
 unfold ZiH at eN
 rw[ev]at eN
 generalize ZaG t f.k lift=s at *
 generalize natI (Zau t.e)=L at *
 generalize A k=B at *
 generalize maxX s (ZaY v 1)=X at *
 generalize maxY s (ZaY v 1)=Y at *
 generalize maxX s (ZaY move 1)=X2 at *
 generalize maxY s (ZaY move 1)=Y2 at *
 generalize ZaY v 1=G at *
 generalize ZaY move 1=G2 at *
 cases hp:posD G X
 ·rw[hp]at q6 eN
  rw[if_neg Bool.false_ne_true]at eN
  refine aGo (cj4 hres h0 h2 (cj4 hl2 hx ev (cj3 f0 la hw))) ?_
  repeat with_reducible intro K hK
  exact Zac (k+1) (by omega) (by omega) (by refine Zag _ _ _ ?_ ?_ ?_ ?_ ?_ (.inl rfl)<;>simp[go_sem,okD,okDs,Zap,eN]<;>(rintro e (⟨a,_,rfl⟩|rfl)<;>rfl))
 ·rw[hp]at q6 eN
  rw[if_pos rfl]at eN
  refine ZoD (n:=13) ⟨⟩ (cj4 hres h0 h2 (cj4 hl2 hx ev (cj3 f0 la hw))) ?_
  repeat with_reducible intro K hK
  refine aLe (Zag [(1,dI find),(2,dI move),(3,.lp 0 0 0 0),(11,.ls 1 k),(12,Zab L),(17,ZaQ Y2),(37,Zab L),(38,dI (Zau t.e).length),(39,dI k)] [(0,⟨32,0,10,[cTr t],0,false⟩),(1,⟨33,k,1,B.map fun y=>[ZaQ y],0,false⟩)] 2 ?_ ?_ ?_ ?_ ?_ (.inl rfl)) ?_
  iterate 5 (simp[go_sem,okD,okDs,Zap])
  refine aGo (cj2 la hw) ?_
  repeat with_reducible intro K hK
  exact Zac (k+1) (by omega) (by omega) (by refine Zag _ _ _ ?_ ?_ ?_ ?_ ?_ (.inl rfl)<;>simp[go_sem,okD,okDs,Zap,eN]<;>(rintro e (⟨a,_,rfl⟩|rfl)<;>rfl))
def clrP(t:TrD)(f:FiD)(move:Nat)(p:Nat×List FracD):Bool:=ZdS (ZaG t f.k p.1) f.v p.2||ZdS (ZaG t f.k p.1) move p.2
theorem Ztx(t:TrD)(find:Nat)(f:FiD)(h:FiOk t find f)(move:Nat)(hm:move<t.e.mv.length)(proof:List (List FracD))(hp:∀ y∈proof,tnFs y)(hpl:proof.length≤4096):Zaf Tryz.prog 28 [ZbC t,dI find,dI move,ZxN proof] (dB (Zir t f move proof)):=by
 have hres:=Tryz.results28
 have k1:=ZnC t find f h move hm
 have k3:=h.liftC
 have s1:=h.S.n
 have ll:=Zft t.e
 have hx:=h.x
 have f0:(0:Int)≤find:=by omega
 obtain⟨v,ev⟩:∃ k,f.v=k:=⟨_,rfl⟩
 have lI:(natI (Zau t.e)).length=(Zau t.e).length:=by simp[natI]
 by_cases h1:proof.length=(Zau t.e).length
 rotate_left
 ·have h1':((proof.length:Int) !=((natI (Zau t.e)).length:Int))=true:=by rw[lI];simp;omega
  refine inC Tryz.func28 rfl Tryz.ntmps28 ?_
  refine aGo (cj2 hres h1') ?_
  repeat with_reducible intro K hK
  exact Zai (by simp[Zir,h1])
 have h1':((proof.length:Int) !=((natI (Zau t.e)).length:Int))=false:=by rw[lI];simp;omega
 have eC:Zir t f move proof=((Zau t.e).zip proof).all (clrP t f move):=by
  unfold Zir
  rw[h1,decide_eq_true rfl,Bool.true_and];rfl
 rw[eC]
 refine inC Tryz.func28 rfl Tryz.ntmps28 ?_
 refine aGo (cj2 hres h1') ?_
 repeat with_reducible intro K hK
 refine Zat (fun(k:Nat)=>[(1,dI find),(2,dI move),(3,ZxN proof),(4,.lp 0 0 0 0),(9,Zab (natI (Zau t.e))),(26,Zab (natI (Zau t.e))),(27,dI (Zau t.e).length),(28,dI k)]) (fun k=>[(0,⟨32,0,10,[cTr t],0,false⟩)]) 1 0 (fun k=>k≤(Zau t.e).length∧(((Zau t.e).zip proof).take k).all (clrP t f move)=true) (fun k=>(Zau t.e).length-k) 0 ⟨by omega,rfl⟩ ?_ ?_
 ·refine Zag _ _ _ ?_ ?_ ?_ ?_ ?_ (.inl rfl)<;>simp[go_sem,okD,okDs,Zap,lI]
 rintro k ⟨hk,ha⟩
 obtain⟨hw,h0⟩:=ZaM k
 by_cases h2:(k:Int)<(Zau t.e).length
 rotate_left
 ·rw[Ya8 (by rw[List.length_zip];omega)]at ha
  refine aGo (cj2 hres h2) ?_
  repeat with_reducible intro K hK
  exact Zai ha.symm
 obtain⟨lift,hl⟩:∃ x,(Zau t.e)[k]? =some x:=⟨_,Ya0 (by omega)⟩
 have hl2:(natI (Zau t.e))[k]? =some (lift:Int):=by unfold natI;rw[List.getElem?_map,hl];rfl
 obtain⟨y,hy⟩:∃ y,proof[k]? =some y:=⟨_,Ya0 (by omega)⟩
 have hz:((Zau t.e).zip proof)[k]? =some (lift,y):=by rw[List.getElem?_zip_eq_some];exact⟨hl,hy⟩
 have q1:=ZrG t h.R h.ta h.L find f hx lift
 have q2:=ZwN (ZaG t f.k lift) v y (h.sTn f.k lift) (hp y (Ya7 hy))
 have q3:=ZwN (ZaG t f.k lift) move y (h.sTn f.k lift) (hp y (Ya7 hy))
 have eP:clrP t f move (lift,y)=(ZdS (ZaG t f.k lift) v y||ZdS (ZaG t f.k lift) move y):=by rw[← ev];rfl
 generalize ZaG t f.k lift=s at *
 cases n1:ZdS s v y
 rotate_left
 ·rw[n1]at q2 eP
  refine aGo (cj4 hres h0 h2 (cj4 hl2 hx hy (cj3 ev f0 hw))) ?_
  repeat with_reducible intro K hK
  exact Zac (k+1) ⟨by omega,ZaP hz ha (by rw[eP];rfl)⟩ (by omega) (by refine Zag _ _ _ ?_ ?_ ?_ ?_ ?_ (.inl rfl)<;>simp[go_sem,okD,okDs,Zap])
 cases n2:ZdS s move y
 rotate_left
 ·rw[n1,n2]at eP
  rw[n1]at q2
  rw[n2]at q3
  refine aGo (cj4 hres h0 h2 (cj4 hl2 hx hy (cj3 ev f0 hw))) ?_
  repeat with_reducible intro K hK
  exact Zac (k+1) ⟨by omega,ZaP hz ha (by rw[eP];rfl)⟩ (by omega) (by refine Zag _ _ _ ?_ ?_ ?_ ?_ ?_ (.inl rfl)<;>simp[go_sem,okD,okDs,Zap])
 rw[n1,n2]at eP
 rw[n1]at q2
 rw[n2]at q3
 refine aGo (cj4 hres h0 h2 (cj4 hl2 hx hy (cj3 ev f0 hw))) ?_
 repeat with_reducible intro K hK
 exact Zai (ZdH hz (by rw[eP];rfl)).symm
theorem ZEO:LenT exT:=⟨⟨by decide,by decide,by decide,by decide,by decide⟩,by decide,by decide⟩
theorem ZBa:TrOk exT:=⟨ZbG,ZAc,ZEO,⟨by decide,by decide,by decide,by decide⟩,by decide⟩
theorem ZlU:FiOk exT 0 exF:=⟨ZbG,⟨by decide,by decide,by decide,by decide⟩,ZAc,ZEO,rfl⟩
theorem Zsq{t:TrD}{find:Nat}{f:FiD}(h:FiOk t find f){move:Nat}(hm:move<t.e.mv.length):∀ y∈Zf9 t f move,tnFs y:=by
 intro y hy
 obtain⟨lift,_,rfl⟩:=List.mem_map.1 hy
 have hv:=(h.R.fi f (Ya7 h.x)).1
 unfold ZiH
 split
 ·exact h.yTn f.k lift (by omega) (by omega)
 ·exact h.yTn f.k lift hv.1 hv.2
theorem Zqo:Zaf Tryz.prog 5 [] (dB true):=by
 have hres:=Tryz.results5
 have k1:=Zl6
 have k2:=Zg0 ZBa (kind:=0) (by decide)
 have k3:=ZCs exT 0 exF ZlU
 have k4:=ZDL exT 0 exF ZlU
 have k5:=ZBY exT 0 exF ZlU 4 (by decide) (by rw[ZxH];exact ZA8)
 have k6:=Zi7 ZBa (kind:=0) (by decide)
 have pl:(Zf9 exT exF 4).length≤4096:=by unfold Zf9;rw[List.length_map];exact(by decide +kernel:(Zau exE).length≤4096)
 have c1:=Ztx exT 0 exF ZlU 4 (by decide) (Zf9 exT exF 4) (Zsq ZlU (by decide)) pl
 have c2:=Ztx exT 0 exF ZlU 3 (by decide) (Zf9 exT exF 4) (Zsq ZlU (by decide)) pl
 rw[Zte.1]at c1
 rw[Zte.2]at c2
 rw[Zp2,ZxG]at k3
 rw[ZCR]at k4
 rw[ZEM]at k6
 obtain⟨a,b,ev,ha,hb,_,_⟩:=ZlR
 rw[ev]at k2
 have s1:=Znu [0,2,3] [0,2,3] (by decide) (by decide)
 have s2:=Znu [4,5] [4,5] (by decide) (by decide)
 have s3:=Znu [3] [3] (by decide) (by decide)
 have s4:=Znu [0] [0] (by decide) (by decide)
 have b1:(([0,2,3]:List Int)==[0,2,3])=true:=by decide
 have b2:(([4,5]:List Int)==[4,5])=true:=by decide
 have b3:(([3]:List Int)==[3])=true:=by decide
 have b4:(([0]:List Int)==[0])=true:=by decide
 rw[b1]at s1
 rw[b2]at s2
 rw[b3]at s3
 rw[b4]at s4
 generalize Zf9 exT exF 4=pr at *
 generalize exT=X at *
 refine inC Tryz.func5 rfl Tryz.ntmps5 ?_
 exact aGo (cj3 hres ha hb) trivial
theorem ZwQ(a b:Rat)(za:(szQ a:Int)≤549755813888)(zb:(szQ b:Int)≤549755813888):Zaa Tryz.prog 34 [encF (ofQ a),encF (ofQ b)] (dI (sgQ (a-b))):=ZwK a b za zb
theorem ZAP(a:Rat)(za:(szQ a:Int)≤549755813888):Zaa Tryz.prog 35 [encF (ofQ a)] (dI (sgQ a)):=by
 have:=Zd1 (ofQ a) za
 rwa [ZbN]at this
theorem Ztv{a b:Rat}:sgQ (a-b)>0↔b<a:=ZcS.trans ⟨fun h=>by grind,fun h=>by grind⟩
theorem ZBe{a b:Rat}:sgQ (a-b)<0↔a<b:=Ze1.trans ⟨fun h=>by grind,fun h=>by grind⟩
def Zl2(a:AbD)(z:Rat):Int :=
 if a.cap=true∧qOf a.hi<z then 20 else if (a.fi.any fun g=>decide (z<(g:Rat)))=true then 24 else if 0<a.cl∧z≠0 then 13 else 0
theorem ZuU(t:TrD)(kind:Int)(z:Rat)(i:Nat):Zl2 (abK t kind i) z=ZgY t kind z i:=by
 unfold Zl2 ZgY abK
 simp only[Int.natCast_pos]
structure AbOk (a:AbD):Prop where
 hi:a.cap=true→okF a.hi=true∧szF a.hi≤4
 l:a.fi.length≤20
 g:∀ g∈a.fi,1≤g∧g≤1099511627776
theorem ZAy(a:AbD)(h:AbOk a)(z:Rat)(hz:(szQ z:Int)≤1000000):Zaa Tryz.prog 37 [.agg (cAb a),encF (ofQ z)] (dI (Zl2 a z)):=by
 have hres:=Tryz.results37
 obtain⟨o,hl,hg⟩:=h
 obtain⟨hi,cap,fi,cl⟩:=a
 simp only at o hl hg
 obtain⟨q,eq⟩:∃ q,qOf hi=q:=⟨_,rfl⟩
 have k2:=ZAP z (by omega)
 have hA:Zl2 ⟨hi,cap,fi,cl⟩ z=if cap=true∧q<z then 20 else if (fi.any fun g=>decide (z<(g:Rat)))=true then 24 else if 0<cl∧z≠0 then 13 else 0:=by unfold Zl2;rw[eq]
 obtain⟨R,hR⟩:∃ R:Int,(if cap=true∧q<z then 20 else if (fi.any fun g=>decide (z<(g:Rat)))=true then 24 else if 0<cl∧z≠0 then 13 else 0)=R:=⟨_,rfl⟩
 rw[hA,hR]
 clear hA
 refine inN Tryz.func37 rfl Tryz.ntmps37 fun I=>?_
 refine ZoD (n:=1) ⟨⟩ hres ?_
 repeat with_reducible intro K hK
 rename_i K0 hK0
 have r1:¬ (cap=true∧q<z)→∀ st,StLe st ⟨tabT [(2,.lp 0 0 0 0),(3,.lp 1 0 0 0)],tabM [(0,⟨88,0,7,[cAb ⟨hi,cap,fi,cl⟩],0,false⟩),(1,⟨53,0,4,[cF (ofQ z)],0,false⟩)],2,0⟩→K0 st:=by
  intro hc st hle
  refine hK0 _ (aLe hle ?_)
  clear hle hK0 hK
  refine aGo hres ?_
  repeat with_reducible intro K hK
  refine Zat (fun(k:Nat)=>[(2,.lp 0 0 0 0),(3,.lp 1 0 0 0),(17,Zab fi),(18,dI fi.length),(19,dI k)]) (fun k=>[(0,⟨88,0,7,[cAb ⟨hi,cap,fi,cl⟩],0,false⟩),(1,⟨53,0,4,[cF (ofQ z)],0,false⟩)]) 2 0 (fun k=>k≤fi.length∧(fi.take k).any (fun g=>decide (z<(g:Rat)))=false) (fun k=>fi.length-k) 0 ⟨by omega,rfl⟩ ?_ ?_
  ·exact leGo trivial
  rintro k ⟨hk,hn⟩
  obtain⟨hw,k0⟩:=ZaM k
  by_cases h1:(k:Int)<fi.length
  ·obtain⟨g,hx⟩:∃ g,fi[k]? =some g:=⟨_,Ya0 (by omega)⟩
   obtain⟨g1,g2⟩:=hg g (Ya7 hx)
   have q1:=ZhN g (by omega) (by omega)
   have zg:=Zdf g (by omega) (by omega)
   have q2:=ZwQ z (g:Rat) (by omega) (by omega)
   by_cases h2:z<(g:Rat)
   ·have h2':sgQ (z-(g:Rat))<0:=ZBe.2 h2
    have hf:(if cap=true∧q<z then 20 else if (fi.any fun g=>decide (z<(g:Rat)))=true then 24 else if 0<cl∧z≠0 then 13 else 0)=(24:Int):=by rw[if_neg hc,if_pos (ZBh hx (by simpa using h2))]
    generalize sgQ (z-(g:Rat))=sg at *
    refine aGo (cj4 hres k0 h1 (cj2 hx h2')) ?_
    repeat with_reducible intro K hK
    exact ZaX (hf.symm.trans hR)
   ·have h2':¬ sgQ (z-(g:Rat))<0:=fun h=>h2 (ZBe.1 h)
    have hn2:(fi.take (k+1)).any (fun g=>decide (z<(g:Rat)))=false:=Zdu hx hn (by simpa using h2)
    generalize sgQ (z-(g:Rat))=sg at *
    refine aGo (cj4 hres k0 h1 (cj3 hx h2' hw)) ?_
    repeat with_reducible intro K hK
    exact Zac (k+1) ⟨by omega,hn2⟩ (by omega) (by exact leGo trivial)
  rw[Ya8 (by omega)]at hn
  by_cases h3:cl>0
  ·by_cases h4:z=0
   ·have h4':(sgQ z !=0)=false:=by simp[Zcl.2 h4]
    have hf:(if cap=true∧q<z then 20 else if (fi.any fun g=>decide (z<(g:Rat)))=true then 24 else if 0<cl∧z≠0 then 13 else 0)=(0:Int):=by rw[if_neg hc,hn,if_neg Bool.false_ne_true,if_neg fun e=>e.2 h4]
    generalize sgQ z=sg at *
    refine aGo (cj4 hres h1 h3 h4') ?_
    repeat with_reducible intro K hK
    exact ZaX (hf.symm.trans hR)
   ·have h4':(sgQ z !=0)=true:=by simp;exact fun e=>h4 (Zcl.1 e)
    have hf:(if cap=true∧q<z then 20 else if (fi.any fun g=>decide (z<(g:Rat)))=true then 24 else if 0<cl∧z≠0 then 13 else 0)=(13:Int):=by rw[if_neg hc,hn,if_neg Bool.false_ne_true,if_pos ⟨h3,h4⟩]
    generalize sgQ z=sg at *
    refine aGo (cj4 hres h1 h3 h4') ?_
    repeat with_reducible intro K hK
    exact ZaX (hf.symm.trans hR)
  ·have hf:(if cap=true∧q<z then 20 else if (fi.any fun g=>decide (z<(g:Rat)))=true then 24 else if 0<cl∧z≠0 then 13 else 0)=(0:Int):=by rw[if_neg hc,hn,if_neg Bool.false_ne_true,if_neg fun e=>h3 e.1]
   refine aGo (cj3 hres h1 h3) ?_
   repeat with_reducible intro K hK
   exact ZaX (hf.symm.trans hR)
 clear hK0
 cases cap
 ·refine aGo hres ?_
  repeat with_reducible intro K hK
  exact r1 (fun e=>by cases e.1) _ (by exact leGo trivial)
 obtain⟨o1,zh⟩:=o rfl
 obtain rfl:hi=ofQ q:=by rw[← eq];exact Zcm o1
 change szQ q≤4 at zh
 have k1:=ZwQ z q (by omega) (by omega)
 by_cases h1:q<z
 ·have h1':sgQ (z-q)>0:=Ztv.2 h1
  have hf:(if true=true∧q<z then 20 else if (fi.any fun g=>decide (z<(g:Rat)))=true then 24 else if 0<cl∧z≠0 then 13 else 0)=(20:Int):=if_pos ⟨rfl,h1⟩
  generalize sgQ (z-q)=sg at *
  refine aGo (cj2 hres h1') ?_
  repeat with_reducible intro K hK
  exact ZaX (hf.symm.trans hR)
 ·have h1':¬ sgQ (z-q)>0:=fun h=>h1 (Ztv.1 h)
  generalize sgQ (z-q)=sg at *
  refine aGo (cj2 hres h1') ?_
  repeat with_reducible intro K hK
  exact r1 (fun e=>h1 e.2) _ (by exact leGo trivial)
theorem ZAF{e:EvD}{f:Nat→Rat}(h:∀ j,szQ (f j)≤4)(p:Int):∀ k,szQ (stN e f p k)≤1+k*5
 | 0=>by show szQ 0≤_;have:=sz_0;omega
 | k+1=>by
   have ih:=ZAF (e:=e) h p k
   have e1:stN e f p (k+1)=stN e f p k+(if (mvAt e k).t=p then f k else if (mvAt e k).f=p then -(f k)else 0):=rfl
   rw[e1]
   have h2:=Zfb (stN e f p k) (if (mvAt e k).t=p then f k else if (mvAt e k).f=p then -(f k)else 0)
   have h3:szQ (if (mvAt e k).t=p then f k else if (mvAt e k).f=p then -(f k)else 0)≤4:=by
    split
    ·exact h k
    ·split
     ·rw[Zde];exact h k
     ·have:=sz_0;omega
   omega
theorem ab_ok{t:TrD}(R:RightTr t)(kind:Int)(k:Nat):AbOk (abK t kind k):=by
 refine⟨fun h=>⟨ZEq _ _ h,ZEp h⟩,?_,fun g hg=>?_⟩
 ·have:=Yb1 (fun f:FiD=>f.k==kind&&f.v==(k:Int)) t.fi
  have:=R.lf
  show(finK t kind k).length≤20
  unfold finK
  rw[List.length_map];omega
 ·obtain⟨f,hf,rfl⟩:=List.mem_map.1 hg
  exact(R.fi f (List.mem_filter.1 hf).1).2.2
theorem ZwZ(t:TrD)(L:LenT t)(kind:Int)(z:List FracD)(h:¬ (ZaZ t=0∧Zdk kind=true)):Zaa Tryz.prog 8 [ZbC t,dI kind,ZaQ z] (dI 1):=by
 have hres:=Tryz.results8
 have k1:=ZhU t L
 refine inN Tryz.func8 rfl Tryz.ntmps8 fun I=>?_
 by_cases h1:ZaZ t=0
 rotate_left
 ·have h1':(ZaZ t !=0)=true:=by simpa using h1
  exact aGo (cj2 hres h1') trivial
 rw[h1]at k1
 by_cases h2:kind<0
 ·exact aGo (cj2 hres h2) trivial
 by_cases h3:kind≥8
 ·exact aGo (cj3 hres h2 h3) trivial
 exact absurd ⟨h1,by simp[Zdk];omega⟩ h
theorem Zi5{f:Nat→Int}{k i:Nat}(h:f i≠0):ZgL f (k+1) i=f i:=if_neg h
theorem Zxv{f:Nat→Int}{k i:Nat}(h:f i=0):ZgL f (k+1) i=ZgL f k (i+1):=if_pos h
theorem ZsJ(t:TrD)(R:RightTr t)(h1:ZaZ t=0)(L:LenT t){kind:Int}(hk:Zdk kind=true)(hn:t.e.mv.length≤6)(z:List FracD)(hz:∀ f∈z,szF f≤4)(hzl:z.length≤64):Zaf Tryz.prog 8 [ZbC t,dI kind,ZaQ z] (dI (Zia t kind z)):=by
 have hres:=Tryz.results8
 have k1:=ZhU t L
 rw[h1]at k1
 have k2:=Zrf t R kind
 have hp:=R.e.lp
 have hk':=hk
 simp only[Zdk,Ya2,decide_eq_true_eq]at hk'
 have g1:¬ kind<0:=by omega
 have g2:¬ kind≥8:=by omega
 have eM:Zia t kind z=if z.length=t.e.mv.length∧okP z=true then ZgL (ZnV t kind z) t.e.mv.length 0 else 2:=if_pos ⟨h1,hk⟩
 rw[eM]
 clear eM
 by_cases h2:z.length=t.e.mv.length
 rotate_left
 ·have h2':((z.length:Int) !=(t.e.mv.length:Int))=true:=by simp;omega
  rw[if_neg fun e=>h2 e.1]
  refine inC Tryz.func8 rfl Tryz.ntmps8 ?_
  exact aGo (cj4 hres g1 g2 h2') trivial
 have h2':((z.length:Int) !=(t.e.mv.length:Int))=false:=by simp;omega
 obtain⟨M,hM⟩:∃ M,(if z.length=t.e.mv.length∧okP z=true then ZgL (ZnV t kind z) t.e.mv.length 0 else 2)=M:=⟨_,rfl⟩
 rw[hM]
 refine inC Tryz.func8 rfl Tryz.ntmps8 ?_
 refine aGo (cj4 hres g1 g2 h2') ?_
 repeat with_reducible intro K hK
 clear k1
 refine Zat (fun(k:Nat)=>[(1,dI kind),(2,ZaQ z),(3,.lp 0 0 0 0),(7,.lp 1 0 0 0),(36,ZaQ z),(37,dI z.length),(38,dI k)]) (fun k=>[(0,⟨32,0,10,[cTr t],0,false⟩),(1,⟨28,0,8,[cEv t.e],0,false⟩)]) 2 0 (fun k=>k≤z.length∧(z.take k).all okF=true) (fun k=>z.length-k) 0 ⟨by omega,rfl⟩ ?_ ?_
 ·exact leGo trivial
 rintro k ⟨hk1,ha⟩
 obtain⟨hw,k0⟩:=ZaM k
 by_cases h3:(k:Int)<z.length
 ·obtain⟨x,hx⟩:∃ x,z[k]? =some x:=⟨_,Ya0 (by omega)⟩
  have q:=ZcD x (by have:=hz x (Ya7 hx);omega)
  cases ho:okF x
  ·rw[ho]at q
   have hf:M=2:=by
    rw[← hM]
    refine if_neg fun e=>?_
    have:okP z=false:=ZdH hx ho
    rw[e.2]at this;cases this
   refine aGo (cj4 hres k0 h3 hx) ?_
   repeat with_reducible intro K hK
   exact ZaX hf.symm
  ·rw[ho]at q
   refine aGo (cj4 hres k0 h3 (cj2 hx hw)) ?_
   repeat with_reducible intro K hK
   exact Zac (k+1) ⟨by omega,ZaP hx ha ho⟩ (by omega) (by exact leGo trivial)
 obtain rfl:k=z.length:=by omega
 have ho:okP z=true:=by rw[List.take_length]at ha;exact ha
 have hM2:M=ZgL (ZnV t kind z) t.e.mv.length 0:=by rw[← hM];exact if_pos ⟨h2,ho⟩
 clear ha hM hw k0 hk1
 obtain⟨np,en⟩:∃ np,t.e.pl.length=np:=⟨_,rfl⟩
 have n0:(0:Int)≤np:=by omega
 have hrep:List.replicate np zc=Zef np 0:=(Zi6 np).symm
 have hl:=Ze6 np 0
 refine aGo (cj4 hres h3 en (cj3 n0 hrep hl)) ?_
 repeat with_reducible intro K hK
 refine Zat (fun(k:Nat)=>[(1,dI kind),(2,ZaQ z),(3,.lp 0 0 0 0),(7,.lp 1 0 0 0),(10,.ls 2 1),(51,dI np),(52,dI k)]) (fun k=>[(0,⟨32,0,10,[cTr t],0,false⟩),(1,⟨28,0,8,[cEv t.e],0,false⟩),(2,⟨53,1,4,Zef np k,0,false⟩)]) 3 0 (fun k=>k≤np) (fun k=>np-k) 0 (by omega) ?_ ?_
 ·refine Zag _ _ _ ?_ ?_ ?_ ?_ ?_ (.inl rfl)<;>simp[go_sem,okD,okDs,Zap]
  exact(Zd0 _ _ _).2 trivial
 rintro k hk1
 obtain⟨hw,k0⟩:=ZaM k
 have kz:(0:Nat)≤k:=Yb0 _
 have hlk:=Ze6 np k
 by_cases h4:(k:Int)<np
 ·have hg:(Zef np k)[k]? =some zc:=by unfold Zef;rw[Zbu _ (by omega),if_neg (by omega)]
  have hset:=ZkJ np k
  have q0:=nZ_c
  refine aGo (cj4 hres k0 kz (cj4 h4 hlk hg (cj2 hset hw))) ?_
  repeat with_reducible intro K hK
  exact Zac (k+1) (by omega) (by omega) (by refine Zag _ _ _ ?_ ?_ ?_ ?_ ?_ (.inl rfl)<;>simp[go_sem,okD,okDs,Zap]<;>exact(Zd0 _ _ _).2 trivial)
 obtain rfl:np=k:=by omega
 rw[ZkK]
 clear hw k0 kz hlk hl hrep n0
 have hkl:(Zb7 t kind).length=t.e.mv.length:=by simp[Zb7]
 refine aGo (cj2 hres h4) ?_
 repeat with_reducible intro K hK
 clear k2 h4 h3
 obtain⟨f,ef⟩:∃ f:Nat→Rat,f=fun(j:Nat)=>atP z (j:Nat):=⟨_,rfl⟩
 have hf4:∀ j,szQ (f j)≤4:=fun j=>by
  rw[ef];simp only
  by_cases hj:j<z.length
  ·rw[Zyn hj]
   have:=hz z[j] (List.getElem_mem hj)
   rwa [Zch (Ya6.1 ho _ (List.getElem_mem hj))]
  ·have:atP z (j:Nat)=0:=by unfold atP;rw[Int.toNat_natCast,List.getElem?_eq_none (by omega)];rfl
   rw[this]
   have:=sz_0;omega
 refine Zat (fun(k:Nat)=>[(2,ZaQ z),(7,.lp 1 0 0 0),(10,.ls 2 1),(62,Zgc (Zb7 t kind)),(63,dI t.e.mv.length),(64,dI k)]) (fun k=>[(1,⟨28,0,8,[cEv t.e],0,false⟩),(2,⟨53,1,4,ratL np (fun p=>stN t.e f (p:Nat) k),0,false⟩)]) 3 0 (fun k=>k≤t.e.mv.length∧M=ZgL (ZnV t kind z) (t.e.mv.length-k) k) (fun k=>t.e.mv.length-k) 0 ⟨by omega,by rw[hM2];rfl⟩ ?_ ?_
 ·have e0:ratL np (fun(p:Nat)=>stN t.e f (p:Nat) 0)=ratL np (fun _=>0):=ZaV fun _ _=>rfl
  refine Zag _ _ _ ?_ ?_ ?_ ?_ ?_ (.inl rfl)<;>simp[go_sem,okD,okDs,Zap,e0,hkl]
  exact(Zex _ _ _).2 trivial
 clear hM2
 rintro k ⟨hk1,hM⟩
 obtain⟨hw,k0⟩:=ZaM k
 by_cases h3:(k:Int)<t.e.mv.length
 rotate_left
 ·have:M=0:=by rw[hM,show t.e.mv.length-k=0 by omega];rfl
  refine aGo (cj2 hres h3) ?_
  repeat with_reducible intro K hK
  exact ZaX this.symm
 rw[show t.e.mv.length-k=(t.e.mv.length-(k+1))+1 by omega]at hM
 have hkn:(Zb7 t kind)[k]? =some (abK t kind k):=by unfold Zb7;rw[List.getElem?_map,List.getElem?_range (by omega)];rfl
 have hx:=Zlx (e:=t.e) (i:=k) (by omega)
 obtain⟨q,hq⟩:∃ q,z[k]? =some q:=⟨_,Ya0 (by omega)⟩
 have hoq:=Ya6.1 ho q (ZaI hq)
 obtain⟨y,rfl⟩:∃ y,q=ofQ y:=⟨_,Zcm hoq⟩
 have hy:f k=y:=by
  rw[ef];simp only
  unfold atP
  rw[Int.toNat_natCast,hq]
  exact Zav y
 have zy:=hf4 k
 rw[hy]at zy
 have hmE:ZnV t kind z k=if y<0 then 3 else if ZbK t.e k=false∧stN t.e f (mvAt t.e k).f k<y then 4 else if (mvAt t.e k).a=true∧y≠stN t.e f (mvAt t.e k).f k then 7 else ZgY t kind y k:=by
  rw[← hy,ef];rfl
 have hOk:=R.e.mv _ (ZiP (show k<t.e.mv.length by omega))
 obtain⟨f0,f1⟩:=hOk.f
 obtain⟨t0,t1⟩:=hOk.t
 have hne:=hOk.ne
 have kb:=ZC9 t.e R.e k (by omega)
 have ka:=ZAy (abK t kind k) (ab_ok R kind k) y (by omega)
 rw[ZuU]at ka
 have stn:∀ p:Int,stN t.e f p (k+1)=stN t.e f p k+(if (mvAt t.e k).t=p then y else if (mvAt t.e k).f=p then -y else 0):=fun p=>by rw[← hy];rfl
 have szn:=fun p:Int=>ZAF (e:=t.e) hf4 p k
 obtain⟨a,ea⟩:∃ a,abK t kind k=a:=⟨_,rfl⟩
 rw[ea]at hkn ka
 generalize ZgY t kind y k=w at *
 generalize ZbK t.e k=b at *
 generalize mvAt t.e k=x at *
 obtain⟨c,hc⟩:∃ c:Int→Rat,c=fun p=>stN t.e f p k:=⟨_,rfl⟩
 have hcs:∀ p,szQ (c p)≤1+k*5:=fun p=>by rw[hc];exact szn p
 have hcn:∀ p:Int,stN t.e f p (k+1)=c p+(if x.t=p then y else if x.f=p then -y else 0):=fun p=>by rw[hc];exact stn p
 have hrow:ratL np (fun(p:Nat)=>stN t.e f (p:Nat) k)=ratL np (fun(p:Nat)=>c (p:Nat)):=by rw[hc]
 have hmE2:ZnV t kind z k=if y<0 then 3 else if b=false∧c x.f<y then 4 else if x.a=true∧y≠c x.f then 7 else w:=by rw[hmE,hc]
 rw[hrow]
 clear hrow hmE stn szn hc
 have gf:=Za9 (n:=np) (fun(p:Nat)=>c (p:Nat)) (show x.f.toNat<np by omega)
 have gl:=ZbZ np (fun(p:Nat)=>c (p:Nat))
 have ecf:c (x.f.toNat:Nat)=c x.f:=by rw[Int.toNat_of_nonneg f0]
 simp only[ecf]at gf
 have q1:=ZwQ y (c x.f) (by omega) (by have:=hcs x.f;omega)
 have q2:=ZAP y (by omega)
 generalize hgA:ratL np (fun(p:Nat)=>c (p:Nat))=A at *
 by_cases c1:y<0
 ·have hf:M=3:=by rw[hM,Zi5 (by rw[hmE2,if_pos c1];decide),hmE2,if_pos c1]
  have c1':sgQ y<0:=Ze1.2 c1
  generalize sgQ y=sy at *
  generalize sgQ (y-c x.f)=sc at *
  refine aGo (cj4 hres h3 k0 (cj4 hkn hx hq (cj4 f0 gf gl c1'))) ?_
  repeat with_reducible intro K hK
  exact ZaX hf.symm
 have c1':¬ sgQ y<0:=fun h=>c1 (Ze1.1 h)
 rw[if_neg c1]at hmE2
 by_cases c2:b=false∧c x.f<y
 ·have hf:M=4:=by rw[hM,Zi5 (by rw[hmE2,if_pos c2];decide),hmE2,if_pos c2]
  obtain⟨rfl,c2⟩:=c2
  have c2':sgQ (y-c x.f)>0:=Ztv.2 c2
  generalize sgQ y=sy at *
  generalize sgQ (y-c x.f)=sc at *
  refine aGo (cj4 hres h3 k0 (cj4 hkn hx hq (cj4 f0 gf gl (cj2 c1' c2')))) ?_
  repeat with_reducible intro K hK
  exact ZaX hf.symm
 rw[if_neg c2]at hmE2
 have r2:b=true∨(b=false∧¬ sgQ (y-c x.f)>0):=by
  cases b
  ·exact .inr ⟨rfl,fun h=>c2 ⟨rfl,Ztv.1 h⟩⟩
  ·exact .inl rfl
 by_cases c3:x.a=true∧y≠c x.f
 ·have hf:M=7:=by rw[hM,Zi5 (by rw[hmE2,if_pos c3];decide),hmE2,if_pos c3]
  obtain⟨ha,c3⟩:=c3
  have c3':(sgQ (y-c x.f) !=0)=true:=by
   have:sgQ (y-c x.f)≠0:=fun h=>c3 (by have:=Zcl.1 h;grind)
   simpa using this
  generalize sgQ y=sy at *
  generalize sgQ (y-c x.f)=sc at *
  rcases r2 with rfl|⟨rfl,r2⟩
  ·refine aGo (cj4 hres h3 k0 (cj4 hkn hx hq (cj4 f0 gf gl (cj3 c1' ha c3')))) ?_
   repeat with_reducible intro K hK
   exact ZaX hf.symm
  ·refine aGo (cj4 hres h3 k0 (cj4 hkn hx hq (cj4 f0 gf gl (cj4 c1' r2 ha c3')))) ?_
   repeat with_reducible intro K hK
   exact ZaX hf.symm
 rw[if_neg c3]at hmE2
 have r3:x.a=false∨(x.a=true∧(sgQ (y-c x.f) !=0)=false):=by
  cases hxa:x.a
  ·exact .inl rfl
  ·refine .inr ⟨rfl,?_⟩
   have:y=c x.f:=by
    by_cases e:y=c x.f
    ·exact e
    ·exact absurd ⟨hxa,e⟩ c3
   have:sgQ (y-c x.f)=0:=Zcl.2 (by grind)
   simp[this]
 clear c2 c3
 have s1:=ZwG (c x.f) y (by have:=hcs x.f;omega) (by omega)
 have s2:=ZgD (c x.t) y (by have:=hcs x.t;omega) (by omega)
 have gl1:(ratL np fun u=>if u=x.f.toNat then c x.f-y else c (u:Nat)).length=np:=ZbZ _ _
 have set1:A.set x.f.toNat (cF (ofQ (c x.f-y)))=ratL np fun u=>if u=x.f.toNat then c x.f-y else c (u:Nat):=by rw[← hgA];exact Zdi _ _
 have gt1:(ratL np fun u=>if u=x.f.toNat then c x.f-y else c (u:Nat))[x.t.toNat]? =some (cF (ofQ (c x.t))):=by
  rw[Za9 _ (show x.t.toNat<np by omega),if_neg (by omega),Int.toNat_of_nonneg t0]
 have set2:(ratL np fun u=>if u=x.f.toNat then c x.f-y else c (u:Nat)).set x.t.toNat (cF (ofQ (c x.t+y)))=ratL np fun(u:Nat)=>stN t.e f (u:Nat) (k+1):=by
  rw[Zdi]
  refine ZaV fun u hu=>?_
  rw[hcn]
  by_cases e1:u=x.t.toNat
  ·subst e1
   rw[if_pos rfl,Int.toNat_of_nonneg t0,if_pos rfl]
  ·rw[if_neg e1,if_neg (show ¬ x.t=(u:Int) by omega)]
   by_cases e2:u=x.f.toNat
   ·subst e2
    rw[if_pos rfl,Int.toNat_of_nonneg f0,if_pos rfl];grind
   ·rw[if_neg e2,if_neg (show ¬ x.f=(u:Int) by omega)];grind
 generalize (ratL np fun u=>if u=x.f.toNat then c x.f-y else c (u:Nat))=A1 at *
 have fz:(0:Nat)≤x.f.toNat:=Yb0 _
 have tz:(0:Nat)≤x.t.toNat:=Yb0 _
 clear hcn hcs hy ef ecf hgA
 generalize sgQ y=sy at *
 generalize sgQ (y-c x.f)=sc at *
 by_cases c4:w=0
 rotate_left
 ·have hf:M=w:=by rw[hM,Zi5 (by rw[hmE2];exact c4),hmE2]
  have c4':(w !=0)=true:=by simpa using c4
  rcases r2 with rfl|⟨rfl,r2⟩<;>rcases r3 with r3|⟨r3,r4⟩
  ·refine aGo (cj4 hres h3 k0 (cj4 hkn hx hq (cj4 f0 gf gl (cj3 c1' r3 c4')))) ?_
   repeat with_reducible intro K hK
   exact ZaX hf.symm
  ·refine aGo (cj4 hres h3 k0 (cj4 hkn hx hq (cj4 f0 gf gl (cj4 c1' r3 r4 c4')))) ?_
   repeat with_reducible intro K hK
   exact ZaX hf.symm
  ·refine aGo (cj4 hres h3 k0 (cj4 hkn hx hq (cj4 f0 gf gl (cj4 c1' r2 r3 c4')))) ?_
   repeat with_reducible intro K hK
   exact ZaX hf.symm
  ·refine aGo (cj4 hres h3 k0 (cj4 hkn hx hq (cj4 f0 gf gl (cj4 c1' r2 r3 (cj2 r4 c4'))))) ?_
   repeat with_reducible intro K hK
   exact ZaX hf.symm
 subst c4
 rw[Zxv hmE2]at hM
 rcases r2 with rfl|⟨rfl,r2⟩<;>rcases r3 with r3|⟨r3,r4⟩
 ·refine aGo (cj4 hres h3 k0 (cj4 hkn hx hq (cj4 f0 fz t0 (cj4 tz gf gl (cj4 gl1 gt1 set1 (cj4 set2 c1' r3 hw)))))) ?_
  repeat with_reducible intro K hK
  exact Zac (k+1) ⟨by omega,hM⟩ (by omega) (by refine Zag _ _ _ ?_ ?_ ?_ ?_ ?_ (.inl rfl)<;>simp[go_sem,okD,okDs,Zap]<;>exact(Zex _ _ _).2 trivial)
 ·refine aGo (cj4 hres h3 k0 (cj4 hkn hx hq (cj4 f0 fz t0 (cj4 tz gf gl (cj4 gl1 gt1 set1 (cj4 set2 c1' r3 (cj2 r4 hw))))))) ?_
  repeat with_reducible intro K hK
  exact Zac (k+1) ⟨by omega,hM⟩ (by omega) (by refine Zag _ _ _ ?_ ?_ ?_ ?_ ?_ (.inl rfl)<;>simp[go_sem,okD,okDs,Zap]<;>exact(Zex _ _ _).2 trivial)
 ·refine aGo (cj4 hres h3 k0 (cj4 hkn hx hq (cj4 f0 fz t0 (cj4 tz gf gl (cj4 gl1 gt1 set1 (cj4 set2 c1' r2 (cj2 r3 hw))))))) ?_
  repeat with_reducible intro K hK
  exact Zac (k+1) ⟨by omega,hM⟩ (by omega) (by refine Zag _ _ _ ?_ ?_ ?_ ?_ ?_ (.inl rfl)<;>simp[go_sem,okD,okDs,Zap]<;>exact(Zex _ _ _).2 trivial)
 ·refine aGo (cj4 hres h3 k0 (cj4 hkn hx hq (cj4 f0 fz t0 (cj4 tz gf gl (cj4 gl1 gt1 set1 (cj4 set2 c1' r2 (cj3 r3 r4 hw))))))) ?_
  repeat with_reducible intro K hK
  exact Zac (k+1) ⟨by omega,hM⟩ (by omega) (by refine Zag _ _ _ ?_ ?_ ?_ ?_ ?_ (.inl rfl)<;>simp[go_sem,okD,okDs,Zap]<;>exact(Zex _ _ _).2 trivial)
end Go.Proofs.YtjeaacindikplaaGreat
