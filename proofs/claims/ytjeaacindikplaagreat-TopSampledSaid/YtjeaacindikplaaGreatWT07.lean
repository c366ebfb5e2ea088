/-
  Loads, proofs, the example of a trace (plain).
-/
import Derived.Test.YtjeaacindikplaaGreatWLib
import Derived.Test.YtjeaacindikplaaGreatWT06
import Derived.Test.YtjeaacindikplaaGreatWT05
import Derived.Test.YtjeaacindikplaaGreatWConv
import Derived.Test.YtjeaacindikplaaGreatWT03
import Derived.Test.YtjeaacindikplaaGreatWT01
import Derived.Test.YtjeaacindikplaaGreatWT00
namespace Go.Proofs.YtjeaacindikplaaGreat
set_option linter.unusedVariables false
set_option linter.unusedSimpArgs false
set_option linter.unusedSectionVars false
open Go Go.RowKit
set_option maxRecDepth 100000
set_option maxHeartbeats 4000000
noncomputable def Zj5 (t:TrD) (f:FiD):List Nat:=(List.range t.e.mv.length).filter fun i=>hasR (Zbs t f) i
noncomputable def ZlC (t:TrD) (f:FiD):List Nat:=(List.range t.e.pl.length).filter fun p=>hasR (Zbs t f) (t.e.mv.length+p)
noncomputable def ZvA (t:TrD) (f:FiD):List Nat:=(Zj5 t f).filter fun i=>Zct t.e (mvAt t.e i).t==5
noncomputable def ZiH (t:TrD) (f:FiD) (move:Nat) (lift:Nat):List FracD :=
 if posD (ZaY f.v 1) (maxX (ZaG t f.k lift) (ZaY f.v 1))then maxY (ZaG t f.k lift) (ZaY move 1)else maxY (ZaG t f.k lift) (ZaY f.v 1)
noncomputable def Zf9 (t:TrD) (f:FiD) (move:Nat):List (List FracD):=(Zau t.e).map (ZiH t f move)
def ZdS(s:SysD)(v:Int)(y:List FracD):Bool:=(Zb6 s (ZaY v (-1)) y).2&&sgnD (Zb6 s (ZaY v (-1)) y).1==0
def Zir(t:TrD)(f:FiD)(move:Nat)(proof:List (List FracD)):Bool :=
 decide (proof.length=(Zau t.e).length)&&((Zau t.e).zip proof).all fun p=>ZdS (ZaG t f.k p.1) f.v p.2||ZdS (ZaG t f.k p.1) move p.2
theorem Zzm{v:Nat}{n:Int}(hv:(v:Int)<n)(hn:n≤1500):oppT (ZaY v 1)=ZaY v (-1):=by
 refine Zmv (Zdj (Zck hv (by decide))) (Zck hv (by decide)) fun g=>?_
 rw[ZqS (Zck hv (by decide)) hn]
 simp only[ZaY,dotS,Zav]
 grind
section
variable {s:SysD} (hs:Zax s=true) {v:Nat} (hv:(v:Int)<s.n)
include hs hv
theorem Zq4{y:List FracD}(h:ZdS s v y=true){x:List FracD}(hx:Zal s x=true):atP x (v:Nat)≤0:=by
 simp only[ZdS,Ya2,beq_iff_eq]at h
 obtain⟨h1,h2⟩:=h
 rw[Zem h1,ZbN,Zcl]at h2
 have h3:=Zty h1 hx
 have h4:dotD (ZaY v (-1)) x = -1*atP x (v:Nat):=Zej
 rw[h4]at h3
 grind
theorem ZmL(hx:∃ x,Zal s x=true)(h0:∀ x,Zal s x=true→atP x (v:Nat)≤0):ZdS s v (maxY s (ZaY v 1))=true:=by
 have hn:=(Zb9 hs).2
 have hg:Zah (ZaY v 1) s.n=true:=Zck hv (by decide)
 have hc:=ZdD hs (Zdj hg)
 unfold maxY
 rw[Zel hs hg]
 generalize ZaH s (oppT (ZaY (v:Nat) 1))=A at hc ⊢
 rw[Zzm hv hn]at hc
 rcases ZeO hc with⟨a0,a1,a2,a3,a4,_⟩|⟨_,a1,_⟩|⟨_,a1,a2,_⟩
 ·rw[if_neg (by omega)]
  unfold ZdS
  have h1:=h0 _ a2
  obtain⟨_,l1,o1,n1,_⟩:=Za2.1 a2
  have h2:=(ZiO o1).1 n1 v (by omega)
  have e:mixV s.r A.y=0:=by
   rw[← a4]
   have h4:dotD (ZaY v (-1)) A.x = -1*atP A.x (v:Nat):=Zej
   rw[h4];grind
  rw[a1,Zem a1,e,ZbN]
  decide
 ·obtain⟨x,hx⟩:=hx
  rw[Zfq a1]at hx;cases hx
 ·exfalso
  have h1:=ZkH a1 a2 (show(0:Rat)≤1 by decide)
  have h2:=h0 _ h1
  obtain⟨_,l1,o1,n1,_⟩:=Za2.1 a1
  obtain⟨_,_,l2,_⟩:=Zhd.1 a2
  have h3:=(Zhd.1 a2).2.2.2.2.2.2
  rw[Ze1]at h3
  have h5:dotD (ZaY v (-1)) A.d = -1*atP A.d (v:Nat):=Zej
  rw[h5]at h3
  rw[ZEY (by omega)]at h2
  have h6:=(ZiO o1).1 n1 v (by omega)
  grind
end
def exPl:List PlD:=[⟨0,0,0⟩,⟨0,1,0⟩,⟨1,-1,-1⟩,⟨1,-1,-1⟩,⟨2,-1,-1⟩,⟨5,-1,-1⟩]
def exMv:List MvD:=[⟨0,0,2,-1,0,false⟩,⟨0,1,3,-1,0,false⟩,⟨0,2,4,-1,0,true⟩,⟨0,4,5,-1,0,false⟩,⟨0,3,4,-1,0,true⟩]
def exE:EvD:=⟨1,2,0,exPl,exMv,[],[],[]⟩
def exF:FiD:=⟨3,0,2⟩
def exT:TrD:=⟨exE,[exF],[]⟩
theorem ZAc:ZaZ exT=0:=by decide +kernel
theorem ZbG:RightTr exT:=Zby ZAc
theorem lt5{P:Nat→Prop}(h0:P 0)(h1:P 1)(h2:P 2)(h3:P 3)(h4:P 4):∀ i,i<5→P i
 | 0,_=>h0
 | 1,_=>h1
 | 2,_=>h2
 | 3,_=>h3
 | 4,_=>h4
 | n+5,h=>absurd h (by omega)
theorem ex_st(f:Nat→Rat):stN exE f 2 2=f 0∧stN exE f 4 3=f 2∧stN exE f 3 4=f 1:=by
 refine⟨?_,?_,?_⟩
 ·show 0+f 0+0=f 0;grind
 ·show 0+0+0+f 2=f 2;grind
 ·show 0+0+f 1+0+0=f 1;grind
structure ExSol (f:Nat→Rat):Prop where
 p0:0≤f 0
 p1:0≤f 1
 e2:f 2=f 0
 p3:0≤f 3
 l3:f 3≤f 2
 e4:f 4=f 1
theorem ZlT{f:Nat→Rat}:SolT (Zds exT) 0 f↔ExSol f:=by
 obtain⟨s2,s3,s4⟩:=ex_st f
 constructor
 ·intro S
  have a2:=S.all 2 (by decide) (by decide) (by decide)
  have a4:=S.all 4 (by decide) (by decide) (by decide)
  have a3:f 3≤stN exE f 4 3:=S.st 3 (by decide) (by decide)
  rw[s3]at a3
  exact⟨S.pos 0 (by decide),S.pos 1 (by decide),a2.trans s2,S.pos 3 (by decide),a3,a4.trans s4⟩
 ·rintro⟨p0,p1,e2,p3,l3,e4⟩
  refine⟨lt5 p0 p1 (by rw[e2];exact p0) p3 (by rw[e4];exact p1),lt5 ?_ ?_ ?_ ?_ ?_,lt5 ?_ ?_ ?_ ?_ ?_,lt5 ?_ ?_ ?_ ?_ ?_,lt5 ?_ ?_ ?_ ?_ ?_,lt5 ?_ ?_ ?_ ?_ ?_⟩
  ·intro h;exact absurd h (by decide)
  ·intro h;exact absurd h (by decide)
  ·intro _;show f 2≤stN exE f 2 2;rw[s2,e2];exact Rat.le_refl
  ·intro _;show f 3≤stN exE f 4 3;rw[s3];exact l3
  ·intro _;show f 4≤stN exE f 3 4;rw[s4,e4];exact Rat.le_refl
  ·intro h;exact absurd h (by decide)
  ·intro h;exact absurd h (by decide)
  ·intro _ _;show f 2=stN exE f 2 2;rw[s2,e2]
  ·intro _ h;exact absurd h (by decide)
  ·intro _ _;show f 4=stN exE f 3 4;rw[s4,e4]
  all_goals first
   | (intro h;exact absurd h (by decide))
   | (intro g hg;cases hg)
theorem ZxI{f:Nat→Rat}:SolT exT 0 f↔ExSol f∧2≤f 3:=by
 have e:∀ i,finK exT 0 i=if i=3 then [2]else []:=fun i=>by
  unfold finK
  by_cases h:i=3
  ·subst h;rfl
  ·rw[if_neg h]
   have:((3:Int)==(i:Int))=false:=by simp;omega
   simp[exT,exF,this]
 constructor
 ·intro S
  refine⟨ZlT.1 ⟨S.pos,S.st,S.all,S.cap,fun i _ g hg=>(by cases hg),S.cle⟩,?_⟩
  have:=S.fin 3 (by decide) 2 (by rw[e];exact Yb7)
  exact this
 ·rintro⟨S,h⟩
  have S:=ZlT.2 S
  refine⟨S.pos,S.st,S.all,S.cap,fun i _ g hg=>?_,S.cle⟩
  rw[e]at hg
  split at hg
  ·rename_i hi
   subst hi
   rw[List.mem_singleton.1 hg]
   exact h
  ·cases hg
def exX(a b c d e:Rat):List FracD:=[ofQ a,ofQ b,ofQ c,ofQ d,ofQ e]
theorem ZeK(a b c d e:Rat):atP (exX a b c d e) (0:Nat)=a∧atP (exX a b c d e) (1:Nat)=b∧atP (exX a b c d e) (2:Nat)=c∧atP (exX a b c d e) (3:Nat)=d∧atP (exX a b c d e) (4:Nat)=e :=
 ⟨Zav a,Zav b,Zav c,Zav d,Zav e⟩
theorem Zop{a b c d:Rat}(ha:0≤a)(hb:0≤b)(hd:0≤d)(hda:d≤a)(hc:c=b):Zal (sysT (Zds exT) 0) (exX a b a d c)=true:=by
 obtain⟨h0,h1,h2,h3,h4⟩:=ZeK a b a d c
 refine(ZcN (ZaU (Zdd ZbG) 0)).2 ⟨rfl,by simp[exX,okP,Zbw],ZlT.2 ⟨?_,?_,?_,?_,?_,?_⟩⟩
 ·show 0≤atP _ (0:Nat);rw[h0];exact ha
 ·show 0≤atP _ (1:Nat);rw[h1];exact hb
 ·show atP _ (2:Nat)=atP _ (0:Nat);rw[h2,h0]
 ·show 0≤atP _ (3:Nat);rw[h3];exact hd
 ·show atP _ (3:Nat)≤atP _ (2:Nat);rw[h3,h2];exact hda
 ·show atP _ (4:Nat)=atP _ (1:Nat);rw[h4,h1,hc]
theorem Ztf{a b d:Rat}(hb:0≤b)(hd:2≤d)(hda:d≤a):Zal (sysT exT 0) (exX a b a d b)=true:=by
 have h:=(ZcN (ZaU (Zdd ZbG) 0)).1 (Zop (a:=a) (d:=d) (by grind) hb (by grind) hda rfl)
 have h3:=(ZeK a b a d b).2.2.2.1
 exact(ZcN (ZaU ZbG 0)).2 ⟨h.1,h.2.1,ZxI.2 ⟨ZlT.1 h.2.2,by show 2≤atP _ (3:Nat);rw[h3];exact hd⟩⟩
theorem ZxE{x:List FracD}(h:Zal (sysT exT 0) x=true):ExSol (fun i=>atP x (i:Nat))∧2≤atP x (3:Nat):=ZxI.1 ((ZcN (ZaU ZbG 0)).1 h).2.2
theorem Zon{x:List FracD}(h:Zal (sysT (Zds exT) 0) x=true):ExSol (fun i=>atP x (i:Nat)):=ZlT.1 ((ZcN (ZaU (Zdd ZbG) 0)).1 h).2.2
set_option maxHeartbeats 8000000
def Zrp(t:TrD)(find:Int):Bool:=decide (ZaZ t=0)&&(decide (0≤find)&&decide (find<t.fi.length))
theorem ZEx(t:TrD)(L:LenT t)(find:Int):Zaa Tryz.prog 56 [ZbC t,dI find] (dB (Zrp t find)):=by
 have hres:=Tryz.results56
 have k1:=ZhU t L
 refine inN Tryz.func56 rfl Tryz.ntmps56 fun I=>?_
 by_cases h1:ZaZ t=0
 rotate_left
 ·have h1':(ZaZ t==0)=false:=by simpa using h1
  refine aGo (cj2 hres h1') ?_
  repeat with_reducible intro K hK
  exact Zai (by simp[Zrp,h1])
 rw[h1]at k1
 by_cases h2:find≥0
 rotate_left
 ·refine aGo (cj2 hres h2) ?_
  repeat with_reducible intro K hK
  exact Zai (by simp[Zrp,h2])
 by_cases h3:find<t.fi.length
 ·refine aGo (cj3 hres h2 h3) ?_
  repeat with_reducible intro K hK
  exact Zai (by simp[Zrp,h1,h2,h3])
 ·refine aGo (cj3 hres h2 h3) ?_
  repeat with_reducible intro K hK
  exact Zai (by simp[Zrp,h3])
theorem Zlt(v c:Int)(h1 : -9223372036854775808≤c)(h2:c≤9223372036854775807):Zaa Tryz.prog 73 [dI v,dI c] (Zbh (ZaY v (c:Rat))):=by
 have hres:=Tryz.results73
 have k1:=ZhN c h1 h2
 refine inN Tryz.func73 rfl Tryz.ntmps73 fun I=>?_
 refine aGo hres ?_
 repeat with_reducible intro K hK
 rfl
theorem ZmB(l:List TermD)(x:List FracD)(hs:smT l)(hx:smFs x)(hz:(szF (ZbX l x).1:Int)≤549755813888):Zaf Tryz.prog 74 [Zbh l,ZaQ x] (dB (posD l x)):=by
 have hres:=Tryz.results74
 have k1:=Zn8 l x hs hx
 have k2:=Zd1 (ZbX l x).1 hz
 refine inC Tryz.func74 rfl Tryz.ntmps74 ?_
 refine aGo hres ?_
 repeat with_reducible intro K hK
 exact Zai rfl
def liN(e:EvD)(k:Nat):List Nat:=(List.range k).filter (ZbK e)
theorem ZzI(e:EvD)(k:Nat):liN e (k+1)=liN e k++if ZbK e k then [k]else []:=by
 unfold liN
 rw[List.range_succ,List.filter_append]
 cases h:ZbK e k<;>simp[h]
theorem ZCt(e:EvD)(k:Nat):(liN e k).length≤k:=by
 have:=Yb1 (ZbK e) (List.range k)
 unfold liN;simpa using this
theorem Zso(e:EvD)(R:RightE e):Zaa Tryz.prog 70 [Zio e] (Zab (natI (Zau e))):=by
 have hres:=Tryz.results70
 have Lm:=R.lm
 refine inN Tryz.func70 rfl Tryz.ntmps70 fun I=>?_
 refine aGo hres ?_
 repeat with_reducible intro K hK
 refine aLe (ZcT 3 3 1 rfl) ?_
 simp only[go_sem]
 refine Zat (fun(k:Nat)=>[(1,.lp 0 0 0 0),(3,.ls 1 (liN e k).length),(7,ZhR e.mv),(8,dI e.mv.length),(9,dI k)]) (fun k=>[(0,⟨28,0,8,[cEv e],0,false⟩),(1,⟨3,(liN e k).length,1,(natI (liN e k)).map fun x=>[dI x],0,false⟩)]) 2 0 (fun k=>k≤e.mv.length) (fun k=>e.mv.length-k) 0 (by omega) ?_ ?_
 ·have e0:liN e 0=[]:=rfl
  have e1:natI []=[]:=rfl
  exact leGo (cj2 e0 e1)
 rintro k hk
 obtain⟨hw,h0⟩:=ZaM k
 have eN:=ZzI e k
 have lN:=ZCt e k
 have lI:(natI (liN e k)).length=(liN e k).length:=by simp[natI]
 by_cases h1:(k:Int)<e.mv.length
 rotate_left
 ·obtain rfl:k=e.mv.length:=by omega
  refine aGo (cj2 hres h1) ?_
  repeat with_reducible intro K hK
  exact congrArg D.sl (Zan (fun _=>rfl) _)
 have hx:=Zlx (e:=e) (i:=k) (by omega)
 obtain⟨f0,f1⟩:=(R.mv _ (ZiP (show k<e.mv.length by omega))).f
 obtain⟨p,hp⟩:∃ p,e.pl[(mvAt e k).f.toNat]? =some p:=⟨_,Ya0 (by omega)⟩
 have eb:ZbK e k=(p.k==0):=by unfold ZbK;rw[ZjK hp]
 rw[eb]at eN
 generalize mvAt e k=x at *
 cases h3:(p.k==0)
 ·rw[h3,if_neg Bool.false_ne_true,List.append_nil]at eN
  refine aGo (cj4 hres h0 h1 (cj4 hx hp f0 (cj2 h3 hw))) ?_
  repeat with_reducible intro K hK
  exact Zac (k+1) (by omega) (by omega) (by exact leGo eN)
 ·rw[h3,if_pos rfl]at eN
  have eI:natI (liN e (k+1))=natI (liN e k)++[(k:Int)]:=by rw[eN];simp[natI]
  have eL:(liN e (k+1)).length=(liN e k).length+1:=by rw[eN];simp
  clear eN
  generalize natI (liN e k)=A at *
  generalize (liN e k).length=B at *
  refine aGo (cj4 hres h0 h1 (cj4 hx hp f0 (cj2 h3 hw))) ?_
  repeat with_reducible intro K hK
  exact Zac (k+1) (by omega) (by omega) (by exact leGo (cj2 eI eL))
set_option maxHeartbeats 16000000
abbrev Zou(l:List (List TermD)):D:=.sl (l.map fun g=>[Zbh g])
theorem ZCV(A:List TermD)(keep:Nat→Bool):∀ x∈A.map cT,okDs keep x=true:=fun x hx=>by
 obtain⟨u,_,rfl⟩:=List.mem_map.1 hx
 rfl
def goA(e:EvD)(k:Nat):List (List TermD):=(List.range k).map fun(i:Nat)=>ZaY i 1
def goB(e:EvD)(k:Nat):List (List TermD):=goA e e.mv.length++(e.pl.take k).mapIdx (Zkq e)
theorem ZzY(e:EvD)(k:Nat):goA e (k+1)=goA e k++[ZaY k 1]:=by unfold goA;rw[List.range_succ];simp
theorem ZzX(e:EvD){k:Nat}{p:PlD}(h:e.pl[k]? =some p):goB e (k+1)=goB e k++[Zkq e k p]:=by
 obtain⟨hi,rfl⟩:=Ya3.1 h
 unfold goB
 rw[List.append_assoc]
 congr 1
 refine List.ext_getElem? fun i=>?_
 rw[List.getElem?_mapIdx,List.getElem?_take,List.getElem?_append,List.length_mapIdx,List.length_take,List.getElem?_mapIdx,List.getElem?_take]
 have hm:min k e.pl.length=k:=by omega
 rw[hm]
 by_cases h1:i<k
 ·rw[if_pos (by omega),if_pos h1,if_pos h1]
 ·rw[if_neg h1]
  by_cases h2:i=k
  ·subst h2
   rw[if_pos (Nat.lt_succ_self _),Nat.sub_self,Ya0 hi];rfl
  ·rw[if_neg (by omega),List.getElem?_eq_none (by simp;omega)];rfl
theorem ZCE(e:EvD)(R:RightE e):Zaa Tryz.prog 109 [Zio e] (Zou (Zcu e)):=by
 have hres:=Tryz.results109
 have Lm:=R.lm
 have Lp:=R.lp
 refine inN Tryz.func109 rfl Tryz.ntmps109 fun I=>?_
 refine aGo hres ?_
 repeat with_reducible intro K hK
 refine aLe (ZcT 3 105 1 rfl) ?_
 simp only[go_sem]
 refine Zat (fun(k:Nat)=>[(1,.lp 0 0 0 0),(3,.ls 1 k),(12,dI e.mv.length),(13,dI k)]) (fun k=>[(0,⟨28,0,8,[cEv e],0,false⟩),(1,⟨105,k,1,(goA e k).map fun g=>[Zbh g],0,false⟩)]) 2 0 (fun k=>k≤e.mv.length) (fun k=>e.mv.length-k) 0 (by omega) ?_ ?_
 ·have e0:goA e 0=[]:=rfl
  exact leGo e0
 rintro k hk
 obtain⟨hw,h0⟩:=ZaM k
 by_cases h1:(k:Int)<e.mv.length
 ·have kO:=Zlt k 1 (by decide) (by decide)
  rw[show(((1:Int)):Rat)=1 from rfl]at kO
  have eN:=ZzY e k
  have lN:(goA e k).length=k:=by simp[goA]
  generalize goA e k=A at *
  refine aGo (cj4 hres h0 h1 hw) ?_
  repeat with_reducible intro K hK
  exact Zac (k+1) (by omega) (by omega) (by refine Zag _ _ _ ?_ ?_ ?_ ?_ ?_ (.inl rfl)<;>simp[go_sem,okD,okDs,Zap,eN]<;>(rintro e (⟨a,_,rfl⟩|rfl)<;>rfl))
 obtain rfl:k=e.mv.length:=by omega
 refine aGo (cj2 hres h1) ?_
 repeat with_reducible intro K hK
 clear h1 h0 hw hk
 refine Zat (fun(k:Nat)=>[(1,.lp 0 0 0 0),(3,.ls 1 (e.mv.length+k)),(23,Zkc e.pl),(24,dI e.pl.length),(25,dI k)]) (fun k=>[(0,⟨28,0,8,[cEv e],0,false⟩),(1,⟨105,e.mv.length+k,1,(goB e k).map fun g=>[Zbh g],0,false⟩)]) 2 0 (fun k=>k≤e.pl.length) (fun k=>e.pl.length-k) 0 (by omega) ?_ ?_
 ·have e0:goB e 0=goA e e.mv.length:=by simp[goB]
  refine Zag _ _ _ ?_ ?_ ?_ ?_ ?_ (.inl rfl)<;>simp[go_sem,okD,okDs,Zap,e0]
 rintro k hk
 obtain⟨hw,h0⟩:=ZaM k
 by_cases h1:(k:Int)<e.pl.length
 rotate_left
 ·obtain rfl:k=e.pl.length:=by omega
  have eE:goB e e.pl.length=Zcu e:=by unfold goB;rw[List.take_length];rfl
  refine aGo (cj2 hres h1) ?_
  repeat with_reducible intro K hK
  rw[Zan (fun _=>rfl),eE]
 obtain⟨p,hx⟩:∃ x,e.pl[k]? =some x:=⟨_,Ya0 (by omega)⟩
 have eN:=ZzX e hx
 have lN:(goB e k).length=e.mv.length+k:=by
  unfold goB goA
  rw[List.length_append,List.length_map,List.length_range,List.length_mapIdx,List.length_take];omega
 generalize goB e k=A at *
 refine aGo (cj4 hres h0 h1 hx) ?_
 repeat with_reducible intro K hK
 refine aLe (ZcT 7 151 5 rfl) ?_
 simp only[go_sem]
 obtain⟨G,hG⟩:∃ G:Nat→List TermD,G=fun j=>if p.k=0 then []else ZaS j (plC e k):=⟨_,rfl⟩
 have G0:G 0=[]:=by rw[hG];simp only;split<;>rfl
 have Gn:G e.mv.length=Zkq e k p:=by rw[hG];rfl
 have Gl:∀ j,(G j).length≤j:=fun j=>by
  rw[hG];simp only
  split
  ·exact Yb0 _
  ·exact Zeq _ _
 refine Zat (fun(x:Nat×Nat)=>[(1,.lp 0 0 0 0),(3,.ls 1 (e.mv.length+k)),(5,dI k),(6,.lp 2 0 0 0),(7,.ls 3 x.2),(23,Zkc e.pl),(24,dI e.pl.length),(25,dI k),(31,ZhR e.mv),(32,dI e.mv.length),(33,dI x.1)]) (fun x=>[(0,⟨28,0,8,[cEv e],0,false⟩),(1,⟨105,e.mv.length+k,1,A.map fun g=>[Zbh g],0,false⟩),(2,⟨72,0,3,[cPl p],0,false⟩),(3,⟨151,x.2,5,(G x.1).map cT,0,false⟩)]) 4 0 (fun x=>x.1≤e.mv.length) (fun x=>e.mv.length-x.1) (0,0) (by show 0≤_;omega) ?_ ?_
 ·refine Zag _ _ _ ?_ ?_ ?_ ?_ ?_ (.inl rfl)<;>simp[go_sem,okD,okDs,Zap,G0]
 rintro⟨j,V⟩ hj
 simp only at hj
 obtain⟨hwj,j0⟩:=ZaM j
 have gl:=Gl j
 by_cases h2:(j:Int)<e.mv.length
 ·have hy:=Zlx (e:=e) (i:=j) (by omega)
  have eG:G (j+1)=if p.k=0 then []else G j++(if plC e k j=0 then []else [⟨(j:Int),ofQ (plC e k j)⟩]):=by
   rw[hG];simp only
   by_cases hp:p.k=0
   ·rw[if_pos hp,if_pos hp]
   ·rw[if_neg hp,if_neg hp,if_neg hp,Zcq]
  have ec:plC e k j=if (mvAt e j).t=(k:Int)then 1 else if (mvAt e j).f=(k:Int)then -1 else 0:=rfl
  generalize mvAt e j=y at *
  have okG:∀ keep,∀ x∈(G j).map cT,okDs keep x=true:=fun keep=>ZCV _ keep
  cases h3:(p.k==0)
  ·have h3':¬ p.k=0:=by simpa using h3
   rw[if_neg h3']at eG
   cases h4:(y.t==(k:Int))
   rotate_left
   ·have h4':y.t=(k:Int):=by simpa using h4
    rw[ec,if_pos h4',if_neg (by decide)]at eG
    have kO:=Zlt j 1 (by decide) (by decide)
    rw[show(((1:Int)):Rat)=1 from rfl]at kO
    have oL:(ZaY (j:Nat) 1).length=1:=rfl
    have oE:ZaY (j:Nat) 1=[⟨(j:Nat),ofQ 1⟩]:=rfl
    generalize G j=B at *
    refine aGo (cj4 hres j0 h2 (cj4 hy h3 h4 (cj2 hwj oL))) ?_
    repeat with_reducible intro K hK
    exact Zac (j+1,V+1) (by show j+1≤_;omega) (by show e.mv.length-(j+1)<e.mv.length-j;omega) (by refine Zag _ _ _ ?_ ?_ ?_ ?_ ?_ (.inl rfl)<;>simp[go_sem,okD,okDs,Zap,eG,oE]<;>(rintro e (⟨a,_,rfl⟩|rfl)<;>rfl))
   have h4':¬ y.t=(k:Int):=by simpa using h4
   rw[if_neg h4']at ec
   cases h5:(y.f==(k:Int))
   rotate_left
   ·have h5':y.f=(k:Int):=by simpa using h5
    rw[ec,if_pos h5',if_neg (by decide)]at eG
    have kO:=Zlt j (-1) (by decide) (by decide)
    rw[show(((-1:Int)):Rat) = -1 from rfl]at kO
    have oL:(ZaY (j:Nat) (-1)).length=1:=rfl
    have oE:ZaY (j:Nat) (-1)=[⟨(j:Nat),ofQ (-1)⟩]:=rfl
    generalize G j=B at *
    refine aGo (cj4 hres j0 h2 (cj4 hy h3 h4 (cj3 h5 hwj oL))) ?_
    repeat with_reducible intro K hK
    exact Zac (j+1,V+1) (by show j+1≤_;omega) (by show e.mv.length-(j+1)<e.mv.length-j;omega) (by refine Zag _ _ _ ?_ ?_ ?_ ?_ ?_ (.inl rfl)<;>simp[go_sem,okD,okDs,Zap,eG,oE]<;>(rintro e (⟨a,_,rfl⟩|rfl)<;>rfl))
   have h5':¬ y.f=(k:Int):=by simpa using h5
   rw[ec,if_neg h5',if_pos rfl,List.append_nil]at eG
   generalize G j=B at *
   refine aGo (cj4 hres j0 h2 (cj4 hy h3 h4 (cj2 h5 hwj))) ?_
   repeat with_reducible intro K hK
   exact Zac (j+1,V) (by show j+1≤_;omega) (by show e.mv.length-(j+1)<e.mv.length-j;omega) (by refine Zag _ _ _ ?_ ?_ ?_ ?_ ?_ (.inl rfl)<;>simp[go_sem,okD,okDs,Zap,eG])
  ·have h3':p.k=0:=by simpa using h3
   have eG0:G j=[]:=by rw[hG];simp[h3']
   rw[if_pos h3',← eG0]at eG
   refine aGo (cj4 hres j0 h2 (cj3 hy h3 hwj)) ?_
   repeat with_reducible intro K hK
   exact Zac (j+1,V) (by show j+1≤_;omega) (by show e.mv.length-(j+1)<e.mv.length-j;omega) (by refine Zag _ _ _ ?_ ?_ ?_ ?_ ?_ (.inl rfl)<;>simp[go_sem,okD,okDs,Zap,eG])
 obtain rfl:j=e.mv.length:=by omega
 rw[Gn]
 rw[Gn]at gl
 generalize Zkq e k p=B at *
 have lA:A.length≤400:=by omega
 refine aGo (cj3 hres h2 hw) ?_
 repeat with_reducible intro K hK
 have ez:∀ M:Mem,List.map (List.map (fzT false M 4)) (A.map fun g=>[Zbh g])=A.map fun g=>[Zbh g]:=fun M=>Zan (fun _=>rfl) _
 have ey:∀ M:Mem,List.map (List.map (fzT false M 3)) (B.map cT)=B.map cT:=fun M=>Zan (fun _=>rfl) _
 refine Zac (k+1) (by omega) (by omega) ?_
 refine StLe.trans (ZcM 3 rfl) ?_
 refine StLe.trans (ZcY 1 4 rfl) ?_
 refine Zag _ _ _ ?_ ?_ ?_ ?_ ?_ (.inl rfl)<;>simp[go_sem,okD,okDs,Zap,eN,fzT,Nat.add_assoc]
 rintro e (⟨a,_,rfl⟩|rfl)<;>rfl
section
variable [Ifl]
theorem Ze9{P:Program}{n rid:Nat}{Q:Exit→St→Prop}{s:St}{o1 o2:Oper}{T e:TypeId}{es:List (List D)}(hu:P.underlying T=some (.slice e))
 (g1:o1.guard=none) (g2:o2.guard=none) (d1:o1.dst=some 3) (d2:o2.dst=some 4) (p1:o1.op = .move (.tmp 0)) (p2:o2.op = .binOp .eql T (.tmp 3) (.const (.slice none 0 0)) T)
 (hf1:Zbq n o1=true) (hn':decide (4<n)=true) (h0:s.t 0 = .sl es)
 (hnil:es=[]→Q .normal {s with t:=upd (upd s.t 3 (.sl es)) 4 (dB true)}) (hnot:Q .normal {s with t:=upd (upd s.t 3 (.sl es)) 4 (dB false)}) :
 AWP P n (.region rid #[o1,o2] false) Q s:=by
 have hn:4<n:=of_decide_eq_true hn'
 intro E B β a w hr
 refine wp_region_lit (l:=[o1,o2]) ?_
 refine wpList_plain g1 fun K1 hK1=>Zj2 (K:=fun s'=>s'={s with t:=upd s.t 3 (.sl es)}) hf1 hr ?_ ?_
 ·unfold opA
  rw[p1,d1]
  simp only[opF,rd,h0,Res.pure,putT,ov,List.length_nil,Nat.add_zero]
  exact⟨trivial,.inl trivial,trivial⟩
 rintro s1 β1 a1 w1 r1 rfl
 refine hK1 _ _ ?_
 have t3:Rep β1 s.m (safe E β1 s.m) w1 (a1.eval (.tmp 3)) (.sl es):=r1.tmp 3 (by omega)
 obtain⟨a,cap,e3,hc1,hc2,hcase⟩:=t3.inv_sl
 have hrun:(execOp a1.eval o2).run P w1 = .ok (.value (.bool a.isNone)) w1:=by
  unfold execOp
  rw[p2]
  have hb:=Lib.run_eql_slice_nil (P:=P) w1 T e a es.length cap 0 0 hu
  have ec:a1.eval (.const (.slice none 0 0)) = .slice none 0 0:=rfl
  simp only[e3,ec]
  simp[eqGuard,hb]
 refine wpList_plain g2 fun K2 hK2=>?_
 unfold Oper.wp
 rw[hrun]
 show K2 (a1.put o2.dst (.bool a.isNone)) w1
 refine hK2 _ _ (wpList_nil ?_)
 obtain⟨β3,r3⟩:=r1.put (dst:=o2.dst) (Zb5.same r1.mem (.v (.bool a.isNone)))
 rw[d2]at r3 ⊢
 cases a with
 | none =>
   have hes:es=[]:=by
    rcases hcase with h|⟨b,off,k,h,_⟩
    ·exact h
    ·cases h
   exact⟨_,β3,r3,hnil hes⟩
 | some A=>exact⟨_,β3,r3,hnot⟩
end
def onA(a b:List FracD)(k:Nat):List FracD:=(onD 1 a b).take k++a.drop k
theorem ZnM(a b:List FracD):onA a b 0=a:=by simp[onA]
theorem Zq0{a b:List FracD}(h:a.length=b.length):onA a b a.length=onD 1 a b:=by
 unfold onA
 rw[Ya8 (by unfold onD;rw[List.length_zipWith];omega),List.drop_length,List.append_nil]
theorem ZqY{a b:List FracD}(h:a.length=b.length)(k:Nat)(hk:k≤a.length):(onA a b k).length=a.length:=by
 unfold onA onD
 rw[List.length_append,List.length_take,List.length_drop,List.length_zipWith];omega
theorem ZqZ{a b:List FracD}(h:a.length=b.length){k:Nat}(hk:k<a.length):(onA a b k)[k]? =a[k]?:=by
 unfold onA onD
 rw[List.getElem?_append_right (by rw[List.length_take,List.length_zipWith];omega),List.length_take,List.length_zipWith,show k-min k (min a.length b.length)=0 by omega,List.getElem?_drop]
 simp
theorem ZqX{a b:List FracD}(h:a.length=b.length){k:Nat}{x y:FracD}(hx:a[k]? =some x)(hy:b[k]? =some y):(onA a b k).set k (ofQ (qOf x+qOf y))=onA a b (k+1):=by
 obtain⟨hk,rfl⟩:=Ya3.1 hx
 obtain⟨hk2,rfl⟩:=Ya3.1 hy
 have hl:((onD 1 a b).take k).length=k:=by unfold onD;rw[List.length_take,List.length_zipWith];omega
 have hz:(onD 1 a b)[k]? =some (ofQ (qOf a[k]+qOf b[k])):=by
  unfold onD
  rw[List.getElem?_zipWith,Ya0 hk,Ya0 hk2]
  simp
 unfold onA
 rw[List.set_append_right _ _ (by omega),hl,Nat.sub_self,List.drop_eq_getElem_cons hk,List.set_cons_zero,Yb4,hz]
 simp
theorem Zhz(l:List FracD):∀ x∈l.map cF,x.length=4∧x.all D.isCell=true:=fun x hx=>by
 obtain⟨u,_,rfl⟩:=List.mem_map.1 hx
 exact⟨rfl,rfl⟩
theorem ZAL(a b:List FracD)(hl:a.length=b.length)(oa:okP a=true)(ob:okP b=true)(la:a.length≤4096)(za:∀ f∈a,(szF f:Int)≤549755813888)(zb:∀ f∈b,(szF f:Int)≤549755813888) :
 Zaf Tryz.prog 119 [ZaQ a,ZaQ b] (ZaQ (onD 1 a b)):=by
 have hres:=Tryz.results119
 have hresC:=Tryz.results142
 obtain⟨es,ee⟩:∃ es,a.map cF=es:=⟨_,rfl⟩
 have hcell:=Zhz a
 have hlen:es.length=a.length:=by rw[← ee];simp
 rw[ee]at hcell
 rw[show ZaQ a = .sl es from congrArg D.sl ee]
 refine inC Tryz.func119 rfl Tryz.ntmps119 ?_
 refine aGo hres ?_
 repeat with_reducible intro K hK
 refine Zbf Tryz.func142 rfl (by kernel_rfl) (by kernel_rfl) (by kernel_rfl) ?_
 rw[Tryz.ntmps142]
 repeat ((fail_if_success (with_reducible refine Zdt 1 ?_)); first
     | (refine hK _ ?_;clear hK;clear K)
     | (refine aSeq fun K hK=>?_)
     | (refine ZcK ?_)
     | (refine ZeV ?_)
     | (refine ZeX ?_)
     | (refine aRet ?_)
     | (refine aOps _ rfl (by kernel_rfl) ?_)
     | (refine ZeW _ rfl Zeb (by kernel_rfl) (by kernel_rfl) fun KE hE=>?_)
     | (refine hE _ _ (by kernel_rfl) (Zay rfl) ?_;clear hE;clear KE)
     | (refine hE _ _ (by kernel_rfl) (Za8 ?hi ?hj) ?_;(case hi=>(repeat(refine Zam rfl ?_));exact Zao);(case hj=>simp);clear hE;clear KE)
     | (refine ZcI rfl ?hc ?_;case hc=>simp only[go_sem,↓reduceIte,hresC])
     | (refine ZcJ rfl ?hc ?_;case hc=>simp only[go_sem,↓reduceIte,hresC])
     | (simp only[go_sem,↓reduceIte,hresC])
     | (refine And.intro ?ho ?_;(case ho=>omega))
     | (clear hK;clear K))
 refine Ze9 (es:=es) Tryz.underlying33 rfl rfl rfl rfl rfl rfl (by kernel_rfl) (by kernel_rfl) rfl (fun h0=>?_) ?_
 ·rw[h0]at hlen
  obtain rfl:a=[]:=List.length_eq_zero_iff.1 (by simpa using hlen.symm)
  obtain rfl:b=[]:=List.length_eq_zero_iff.1 (by simpa using hl.symm)
  refine aGo (cj2 hresC hres) ?_
  repeat with_reducible intro K hK
  refine ZrJ (fun _:Unit=>_) (fun _=>True) (fun _=>0) ⟨(),trivial,StLe.refl _⟩ ?_
  rintro _ _
  refine aGo (cj2 hresC hres) ?_
  repeat with_reducible intro K hK
  rfl
 ·have h1:(es.length:Int)≤4096:=by omega
  refine aGo (cj2 hresC hres) ?_
  repeat with_reducible intro K hK
  refine⟨⟨hcell,by omega,by omega⟩,?_⟩
  refine aGo (cj2 hresC hres) ?_
  repeat with_reducible intro K hK
  have e0:es=(onA a b 0).map cF:=by rw[ZnM,ee]
  refine Zat (fun(k:Nat)=>[(5,.ls 0 1),(10,ZaQ b),(11,dI b.length),(12,dI k)]) (fun k=>[(0,⟨53,1,4,(onA a b k).map cF,0,false⟩)]) 1 0 (fun k=>k≤b.length) (fun k=>b.length-k) 0 (by omega) ?_ ?_
  ·refine Zag _ _ _ ?_ ?_ ?_ ?_ ?_ (.inl rfl)<;>simp[go_sem,e0,okD,okDs,Zap]
  rintro k hk
  obtain⟨hw,k0⟩:=ZaM k
  have kz:(0:Nat)≤k:=Yb0 _
  by_cases h2:(k:Int)<b.length
  ·obtain⟨x,hx⟩:=getE (l:=a) (k:=k) (by omega)
   obtain⟨y,hy⟩:=getE (l:=b) (k:=k) (by omega)
   have ox:=Ya6.1 oa x (ZaI hx)
   have oy:=Ya6.1 ob y (ZaI hy)
   have zx:=za x (ZaI hx)
   have zy:=zb y (ZaI hy)
   have hs:=ZqX hl hx hy
   have hg:=(ZqZ hl (k:=k) (by omega)).trans hx
   have hL:=ZqY hl k (by omega)
   obtain⟨qx,rfl⟩:∃ q,x=ofQ q:=⟨_,Zcm ox⟩
   obtain⟨qy,rfl⟩:∃ q,y=ofQ q:=⟨_,Zcm oy⟩
   rw[Zav,Zav]at hs
   have ka:=ZgD qx qy zx zy
   have hset:((onA a b k).map cF).set k [dI (ofQ (qx+qy)).p.s,Zab (ofQ (qx+qy)).p.d,dI (ofQ (qx+qy)).q.s,Zab (ofQ (qx+qy)).q.d]=(onA a b (k+1)).map cF:=by rw[← hs,List.map_set]
   generalize onA a b k=A at *
   refine aGo (cj4 hres h2 k0 (cj4 kz hx hy (cj4 hg hL hset hw))) ?_
   repeat with_reducible intro K hK
   exact Zac (k+1) (by omega) (by omega) (by refine Zag _ _ _ ?_ ?_ ?_ ?_ ?_ (.inl rfl)<;>simp[go_sem,okD,okDs,Zap])
  obtain rfl:k=b.length:=by omega
  refine aGo (cj2 hres h2) ?_
  repeat with_reducible intro K hK
  rw[Zan (fun _=>rfl),← hl,Zq0 hl]
theorem sum_c(a b:List FracD)(hl:a.length=b.length)(oa:okP a=true)(ob:okP b=true)(la:a.length≤4096)(za:∀ f∈a,(szF f:Int)≤549755813888)(zb:∀ f∈b,(szF f:Int)≤549755813888) :
 Zaf Tryz.prog 89 [ZaQ a,ZaQ b] (ZaQ (onD 1 a b)):=by
 have hres:=Tryz.results89
 have hresC:=Tryz.results142
 obtain⟨es,ee⟩:∃ es,a.map cF=es:=⟨_,rfl⟩
 have hcell:=Zhz a
 have hlen:es.length=a.length:=by rw[← ee];simp
 rw[ee]at hcell
 rw[show ZaQ a = .sl es from congrArg D.sl ee]
 refine inC Tryz.func89 rfl Tryz.ntmps89 ?_
 refine aGo hres ?_
 repeat with_reducible intro K hK
 refine Zbf Tryz.func142 rfl (by kernel_rfl) (by kernel_rfl) (by kernel_rfl) ?_
 rw[Tryz.ntmps142]
 repeat ((fail_if_success (with_reducible refine Zdt 1 ?_)); first
     | (refine hK _ ?_;clear hK;clear K)
     | (refine aSeq fun K hK=>?_)
     | (refine ZcK ?_)
     | (refine ZeV ?_)
     | (refine ZeX ?_)
     | (refine aRet ?_)
     | (refine aOps _ rfl (by kernel_rfl) ?_)
     | (refine ZeW _ rfl Zeb (by kernel_rfl) (by kernel_rfl) fun KE hE=>?_)
     | (refine hE _ _ (by kernel_rfl) (Zay rfl) ?_;clear hE;clear KE)
     | (refine hE _ _ (by kernel_rfl) (Za8 ?hi ?hj) ?_;(case hi=>(repeat(refine Zam rfl ?_));exact Zao);(case hj=>simp);clear hE;clear KE)
     | (refine ZcI rfl ?hc ?_;case hc=>simp only[go_sem,↓reduceIte,hresC])
     | (refine ZcJ rfl ?hc ?_;case hc=>simp only[go_sem,↓reduceIte,hresC])
     | (simp only[go_sem,↓reduceIte,hresC])
     | (refine And.intro ?ho ?_;(case ho=>omega))
     | (clear hK;clear K))
 refine Ze9 (es:=es) Tryz.underlying33 rfl rfl rfl rfl rfl rfl (by kernel_rfl) (by kernel_rfl) rfl (fun h0=>?_) ?_
 ·rw[h0]at hlen
  obtain rfl:a=[]:=List.length_eq_zero_iff.1 (by simpa using hlen.symm)
  obtain rfl:b=[]:=List.length_eq_zero_iff.1 (by simpa using hl.symm)
  refine aGo (cj2 hresC hres) ?_
  repeat with_reducible intro K hK
  refine ZrJ (fun _:Unit=>_) (fun _=>True) (fun _=>0) ⟨(),trivial,StLe.refl _⟩ ?_
  rintro _ _
  refine aGo (cj2 hresC hres) ?_
  repeat with_reducible intro K hK
  rfl
 ·have h1:(es.length:Int)≤4096:=by omega
  refine aGo (cj2 hresC hres) ?_
  repeat with_reducible intro K hK
  refine⟨⟨hcell,by omega,by omega⟩,?_⟩
  refine aGo (cj2 hresC hres) ?_
  repeat with_reducible intro K hK
  have e0:es=(onA a b 0).map cF:=by rw[ZnM,ee]
  refine Zat (fun(k:Nat)=>[(5,.ls 0 1),(10,ZaQ b),(11,dI b.length),(12,dI k)]) (fun k=>[(0,⟨53,1,4,(onA a b k).map cF,0,false⟩)]) 1 0 (fun k=>k≤b.length) (fun k=>b.length-k) 0 (by omega) ?_ ?_
  ·refine Zag _ _ _ ?_ ?_ ?_ ?_ ?_ (.inl rfl)<;>simp[go_sem,e0,okD,okDs,Zap]
  rintro k hk
  obtain⟨hw,k0⟩:=ZaM k
  have kz:(0:Nat)≤k:=Yb0 _
  by_cases h2:(k:Int)<b.length
  ·obtain⟨x,hx⟩:=getE (l:=a) (k:=k) (by omega)
   obtain⟨y,hy⟩:=getE (l:=b) (k:=k) (by omega)
   have ox:=Ya6.1 oa x (ZaI hx)
   have oy:=Ya6.1 ob y (ZaI hy)
   have zx:=za x (ZaI hx)
   have zy:=zb y (ZaI hy)
   have hs:=ZqX hl hx hy
   have hg:=(ZqZ hl (k:=k) (by omega)).trans hx
   have hL:=ZqY hl k (by omega)
   obtain⟨qx,rfl⟩:∃ q,x=ofQ q:=⟨_,Zcm ox⟩
   obtain⟨qy,rfl⟩:∃ q,y=ofQ q:=⟨_,Zcm oy⟩
   rw[Zav,Zav]at hs
   have ka:=ZgD qx qy zx zy
   have hset:((onA a b k).map cF).set k [dI (ofQ (qx+qy)).p.s,Zab (ofQ (qx+qy)).p.d,dI (ofQ (qx+qy)).q.s,Zab (ofQ (qx+qy)).q.d]=(onA a b (k+1)).map cF:=by rw[← hs,List.map_set]
   generalize onA a b k=A at *
   refine aGo (cj4 hres h2 k0 (cj4 kz hx hy (cj4 hg hL hset hw))) ?_
   repeat with_reducible intro K hK
   exact Zac (k+1) (by omega) (by omega) (by refine Zag _ _ _ ?_ ?_ ?_ ?_ ?_ (.inl rfl)<;>simp[go_sem,okD,okDs,Zap])
  obtain rfl:k=b.length:=by omega
  refine aGo (cj2 hres h2) ?_
  repeat with_reducible intro K hK
  rw[Zan (fun _=>rfl),← hl,Zq0 hl]
theorem Zoe:Dic.grow 4 6=17749:=rfl
structure FitG (s:SysD) (g:List TermD):Prop where
 f:Fit s g 4 6
 r:Zax s=true
 gr:Zah g s.n=true
 n:s.n≤6
 l:g.length≤6
theorem FitG.tn{s:SysD}{g:List TermD}(h:FitG s g):tnO (ZaH s g):=by
 have hn:=h.n
 have hl:=h.l
 have h1:=Nat.mul_le_mul_right (Dic.grow 4 6+4+1) (show s.n.toNat+1≤7 by omega)
 have h2:=Nat.mul_le_mul_right (Dic.grow 4 6+4+1) (show g.length+1≤7 by omega)
 rw[Zoe]at h1 h2
 exact Zw7 h.f (by rw[Zoe];omega) (by rw[Zoe];omega) h.r h.gr
structure LeastOk (s:SysD) (o:OptD):Prop where
 x:okP o.x=true
 y:okP o.y=true
 d:okP o.d=true
 l:o.k=2→o.x.length=o.d.length
theorem ZkF{s:SysD}{g:List TermD}(hr:Zax s=true)(hg:Zah g s.n=true):LeastOk s (ZaH s g):=by
 have nil:okP []=true:=rfl
 unfold ZaH
 cases next (fin s g)with
 | ex r c=>exact⟨nil,nil,nil,fun h=>absurd h (show ¬ (0:Int)=2 by decide)⟩
 | best=>exact⟨Zcn _ _,Zcn _ _,nil,fun h=>absurd h (show ¬ (0:Int)=2 by decide)⟩
 | row r=>exact⟨nil,Zcn _ _,nil,fun h=>absurd h (show ¬ (1:Int)=2 by decide)⟩
 | col c =>
   simp only
   cases next (fin s [])with
   | ex r c=>exact⟨Zcn _ _,nil,Zcn _ _,fun _=>by simp[Zaj]⟩
   | best=>exact⟨Zcn _ _,nil,Zcn _ _,fun _=>by simp[Zaj]⟩
   | col c=>exact⟨Zcn _ _,nil,Zcn _ _,fun _=>by simp[Zaj]⟩
   | row r=>exact⟨nil,Zcn _ _,nil,fun h=>absurd h (show ¬ (1:Int)=2 by decide)⟩
theorem ZAU(s:SysD)(g:List TermD)(h:FitG s (oppT g))(hs:smT g):Zaf Tryz.prog 72 [encS s,Zbh g] (.tup [ZaQ (maxX s g),ZaQ (maxY s g)]):=by
 have hres:=Tryz.results72
 have k1:=ZhN (-1) (by decide) (by decide)
 have k2:=ZsP g (ofQ ((-1:Int):Rat)) hs (by show(szF (ofQ ((-1:Int):Rat)):Int)≤4194304;decide +kernel)
 have k3:=Zn5 s (oppT g) h.f
 have e1:ZbV s (oppT g)=(ZaH s (oppT g),0):=by unfold ZbV;rw[h.r,h.gr];rfl
 have hm:maxO s g=ZaH s (oppT g):=by unfold maxO;rw[e1]
 rw[e1]at k3
 have ho:=ZkF h.r h.gr
 have ht:=h.tn
 unfold maxX maxY
 rw[hm]
 generalize ZaH s (oppT g)=o at *
 obtain⟨k,v,x,y,d⟩:=o
 refine inC Tryz.func72 rfl Tryz.ntmps72 ?_
 cases h2:(k==2)
 ·have h2':¬ k=2:=by simpa using h2
  refine aGo (cj2 hres h2) ?_
  repeat with_reducible intro K hK
  rw[if_neg h2',if_neg h2']
 ·have h2':k=2:=by simpa using h2
  have kp:=ZAL x d (ho.l h2') ho.x ho.d (by have:(x.length:Int)≤64:=ht.2.1.1;omega) (fun f hf=>by have:=ht.2.1.2 f hf;unfold tnF at this;omega) (fun f hf=>by have:=ht.2.2.2.2 f hf;unfold tnF at this;omega)
  refine aGo (cj2 hres h2) ?_
  repeat with_reducible intro K hK
  rw[if_pos h2',if_pos h2'];rfl
theorem Zum(g:List TermD)(hs:smT g):Zaf Tryz.prog 88 [Zbh g] (Zbh (oppT g)):=by
 have hres:=Tryz.results88
 have k1:=ZhN (-1) (by decide) (by decide)
 have k2:=ZsP g (ofQ ((-1:Int):Rat)) hs (by show(szF (ofQ ((-1:Int):Rat)):Int)≤4194304;decide +kernel)
 refine inC Tryz.func88 rfl Tryz.ntmps88 ?_
 refine aGo hres ?_
 repeat with_reducible intro K hK
 rfl
theorem Zxo{n:Int}:∀ (l:List TermD)(last:Int),-1≤last→goR n last l=true→(l.length:Int)+last+1≤max n (last+1)
 | [],last,_,_=>by simp only[List.length_nil];omega
 | u ::l,last,hl,h=>by
   have h':=ZaE.1 h
   have:=Zxo l u.v (by omega) h'.2.2.2
   simp only[List.length_cons];omega
theorem Zmu{n:Int}{l:List TermD}(h:Zah l n=true):(l.length:Int)≤n:=by
 simp only[Zah,Ya2,decide_eq_true_eq]at h
 have:=Zxo l (-1) (by decide) h.2
 omega
def IntK(K:Nat)(g:List TermD):Prop:=∀ v:Nat,∃ z:Int,Za5 g v=(z:Rat)∧z.natAbs≤K
theorem IntK.sz{K:Nat}{g:List TermD}{n:Int}(h:IntK K g)(hg:Zah g n=true)(hK:K≤1000000):∀ t∈g,szF t.f≤4:=by
 intro t ht
 obtain⟨i,hi⟩:=List.getElem?_of_mem ht
 obtain⟨h0,_,ho,_⟩:=Za7 hg ht
 obtain⟨z,hz,hz2⟩:=h t.v.toNat
 rw[Zry hg hi h0]at hz
 rw[Zcm ho,hz]
 exact Zdf z (by omega) (by omega)
theorem IntK.plus{K L:Nat}{a b:List TermD}(ha:IntK K a)(hb:IntK L b)(ra:Zah a 1500=true)(rb:Zah b 1500=true):IntK (K+L) (ZhF a b):=by
 intro v
 obtain⟨x,hx,hx2⟩:=ha v
 obtain⟨y,hy,hy2⟩:=hb v
 refine⟨x+y,?_,by omega⟩
 unfold Za5 at *
 rw[Zpo ra rb,hx,hy,Rat.intCast_add]
theorem IntK.opp{K:Nat}{g:List TermD}{n:Int}(h:IntK K g)(hg:Zah g n=true)(hn:n≤1500):IntK K (oppT g):=by
 intro v
 obtain⟨x,hx,hx2⟩:=h v
 refine⟨-x,?_,by omega⟩
 unfold Za5 at *
 rw[ZqS hg hn,hx,Rat.intCast_neg]
theorem IntK.nil:IntK 0 []:=fun v=>⟨0,rfl,by decide⟩
theorem IntK.mono{K L:Nat}{g:List TermD}(h:IntK K g)(hl:K≤L):IntK L g:=fun v=>let ⟨z,a,b⟩:=h v;⟨z,a,Nat.le_trans b hl⟩
theorem ZjM{n:Nat}{c:Nat→Rat}(h:∀ i,c i=0∨c i=1∨c i = -1):IntK 1 (ZaS n c):=by
 intro v
 rw[ZeZ]
 by_cases hv:v<n
 ·rw[if_pos hv]
  rcases h v with e|e|e
  ·exact⟨0,by rw[e];rfl,by decide⟩
  ·exact⟨1,by rw[e];rfl,by decide⟩
  ·exact⟨-1,by rw[e];rfl,by decide⟩
 ·rw[if_neg hv];exact⟨0,rfl,by decide⟩
theorem ZpN(i:Nat):IntK 1 (ZaY i 1):=by
 intro v
 unfold ZaY Za5
 simp only[dotS,indI,Zav]
 by_cases e:(i:Int)=(v:Int)
 ·exact⟨1,by rw[if_pos (by omega)];decide +kernel,by decide⟩
 ·exact⟨0,by rw[if_neg (by omega)];decide +kernel,by decide⟩
theorem ZuA{e:EvD}{g:List TermD}(h:g∈Zcu e):IntK 1 g:=by
 unfold Zcu at h
 rcases List.mem_append.1 h with h|h
 ·obtain⟨i,_,rfl⟩:=List.mem_map.1 h
  exact ZpN i
 ·obtain⟨p,hp,rfl⟩:=List.mem_mapIdx.1 h
  unfold Zkq
  split
  ·exact IntK.nil.mono (by decide)
  ·refine ZjM fun i=>?_
   unfold plC
   split
   ·exact .inr (.inl rfl)
   ·split
    ·exact .inr (.inr rfl)
    ·exact .inl rfl
theorem Zoa{n:Int}(hn:n≤1500):∀ (l:List (List TermD)) (out:List Bool) (a:List TermD) (K:Nat),IntK K a→Zah a n=true→(∀ g∈l,Zah g n=true∧IntK 1 g)→IntK (K+l.length) (sumG l out a)
 | [],_,a,K,ha,_,_=>ha
 | g ::l,[],a,K,ha,_,_=>ha.mono (by omega)
 | g ::l,o ::out,a,K,ha,ra,hl=>by
   obtain⟨h1,h2⟩:=hl g Yb7
   have hl':∀ g∈l,Zah g n=true∧IntK 1 g:=fun g hg=>hl g (Yb6 _ hg)
   cases o
   ·show IntK _ (sumG l out (ZhF a g))
    have:=Zoa hn l out (ZhF a g) (K+1) (ha.plus h2 (Zc3 hn ra) (Zc3 hn h1)) (Zh0 hn ra h1) hl'
    exact this.mono (by simp;omega)
   ·show IntK _ (sumG l out a)
    exact(Zoa hn l out a K ha ra hl').mono (by simp)
theorem ZEp{e:EvD}{x:MvD}(h:(hiI e x).2=true):szF (hiI e x).1≤4:=by
 unfold hiI at h ⊢
 split at h
 ·cases h
 ·rename_i h1
  rw[if_neg h1]
  unfold intD at h ⊢
  revert h
  cases hf:ZpZ e.ce x.s x.d with
  | none=>intro h;cases h
  | some b =>
    simp only
    cases hb:e.ce[b]? with
    | none=>intro h;cases h
    | some c =>
      simp only
      obtain⟨_,c',hb',hcov,_⟩:=ZjP hf
      rw[hb]at hb'
      obtain rfl:=Option.some.inj hb'
      cases hr:inB x.r 0 1099511627776
      ·simp only[Bool.not_false,Bool.or_true,if_true];intro h;cases h
      ·split
       ·intro h;cases h
       ·intro _
        have hok:Zin c x.r x.d=true:=by simp[Zin,hcov,hr]
        obtain⟨b1,b2,b3,b4,b5⟩:=ZfE hok
        have e1:((x.r:Int):Rat)+errQ c x.r x.d=Rat.divInt (c.p*x.r+1000*(x.r+(c.g+c.d*(x.d-c.f)))) 1000:=by
         unfold errQ
         rw[Rat.divInt_eq_div,Rat.divInt_eq_div]
         simp only[Rat.intCast_add,Rat.intCast_mul]
         grind
        show szF (ofQ (((x.r:Int):Rat)+errQ c x.r x.d))≤4
        rw[e1]
        exact Zkw _ _ (by decide) (by omega) (by omega) (by decide) (by decide)
theorem ZxV{g:Int}(h1:1≤g)(h2:g≤1099511627776):szF (ofQ (g:Rat))≤4:=Zdf g (by omega) (by omega)
theorem ZtL{n:Nat}{c:Nat→Rat}(h:∀ i,c i=0∨c i=1∨c i = -1):(ZaS n c).length≤n∧∀ t∈ZaS n c,szF t.f≤4 :=
 ⟨Zeq c n,(ZjM h).sz (n:=(n:Int)) (ZcA (Int.le_refl _)) (by decide)⟩
structure RowZ (w:RowD):Prop where
 l:w.t.length≤64
 v:szF w.v≤4
 c:∀ t∈w.t,szF t.f≤4
theorem Zwz{i:Nat}{k:Int}{v:FracD}(h:szF v≤4):RowZ (oneR i k v):=⟨by show 1≤64;decide,h,fun t ht=>by rw[List.mem_singleton.1 ht];show szF (ofQ 1)≤4;decide +kernel⟩
theorem ZBQ{t:TrD}(R:RightTr t){kind:Int}{i:Nat}(hi:i<t.e.mv.length)(hn:t.e.mv.length≤60){w:RowD}(h:w∈ZhD t kind i):RowZ w:=by
 have z0:szF (ofQ 0)≤4:=by decide +kernel
 rcases ZdT.1 h with⟨_,rfl⟩|⟨hc,rfl⟩|⟨g,hg,rfl⟩|⟨_,rfl⟩
 ·obtain⟨h1,h2⟩:=ZtL (n:=i+1) (c:=stC t.e i) fun j=>by
   unfold stC
   split
   ·split
    ·exact .inr (.inl rfl)
    ·split
     ·exact .inr (.inr rfl)
     ·exact .inl rfl
   ·exact .inr (.inr rfl)
  exact⟨by show(ZaS (i+1) (stC t.e i)).length≤64;omega,z0,h2⟩
 ·exact Zwz (ZEp hc)
 ·obtain⟨f,hf,rfl⟩:=List.mem_map.1 hg
  have:=(R.fi f (List.mem_filter.1 hf).1).2.2
  exact Zwz (ZxV this.1 this.2)
 ·exact Zwz z0
theorem ZvT{t:TrD}(R:RightTr t){kind:Int}(hn:t.e.mv.length≤60){w:RowD}(h:w∈ZbS t kind t.e.mv.length):RowZ w:=by
 obtain⟨i,hi,hw⟩:=(ZeB _).1 h
 exact ZBQ R hi hn hw
structure SmE (t:TrD):Prop where
 n:t.e.mv.length≤6
 h:t.e.h≤6
 fi:t.fi.length≤8
 cl:t.cl.length≤8
theorem ZA4{n:Nat}{r:List RowD}{g:List TermD}(hn:n≤6)(hr:r.length≤32)(hw:∀ w∈r,RowZ w)(hg:g.length≤16∧∀ t∈g,szF t.f≤4):Fit ⟨n,r⟩ g 4 6 :=
 ⟨hr,fun _=>by show(n:Int)≤16;omega,fun _=>.inl (by show(n:Int)≤6;omega),fun w h=>⟨(hw w h).l,(hw w h).v,(hw w h).c⟩,hg,by decide,by rw[Zoe];decide⟩
theorem Zrq{n:Nat}{r:List RowD}{g:List TermD}{K:Nat}(hn:n≤6)(hr:r.length≤32)(hw:∀ w∈r,RowZ w)(hs:Zax ⟨n,r⟩=true)(hg:Zah g n=true)(hk:IntK K g)(hK:K≤1000000):FitG ⟨n,r⟩ g:=by
 have hl:(g.length:Int)≤n:=Zmu hg
 exact⟨ZA4 hn hr hw ⟨by omega,hk.sz hg hK⟩,hs,hg,by show(n:Int)≤6;omega,by omega⟩
theorem ZCx[Ifl]{s:St}(k:Nat)(hk:s.t k = .nil):StLe s {s with t:=upd s.t k (.sl [])}:=by
 intro E B nn β a w h
 refine⟨β,h.mem,fun j hj=>?_,h.width,h.defers,h.le,h.sle,h.lo⟩
 by_cases e:j=k
 ·subst e
  simp only[Zae]
  have:=h.tmp j hj
  rw[hk]at this
  exact ZdB this.inv_nil
 ·simp only[Zad _ _ e];exact h.tmp j hj
theorem ZAo(x:List FracD)(hx:x.length≤4096):Zaf Tryz.prog 142 [ZaQ x] (ZaQ x):=by
 have hresC:=Tryz.results142
 obtain⟨es,ee⟩:∃ es,x.map cF=es:=⟨_,rfl⟩
 have hcell:=Zhz x
 have hlen:es.length=x.length:=by rw[← ee];simp
 have hfz:∀ (M:Mem)(j:Nat),List.map (List.map (fzT true M (j+3))) es=es:=fun M j=>by rw[← ee];exact Zan (fun _=>rfl) _
 rw[ee]at hcell
 rw[show ZaQ x = .sl es from congrArg D.sl ee]
 refine inC Tryz.func142 rfl Tryz.ntmps142 ?_
 repeat ((fail_if_success (with_reducible refine Zdt 1 ?_)); first
     | (refine hK _ ?_;clear hK;clear K)
     | (refine aSeq fun K hK=>?_)
     | (refine ZcK ?_)
     | (refine ZeV ?_)
     | (refine ZeX ?_)
     | (refine aRet ?_)
     | (refine aOps _ rfl (by kernel_rfl) ?_)
     | (refine ZeW _ rfl Zeb (by kernel_rfl) (by kernel_rfl) fun KE hE=>?_)
     | (refine hE _ _ (by kernel_rfl) (Zay rfl) ?_;clear hE;clear KE)
     | (refine hE _ _ (by kernel_rfl) (Za8 ?hi ?hj) ?_;(case hi=>(repeat(refine Zam rfl ?_));exact Zao);(case hj=>simp);clear hE;clear KE)
     | (refine ZcI rfl ?hc ?_;case hc=>simp only[go_sem,↓reduceIte,hresC])
     | (refine ZcJ rfl ?hc ?_;case hc=>simp only[go_sem,↓reduceIte,hresC])
     | (simp only[go_sem,↓reduceIte,hresC])
     | (refine And.intro ?ho ?_;(case ho=>omega))
     | (clear hK;clear K))
 refine Ze9 (es:=es) Tryz.underlying33 rfl rfl rfl rfl rfl rfl (by kernel_rfl) (by kernel_rfl) rfl (fun h0=>?_) ?_
 ·refine aGo hresC ?_
  repeat with_reducible intro K hK
  rw[h0]
 ·refine aGo hresC ?_
  repeat with_reducible intro K hK
  refine⟨⟨hcell,by omega,by omega⟩,?_⟩
  refine aGo hresC ?_
  repeat with_reducible intro K hK
  exact congrArg D.sl (hfz _ _)
theorem ZoT:∀ (l:List (List TermD)) (out:List Bool) (a g:List TermD) (o:Bool),l.length=out.length→sumG (l++[g]) (out++[o]) a=if o then sumG l out a else ZhF (sumG l out a) g
 | [],[],a,g,o,_=>by cases o<;>rfl
 | h ::l,p ::out,a,g,o,hl=>ZoT l out (if p then a else ZhF a h) g o (by simpa using hl)
theorem Zvp{l:List (List TermD)}{out:List Bool}(hl:l.length=out.length){k:Nat}{g:List TermD}{o:Bool}(hg:l[k]? =some g)(ho:out[k]? =some o)(a:List TermD) :
 sumG (l.take (k+1)) (out.take (k+1)) a=if o then sumG (l.take k) (out.take k) a else ZhF (sumG (l.take k) (out.take k) a) g:=by
 rw[Yb4,Yb4,hg,ho]
 exact ZoT _ _ _ _ _ (by rw[List.length_take,List.length_take,hl])
theorem ZvG{n:Int}{K:Nat}{g:List TermD}(hg:Zah g n=true)(hn:n≤1500)(hk:IntK K g)(hK:K≤1000000):smT g:=by
 have hl:(g.length:Int)≤n:=Zmu hg
 exact⟨by omega,fun t ht=>by have:=hk.sz hg hK t ht;show(szF t.f:Int)≤4194304;omega⟩
def stK(x:List FracD)(l:List (List TermD))(out:List Bool)(k:Nat):List Bool:=(Zfc x l out).take k++out.drop k
def moK(x:List FracD)(l:List (List TermD))(out:List Bool)(k:Nat):Bool:=((l.zip out).take k).any fun p=> !p.2&&posD p.1 x
section
variable {x:List FracD} {l:List (List TermD)} {out:List Bool} (h:l.length=out.length)
include h
theorem Zjr:(Zfc x l out).length=out.length:=by unfold Zfc;rw[List.length_zipWith];omega
theorem ZBF:stK x l out out.length=Zfc x l out:=by
 unfold stK
 rw[Ya8 (by rw[Zjr h];exact Ya4 _),List.drop_length,List.append_nil]
theorem ZBD{k:Nat}(hk:k≤out.length):(stK x l out k).length=out.length:=by
 unfold stK
 rw[List.length_append,List.length_take,List.length_drop,Zjr h];omega
theorem ZBE{k:Nat}(hk:k<out.length):(stK x l out k)[k]? =out[k]?:=by
 unfold stK
 rw[List.getElem?_append_right (by rw[List.length_take,Zjr h];omega),List.length_take,Zjr h,show k-min k out.length=0 by omega,List.getElem?_drop]
 simp
theorem Zvv{k:Nat}{g:List TermD}{o:Bool}(hg:l[k]? =some g)(ho:out[k]? =some o):(Zfc x l out)[k]? =some (o||posD g x):=by
 unfold Zfc
 rw[List.getElem?_zipWith,hg,ho]
theorem Zr5{k:Nat}{g:List TermD}{o:Bool}(hg:l[k]? =some g)(ho:out[k]? =some o)(e:(o||posD g x)=o):stK x l out (k+1)=stK x l out k:=by
 obtain⟨hk,rfl⟩:=Ya3.1 ho
 unfold stK
 rw[Yb4,Zvv h hg ho,e,List.drop_eq_getElem_cons hk]
 simp
theorem ZBC{k:Nat}{g:List TermD}{o:Bool}(hg:l[k]? =some g)(ho:out[k]? =some o)(hp:posD g x=true):(stK x l out k).set k true=stK x l out (k+1):=by
 obtain⟨hk,rfl⟩:=Ya3.1 ho
 have hl:((Zfc x l out).take k).length=k:=by rw[List.length_take,Zjr h];omega
 unfold stK
 rw[List.set_append_right _ _ (by omega),hl,Nat.sub_self,List.drop_eq_getElem_cons hk,List.set_cons_zero,Yb4,Zvv h hg ho,hp,Bool.or_true]
 simp
theorem ZzB{k:Nat}{g:List TermD}{o:Bool}(hg:l[k]? =some g)(ho:out[k]? =some o):moK x l out (k+1)=(moK x l out k||(!o&&posD g x)):=by
 unfold moK
 have:(l.zip out)[k]? =some (g,o):=by rw[List.getElem?_zip_eq_some];exact⟨hg,ho⟩
 rw[Yb4,this,List.any_append];simp
theorem ZCn:moK x l out out.length=Zkn x l out:=by
 unfold moK Zkn
 rw[Ya8 (by rw[List.length_zip];omega)]
end
theorem ZrQ{l:List TermD}{x:List FracD}(hs:smT l)(hx:smFs x):(szF (ZbX l x).1:Int)≤549755813888:=by
 cases h:Zah l x.length&&okP x
 ·rw[Zu8 h];decide +kernel
 ·rw[Zjl h]
  rw[Ya2]at h
  have:=Zvl ⟨l,0,zF⟩ x hs hx h.1 h.2
  show(szF (ofQ (dotD l x)):Int)≤_
  have e:dotD (RowD.mk l 0 zF).t x=dotD l x:=rfl
  rw[e]at this;omega
def sdO:Option (List FracD)→D
 | none=>.nil
 | some z=>ZaQ z
theorem Zk7(o:Option (List FracD))(keep:Nat→Bool):okD keep (sdO o)=true:=by cases o<;>rfl
theorem Zmo{x:List FracD}:∀ (l:List (List TermD)) (out:List Bool),out.length=l.length→Zkn x l out=false→Zfc x l out=out
 | [],[],_,_=>rfl
 | g ::l,o ::out,hl,h=>by
   simp only[Zkn,List.zip_cons_cons,List.any_cons,Bool.or_eq_false_iff]at h
   have ih:=Zmo (x:=x) l out (by simpa using hl) h.2
   show(o||posD g x) ::Zfc x l out=_
   rw[ih]
   cases o
   ·rw[Bool.not_false,Bool.true_and]at h;rw[h.1];rfl
   ·rfl
section
variable {f:FracD→FracD} {l:List FracD}
def mapA(f:FracD→FracD)(l:List FracD)(k:Nat):List FracD:=(l.map f).take k++l.drop k
theorem ZpE:mapA f l 0=l:=by simp[mapA]
theorem ZsN:mapA f l l.length=l.map f:=by
 unfold mapA
 rw[Ya8 (by rw[List.length_map];omega),List.drop_length,List.append_nil]
theorem ZsL{k:Nat}(hk:k≤l.length):(mapA f l k).length=l.length:=by
 unfold mapA
 rw[List.length_append,List.length_take,List.length_drop,List.length_map];omega
theorem ZsM{k:Nat}(hk:k<l.length):(mapA f l k)[k]? =l[k]?:=by
 unfold mapA
 rw[List.getElem?_append_right (by rw[List.length_take,List.length_map];omega),List.length_take,List.length_map,show k-min k l.length=0 by omega,List.getElem?_drop]
 simp
theorem ZsK{k:Nat}{x:FracD}(hx:l[k]? =some x):(mapA f l k).set k (f x)=mapA f l (k+1):=by
 obtain⟨hk,rfl⟩:=Ya3.1 hx
 have hl:((l.map f).take k).length=k:=by rw[List.length_take,List.length_map];omega
 unfold mapA
 rw[List.set_append_right _ _ (by omega),hl,Nat.sub_self,List.drop_eq_getElem_cons hk,List.set_cons_zero,Yb4,List.getElem?_map,Ya0 hk]
 simp
end
structure ZOk (m K:Nat) (z:List FracD):Prop where
 l:z.length=m
 o:okP z=true
 z:∀ f∈z,szF f≤K*600001
theorem on_z{m n:Nat}{z x:List FracD}(h:ZOk m n z)(hl:x.length=m)(ho:okP x=true)(hx:∀ f∈x,szF f≤600000):ZOk m (n+1) (onD 1 z x):=by
 refine⟨?_,?_,fun f hf=>?_⟩
 ·unfold onD
  rw[List.length_zipWith,h.l,hl,Nat.min_self]
 ·refine Ya6.2 fun f hf=>?_
  obtain⟨a,b,_,_,rfl⟩:=Zps hf
  exact Zbw _
 ·obtain⟨a,b,ha,hb,rfl⟩:=Zps hf
  have za:=h.z a ha
  have zb:=hx b hb
  have q:=Zfb (qOf a) (qOf b*1)
  rw[show qOf b*1=qOf b by grind]at q ⊢
  rw[Zch (Ya6.1 h.o a ha),Zch (Ya6.1 ho b hb)]at q
  show szQ _≤_
  omega
theorem ZBi[Ifl]{P:Program}{n rid:Nat}{Q:Exit→St→Prop}{s:St}{o1 o2:Oper}{T e:TypeId}{i j k:Nat}(hu:P.underlying T=some (.slice e))
 (g1:o1.guard=none) (g2:o2.guard=none) (d1:o1.dst=some j) (d2:o2.dst=some k) (p1:o1.op = .move (.tmp i)) (p2:o2.op = .binOp .eql T (.tmp j) (.const (.slice none 0 0)) T)
 (hf1:Zbq n o1=true) (hn':decide (j<n)=true) (h0:s.t i = .nil)
 (hnil:Q .normal {s with t:=upd (upd s.t j .nil) k (dB true)}):AWP P n (.region rid #[o1,o2] false) Q s:=by
 have hn:j<n:=of_decide_eq_true hn'
 intro E B β a w hr
 refine wp_region_lit (l:=[o1,o2]) ?_
 refine wpList_plain g1 fun K1 hK1=>Zj2 (K:=fun s'=>s'={s with t:=upd s.t j .nil}) hf1 hr ?_ ?_
 ·unfold opA
  rw[p1,d1]
  simp only[opF,rd,h0,Res.pure,putT,ov,List.length_nil,Nat.add_zero]
  exact⟨trivial,.inl trivial,trivial⟩
 rintro s1 β1 a1 w1 r1 rfl
 refine hK1 _ _ ?_
 have t3:Rep β1 s.m (safe E β1 s.m) w1 (a1.eval (.tmp j)) .nil:=by
  have:=r1.tmp j hn
  simpa only[Zae]using this
 have e3:=t3.inv_nil
 have hrun:(execOp a1.eval o2).run P w1 = .ok (.value (.bool true)) w1:=by
  unfold execOp
  rw[p2]
  have hb:=Lib.run_eql_slice_nil (P:=P) w1 T e none 0 0 0 0 hu
  have ec:a1.eval (.const (.slice none 0 0)) = .slice none 0 0:=rfl
  simp only[e3,ec]
  simp[eqGuard,hb]
 refine wpList_plain g2 fun K2 hK2=>?_
 unfold Oper.wp
 rw[hrun]
 show K2 (a1.put o2.dst (.bool true)) w1
 refine hK2 _ _ (wpList_nil ?_)
 obtain⟨β3,r3⟩:=r1.put (dst:=o2.dst) (Zb5.same r1.mem (.v (.bool true)))
 rw[d2]at r3 ⊢
 exact⟨_,β3,r3,hnil⟩
structure MaxZ (s:SysD) (x:List FracD):Prop where
 l:x.length=s.n.toNat
 o:okP x=true
 z:∀ f∈x,szF f≤600000
theorem ZEj{s:SysD}{g:List TermD}(h:FitG s (oppT g))(hg:Zah g s.n=true)(hx:∃ x,Zal s x=true):MaxZ s (maxX s g):=by
 obtain⟨h1,h2⟩:=ZCq h.r hg hx
 have ht:=h.tn
 have ho:=ZkF h.r h.gr
 refine⟨by omega,h2,fun f hf=>?_⟩
 unfold maxX at hf
 rw[show maxO s g=ZaH s (oppT g)from Zel h.r hg]at hf
 split at hf
 ·obtain⟨a,b,ha,hb,rfl⟩:=Zps hf
  have za:=ht.2.1.2 a ha
  have zb:=ht.2.2.2.2 b hb
  unfold tnF at za zb
  have q:=Zfb (qOf a) (qOf b*1)
  rw[show qOf b*1=qOf b by grind]at q ⊢
  rw[Zch (Ya6.1 ho.x a ha),Zch (Ya6.1 ho.d b hb)]at q
  unfold szQ at q
  omega
 ·have:=ht.2.1.2 f hf
  unfold tnF at this;omega
def shr(n:Nat)(f:FracD):FracD:=ofQ (qOf f*Rat.divInt 1 ((n:Int)+1))
theorem ZyQ(n:Nat)(z:List FracD):Zr9 n z=z.map (shr n):=by
 unfold Zr9 shr
 simp[Rat.divInt_eq_div,Rat.intCast_natCast]
theorem Zwa(s:SysD)(l:List (List TermD))(hs:Zax s=true)(hn1:1≤s.n)(hn6:s.n≤6)(hll:l.length≤40)(hl:∀ g∈l,Zah g s.n=true∧IntK 1 g)(hfit:∀ g K,Zah g s.n=true→IntK K g→K≤1000000→FitG s g)(hx:∃ x,Zal s x=true) :
 Zaf Tryz.prog 110 [encS s,Zou l] (.tup [.sl ((Ze4 s l).1.map fun b=>[dB b]),ZaQ (Ze4 s l).2]):=by
 have hres:=Tryz.results110
 have hresC:=Tryz.results142
 have hresP:=Tryz.results119
 have n0:(0:Int)≤(l.length:Int):=by omega
 have n1:(l.length:Int)≤9007199254740992:=by omega
 have n2:(l.length:Int)≤140737488355328:=by omega
 refine inC Tryz.func110 rfl Tryz.ntmps110 ?_
 refine aGo (cj4 hres n0 n1 n2) ?_
 repeat with_reducible intro K hK
 have hN:s.n≤1500:=by omega
 have nilR:Zah [] s.n=true:=by simp only[Zah,Ya2,decide_eq_true_eq];exact⟨by omega,rfl⟩
 have sumR:∀ (k:Nat)(out:List Bool),Zah (sumG (l.take k) (out.take k) []) s.n=true∧IntK 100 (sumG (l.take k) (out.take k) []):=fun k out=>by
  have hk:∀ g∈l.take k,Zah g s.n=true∧IntK 1 g:=fun g hg=>hl g (List.mem_of_mem_take hg)
  refine⟨Zjp hN _ _ [] nilR fun g hg=>(hk g hg).1,(Zoa hN _ _ [] 0 IntK.nil nilR hk).mono ?_⟩
  have:=List.length_take_le' k l
  omega
 refine Zat (fun(x:Nat×List Bool×Option (List FracD))=>[(1,Zou l),(2,.lp 0 0 0 0),(6,.ls 1 1),(7,sdO x.2.2),(8,dI x.1)]) (fun x=>[(0,⟨99,0,2,[cS s],0,false⟩),(1,⟨4,1,1,x.2.1.map fun b=>[dB b],0,false⟩)]) 2 0
  (fun x=>x.2.1.length=l.length∧x.1+Zko x.2.1≤l.length∧(x.2.2=none∨∃ z,x.2.2=some z∧ZOk s.n.toNat x.1 z)∧Ze4 s l=Zlk s l (l.length+1-x.1) x.1 x.2.1 x.2.2) (fun x=>Zko x.2.1) (0,List.replicate l.length false,none) ?_ ?_ ?_
 ·refine⟨by simp,?_,.inl rfl,rfl⟩
  have:Zko (List.replicate l.length false)≤l.length:=by
   have:=List.countP_le_length (p:=(! ·)) (l:=List.replicate l.length false)
   unfold Zko;simpa using this
  show 0+Zko (List.replicate l.length false)≤l.length
  omega
 ·refine Zag _ _ _ ?_ ?_ ?_ ?_ ?_ (.inl rfl)<;>simp[go_sem,okD,okDs,Zap,sdO]
 rintro⟨n,out,sum⟩ ⟨ho,hn,hz,hR⟩
 simp only at ho hn hz hR
 have hlo:=ho.symm
 refine aGo hres ?_
 repeat with_reducible intro K hK
 refine aLe (ZCx 9 rfl) ?_
 simp only[go_sem]
 have eS0:sumG (l.take 0) (out.take 0) []=[]:=by simp[sumG]
 refine Zat (fun(k:Nat)=>[(1,Zou l),(2,.lp 0 0 0 0),(6,.ls 1 1),(7,sdO sum),(8,dI n),(9,Zbh (sumG (l.take k) (out.take k) [])),(26,Zou l),(27,dI l.length),(28,dI k)]) (fun k=>[(0,⟨99,0,2,[cS s],0,false⟩),(1,⟨4,1,1,out.map fun b=>[dB b],0,false⟩)]) 2 0 (fun k=>k≤l.length) (fun k=>l.length-k) 0 (by omega) ?_ ?_
 ·refine Zag _ _ _ ?_ ?_ ?_ ?_ ?_ (.inl rfl)<;>simp[go_sem,okD,okDs,Zap,eS0,Zk7]
  all_goals first|rfl|(rintro e (⟨_,rfl⟩|⟨_,rfl⟩)<;>rfl)
 rintro k hk
 obtain⟨hw,k0⟩:=ZaM k
 by_cases h1:(k:Int)<l.length
 ·obtain⟨g,hg⟩:∃ g,l[k]? =some g:=⟨_,Ya0 (by omega)⟩
  obtain⟨o,hoo⟩:∃ o,out[k]? =some o:=⟨_,Ya0 (by omega)⟩
  have eS:=Zvp hlo hg hoo []
  obtain⟨r1,i1⟩:=sumR k out
  obtain⟨r2,i2⟩:=hl g (Ya7 hg)
  have kp:=ZCr _ _ (ZvG r1 hN i1 (by decide)) (ZvG r2 hN i2 (by decide))
  generalize sumG (l.take k) (out.take k) []=A at *
  cases o
  ·rw[if_neg Bool.false_ne_true]at eS
   refine aGo (cj4 hres k0 h1 (cj3 hg hoo hw)) ?_
   repeat with_reducible intro K hK
   exact Zac (k+1) (by omega) (by omega) (by refine Zag _ _ _ ?_ ?_ ?_ ?_ ?_ (.inl rfl)<;>simp[go_sem,okD,okDs,Zap,eS,Zk7]<;>first|rfl|(rintro e (⟨_,rfl⟩|⟨_,rfl⟩)<;>rfl))
  ·rw[if_pos rfl]at eS
   refine aGo (cj4 hres k0 h1 (cj3 hg hoo hw)) ?_
   repeat with_reducible intro K hK
   exact Zac (k+1) (by omega) (by omega) (by refine Zag _ _ _ ?_ ?_ ?_ ?_ ?_ (.inl rfl)<;>simp[go_sem,okD,okDs,Zap,eS,Zk7]<;>first|rfl|(rintro e (⟨_,rfl⟩|⟨_,rfl⟩)<;>rfl))
 obtain rfl:k=l.length:=by omega
 have eA:sumG (l.take l.length) (out.take l.length) []=sumG l out []:=by rw[List.take_length,Ya8 (by omega)]
 obtain⟨rA,iA⟩:=sumR l.length out
 rw[eA]at rA iA ⊢
 have hF:FitG s (oppT (sumG l out [])):=hfit _ 100 (Zdj rA) (iA.opp rA hN) (by decide)
 have km:=ZAU s _ hF (ZvG rA hN iA (by decide))
 have hX:=ZEj hF rA hx
 obtain⟨X,eX⟩:∃ X,maxX s (sumG l out [])=X:=⟨_,rfl⟩
 have hstep:Ze4 s l=if Zkn X l out then Zlk s l (l.length-n) (n+1) (Zfc X l out) (some (addO sum X))else(out,Zr9 n (addO sum X)):=by
  rw[hR,show l.length+1-n=(l.length-n)+1 by omega,← eX];rfl
 obtain⟨hlf1,hlf2⟩:=ZjI (x:=X) l out ho
 rw[eX]at km hX
 generalize maxY s (sumG l out [])=Y at km
 generalize sumG l out []=A at *
 clear hR sumR eA hF rA iA eS0
 refine aGo (cj2 hres h1) ?_
 repeat with_reducible intro K hK
 have b0:stK X l out 0=out:=by simp[stK]
 have b1:moK X l out 0=false:=by simp[moK]
 refine Zat (fun(k:Nat)=>[(1,Zou l),(2,.lp 0 0 0 0),(6,.ls 1 1),(7,sdO sum),(8,dI n),(12,ZaQ X),(14,dB (moK X l out k)),(48,Zou l),(49,dI l.length),(50,dI k)]) (fun k=>[(0,⟨99,0,2,[cS s],0,false⟩),(1,⟨4,1,1,(stK X l out k).map fun b=>[dB b],0,false⟩)]) 2 0 (fun k=>k≤l.length) (fun k=>l.length-k) 0 (by omega) ?_ ?_
 ·refine Zag _ _ _ ?_ ?_ ?_ ?_ ?_ (.inl rfl)<;>simp[go_sem,okD,okDs,Zap,b0,b1,Zk7]
  all_goals first|rfl|(rintro e (⟨_,rfl⟩|⟨_,rfl⟩)<;>rfl)
 clear h1 hw k0 hk
 rintro k hk
 obtain⟨hw,k0⟩:=ZaM k
 have kz:(0:Nat)≤k:=Yb0 _
 by_cases h1:(k:Int)<l.length
 ·obtain⟨g,hg⟩:∃ g,l[k]? =some g:=⟨_,Ya0 (by omega)⟩
  obtain⟨o,hoo⟩:∃ o,out[k]? =some o:=⟨_,Ya0 (by omega)⟩
  obtain⟨r2,i2⟩:=hl g (Ya7 hg)
  have sg:=ZvG r2 hN i2 (by decide)
  have sX:smFs X:=⟨by have:=hX.l;omega,fun f hf=>by have:=hX.z f hf;show(szF f:Int)≤4194304;omega⟩
  have kq:=ZmB g X sg sX (ZrQ sg sX)
  have hs0:=(ZBE (x:=X) hlo (k:=k) (by omega)).trans hoo
  have hsl:=ZBD (x:=X) hlo (k:=k) (by omega)
  have hmk:=ZzB (x:=X) hlo hg hoo
  cases o
  ·cases hp:posD g X
   ·have he:=Zr5 hlo hg hoo (x:=X) (by rw[hp];rfl)
    rw[hp]at kq hmk
    rw[Bool.and_false,Bool.or_false]at hmk
    generalize stK X l out k=B at *
    generalize moK X l out k=mo at *
    refine aGo (cj4 hres k0 h1 (cj3 hg hs0 hw)) ?_
    repeat with_reducible intro K hK
    exact Zac (k+1) (by omega) (by omega) (by refine Zag _ _ _ ?_ ?_ ?_ ?_ ?_ (.inl rfl)<;>simp[go_sem,okD,okDs,Zap,he,hmk,Zk7]<;>first|rfl|(rintro e (⟨_,rfl⟩|⟨_,rfl⟩)<;>rfl))
   ·have he:=ZBC hlo hg hoo hp
    have hset:((stK X l out k).map fun b=>[dB b]).set k [dB true]=(stK X l out (k+1)).map fun b=>[dB b]:=by rw[← he,List.map_set]
    rw[hp]at kq hmk
    rw[Bool.not_false,Bool.and_self,Bool.or_true]at hmk
    generalize stK X l out k=B at *
    generalize moK X l out k=mo at *
    refine aGo (cj4 hres k0 kz (cj4 h1 hg hs0 (cj3 hsl hw hset))) ?_
    repeat with_reducible intro K hK
    exact Zac (k+1) (by omega) (by omega) (by refine Zag _ _ _ ?_ ?_ ?_ ?_ ?_ (.inl rfl)<;>simp[go_sem,okD,okDs,Zap,hmk,Zk7]<;>first|rfl|(rintro e (⟨_,rfl⟩|⟨_,rfl⟩)<;>rfl))
  ·have he:=Zr5 hlo hg hoo (x:=X) rfl
   rw[Bool.not_true,Bool.false_and,Bool.or_false]at hmk
   generalize stK X l out k=B at *
   generalize moK X l out k=mo at *
   refine aGo (cj4 hres k0 h1 (cj3 hg hs0 hw)) ?_
   repeat with_reducible intro K hK
   exact Zac (k+1) (by omega) (by omega) (by refine Zag _ _ _ ?_ ?_ ?_ ?_ ?_ (.inl rfl)<;>simp[go_sem,okD,okDs,Zap,he,hmk,Zk7]<;>first|rfl|(rintro e (⟨_,rfl⟩|⟨_,rfl⟩)<;>rfl))
 obtain rfl:k=l.length:=by omega
 have eB:stK X l out l.length=Zfc X l out:=by rw[hlo];exact ZBF hlo
 have eM:moK X l out l.length=Zkn X l out:=by rw[hlo];exact ZCn hlo
 rw[eB,eM]
 clear eB eM b0 b1 hw k0 kz hk
 have hwn:=ZtF n
 have hsb:=(Zjr (x:=X) hlo).trans ho
 have hXl:X.length≤4096:=by have:=hX.l;omega
 have hX1:1≤X.length:=by have:=hX.l;omega
 have zX:ZOk s.n.toNat (n+1) X:=⟨hX.l,hX.o,fun f hf=>by have:=hX.z f hf;omega⟩
 have kcl:=ZAo X hXl
 have kf:=ZEv 1 ((n:Int)+1) (by omega) (by decide) (by decide) (by omega) (by omega)
 have zf:(szQ (Rat.divInt 1 ((n:Int)+1)):Int)≤4:=by have:=Zkw 1 ((n:Int)+1) (by omega) (by omega) (by omega) (by omega) (by omega);omega
 cases hm:Zkn X l out
 ·rw[if_neg (by rw[hm];exact Bool.false_ne_true)]at hstep
  rw[Zmo l out ho hm]
  rw[ZyQ]at hstep
  clear hlf1 hlf2 hsb kcl
  rcases hz with rfl|⟨z,rfl,hz⟩
  ·show AWP _ _ _ _ _
   repeat((fail_if_success (with_reducible refine Zdt 20 ?_));first
   | (refine hK _ ?_;clear hK;clear K)
   | (refine aSeq fun K hK=>?_)
   | (refine ZcK ?_)
   | (refine ZeV ?_)
   | (refine ZeX ?_)
   | (refine aRet ?_)
   | (refine aOps _ rfl (by kernel_rfl) ?_)
   | (refine ZeW _ rfl Zeb (by kernel_rfl) (by kernel_rfl) fun KE hE=>?_)
   | (refine hE _ _ (by kernel_rfl) (Zay rfl) ?_;clear hE;clear KE)
   | (refine hE _ _ (by kernel_rfl) (Za8 ?hi ?hj) ?_;(case hi=>(repeat(refine Zam rfl ?_));exact Zao);(case hj=>simp);clear hE;clear KE)
   | (refine ZcI rfl ?hc ?_;case hc=>simp only[go_sem,↓reduceIte,hres,h1])
   | (refine ZcJ rfl ?hc ?_;case hc=>simp only[go_sem,↓reduceIte,hres,h1])
   | (simp only[go_sem,↓reduceIte,hres,h1])
   | (refine And.intro ?ho ?_;(case ho=>omega))
   | (clear hK;clear K))
   refine ZBi Tryz.underlying33 rfl rfl rfl rfl rfl rfl (by kernel_rfl) (by kernel_rfl) rfl ?_
   obtain⟨es,ee⟩:∃ es,X.map cF=es:=⟨_,rfl⟩
   have hcell:=Zhz X
   have hlen:es.length=X.length:=by rw[← ee];simp
   rw[ee]at hcell
   rw[show ZaQ X = .sl es from congrArg D.sl ee]
   refine aGo hres ?_
   repeat with_reducible intro K hK
   refine Zbf Tryz.func142 rfl (by kernel_rfl) (by kernel_rfl) (by kernel_rfl) ?_
   rw[Tryz.ntmps142]
   repeat((fail_if_success (with_reducible refine Zdt 1 ?_));first
   | (refine hK _ ?_;clear hK;clear K)
   | (refine aSeq fun K hK=>?_)
   | (refine ZcK ?_)
   | (refine ZeV ?_)
   | (refine ZeX ?_)
   | (refine aRet ?_)
   | (refine aOps _ rfl (by kernel_rfl) ?_)
   | (refine ZeW _ rfl Zeb (by kernel_rfl) (by kernel_rfl) fun KE hE=>?_)
   | (refine hE _ _ (by kernel_rfl) (Zay rfl) ?_;clear hE;clear KE)
   | (refine hE _ _ (by kernel_rfl) (Za8 ?hi ?hj) ?_;(case hi=>(repeat(refine Zam rfl ?_));exact Zao);(case hj=>simp);clear hE;clear KE)
   | (refine ZcI rfl ?hc ?_;case hc=>simp only[go_sem,↓reduceIte,hresC])
   | (refine ZcJ rfl ?hc ?_;case hc=>simp only[go_sem,↓reduceIte,hresC])
   | (simp only[go_sem,↓reduceIte,hresC])
   | (refine And.intro ?ho ?_;(case ho=>omega))
   | (clear hK;clear K))
   refine Ze9 (es:=es) Tryz.underlying33 rfl rfl rfl rfl rfl rfl (by kernel_rfl) (by kernel_rfl) rfl (fun h0=>?_) ?_
   ·rw[h0]at hlen
    simp at hlen
    omega
   have h1:(es.length:Int)≤4096:=by omega
   refine aGo (cj2 hresC hres) ?_
   repeat with_reducible intro K hK
   refine⟨⟨hcell,by omega,by omega⟩,?_⟩
   subst ee
   rw[show addO none X=X from rfl]at hstep
   have hZ:=zX
   have hZl:X.length≤4096:=by have:=hZ.l;omega
   refine aGo (cj4 hresC hresP hres hwn) ?_
   repeat with_reducible intro K hK
   have e0:X.map cF=(mapA (shr n) X 0).map cF:=by rw[ZpE]
   refine Zat (fun(k:Nat)=>[(6,.ls 1 1),(7,.ls 2 1),(17,.lp 3 0 0 0),(84,.ls 2 1),(85,dI X.length),(86,dI k)]) (fun k=>[(1,⟨4,1,1,out.map fun b=>[dB b],0,false⟩),(2,⟨53,1,4,(mapA (shr n) X k).map cF,0,false⟩),(3,⟨53,0,4,[cF (ofQ (Rat.divInt 1 ((n:Int)+1)))],0,false⟩)]) 4 0 (fun k=>k≤X.length) (fun k=>X.length-k) 0 (by omega) ?_ ?_
   ·refine Zag _ _ _ ?_ ?_ ?_ ?_ ?_ (.inl rfl)<;>simp[go_sem,e0,okD,okDs,Zap]
    all_goals first|rfl|(rintro e (⟨_,rfl⟩|⟨_,rfl⟩)<;>rfl)
   rintro k hk
   obtain⟨hw,k0⟩:=ZaM k
   have kz:(0:Nat)≤k:=Yb0 _
   by_cases h2:(k:Int)<X.length
   ·obtain⟨x,hx⟩:=getE (l:=X) (k:=k) (by omega)
    have ox:=Ya6.1 hZ.o x (ZaI hx)
    have zx:=hZ.z x (ZaI hx)
    have hs:=ZsK (f:=shr n) hx
    have hg:=(ZsM (f:=shr n) (l:=X) (k:=k) (by omega)).trans hx
    have hL:=ZsL (f:=shr n) (l:=X) (k:=k) (by omega)
    obtain⟨qx,rfl⟩:∃ q,x=ofQ q:=⟨_,Zcm ox⟩
    unfold shr at hs
    rw[Zav]at hs
    change szQ qx≤_ at zx
    have ka:=Zsw qx (Rat.divInt 1 ((n:Int)+1)) (by omega) (by omega)
    have hset:((mapA (shr n) X k).map cF).set k [dI (ofQ (qx*Rat.divInt 1 ((n:Int)+1))).p.s,Zab (ofQ (qx*Rat.divInt 1 ((n:Int)+1))).p.d,dI (ofQ (qx*Rat.divInt 1 ((n:Int)+1))).q.s,Zab (ofQ (qx*Rat.divInt 1 ((n:Int)+1))).q.d]=(mapA (shr n) X (k+1)).map cF:=by
     unfold shr
     rw[← hs,List.map_set]
    generalize mapA (shr n) X k=A at *
    refine aGo (cj4 hres h2 k0 (cj4 kz hx hg (cj3 hL hset hw))) ?_
    repeat with_reducible intro K hK
    exact Zac (k+1) (by omega) (by omega) (by refine Zag _ _ _ ?_ ?_ ?_ ?_ ?_ (.inl rfl)<;>simp[go_sem,okD,okDs,Zap]<;>first|rfl|(rintro e (⟨_,rfl⟩|⟨_,rfl⟩)<;>rfl))
   obtain rfl:k=X.length:=by omega
   refine aGo (cj2 hres h2) ?_
   repeat with_reducible intro K hK
   rw[Zan (fun _=>rfl),Zan (fun _=>rfl),ZsN,hstep]
  ·have n4:n≤40:=by omega
   obtain⟨es,ee⟩:∃ es,z.map cF=es:=⟨_,rfl⟩
   have hcell:=Zhz z
   have hlen:es.length=z.length:=by rw[← ee];simp
   have hl:z.length=X.length:=by rw[hz.l,hX.l]
   rw[ee]at hcell
   obtain⟨e1,es',hes⟩:∃ e1 es',es=e1 ::es':=by
    cases es with
    | nil=>simp at hlen;omega
    | cons a b=>exact⟨a,b,rfl⟩
   rw[show sdO (some z) = .sl (e1 ::es')from by rw[← hes,← ee];rfl]
   refine aGo (cj2 hres h1) ?_
   repeat with_reducible intro K hK
   rw[← hes]
   refine Zbf Tryz.func119 rfl (by kernel_rfl) (by kernel_rfl) (by kernel_rfl) ?_
   rw[Tryz.ntmps119]
   refine aGo hresP ?_
   repeat with_reducible intro K hK
   refine Zbf Tryz.func142 rfl (by kernel_rfl) (by kernel_rfl) (by kernel_rfl) ?_
   rw[Tryz.ntmps142]
   repeat((fail_if_success (with_reducible refine Zdt 1 ?_));first
   | (refine hK _ ?_;clear hK;clear K)
   | (refine aSeq fun K hK=>?_)
   | (refine ZcK ?_)
   | (refine ZeV ?_)
   | (refine ZeX ?_)
   | (refine aRet ?_)
   | (refine aOps _ rfl (by kernel_rfl) ?_)
   | (refine ZeW _ rfl Zeb (by kernel_rfl) (by kernel_rfl) fun KE hE=>?_)
   | (refine hE _ _ (by kernel_rfl) (Zay rfl) ?_;clear hE;clear KE)
   | (refine hE _ _ (by kernel_rfl) (Za8 ?hi ?hj) ?_;(case hi=>(repeat(refine Zam rfl ?_));exact Zao);(case hj=>simp);clear hE;clear KE)
   | (refine ZcI rfl ?hc ?_;case hc=>simp only[go_sem,↓reduceIte,hresC])
   | (refine ZcJ rfl ?hc ?_;case hc=>simp only[go_sem,↓reduceIte,hresC])
   | (simp only[go_sem,↓reduceIte,hresC])
   | (refine And.intro ?ho ?_;(case ho=>omega))
   | (clear hK;clear K))
   refine Ze9 (es:=es) Tryz.underlying33 rfl rfl rfl rfl rfl rfl (by kernel_rfl) (by kernel_rfl) rfl (fun h0=>?_) ?_
   ·rw[hes]at h0
    cases h0
   have h3:(es.length:Int)≤4096:=by omega
   refine aGo (cj2 hresC hresP) ?_
   repeat with_reducible intro K hK
   refine⟨⟨hcell,by omega,by omega⟩,?_⟩
   refine aGo (cj2 hresC hresP) ?_
   repeat with_reducible intro K hK
   have e0:es=(onA z X 0).map cF:=by rw[ZnM,ee]
   refine Zat (fun(k:Nat)=>[(5,.ls 2 1),(10,ZaQ X),(11,dI X.length),(12,dI k)]) (fun k=>[(0,⟨99,0,2,[cS s],0,false⟩),(1,⟨4,1,1,out.map fun b=>[dB b],0,false⟩),(2,⟨53,1,4,(onA z X k).map cF,0,false⟩)]) 3 2 (fun k=>k≤X.length) (fun k=>X.length-k) 0 (by omega) ?_ ?_
   ·refine Zag _ _ _ ?_ ?_ ?_ ?_ ?_ (.inr fun id hid=>?_)<;>simp[go_sem,e0,okD,okDs,Zap]
    all_goals first|rfl|(have:id<2:=hid;omega)|(rintro e (⟨_,rfl⟩|⟨_,rfl⟩)<;>rfl)
   rintro k hk
   obtain⟨hw,k0⟩:=ZaM k
   have kz:(0:Nat)≤k:=Yb0 _
   by_cases h2:(k:Int)<X.length
   ·obtain⟨x,hx⟩:=getE (l:=z) (k:=k) (by omega)
    obtain⟨y,hy⟩:=getE (l:=X) (k:=k) (by omega)
    have ox:=Ya6.1 hz.o x (ZaI hx)
    have oy:=Ya6.1 hX.o y (ZaI hy)
    have zx:=hz.z x (ZaI hx)
    have zy:=hX.z y (ZaI hy)
    have hs:=ZqX hl hx hy
    have hg:=(ZqZ hl (k:=k) (by omega)).trans hx
    have hL:=ZqY hl k (by omega)
    obtain⟨qx,rfl⟩:∃ q,x=ofQ q:=⟨_,Zcm ox⟩
    obtain⟨qy,rfl⟩:∃ q,y=ofQ q:=⟨_,Zcm oy⟩
    rw[Zav,Zav]at hs
    change szQ qx≤_ at zx
    change szQ qy≤_ at zy
    have ka:=ZgD qx qy (by omega) (by omega)
    have hset:((onA z X k).map cF).set k [dI (ofQ (qx+qy)).p.s,Zab (ofQ (qx+qy)).p.d,dI (ofQ (qx+qy)).q.s,Zab (ofQ (qx+qy)).q.d]=(onA z X (k+1)).map cF:=by rw[← hs,List.map_set]
    generalize onA z X k=A at *
    refine aGo (cj4 hresP h2 k0 (cj4 kz hx hy (cj4 hg hL hset hw))) ?_
    repeat with_reducible intro K hK
    exact Zac (k+1) (by omega) (by omega) (by refine Zag _ _ _ ?_ ?_ ?_ ?_ ?_ (.inr fun id hid=>?_)<;>simp[go_sem,okD,okDs,Zap]<;>first|rfl|(have:id<2:=hid;omega)|(rintro e (⟨_,rfl⟩|⟨_,rfl⟩)<;>rfl))
   obtain rfl:k=X.length:=by omega
   rw[← hl,Zq0 hl]
   have hZ:=on_z hz hX.l hX.o hX.z
   have hdef:addO (some z) X=onD 1 z X:=rfl
   rw[hdef]at hstep
   rw[hl]
   clear hdef e0
   generalize onD 1 z X=Z at hZ hstep ⊢
   have hZl:Z.length≤4096:=by have:=hZ.l;omega
   refine aGo (cj4 hresC hresP hres (cj2 hwn h2)) ?_
   repeat with_reducible intro K hK
   have e0:Z.map cF=(mapA (shr n) Z 0).map cF:=by rw[ZpE]
   refine Zat (fun(k:Nat)=>[(6,.ls 1 1),(7,.ls 2 1),(17,.lp 3 0 0 0),(84,.ls 2 1),(85,dI Z.length),(86,dI k)]) (fun k=>[(1,⟨4,1,1,out.map fun b=>[dB b],0,false⟩),(2,⟨53,1,4,(mapA (shr n) Z k).map cF,0,false⟩),(3,⟨53,0,4,[cF (ofQ (Rat.divInt 1 ((n:Int)+1)))],0,false⟩)]) 4 0 (fun k=>k≤Z.length) (fun k=>Z.length-k) 0 (by omega) ?_ ?_
   ·refine Zag _ _ _ ?_ ?_ ?_ ?_ ?_ (.inl rfl)<;>simp[go_sem,e0,okD,okDs,Zap]
    all_goals first|rfl|(rintro e (⟨_,rfl⟩|⟨_,rfl⟩)<;>rfl)
   rintro k hk
   obtain⟨hw,k0⟩:=ZaM k
   have kz:(0:Nat)≤k:=Yb0 _
   by_cases h2:(k:Int)<Z.length
   ·obtain⟨x,hx⟩:=getE (l:=Z) (k:=k) (by omega)
    have ox:=Ya6.1 hZ.o x (ZaI hx)
    have zx:=hZ.z x (ZaI hx)
    have hs:=ZsK (f:=shr n) hx
    have hg:=(ZsM (f:=shr n) (l:=Z) (k:=k) (by omega)).trans hx
    have hL:=ZsL (f:=shr n) (l:=Z) (k:=k) (by omega)
    obtain⟨qx,rfl⟩:∃ q,x=ofQ q:=⟨_,Zcm ox⟩
    unfold shr at hs
    rw[Zav]at hs
    change szQ qx≤_ at zx
    have ka:=Zsw qx (Rat.divInt 1 ((n:Int)+1)) (by omega) (by omega)
    have hset:((mapA (shr n) Z k).map cF).set k [dI (ofQ (qx*Rat.divInt 1 ((n:Int)+1))).p.s,Zab (ofQ (qx*Rat.divInt 1 ((n:Int)+1))).p.d,dI (ofQ (qx*Rat.divInt 1 ((n:Int)+1))).q.s,Zab (ofQ (qx*Rat.divInt 1 ((n:Int)+1))).q.d]=(mapA (shr n) Z (k+1)).map cF:=by
     unfold shr
     rw[← hs,List.map_set]
    generalize mapA (shr n) Z k=A at *
    refine aGo (cj4 hres h2 k0 (cj4 kz hx hg (cj3 hL hset hw))) ?_
    repeat with_reducible intro K hK
    exact Zac (k+1) (by omega) (by omega) (by refine Zag _ _ _ ?_ ?_ ?_ ?_ ?_ (.inl rfl)<;>simp[go_sem,okD,okDs,Zap]<;>first|rfl|(rintro e (⟨_,rfl⟩|⟨_,rfl⟩)<;>rfl))
   obtain rfl:k=Z.length:=by omega
   refine aGo (cj2 hres h2) ?_
   repeat with_reducible intro K hK
   rw[Zan (fun _=>rfl),Zan (fun _=>rfl),ZsN,hstep]
 ·rw[if_pos hm]at hstep
  have:=hlf2 hm
  rcases hz with rfl|⟨z,rfl,hz⟩
  ·have hzz:ZOk s.n.toNat (n+1) (addO none X):=zX
   repeat((fail_if_success (with_reducible refine Zdt 20 ?_));first
   | (refine hK _ ?_;clear hK;clear K)
   | (refine aSeq fun K hK=>?_)
   | (refine ZcK ?_)
   | (refine ZeV ?_)
   | (refine ZeX ?_)
   | (refine aRet ?_)
   | (refine aOps _ rfl (by kernel_rfl) ?_)
   | (refine ZeW _ rfl Zeb (by kernel_rfl) (by kernel_rfl) fun KE hE=>?_)
   | (refine hE _ _ (by kernel_rfl) (Zay rfl) ?_;clear hE;clear KE)
   | (refine hE _ _ (by kernel_rfl) (Za8 ?hi ?hj) ?_;(case hi=>(repeat(refine Zam rfl ?_));exact Zao);(case hj=>simp);clear hE;clear KE)
   | (refine ZcI rfl ?hc ?_;case hc=>simp only[go_sem,↓reduceIte,hres,h1])
   | (refine ZcJ rfl ?hc ?_;case hc=>simp only[go_sem,↓reduceIte,hres,h1])
   | (simp only[go_sem,↓reduceIte,hres,h1])
   | (refine And.intro ?ho ?_;(case ho=>omega))
   | (clear hK;clear K))
   refine ZBi Tryz.underlying33 rfl rfl rfl rfl rfl rfl (by kernel_rfl) (by kernel_rfl) rfl ?_
   refine aGo (cj2 hres hwn) ?_
   repeat with_reducible intro K hK
   exact Zac (n+1,Zfc X l out,some (addO none X)) ⟨hsb,by simp only;omega,.inr ⟨_,rfl,hzz⟩,by rw[hstep,show l.length+1-(n+1)=l.length-n by omega]⟩ (by omega) (by refine Zag _ _ _ ?_ ?_ ?_ ?_ ?_ (.inl rfl)<;>simp[go_sem,okD,okDs,Zap,sdO,addO]<;>first|rfl|(rintro e (⟨_,rfl⟩|⟨_,rfl⟩)<;>rfl))
  ·have hzz:=on_z hz hX.l hX.o hX.z
   have kp:=ZAL z X (by rw[hz.l,hX.l]) hz.o hX.o (by have:=hz.l;omega) (fun f hf=>by have:=hz.z f hf;omega) (fun f hf=>by have:=hX.z f hf;omega)
   obtain⟨f1,z',rfl⟩:∃ f1 z',z=f1 ::z':=by
    cases z with
    | nil=>have:=hz.l;simp at this;omega
    | cons a b=>exact⟨a,b,rfl⟩
   rw[show sdO (some (f1 ::z')) = .sl (cF f1 ::z'.map cF)from rfl]
   rw[show ZaQ (f1 ::z') = .sl (cF f1 ::z'.map cF)from rfl]at kp
   refine aGo (cj3 hres h1 hwn) ?_
   repeat with_reducible intro K hK
   exact Zac (n+1,Zfc X l out,some (addO (some (f1 ::z')) X)) ⟨hsb,by simp only;omega,.inr ⟨_,rfl,hzz⟩,by rw[hstep,show l.length+1-(n+1)=l.length-n by omega]⟩ (by omega) (by refine Zag _ _ _ ?_ ?_ ?_ ?_ ?_ (.inl rfl)<;>simp[go_sem,okD,okDs,Zap,sdO,addO]<;>first|rfl|(rintro e (⟨_,rfl⟩|⟨_,rfl⟩)<;>rfl))
theorem Zoj{α β:Type}(p:α→Bool)(f:α→β):∀ l:List α,(l.filter p).map f=l.filterMap fun a=>if p a then some (f a)else none
 | []=>rfl
 | a ::l=>by
   rw[List.filter_cons,List.filterMap_cons]
   cases h:p a
   ·simp only[Bool.false_eq_true,if_false];exact Zoj p f l
   ·simp only[if_true,List.map_cons];rw[Zoj p f l]
theorem Zs5{α β:Type}{f g:α→Option β}:∀ {l:List α},(∀ a∈l,f a=g a)→l.filterMap f=l.filterMap g
 | [],_=>rfl
 | a ::l,h=>by rw[List.filterMap_cons,List.filterMap_cons,h a Yb7,Zs5 fun b hb=>h b (Yb6 _ hb)]
def ZoM(i:Nat):TermD:=⟨(i:Int),ofQ 1⟩
theorem ZzU(e:EvD)(h:Int):ZbW e h=(ownL e h).map ZoM:=by
 unfold ZbW ownL ZgE ZaS
 rw[Zoj]
 refine Zs5 fun i hi=>?_
 have hi:=List.mem_range.1 hi
 unfold ownH ZoM
 rw[show decide ((i:Int)<(e.mv.length:Int))=true from decide_eq_true (by omega),Bool.true_and]
 cases Zie e h (-1) 0 100000 (mvAt e i)
 ·rfl
 ·rfl
theorem ZEr(t:TrD)(R:RightTr t)(h1:ZaZ t=0)(L:LenT t)(hp:∀ x∈t.e.mv,0≤x.f∧x.f<t.e.pl.length)(hf:Zgg t.e=0)(h:Int)(h0:0≤h)(hh:h<t.e.h):Zaa Tryz.prog 43 [ZbC t,dI h] (Zbh (ZbW t.e h)):=by
 have hres:=Tryz.results43
 have k1:=ZhU t L
 rw[h1]at k1
 have k2:=Zrb t.e L.e h (-1) 0 100000 hp
 rw[if_pos hf]at k2
 have k3:=nO_c
 have Lm:=R.e.lm
 have ll:(ownL t.e h).length≤t.e.mv.length:=ZqP t.e h
 change Zaa _ _ _ (Zab (natI (ownL t.e h)))at k2
 rw[ZzU]
 have g1:¬ h<0:=by omega
 have g2:¬ h≥t.e.h:=by omega
 obtain⟨O,eO⟩:∃ O,ownL t.e h=O:=⟨_,rfl⟩
 rw[eO]at k2 ll ⊢
 clear eO
 have lI:(natI O).length=O.length:=by simp[natI]
 refine inN Tryz.func43 rfl Tryz.ntmps43 fun I=>?_
 refine aGo (cj3 hres g1 g2) ?_
 repeat with_reducible intro K hK
 refine aLe (ZcT 5 151 5 rfl) ?_
 simp only[go_sem]
 refine Zat (fun(k:Nat)=>[(5,.ls 1 k),(25,Zab (natI O)),(26,dI O.length),(27,dI k)]) (fun k=>[(1,⟨151,k,5,((O.take k).map ZoM).map cT,0,false⟩)]) 2 0 (fun k=>k≤O.length) (fun k=>O.length-k) 0 (by omega) ?_ ?_
 ·refine Zag _ _ _ ?_ ?_ ?_ ?_ ?_ (.inl rfl)<;>simp[go_sem,okD,okDs,Zap,lI]
 rintro k hk
 obtain⟨hw,k0⟩:=ZaM k
 by_cases h2:(k:Int)<O.length
 ·obtain⟨i,hx⟩:=getE (l:=O) (k:=k) (by omega)
  have hx2:(natI O)[k]? =some (i:Int):=by unfold natI;rw[List.getElem?_map,hx];rfl
  have eN:(O.take (k+1)).map ZoM=(O.take k).map ZoM++[⟨(i:Int),ofQ 1⟩]:=by rw[Yb4,hx];simp[ZoM]
  have lN:((O.take k).map ZoM).length=k:=by simp;omega
  generalize (O.take k).map ZoM=A at *
  generalize natI O=B at *
  refine aGo (cj4 hres k0 h2 (cj3 hx2 lN hw)) ?_
  repeat with_reducible intro K hK
  exact Zac (k+1) (by omega) (by omega) (by refine Zag _ _ _ ?_ ?_ ?_ ?_ ?_ (.inl rfl)<;>simp[go_sem,okD,okDs,Zap,eN]<;>(rintro e (⟨a,_,rfl⟩|rfl)<;>rfl))
 obtain rfl:k=O.length:=by omega
 refine aGo (cj2 hres h2) ?_
 repeat with_reducible intro K hK
 rw[Zan (fun _=>rfl),List.take_length]
theorem ZzL{s:SysD}{g:List TermD}(h:0<sgnD (ZaH s g).v):(ZaH s g).k=0:=by
 unfold ZaH at h ⊢
 have zz:¬ 0<sgnD zF:=by decide +kernel
 cases hn:next (fin s g)with
 | ex r c=>rfl
 | best=>rfl
 | row r=>rw[hn]at h;exact absurd h zz
 | col c =>
   rw[hn]at h
   simp only at h
   split at h<;>exact absurd h zz
theorem Zu7(s:SysD)(g:List TermD)(h:Int)(F1:FitG s g)(F2:FitG s (oppT g))(hs:smT g):Zaf Tryz.prog 42 [encS s,Zbh g,dI h] (.agg (cV (ZcL s g h))):=by
 have hres:=Tryz.results42
 have t1:=F1.tn
 have t2:=F2.tn
 have o1:=ZkF F1.r F1.gr
 have o2:=ZkF F2.r F2.gr
 have eL:ZbV s g=(ZaH s g,0):=by unfold ZbV;rw[F1.r,F1.gr];rfl
 have eM:ZbV s (oppT g)=(ZaH s (oppT g),0):=by unfold ZbV;rw[F2.r,F2.gr];rfl
 have k1:=Zn5 s g F1.f
 have k2:=Zn5 s (oppT g) F2.f
 have k3:=Zum g hs
 have kC:=ZzM s g F1.f F1.r F1.gr
 have kv0:=ZzL (s:=s) (g:=g)
 have kn:=ZhN (-1) (by decide) (by decide)
 rw[eL]at k1
 rw[eM]at k2
 have e0:ZcL s g h=if 0<sgnD (ZaH s g).v then⟨h,2,(ZaH s g).x,[],(ZaH s g).y++[ofQ (-1)]⟩else if (ZaH s (oppT g)).k=2 then⟨h,1,onD 1 (ZaH s (oppT g)).x (ZaH s (oppT g)).d,(ZaH s g).x,[]⟩else if sgnD (ZaH s (oppT g)).v<0 then⟨h,1,(ZaH s (oppT g)).x,(ZaH s g).x,[]⟩else⟨h,0,[],(ZaH s g).x,(ZaH s (oppT g)).y⟩:=by
  unfold ZcL maxO
  rw[eL,eM]
 rw[e0]
 have ks:=Zd1 (ZaH s g).v (by have:=t1.1;unfold tnF at this;omega)
 have kt:=Zd1 (ZaH s (oppT g)).v (by have:=t2.1;unfold tnF at this;omega)
 generalize ZaH s g=A at *
 generalize ZaH s (oppT g)=B at *
 generalize oppT g=g2 at *
 obtain⟨ak,av,ax,ay,ad⟩:=A
 obtain⟨bk,bv,bx,byy,bd⟩:=B
 simp only at ks kt kC kv0 k1 k2 ⊢
 by_cases c1:0<sgnD av
 ·have k:=kC (kv0 c1)
  clear k1 k2 kC
  rw[if_pos c1]
  have yl:(ay.length:Int)≤64:=t1.2.2.1.1
  have yc:=Zhz ay
  refine inC Tryz.func42 rfl Tryz.ntmps42 ?_
  refine aGo (cj2 hres c1) ?_
  repeat with_reducible intro K hK
  rw[List.map_append,Zan (fun _=>rfl)]
  exact congrArg (fun x=>D.agg [dI h,dI 2,ZaQ ax,.sl [],.sl x]) (List.map_append (f:=cF) (l₁:=ay) (l₂:=[ofQ (-1)])).symm
 clear kC kv0
 rw[if_neg c1]
 refine inC Tryz.func42 rfl Tryz.ntmps42 ?_
 by_cases c2:bk=2
 ·have c2':(bk==2)=true:=by simp[c2]
  have kp:=sum_c bx bd (o2.l c2) o2.x o2.d (by have:(bx.length:Int)≤64:=t2.2.1.1;omega) (fun f hf=>by have:=t2.2.1.2 f hf;unfold tnF at this;omega) (fun f hf=>by have:=t2.2.2.2.2 f hf;unfold tnF at this;omega)
  rw[if_pos c2]
  refine aGo (cj3 hres c1 c2') ?_
  repeat with_reducible intro K hK
  rfl
 have c2':(bk==2)=false:=by simp[c2]
 rw[if_neg c2]
 by_cases c3:sgnD bv<0
 ·rw[if_pos c3]
  refine aGo (cj4 hres c1 c2' c3) ?_
  repeat with_reducible intro K hK
  rfl
 ·rw[if_neg c3]
  refine aGo (cj4 hres c1 c2' c3) ?_
  repeat with_reducible intro K hK
  rfl
theorem Znu(a b:List Int)(ha:a.length≤4096)(hb:b.length≤4096):Zaa Tryz.prog 27 [Zab a,Zab b] (dB (a==b)):=by
 have hres:=Tryz.results27
 refine inN Tryz.func27 rfl Tryz.ntmps27 fun I=>?_
 by_cases hl:a.length=b.length
 rotate_left
 ·have hl':((a.length:Int) !=(b.length:Int))=true:=by simp;omega
  refine aGo (cj2 hres hl') ?_
  repeat with_reducible intro K hK
  exact Zai (by simp;intro e;exact hl (by rw[e]))
 have hl':((a.length:Int) !=(b.length:Int))=false:=by simp;omega
 refine aGo (cj2 hres hl') ?_
 repeat with_reducible intro K hK
 refine Zat (fun(k:Nat)=>[(0,Zab a),(1,Zab b),(5,dI k)]) (fun _=>[]) 0 0 (fun k=>k≤a.length∧a.take k=b.take k) (fun k=>a.length-k) 0 ⟨by omega,rfl⟩ ?_ ?_
 ·exact leGo trivial
 rintro k ⟨hk,hn⟩
 obtain⟨hw,h0⟩:=ZaM k
 by_cases h1:(k:Int)<a.length
 ·obtain⟨x,hx⟩:=getE (l:=a) (k:=k) (by omega)
  obtain⟨y,hy⟩:=getE (l:=b) (k:=k) (by omega)
  by_cases h2:x=y
  ·have h2':(x !=y)=false:=by simp[h2]
   have hn2:a.take (k+1)=b.take (k+1):=by rw[Yb4,Yb4,hx,hy,hn,h2]
   refine aGo (cj4 hres h0 h1 (cj4 hx hy hw h2')) ?_
   repeat with_reducible intro K hK
   exact Zac (k+1) ⟨by omega,hn2⟩ (by omega) (by exact leGo trivial)
  ·have h2':(x !=y)=true:=by simpa using h2
   have hf:(a==b)=false:=by
    simp
    intro e
    subst e
    rw[hx]at hy
    exact h2 (Option.some.inj hy)
   refine aGo (cj4 hres h0 h1 (cj3 hx hy h2')) ?_
   repeat with_reducible intro K hK
   exact Zai hf.symm
 ·have hf:(a==b)=true:=by
   rw[Ya8 (by omega),Ya8 (by omega)]at hn
   simpa using hn
  refine aGo (cj2 hres h1) ?_
  repeat with_reducible intro K hK
  exact Zai hf.symm
def ZdA(e:EvD)(mv m:Int):Bool :=
 !(decide (e.m>m)||(decide (e.h>6)||(decide (e.s>6)||decide ((e.pl.length:Int)>12))))&&(decide ((e.mv.length:Int)≤mv)&&(decide ((e.ce.length:Int)≤10)&&(decide ((e.re.length:Int)≤4)&&decide ((e.pu.length:Int)≤6))))
theorem ZvF(e:EvD)(mv m:Int):Zaa Tryz.prog 29 [Zio e,dI mv,dI m] (dB (ZdA e mv m)):=by
 have hres:=Tryz.results29
 refine inN Tryz.func29 rfl Tryz.ntmps29 fun I=>?_
 obtain⟨b,hb⟩:∃ b,ZdA e mv m=b:=⟨_,rfl⟩
 rw[hb]
 by_cases h1:e.m>m
 ·refine aGo (cj2 hres h1) ?_
  repeat with_reducible intro K hK
  exact Zai (by rw[← hb];simp[ZdA,h1])
 by_cases h2:e.h>6
 ·refine aGo (cj3 hres h1 h2) ?_
  repeat with_reducible intro K hK
  exact Zai (by rw[← hb];simp[ZdA,h2])
 by_cases h3:e.s>6
 ·refine aGo (cj4 hres h1 h2 h3) ?_
  repeat with_reducible intro K hK
  exact Zai (by rw[← hb];simp[ZdA,h3])
 by_cases h4:(e.pl.length:Int)>12
 ·refine aGo (cj4 hres h1 h2 (cj2 h3 h4)) ?_
  repeat with_reducible intro K hK
  exact Zai (by rw[← hb];have:decide ((e.pl.length:Int)>12)=true:=decide_eq_true h4;simp only[ZdA,this,Bool.or_true,Bool.not_true,Bool.false_and])
 have g4:(decide (e.m>m)||(decide (e.h>6)||(decide (e.s>6)||decide ((e.pl.length:Int)>12))))=false:=by rw[decide_eq_false h1,decide_eq_false h2,decide_eq_false h3,decide_eq_false h4];rfl
 by_cases h5:(e.mv.length:Int)≤mv
 rotate_left
 ·refine aGo (cj4 hres h1 h2 (cj3 h3 h4 h5)) ?_
  repeat with_reducible intro K hK
  exact Zai (by rw[← hb];unfold ZdA;rw[g4,decide_eq_false h5];rfl)
 by_cases h6:(e.ce.length:Int)≤10
 rotate_left
 ·refine aGo (cj4 hres h1 h2 (cj4 h3 h4 h5 h6)) ?_
  repeat with_reducible intro K hK
  exact Zai (by rw[← hb];unfold ZdA;rw[g4,decide_eq_true h5,decide_eq_false h6];rfl)
 by_cases h7:(e.re.length:Int)≤4
 rotate_left
 ·refine aGo (cj4 hres h1 h2 (cj4 h3 h4 h5 (cj2 h6 h7))) ?_
  repeat with_reducible intro K hK
  exact Zai (by rw[← hb];unfold ZdA;rw[g4,decide_eq_true h5,decide_eq_true h6,decide_eq_false h7];rfl)
 refine aGo (cj4 hres h1 h2 (cj4 h3 h4 h5 (cj2 h6 h7))) ?_
 repeat with_reducible intro K hK
 exact Zai (by rw[← hb];unfold ZdA;rw[g4,decide_eq_true h5,decide_eq_true h6,decide_eq_true h7];rfl)
def ZfQ(t:TrD)(mv:Int):Bool:=ZdA t.e mv 3&&(decide (t.e.h≤4)&&(decide ((t.fi.length:Int)≤6)&&decide ((t.cl.length:Int)≤6)))
theorem ZvE(t:TrD)(mv:Int):Zaa Tryz.prog 6 [ZbC t,dI mv] (dB (ZfQ t mv)):=by
 have hres:=Tryz.results6
 have k:=ZvF t.e mv 3
 obtain⟨b,hb⟩:∃ b,ZfQ t mv=b:=⟨_,rfl⟩
 rw[hb]
 refine inN Tryz.func6 rfl Tryz.ntmps6 fun I=>?_
 cases h1:ZdA t.e mv 3
 ·rw[h1]at k
  refine aGo hres ?_
  repeat with_reducible intro K hK
  exact Zai (by rw[← hb];unfold ZfQ;rw[h1];rfl)
 rw[h1]at k
 by_cases h2:t.e.h≤4
 rotate_left
 ·refine aGo (cj2 hres h2) ?_
  repeat with_reducible intro K hK
  exact Zai (by rw[← hb];unfold ZfQ;rw[h1,decide_eq_false h2];rfl)
 by_cases h3:(t.fi.length:Int)≤6
 rotate_left
 ·refine aGo (cj3 hres h2 h3) ?_
  repeat with_reducible intro K hK
  exact Zai (by rw[← hb];unfold ZfQ;rw[h1,decide_eq_true h2,decide_eq_false h3];rfl)
 refine aGo (cj3 hres h2 h3) ?_
 repeat with_reducible intro K hK
 exact Zai (by rw[← hb];unfold ZfQ;rw[h1,decide_eq_true h2,decide_eq_true h3];rfl)
def ZgY(t:TrD)(kind:Int)(z:Rat)(i:Nat):Int :=
 if (hiI t.e (mvAt t.e i)).2=true∧qOf (hiI t.e (mvAt t.e i)).1<z then 20
 else if ((finK t kind i).any fun g=>decide (z<(g:Rat)))=true then 24
 else if 0<cleK t kind i∧z≠0 then 13 else 0
def ZnV(t:TrD)(kind:Int)(z:List FracD)(i:Nat):Int :=
 if atP z (i:Nat)<0 then 3
 else if ZbK t.e i=false∧stN t.e (fun j=>atP z (j:Nat)) (mvAt t.e i).f i<atP z (i:Nat)then 4
 else if (mvAt t.e i).a=true∧atP z (i:Nat)≠stN t.e (fun j=>atP z (j:Nat)) (mvAt t.e i).f i then 7
 else ZgY t kind (atP z (i:Nat)) i
def ZgL(f:Nat→Int):Nat→Nat→Int
 | 0,_=>0
 | k+1,i=>if f i=0 then ZgL f k (i+1)else f i
def Zia(t:TrD)(kind:Int)(z:List FracD):Int :=
 if ZaZ t=0∧Zdk kind=true then(if z.length=t.e.mv.length∧okP z=true then ZgL (ZnV t kind z) t.e.mv.length 0 else 2)else 1
theorem Zm6(f:Nat→Int):∀ k i,ZgL f k i=0↔∀ j,i≤j→j<i+k→f j=0
 | 0,i=>⟨fun _ j h1 h2=>by omega,fun _=>rfl⟩
 | k+1,i=>by
   unfold ZgL
   by_cases h:f i=0
   ·rw[if_pos h,Zm6 f k (i+1)]
    constructor
    ·intro a j h1 h2
     by_cases e:j=i
     ·subst e;exact h
     ·exact a j (by omega) (by omega)
    ·intro a j h1 h2
     exact a j (by omega) (by omega)
   ·rw[if_neg h]
    exact⟨fun e=>absurd e h,fun a=>absurd (a i (Ya4 _) (by omega)) h⟩
theorem Zf3{t:TrD}{kind:Int}{z:Rat}{i:Nat}:ZgY t kind z i=0↔((hiI t.e (mvAt t.e i)).2=true→z≤qOf (hiI t.e (mvAt t.e i)).1)∧(∀ g∈finK t kind i,(g:Rat)≤z)∧(0<cleK t kind i→z=0):=by
 unfold ZgY
 by_cases h1:(hiI t.e (mvAt t.e i)).2=true∧qOf (hiI t.e (mvAt t.e i)).1<z
 ·rw[if_pos h1]
  refine⟨fun h=>absurd h (by decide),fun⟨a,_⟩=>?_⟩
  have:=a h1.1
  have:=h1.2
  exfalso;grind
 rw[if_neg h1]
 by_cases h2:((finK t kind i).any fun g=>decide (z<(g:Rat)))=true
 ·rw[if_pos h2]
  refine⟨fun h=>absurd h (by decide),fun⟨_,a,_⟩=>?_⟩
  rw[List.any_eq_true]at h2
  obtain⟨g,hg,h⟩:=h2
  have:=a g hg
  simp only[decide_eq_true_eq]at h
  exfalso;grind
 rw[if_neg h2]
 have h2':∀ g∈finK t kind i,(g:Rat)≤z:=fun g hg=>by
  rw[List.any_eq_true]at h2
  have:¬ z<(g:Rat):=fun h=>h2 ⟨g,hg,by simpa using h⟩
  grind
 have h1':(hiI t.e (mvAt t.e i)).2=true→z≤qOf (hiI t.e (mvAt t.e i)).1:=fun h=>by
  have:¬ qOf (hiI t.e (mvAt t.e i)).1<z:=fun h3=>h1 ⟨h,h3⟩
  grind
 by_cases h3:0<cleK t kind i∧z≠0
 ·rw[if_pos h3]
  exact⟨fun h=>absurd h (by decide),fun⟨_,_,a⟩=>absurd (a h3.1) h3.2⟩
 ·rw[if_neg h3]
  refine⟨fun _=>⟨h1',h2',fun h=>?_⟩,fun _=>rfl⟩
  by_cases hz:z=0
  ·exact hz
  ·exact absurd ⟨h,hz⟩ h3
theorem ZpA{t:TrD}{kind:Int}{z:List FracD}{i:Nat}(hb:ZbK t.e i=true→(mvAt t.e i).a=false):ZnV t kind z i=0↔0≤atP z (i:Nat)∧(ZbK t.e i=false→atP z (i:Nat)≤stN t.e (fun j=>atP z (j:Nat)) (mvAt t.e i).f i)∧(ZbK t.e i=false→(mvAt t.e i).a=true→atP z (i:Nat)=stN t.e (fun j=>atP z (j:Nat)) (mvAt t.e i).f i)∧ZgY t kind (atP z (i:Nat)) i=0:=by
 unfold ZnV
 by_cases h1:atP z (i:Nat)<0
 ·rw[if_pos h1]
  exact⟨fun h=>absurd h (by decide),fun⟨a,_⟩=>by exfalso;grind⟩
 rw[if_neg h1]
 have h1':0≤atP z (i:Nat):=by grind
 by_cases h2:ZbK t.e i=false∧stN t.e (fun j=>atP z (j:Nat)) (mvAt t.e i).f i<atP z (i:Nat)
 ·rw[if_pos h2]
  exact⟨fun h=>absurd h (by decide),fun⟨_,a,_⟩=>by have:=a h2.1;have:=h2.2;exfalso;grind⟩
 rw[if_neg h2]
 have h2':ZbK t.e i=false→atP z (i:Nat)≤stN t.e (fun j=>atP z (j:Nat)) (mvAt t.e i).f i:=fun h=>by
  have:¬ stN t.e (fun j=>atP z (j:Nat)) (mvAt t.e i).f i<atP z (i:Nat):=fun h3=>h2 ⟨h,h3⟩
  grind
 by_cases h3:(mvAt t.e i).a=true∧atP z (i:Nat)≠stN t.e (fun j=>atP z (j:Nat)) (mvAt t.e i).f i
 ·rw[if_pos h3]
  refine⟨fun h=>absurd h (by decide),fun⟨_,_,a,_⟩=>?_⟩
  cases hbin:ZbK t.e i
  ·exact absurd (a hbin h3.1) h3.2
  ·have:=hb hbin
   rw[h3.1]at this;cases this
 ·rw[if_neg h3]
  refine⟨fun h=>⟨h1',h2',fun _ ha=>?_,h⟩,fun h=>h.2.2.2⟩
  by_cases e:atP z (i:Nat)=stN t.e (fun j=>atP z (j:Nat)) (mvAt t.e i).f i
  ·exact e
  ·exact absurd ⟨ha,e⟩ h3
theorem ZmT{t:TrD}{kind:Int}{z:List FracD}:Zia t kind z=0↔ZaZ t=0∧Zdk kind=true∧Zal (sysT t kind) z=true:=by
 unfold Zia
 by_cases h1:ZaZ t=0∧Zdk kind=true
 ·rw[if_pos h1]
  have R:=Zby h1.1
  rw[ZcN (ZaU R kind)]
  have hb:∀ i,i<t.e.mv.length→ZbK t.e i=true→(mvAt t.e i).a=false:=fun i hi h=>(R.e.mvOk hi).bin (by unfold ZbK at h;simpa using h)
  by_cases h2:z.length=t.e.mv.length∧okP z=true
  ·rw[if_pos h2,Zm6]
   constructor
   ·intro h
    have hm:∀ i,i<t.e.mv.length→_:=fun i hi=>(ZpA (hb i hi)).1 (h i (Yb0 _) (by omega))
    exact⟨h1.1,h1.2,h2.1,h2.2,fun i hi=>(hm i hi).1,fun i hi=>(hm i hi).2.1,fun i hi=>(hm i hi).2.2.1,fun i hi=>(Zf3.1 (hm i hi).2.2.2).1,fun i hi=>(Zf3.1 (hm i hi).2.2.2).2.1,fun i hi=>(Zf3.1 (hm i hi).2.2.2).2.2⟩
   ·rintro⟨_,_,_,_,S⟩ j _ hj
    have hj:j<t.e.mv.length:=by omega
    exact(ZpA (hb j hj)).2 ⟨S.pos j hj,S.st j hj,S.all j hj,Zf3.2 ⟨S.cap j hj,S.fin j hj,S.cle j hj⟩⟩
  ·rw[if_neg h2]
   exact⟨fun h=>absurd h (by decide),fun⟨_,_,a,b,_⟩=>absurd ⟨a,b⟩ h2⟩
 ·rw[if_neg h1]
  exact⟨fun h=>absurd h (by decide),fun⟨a,b,_⟩=>absurd ⟨a,b⟩ h1⟩
def outF(t:TrD)(kind:Int)(v:Nat):TrD:={t with fi:=t.fi++[⟨v,kind,1⟩]}
def outC(t:TrD)(kind:Int)(v:Nat):TrD:={t with cl:=t.cl++[⟨v,kind⟩]}
noncomputable def lenE (x:List (List Int)×Int):Nat:=if x.2=0 then x.1.length else 0
noncomputable def ZdO (t:TrD) (kind:Int) (v:Nat):Nat :=
 if max (lenE (ZaJ (outF t kind v) kind)) (lenE (ZaJ (outC t kind v) kind))=0 then(ZaJ t kind).1.length else max (lenE (ZaJ (outF t kind v) kind)) (lenE (ZaJ (outC t kind v) kind))
theorem ZBL{t:TrD}{kind:Int}{v:Nat}(h:(ZaJ (outF t kind v) kind).2=0):(ZaJ (outF t kind v) kind).1.length≤ZdO t kind v:=by
 have:lenE (ZaJ (outF t kind v) kind)=(ZaJ (outF t kind v) kind).1.length:=by unfold lenE;rw[if_pos h]
 unfold ZdO
 split<;>omega
theorem ZBM{t:TrD}{kind:Int}{v:Nat}(h:(ZaJ (outC t kind v) kind).2=0):(ZaJ (outC t kind v) kind).1.length≤ZdO t kind v:=by
 have:lenE (ZaJ (outC t kind v) kind)=(ZaJ (outC t kind v) kind).1.length:=by unfold lenE;rw[if_pos h]
 unfold ZdO
 split<;>omega
noncomputable def ZjT (t:TrD) (kind:Int):Nat→Nat
 | 0=>0
 | n+1=>if ZdO t kind (n+1)<ZdO t kind (ZjT t kind n)then n+1 else ZjT t kind n
theorem Zyi(t:TrD)(kind:Int):∀ n,ZjT t kind n≤n
 | 0=>Ya4 _
 | n+1=>by
   have:=Zyi t kind n
   unfold ZjT
   split<;>omega
structure SmT (t:TrD):Prop where
 n:t.e.mv.length≤4
 h:t.e.h≤3
 fi:t.fi.length≤8
 cl:t.cl.length≤8
section
variable {t:TrD} (R:RightTr t) {kind:Int} (hk:Zdk kind=true) (sm:SmT t) {z:List FracD} (hz:Zal (sysT t kind) z=true)
include R sm
theorem SmT.big:2*t.e.mv.length+t.fi.length+t.cl.length+t.e.h.toNat*t.e.mv.length≤6000:=by
 obtain⟨a,b,c,d⟩:=sm
 have h0:=R.e.h.1
 have:t.e.h.toNat*t.e.mv.length≤3*4:=Nat.mul_le_mul (by omega) a
 omega
end
theorem ZhT{t:TrD}{kind:Int}(ht:ZaZ t=0)(hk:Zdk kind=true){z:List FracD}(hz:Zal (sysT t kind) z=true):ZbL t kind=((Zed t.e).map (fun(h:Nat)=>ZcL (sysT t kind) (ZbW t.e h) h),0):=by
 unfold ZbL
 rw[if_pos ⟨ht,hk⟩]
 rcases Zno (ZaU (Zby ht) kind)with⟨h,_⟩|⟨_,h⟩
 ·rw[h,if_pos rfl]
 ·rw[h]at hz;cases hz
theorem ZBv{t:TrD}{kind:Int}(ht:ZaZ t=0)(hk:Zdk kind=true)(sm:SmT t){z:List FracD}(hz:Zal (sysT t kind) z=true):(ZhW t kind).2=0:=by
 unfold ZhW
 rw[ZhT ht hk hz]
 simp only[if_true]
 have:=Yb1 (fun v:VerD=>v.s !=0) ((Zed t.e).map (fun(h:Nat)=>ZcL (sysT t kind) (ZbW t.e h) h))
 have h3:=sm.h
 simp only[List.length_map,Zed,List.length_range]at this
 rw[if_neg (by unfold Zed;omega)]
theorem ZxA{t:TrD}{kind:Int}(ht:ZaZ t=0)(hk:Zdk kind=true)(sm:SmT t){z:List FracD}(hz:Zal (sysT t kind) z=true):(ZaJ t kind).2=0:=by
 unfold ZaJ
 rw[ZBv ht hk sm hz,if_pos rfl]
def Zgq(e:EvD)(z:List FracD)(h:Nat):Bool:=(ownL e h).any fun i=>decide (0<atP z (i:Nat))
def ZcX(e:EvD)(z:List FracD):List Nat:=(Zed e).filter (Zgq e z)
theorem ZlJ{h:Int}(p:Nat→Bool):∀ (k a:Nat)(last:Int),last<a→((a+k:Nat):Int)≤h→ZhO h last (((List.range' a k).filter p).map fun(x:Nat)=>(x:Int))=true
 | 0,_,_,_,_=>rfl
 | k+1,a,last,h1,h2=>by
   rw[List.range'_succ,List.filter_cons]
   have ih:=ZlJ (h:=h) p k (a+1)
   split
   ·rw[List.map_cons]
    unfold ZhO
    rw[decide_eq_true h1,decide_eq_true (by omega),ih a (by omega) (by omega)];rfl
   ·exact ih last (by omega) (by omega)
theorem ZoY{t:TrD}{kind:Int}(ht:ZaZ t=0)(hk:Zdk kind=true)(sm:SmT t){z:List FracD}(hz:Zal (sysT t kind) z=true):ZgM t kind ((ZcX t.e z).map fun(x:Nat)=>(x:Int))=true:=by
 have R:=Zby ht
 unfold ZgM
 rw[ht,hk]
 have h1:ZhO t.e.h (-1) ((ZcX t.e z).map fun(x:Nat)=>(x:Int))=true:=by
  unfold ZcX Zed
  rw[List.range_eq_range']
  exact ZlJ _ _ _ _ (by omega) (by have:=R.e.h.1;omega)
 rw[h1]
 have h2:ZfD t kind ((ZcX t.e z).map fun(x:Nat)=>(x:Int))=true:=by
  rw[Zta R (SmT.big R sm)]
  refine⟨z,hz,fun h hh hs i hi=>?_⟩
  have S:=((ZcN (ZaU R kind)).1 hz).2.2
  have h0:0≤atP z (i:Nat):=S.pos i (ZlA.1 hi).1
  by_cases hp:0<atP z (i:Nat)
  ·exfalso
   have:h∈ZcX t.e z:=List.mem_filter.2 ⟨List.mem_range.2 hh,List.any_eq_true.2 ⟨i,hi,by simpa using hp⟩⟩
   have:((ZcX t.e z).map fun(x:Nat)=>(x:Int)).contains (h:Int)=true:=List.contains_iff_mem.2 (List.mem_map.2 ⟨h,this,rfl⟩)
   rw[this]at hs;cases hs
  ·grind
 rw[h2];rfl
theorem Zit{t u:TrD}{kind:Int}(ht:ZaZ t=0)(hu:ZaZ u=0)(he:u.e=t.e)(hs:∀ x,Zal (sysT u kind) x=true→Zal (sysT t kind) x=true){z:List FracD}(hz:Zal (sysT u kind) z=true)(h:Nat)(h1:(ZcL (sysT t kind) (ZbW t.e h) h).s≠1):(ZcL (sysT u kind) (ZbW u.e h) h).s=(ZcL (sysT t kind) (ZbW t.e h) h).s:=by
 have R:=Zby ht
 have Ru:=Zby hu
 have n0:∀ {t:TrD} (R:RightTr t) x,Zal (sysT t kind) x=true→0≤atG x (ZbW t.e h):=fun R x hx=>(ZpS ((ZcN (ZaU R kind)).1 hx).2.2.pos).1
 obtain⟨a,b,c,_⟩:=Ziu (h:=h) (ZaU R kind) (g:=ZbW t.e h) (ZeG t.e h) ⟨z,hs z hz⟩ (n0 R)
 obtain⟨a',b',_⟩:=Ziu (h:=h) (ZaU Ru kind) (g:=ZbW u.e h) (ZeG u.e h) ⟨z,hz⟩ (n0 Ru)
 rw[he]at a' b' ⊢
 rcases c with c|c|c
 ·rw[c];exact b'.2 fun x hx=>b.1 c x (hs x hx)
 ·exact absurd c h1
 ·rw[c];exact a'.2 fun x hx=>a.1 c x (hs x hx)
theorem ZpW{e:EvD}{x:FiD}(h1:ZeC e x.v x.k=0)(h2:¬ (x.g<1∨x.g>1099511627776)):∀ l:List FiD,Zdc e l=0→Zdc e (l++[x])=0
 | [],_=>by show Zdc e [x]=0;unfold Zdc;rw[if_pos h1,if_neg h2];rfl
 | y ::l,h=>by
   rw[List.cons_append]
   unfold Zdc at h ⊢
   split at h
   ·rename_i h3
    rw[if_pos h3]
    split at h
    ·omega
    ·rename_i h4
     rw[if_neg h4]
     exact ZpW h1 h2 l h
   ·rename_i h3;exact absurd h h3
theorem Zne{e:EvD}{x:ClD}(h1:ZeC e x.v x.k=0):∀ l:List ClD,ZcP e l=0→ZcP e (l++[x])=0
 | [],_=>by show ZcP e [x]=0;unfold ZcP;rw[if_pos h1];rfl
 | y ::l,h=>by
   rw[List.cons_append]
   unfold ZcP at h ⊢
   split at h
   ·rename_i h3
    rw[if_pos h3]
    exact Zne h1 l h
   ·rename_i h3;exact absurd h h3
theorem ZfO{t:TrD}(h:ZaZ t=0):Zgg t.e=0∧Zdc t.e t.fi=0∧ZcP t.e t.cl=0:=by
 unfold ZaZ at h
 split at h
 ·rename_i h1
  split at h
  ·omega
  ·split at h
   ·rename_i h3;exact⟨h1,h3,h⟩
   ·rename_i h3;exact absurd h h3
 ·rename_i h1;exact absurd h h1
theorem ZpD{e:EvD}{v:Nat}{kind:Int}(hv:v<e.mv.length)(hk:Zdk kind=true):ZeC e v kind=0:=by
 simp only[Zdk,Ya2,decide_eq_true_eq]at hk
 unfold ZeC
 rw[if_neg (by omega),if_neg (by omega)]
section
variable {t:TrD} {kind:Int} (ht:ZaZ t=0) (hk:Zdk kind=true) {v:Nat} (hv:v<t.e.mv.length)
include ht hk hv
theorem ZmH(h:t.fi.length<20):ZaZ (outF t kind v)=0:=by
 obtain⟨a,b,c⟩:=ZfO ht
 have R:=Zby ht
 have:=R.lc
 unfold ZaZ
 rw[if_pos (show Zgg (outF t kind v).e=0 from a),if_neg (by simp only[outF,List.length_append,List.length_singleton];omega),if_pos (show Zdc (outF t kind v).e (outF t kind v).fi=0 from ZpW (ZpD hv hk) (by simp only;omega) _ b)]
 exact c
theorem ZmJ(h:t.cl.length<50):ZaZ (outC t kind v)=0:=by
 obtain⟨a,b,c⟩:=ZfO ht
 have R:=Zby ht
 have:=R.lf
 unfold ZaZ
 rw[if_pos (show Zgg (outC t kind v).e=0 from a),if_neg (by simp only[outC,List.length_append,List.length_singleton];omega),if_pos (show Zdc (outC t kind v).e (outC t kind v).fi=0 from b)]
 exact Zne (ZpD hv hk) _ c
omit ht hk hv in
theorem Zoi(i:Nat):finK (outF t kind v) kind i=finK t kind i++(if v=i then [1]else []):=by
 unfold finK outF
 rw[List.filter_append,List.map_append]
 refine congrArg _ ?_
 by_cases h:v=i
 ·subst h;simp
 ·rw[if_neg h]
  have:((v:Int)==(i:Int))=false:=by simp;omega
  simp[this]
omit ht hk hv in
theorem Zoz(i:Nat):cleK (outC t kind v) kind i=cleK t kind i+(if v=i then 1 else 0):=by
 unfold cleK outC
 rw[List.filter_append,List.length_append]
 refine congrArg _ ?_
 by_cases h:v=i
 ·subst h;simp
 ·rw[if_neg h]
  have:((v:Int)==(i:Int))=false:=by simp;omega
  simp[this]
theorem ZmI(h:t.fi.length<20){x:List FracD}:Zal (sysT (outF t kind v) kind) x=true↔Zal (sysT t kind) x=true∧1≤atP x (v:Nat):=by
 rw[ZcN (ZaU (Zby (ZmH ht hk hv h)) kind),ZcN (ZaU (Zby ht) kind)]
 constructor
 ·rintro⟨a,b,S⟩
  refine⟨⟨a,b,S.pos,S.st,S.all,S.cap,fun i hi g hg=>S.fin i hi g (by rw[Zoi];exact List.mem_append_left _ hg),S.cle⟩,?_⟩
  have:=S.fin v hv 1 (by rw[Zoi,if_pos rfl];exact List.mem_append_right _ Yb7)
  exact this
 ·rintro⟨⟨a,b,S⟩,h1⟩
  refine⟨a,b,S.pos,S.st,S.all,S.cap,fun i hi g hg=>?_,S.cle⟩
  rw[Zoi]at hg
  rcases List.mem_append.1 hg with hg|hg
  ·exact S.fin i hi g hg
  ·split at hg
   ·rename_i e
    rw[List.mem_singleton.1 hg,← e];exact h1
   ·cases hg
theorem ZmK(h:t.cl.length<50){x:List FracD}:Zal (sysT (outC t kind v) kind) x=true↔Zal (sysT t kind) x=true∧atP x (v:Nat)=0:=by
 rw[ZcN (ZaU (Zby (ZmJ ht hk hv h)) kind),ZcN (ZaU (Zby ht) kind)]
 constructor
 ·rintro⟨a,b,S⟩
  refine⟨⟨a,b,S.pos,S.st,S.all,S.cap,S.fin,fun i hi hc=>S.cle i hi (by rw[Zoz];omega)⟩,?_⟩
  exact S.cle v hv (by rw[Zoz,if_pos rfl];omega)
 ·rintro⟨⟨a,b,S⟩,h1⟩
  refine⟨a,b,S.pos,S.st,S.all,S.cap,S.fin,fun i hi hc=>?_⟩
  rw[Zoz]at hc
  by_cases e:v=i
  ·subst e;exact h1
  ·rw[if_neg e]at hc;exact S.cle i hi (by omega)
end
structure TrOk (t:TrD):Prop where
 R:RightTr t
 ta:ZaZ t=0
 L:LenT t
 S:SmE t
 b:3*t.e.mv.length+t.fi.length+t.cl.length≤32
section
variable {t:TrD} (h:TrOk t)
include h
theorem TrOk.flow:Zgg t.e=0:=(ZfO h.ta).1
theorem TrOk.mvf:∀ x∈t.e.mv,0≤x.f∧x.f<t.e.pl.length:=fun x hx=>(h.R.e.mv x hx).f
theorem TrOk.rows(kind:Int):(sysT t kind).r.length≤28∧∀ w∈(sysT t kind).r,RowZ w:=by
 have h1:=h.S.n
 have h2:=h.S.fi
 have h3:=h.S.cl
 have h4:=Zg9 t kind
 exact⟨by show(ZbS t kind t.e.mv.length).length≤28;omega,fun w hw=>ZvT h.R (by omega) hw⟩
theorem TrOk.fitG(kind:Int)(g:List TermD)(K:Nat)(hg:Zah g t.e.mv.length=true)(hk:IntK K g)(hK:K≤1000000):FitG (sysT t kind) g :=
 Zrq h.S.n (by have:=(h.rows kind).1;have e:(sysT t kind).r=ZbS t kind t.e.mv.length:=rfl;rw[e]at this;omega) (h.rows kind).2 (ZaU h.R kind) hg hk hK
theorem TrOk.fit0(kind:Int):Fit (sysT t kind) [] 4 6 :=
 ZA4 h.S.n (by have:=(h.rows kind).1;have e:(sysT t kind).r=ZbS t kind t.e.mv.length:=rfl;rw[e]at this;omega) (h.rows kind).2 ⟨by decide,fun t ht=>by cases ht⟩
theorem ZuB(e:EvD)(x:Int):IntK 1 (ZbW e x):=ZjM fun i=>by
 unfold ownH
 split
 ·exact .inr (.inl rfl)
 ·exact .inl rfl
theorem TrOk.verdict(kind:Int)(x:Int):Zaf Tryz.prog 42 [encS (sysT t kind),Zbh (ZbW t.e x),dI x] (.agg (cV (ZcL (sysT t kind) (ZbW t.e x) x))):=by
 have h1:=h.S.n
 have hr:=ZeG t.e x
 have hk:=ZuB (t:=t) h t.e x
 exact Zu7 _ _ _ (h.fitG kind _ 1 hr hk (by decide)) (h.fitG kind _ 1 (Zdj hr) (hk.opp hr (by omega)) (by decide)) (ZvG hr (by omega) hk (by decide))
theorem TrOk.goal{x:Int}(h0:0≤x)(hx:x<t.e.h):Zaa Tryz.prog 43 [ZbC t,dI x] (Zbh (ZbW t.e x)):=ZEr t h.R h.ta h.L h.mvf h.flow x h0 hx
theorem TrOk.sys{kind:Int}(hk:Zdk kind=true):Zaf Tryz.prog 40 [ZbC t,dI kind] (.tup [encS (sysT t kind),dI 0]):=sys_c t h.R h.ta h.L kind hk
theorem TrOk.sol(kind:Int):Zaf Tryz.prog 41 [encS (sysT t kind)] (.tup [ZaQ (solD (sysT t kind)).1,ZaQ (solD (sysT t kind)).2.1,dB (solD (sysT t kind)).2.2]):=Zmq _ (h.fit0 kind)
theorem Zg0{kind:Int}(hk:Zdk kind=true):Zaf Tryz.prog 9 [ZbC t,dI kind] (.tup [ZAf (ZbL t kind).1,dI (ZbL t kind).2]):=by
 have hres:=Tryz.results9
 have k1:=h.sys hk
 have k2:=h.sol kind
 have hh:=h.R.e.h
 have hs6:=h.S.h
 unfold ZbL
 rw[if_pos ⟨h.ta,hk⟩]
 have kg:=fun(x:Nat) (hx:(x:Int)<t.e.h)=>h.goal (x:=x) (by omega) hx
 have kv:=fun(x:Nat)=>h.verdict kind x
 obtain⟨s,es⟩:∃ s,sysT t kind=s:=⟨_,rfl⟩
 rw[es]at k1 k2 kv ⊢
 clear es
 obtain⟨p,ep⟩:∃ p,solD s=p:=⟨_,rfl⟩
 rw[ep]at k2 ⊢
 clear ep
 obtain⟨a,b,c⟩:=p
 simp only at k2 ⊢
 refine inC Tryz.func9 rfl Tryz.ntmps9 ?_
 cases c
 ·refine aGo hres ?_
  repeat with_reducible intro K hK
  rfl
 rw[if_pos rfl]
 refine aGo hres ?_
 repeat with_reducible intro K hK
 refine aLe (ZcT 11 58 5 rfl) ?_
 simp only[go_sem]
 obtain⟨A,eA⟩:∃ A:Nat→List VerD,A=fun k=>(List.range k).map fun(x:Nat)=>ZcL s (ZbW t.e x) x:=⟨_,rfl⟩
 have A0:A 0=[]:=by rw[eA];rfl
 have Al:∀ k,(A k).length=k:=fun k=>by rw[eA];simp
 have AN:∀ k,A (k+1)=A k++[ZcL s (ZbW t.e k) k]:=fun k=>by rw[eA];simp only;rw[List.range_succ];simp
 have AE:A t.e.h.toNat=(Zed t.e).map fun(x:Nat)=>ZcL s (ZbW t.e x) x:=by rw[eA];rfl
 obtain⟨H,eH⟩:∃ H:Nat,t.e.h.toNat=H:=⟨_,rfl⟩
 have eH2:t.e.h=(H:Int):=by omega
 rw[eH2]at kg
 rw[eH]at AE
 clear eA
 refine Zat (fun(k:Nat)=>[(2,.lp 0 0 0 0),(6,.lp 1 0 0 0),(11,.ls 2 k),(31,dI t.e.h),(32,dI k)]) (fun k=>[(0,⟨32,0,10,[cTr t],0,false⟩),(1,⟨99,0,2,[cS s],0,false⟩),(2,⟨58,k,5,(A k).map cV,0,false⟩)]) 3 0 (fun k=>k≤H) (fun k=>H-k) 0 (by omega) ?_ ?_
 ·refine Zag _ _ _ ?_ ?_ ?_ ?_ ?_ (.inl rfl)<;>simp[go_sem,okD,okDs,Zap,A0]
 rintro k hk
 obtain⟨hw,k0⟩:=ZaM k
 by_cases h2:(k:Int)<t.e.h
 ·have q1:=kg k (by omega)
  have q2:=kv k
  have eN:=AN k
  have la:=Al k
  generalize ZcL s (ZbW t.e k) k=v at *
  generalize ZbW t.e k=g at *
  generalize A k=B at *
  refine aGo (cj4 hres k0 h2 (cj2 la hw)) ?_
  repeat with_reducible intro K hK
  exact Zac (k+1) (by omega) (by omega) (by refine Zag _ _ _ ?_ ?_ ?_ ?_ ?_ (.inl rfl)<;>simp[go_sem,okD,okDs,Zap,eN]<;>(rintro e (⟨a,_,rfl⟩|rfl)<;>rfl))
 obtain rfl:k=H:=by omega
 refine aGo (cj2 hres h2) ?_
 repeat with_reducible intro K hK
 rw[Zan (fun _=>rfl),AE]
def suV(v:VerD):Bool:=v.s !=0
def suA(l:List VerD)(k:Nat):List Int:=((l.take k).filter suV).map VerD.h
theorem ZtO{kind:Int}(hk:Zdk kind=true):Zaf Tryz.prog 99 [ZbC t,dI kind] (.tup [Zab (ZhW t kind).1,dI (ZhW t kind).2]):=by
 have hres:=Tryz.results99
 have k1:=Zg0 h hk
 have hh:=h.R.e.h
 have hs6:=h.S.h
 have ll:(ZbL t kind).1.length≤6:=by
  unfold ZbL
  split
  ·split
   ·simp[Zed];omega
   ·simp
  ·simp
 unfold ZhW
 generalize ZbL t kind=V at *
 obtain⟨l,e⟩:=V
 simp only at k1 ll ⊢
 refine inC Tryz.func99 rfl Tryz.ntmps99 ?_
 by_cases he:e=0
 rotate_left
 ·have he':(e !=0)=true:=by simpa using he
  rw[if_neg he]
  refine aGo (cj2 hres he') ?_
  repeat with_reducible intro K hK
  rfl
 subst he
 rw[if_pos rfl,if_neg (by have:=Yb1 (fun v:VerD=>v.s !=0) l;omega)]
 refine aGo hres ?_
 repeat with_reducible intro K hK
 refine aLe (ZcT 8 3 1 rfl) ?_
 simp only[go_sem]
 refine Zat (fun(k:Nat)=>[(8,.ls 1 (suA l k).length),(20,ZAf l),(21,dI l.length),(22,dI k)]) (fun k=>[(1,⟨3,(suA l k).length,1,(suA l k).map fun x=>[dI x],0,false⟩)]) 2 0 (fun k=>k≤l.length) (fun k=>l.length-k) 0 (by omega) ?_ ?_
 ·have e0:suA l 0=[]:=rfl
  refine Zag _ _ _ ?_ ?_ ?_ ?_ ?_ (.inl rfl)<;>simp[go_sem,okD,okDs,Zap,e0]
 rintro k hk
 obtain⟨hw,k0⟩:=ZaM k
 by_cases h2:(k:Int)<l.length
 ·obtain⟨v,hx⟩:=getE (l:=l) (k:=k) (by omega)
  have eN:suA l (k+1)=suA l k++if suV v then [v.h]else []:=by
   unfold suA
   rw[Yb4,hx,List.filter_append,List.map_append]
   cases hv:suV v<;>simp[hv]
  have la:(suA l k).length≤k:=by
   unfold suA
   rw[List.length_map]
   refine Nat.le_trans (Yb1 _ _) ?_
   rw[List.length_take];omega
  have ev:suV v=(v.s !=0):=rfl
  cases hv:(v.s !=0)
  ·rw[ev,hv,if_neg Bool.false_ne_true,List.append_nil]at eN
   generalize suA l k=A at *
   refine aGo (cj4 hres k0 h2 (cj3 hx hv hw)) ?_
   repeat with_reducible intro K hK
   exact Zac (k+1) (by omega) (by omega) (by refine Zag _ _ _ ?_ ?_ ?_ ?_ ?_ (.inl rfl)<;>simp[go_sem,okD,okDs,Zap,eN])
  ·rw[ev,hv,if_pos rfl]at eN
   generalize suA l k=A at *
   refine aGo (cj4 hres k0 h2 (cj3 hx hv hw)) ?_
   repeat with_reducible intro K hK
   exact Zac (k+1) (by omega) (by omega) (by refine Zag _ _ _ ?_ ?_ ?_ ?_ ?_ (.inl rfl)<;>simp[go_sem,okD,okDs,Zap,eN]<;>(rintro e (⟨a,_,rfl⟩|rfl)<;>rfl))
 obtain rfl:k=l.length:=by omega
 have eA:suA l l.length=(l.filter fun v=>v.s !=0).map VerD.h:=by unfold suA;rw[List.take_length];rfl
 have la:(suA l l.length).length≤6:=by
  rw[eA,List.length_map]
  exact Nat.le_trans (Yb1 _ _) ll
 have h9:¬ ((suA l l.length).length:Int)>8:=by omega
 refine aGo (cj3 hres h2 h9) ?_
 repeat with_reducible intro K hK
 rw[Zan (fun _=>rfl),eA]
end
end Go.Proofs.YtjeaacindikplaaGreat
