/-
  The law TopSampled: what its rounds keep (plain).
-/
import Derived.Test.YtjeaacindikplaaGreatWLib
import Derived.Test.YtjeaacindikplaaGreatWT08
import Derived.Test.YtjeaacindikplaaGreatWT09
namespace Go.Proofs.YtjeaacindikplaaGreat
set_option linter.unusedVariables false
set_option linter.unusedSimpArgs false
set_option linter.unusedSectionVars false
open Go Go.RowKit
set_option maxRecDepth 100000
theorem Zw6{e:EvD}(R:RightE e):LenE e:=⟨by have:=R.lp;omega,by have:=R.lm;omega,by have:=R.lc;omega,by have:=R.lr;omega,by have:=R.lu;omega⟩
theorem Zrc{t:TrD}(R:RightTr t):LenT t:=⟨Zw6 R.e,by have:=R.lf;omega,by have:=R.lc;omega⟩
structure SmpOk (t:TrD) (kind:Int) (z:List FracD) (k:Nat):Prop where
 ta:ZaZ t=0
 n:t.e.mv.length≤4
 h:t.e.h≤3
 fi:t.fi.length≤6+k
 cl:t.cl.length≤6+k
 kd:Zdk kind=true
 hz:Zal (sysT t kind) z=true
section
variable {t:TrD} {kind:Int} {z:List FracD} {k:Nat} (S:SmpOk t kind z k)
include S
theorem SmpOk.ok(hk:k≤2):TrOk t:=by
 have R:=Zby S.ta
 have:=S.n
 have:=S.h
 have:=S.fi
 have:=S.cl
 exact⟨R,S.ta,Zrc R,⟨by omega,by omega,by omega,by omega⟩,by omega⟩
theorem SmpOk.sm(hk:k≤2):SmT t:=⟨S.n,S.h,by have:=S.fi;omega,by have:=S.cl;omega⟩
theorem SmpOk.taF{v:Nat}(hv:v<t.e.mv.length)(hk:k≤2):ZaZ (outF t kind v)=0:=ZmH S.ta S.kd hv (by have:=S.fi;omega)
theorem SmpOk.taC{v:Nat}(hv:v<t.e.mv.length)(hk:k≤2):ZaZ (outC t kind v)=0:=ZmJ S.ta S.kd hv (by have:=S.cl;omega)
theorem SmpOk.okF{v:Nat}(hv:v<t.e.mv.length)(hk:k≤1):TrOk (outF t kind v):=by
 have ta:=S.taF hv (by omega)
 have R:=Zby ta
 have:=S.n
 have:=S.h
 have:=S.fi
 have:=S.cl
 have e1:(outF t kind v).fi.length=t.fi.length+1:=by simp[outF]
 have e2:(outF t kind v).cl.length=t.cl.length:=rfl
 have e3:(outF t kind v).e=t.e:=rfl
 exact⟨R,ta,Zrc R,⟨by rw[e3];omega,by rw[e3];omega,by omega,by omega⟩,by rw[e3];omega⟩
theorem SmpOk.okC{v:Nat}(hv:v<t.e.mv.length)(hk:k≤1):TrOk (outC t kind v):=by
 have ta:=S.taC hv (by omega)
 have R:=Zby ta
 have:=S.n
 have:=S.h
 have:=S.fi
 have:=S.cl
 have e1:(outC t kind v).cl.length=t.cl.length+1:=by simp[outC]
 have e2:(outC t kind v).fi.length=t.fi.length:=rfl
 have e3:(outC t kind v).e=t.e:=rfl
 exact⟨R,ta,Zrc R,⟨by rw[e3];omega,by rw[e3];omega,by omega,by omega⟩,by rw[e3];omega⟩
theorem SmpOk.nextF{v:Nat}(hv:v<t.e.mv.length)(hk:k≤1)(h1:1≤atP z (v:Nat)):SmpOk (outF t kind v) kind z (k+1):=by
 have e1:(outF t kind v).fi.length=t.fi.length+1:=by simp[outF]
 exact⟨S.taF hv (by omega),S.n,S.h,by have:=S.fi;omega,by have:=S.cl;show t.cl.length≤_;omega,S.kd,(ZmI S.ta S.kd hv (by have:=S.fi;omega)).2 ⟨S.hz,h1⟩⟩
theorem SmpOk.nextC{v:Nat}(hv:v<t.e.mv.length)(hk:k≤1)(h1:atP z (v:Nat)=0):SmpOk (outC t kind v) kind z (k+1):=by
 have e1:(outC t kind v).cl.length=t.cl.length+1:=by simp[outC]
 exact⟨S.taC hv (by omega),S.n,S.h,by have:=S.fi;show t.fi.length≤_;omega,by have:=S.cl;omega,S.kd,(ZmK S.ta S.kd hv (by have:=S.cl;omega)).2 ⟨S.hz,h1⟩⟩
theorem SmpOk.few(hk:k≤2):(ZaJ t kind).2=0:=ZxA S.ta S.kd (S.sm hk) S.hz
theorem SmpOk.matter:Zia t kind z=0:=ZmT.2 ⟨S.ta,S.kd,S.hz⟩
theorem SmpOk.expl(hk:k≤2):ZgM t kind (natI (ZcX t.e z))=true:=ZoY S.ta S.kd (S.sm hk) S.hz
theorem SmpOk.zlen:z.length=t.e.mv.length:=by
 have:=(Za2.1 S.hz).2.1
 have e:(sysT t kind).n=(t.e.mv.length:Int):=rfl
 omega
theorem SmpOk.zok:okP z=true:=(Za2.1 S.hz).2.2.1
end
structure RndOk (t u:TrD) (kind:Int) (z:List FracD) (k:Nat) (score:Nat):Prop where
 nxt:SmpOk u kind z (k+1)
 few:(ZaJ u kind).1.length≤score
 ev:u.e=t.e
 keep:∀ h:Nat,(ZcL (sysT t kind) (ZbW t.e h) h).s≠1→(ZcL (sysT u kind) (ZbW u.e h) h).s=(ZcL (sysT t kind) (ZbW t.e h) h).s
theorem SmpOk.rndF{t:TrD}{kind:Int}{z:List FracD}{k v:Nat}(S:SmpOk t kind z k)(hv:v<t.e.mv.length)(hk:k≤1)(h1:1≤atP z (v:Nat)):RndOk t (outF t kind v) kind z k (ZdO t kind v):=by
 have U:=S.nextF hv hk h1
 refine⟨U,ZBL (U.few (by omega)),rfl,fun h hs=>Zit S.ta U.ta rfl (fun x hx=>((ZmI S.ta S.kd hv (by have:=S.fi;omega)).1 hx).1) U.hz h hs⟩
theorem SmpOk.rndC{t:TrD}{kind:Int}{z:List FracD}{k v:Nat}(S:SmpOk t kind z k)(hv:v<t.e.mv.length)(hk:k≤1)(h1:atP z (v:Nat)=0):RndOk t (outC t kind v) kind z k (ZdO t kind v):=by
 have U:=S.nextC hv hk h1
 refine⟨U,ZBM (U.few (by omega)),rfl,fun h hs=>Zit S.ta U.ta rfl (fun x hx=>((ZmK S.ta S.kd hv (by have:=S.cl;omega)).1 hx).1) U.hz h hs⟩
set_option maxHeartbeats 16000000
theorem Zt1{t:TrD}{mv:Int}(h:ZfQ t mv=true):(t.e.mv.length:Int)≤mv∧t.e.pl.length≤12∧t.e.ce.length≤10∧t.e.re.length≤4∧t.e.pu.length≤6∧t.fi.length≤6∧t.cl.length≤6∧t.e.h≤4:=by
 simp only[ZfQ,ZdA,Ya2,Bool.not_eq_true',Bool.or_eq_false_iff,decide_eq_false_iff_not,decide_eq_true_eq]at h
 omega
theorem ZvP(t:TrD)(kind:Int)(z:List FracD):Zaf Tryz.prog 3 [ZbC t,dI kind,ZaQ z] (dB true):=by
 have hres:=Tryz.results3
 have k0:=Zqo
 have k1:=ZvE t 4
 refine inC Tryz.func3 rfl Tryz.ntmps3 ?_
 cases h1:ZfQ t 4
 ·rw[h1]at k1
  exact aGo hres trivial
 rw[h1]at k1
 by_cases h2:t.e.h>3
 ·exact aGo (cj2 hres h2) trivial
 have k2:=ZEz z 8 3 (by decide)
 cases h3:fewP z 8 3
 ·rw[h3]at k2
  exact aGo (cj2 hres h2) trivial
 rw[h3]at k2
 obtain⟨b1,b2,b3,b4,b5,b6,b7,_⟩:=Zt1 h1
 have L:LenT t:=⟨⟨by omega,by omega,by omega,by omega,by omega⟩,by omega,by omega⟩
 obtain⟨zl,zs⟩:=ZCN h3
 by_cases h4:ZaZ t=0∧Zdk kind=true
 rotate_left
 ·have k3:=ZwZ t L kind z h4
  have n1:((1:Int) !=0)=true:=rfl
  exact aGo (cj3 hres h2 n1) trivial
 have k3:=ZsJ t (Zby h4.1) h4.1 L h4.2 (by omega) z (fun f hf=>by have:=zs f hf;omega) (by omega)
 by_cases h5:Zia t kind z=0
 rotate_left
 ·have h5':(Zia t kind z !=0)=true:=by simpa using h5
  exact aGo (cj3 hres h2 h5') trivial
 rw[h5]at k3
 refine aGo (cj2 hres h2) ?_
 repeat with_reducible intro K hK
 have S0:SmpOk t kind z 0:=⟨h4.1,by omega,by omega,by omega,by omega,h4.2,(ZmT.1 h5).2.2⟩
 refine Zat (fun(x:Nat×TrD)=>[(1,dI kind),(2,ZaQ z),(3,.lp 0 0 0 0),(7,dB true),(8,dI x.2.e.mv.length),(9,dI x.1)]) (fun x=>[(0,⟨32,0,10,[cTr x.2],0,false⟩)]) 1 0
  (fun x=>x.1≤2∧SmpOk x.2 kind z x.1) (fun x=>2-x.1) (0,t) ⟨Yb0 2,S0⟩ ?_ ?_
 ·exact leGo trivial
 clear k0 k1 k2 k3 L b1 b2 b3 b4 b5 b6 b7 h1 h2 h3 h5 zl
 rintro⟨k,u⟩ ⟨hk,S⟩
 simp only at hk S ⊢
 by_cases g1:(k:Int)<2
 rotate_left
 ·exact aGo (cj2 hres g1) trivial
 have hw:IntKind.i64.wrap ((k:Int)+1)=((k+1:Nat):Int):=ZaD (by omega) (by omega)
 have U:=S.ok (by omega)
 have R:=Zby S.ta
 have zl:=S.zlen
 have sn:=S.n
 have c1:=Zg0 U S.kd
 have c2:=Zvz u (Zw6 R.e) U.flow U.mvf ⟨R.e.h.1,U.S.h⟩ z zl S.zok (fun f hf=>by have:=zs f hf;omega) (by omega)
 have c3:=Zrs U S.kd (natI (ZcX u.e z)) (by
  have:=Yb1 (Zgq u.e z) (Zed u.e)
  have e:(Zed u.e).length=u.e.h.toNat:=by simp[Zed]
  have:=U.S.h
  simp only[natI,List.length_map]
  unfold ZcX
  omega)
 rw[S.expl (by omega)]at c3
 have ev:=ZhT S.ta S.kd S.hz
 rw[ev]at c1
 simp only at c1
 have c4:=Zzk u.e.mv.length (by omega)
 generalize natI (ZcX u.e z)=srcs at *
 by_cases n0:u.e.mv.length=0
 ·have e0:natI (List.range u.e.mv.length)=[]:=by rw[n0];rfl
  rw[e0]at c4
  have c5:Zaf Tryz.prog 12 [ZbC u,dI kind,Zab []] (.tup [dI 0,dI 0,dI 4]):=Zyh u kind
  have n0':((u.e.mv.length:Int)==0)=true:=by rw[n0];rfl
  have n4:((4:Int) !=0)=true:=rfl
  exact aGo (cj4 hres g1 n0' n4) trivial
 have c5:=ZEX U S.kd (by omega) (fun v hv=>S.okF hv (by omega)) (fun v hv=>S.okC hv (by omega)) (S.few (by omega))
 have hv:ZjT u kind (u.e.mv.length-1)<u.e.mv.length:=by have:=Zyi u kind (u.e.mv.length-1);omega
 generalize ZjT u kind (u.e.mv.length-1)=v at *
 obtain⟨f,hx⟩:∃ f,z[v]? =some f:=⟨_,Ya0 (by omega)⟩
 have fm:=Ya7 hx
 have fok:okF f=true:=Ya6.1 S.zok f fm
 have fs:=zs f fm
 have ea:atP z (v:Nat)=qOf f:=by unfold atP;rw[Int.toNat_natCast,hx];rfl
 have f0:0≤qOf f:=by rw[← ea];exact((ZcN (ZaU R kind)).1 S.hz).2.2.pos v hv
 have v0:¬ (v:Int)<0:=by omega
 have v1:¬ (v:Int)≥u.e.mv.length:=by omega
 have v2:(0:Int)≤v:=by omega
 by_cases q1:0<qOf f∧¬ 1≤qOf f
 ·have c6:=ZtA u kind v (by have:=S.fi;omega) f fok (by omega) q1.1
  rw[decide_eq_false q1.2]at c6
  clear ev
  generalize natI (List.range u.e.mv.length)=rg at *
  exact aGo (cj4 hres g1 v0 (cj3 v1 v2 hx)) trivial
 obtain⟨w,c6,rnd⟩:∃ w,Zaa Tryz.prog 14 [ZbC u,dI kind,dI v,encF f] (.tup [ZbC w,dB true])∧RndOk u w kind z k (ZdO u kind v):=by
  by_cases q0:qOf f=0
  ·exact⟨_,ZAz u kind v (by have:=S.cl;omega) f fok (by omega) q0,S.rndC hv (by omega) (ea.trans q0)⟩
  ·have q2:0<qOf f:=by grind
   have q3:1≤qOf f:=by
    by_cases q3:1≤qOf f
    ·exact q3
    ·exact absurd ⟨q2,q3⟩ q1
   have c6:=ZtA u kind v (by have:=S.fi;omega) f fok (by omega) q2
   rw[decide_eq_true q3]at c6
   exact⟨_,c6,S.rndF hv (by omega) (by rw[ea];exact q3)⟩
 have W:=rnd.nxt.ok (by omega)
 have c7:=Zi7 W S.kd
 rw[rnd.nxt.few (by omega)]at c7
 have c8:=Zg0 W S.kd
 rw[ZhT rnd.nxt.ta S.kd rnd.nxt.hz]at c8
 simp only at c8
 have c9:=ZsJ w (Zby rnd.nxt.ta) rnd.nxt.ta W.L S.kd (by have:=rnd.nxt.n;omega) z (fun f hf=>by have:=zs f hf;omega) (by omega)
 rw[rnd.nxt.matter]at c9
 have hle:¬ ((ZaJ w kind).1.length:Int)>(ZdO u kind v:Int):=by have:=rnd.few;omega
 have hkeep:∀ (i:Nat)(a b:VerD),((Zed u.e).map (fun(h:Nat)=>ZcL (sysT u kind) (ZbW u.e h) h))[i]? =some a→((Zed w.e).map (fun(h:Nat)=>ZcL (sysT w kind) (ZbW w.e h) h))[i]? =some b→a.s≠1→b.s=a.s:=by
  intro i a b ha hb hs
  rw[List.getElem?_map]at ha hb
  have e2:Zed w.e=Zed u.e:=by rw[rnd.ev]
  rw[e2]at hb
  cases hq:(Zed u.e)[i]? with
  | none=>rw[hq]at ha;cases ha
  | some h =>
    rw[hq]at ha hb
    simp only[Option.map_some,Ya1]at ha hb
    rw[← ha,← hb]
    rw[← ha]at hs
    exact rnd.keep h hs
 have hlen:((Zed w.e).map (fun(h:Nat)=>ZcL (sysT w kind) (ZbW w.e h) h)).length=((Zed u.e).map (fun(h:Nat)=>ZcL (sysT u kind) (ZbW u.e h) h)).length:=by rw[List.length_map,List.length_map,rnd.ev]
 have hl6:((Zed u.e).map (fun(h:Nat)=>ZcL (sysT u kind) (ZbW u.e h) h)).length≤6:=by
  rw[List.length_map]
  have e:(Zed u.e).length=u.e.h.toNat:=by simp[Zed]
  have:=U.S.h
  omega
 clear ev
 generalize (Zed u.e).map (fun(h:Nat)=>ZcL (sysT u kind) (ZbW u.e h) h)=LU at *
 generalize (Zed w.e).map (fun(h:Nat)=>ZcL (sysT w kind) (ZbW w.e h) h)=LW at *
 generalize (ZaJ w kind).1=few at *
 generalize ZdO u kind v=sc at *
 have hlen':((LW.length:Int) !=(LU.length:Int))=false:=by rw[hlen];exact bne_self_eq_false _
 have hmv:w.e.mv.length=u.e.mv.length:=by rw[rnd.ev]
 generalize natI (List.range u.e.mv.length)=rg at *
 refine aGo (cj4 hres g1 v0 (cj4 v1 v2 hx (cj2 hle hlen'))) ?_
 repeat with_reducible intro K hK
 refine Zat (fun(i:Nat)=>[(1,dI kind),(2,ZaQ z),(3,.lp 0 0 0 0),(7,dB true),(8,dI u.e.mv.length),(9,dI k),(10,ZAf LU),(15,.lp 1 0 0 0),(19,ZAf LW),(21,dI i)]) (fun _=>[(0,⟨32,0,10,[cTr u],0,false⟩),(1,⟨32,0,10,[cTr w],0,false⟩)]) 2 0 (fun i=>i≤LU.length) (fun i=>LU.length-i) 0 (by omega) ?_ ?_
 ·exact leGo trivial
 clear c1 c2 c3 c4 c5 c6 c7 c8 c9
 rintro i hi
 obtain⟨hwi,i0⟩:=ZaM i
 by_cases j1:(i:Int)<LU.length
 rotate_left
 ·refine aGo (cj3 hres j1 hw) ?_
  repeat with_reducible intro K hK
  exact Zac (k+1,w) ⟨by simp only;omega,rnd.nxt⟩ (by simp only;omega) (by rw[← hmv];exact leGo trivial)
 obtain⟨a,ha⟩:∃ a,LU[i]? =some a:=⟨_,Ya0 (by omega)⟩
 obtain⟨b,hb⟩:∃ b,LW[i]? =some b:=⟨_,Ya0 (by omega)⟩
 have hab:=hkeep i a b ha hb
 by_cases s1:a.s=1
 ·have s1':(a.s !=1)=false:=by rw[s1];rfl
  refine aGo (cj4 hres j1 i0 (cj4 ha hb s1' hwi)) ?_
  repeat with_reducible intro K hK
  exact Zac (i+1) (by omega) (by omega) (by exact leGo trivial)
 ·have s1':(a.s !=1)=true:=by simpa using s1
  have s2':(b.s !=a.s)=false:=by rw[hab s1];exact bne_self_eq_false _
  refine aGo (cj4 hres j1 i0 (cj4 ha hb s1' (cj2 s2' hwi))) ?_
  repeat with_reducible intro K hK
  exact Zac (i+1) (by omega) (by omega) (by exact leGo trivial)
end Go.Proofs.YtjeaacindikplaaGreat
