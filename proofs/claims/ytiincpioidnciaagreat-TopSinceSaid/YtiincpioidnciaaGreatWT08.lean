/-
  Evidence, walked over data: flow.places, flow.move.
-/
import Derived.Test.YtiincpioidnciaaGreatWLib
import Derived.Test.YtiincpioidnciaaGreatWT07
import Derived.Test.YtiincpioidnciaaGreatWRefA
import Derived.Test.YtiincpioidnciaaGreatWConv
import Derived.Test.YtiincpioidnciaaGreatWT06
import Derived.Test.YtiincpioidnciaaGreatWT03
import Derived.Test.YtiincpioidnciaaGreatWT04
import Derived.Lib.SlicesCompact
namespace Go.Proofs.YtiincpioidnciaaGreat
set_option linter.unusedVariables false
set_option linter.unusedSimpArgs false
set_option linter.unusedSectionVars false
open Go Go.RowKit
set_option maxRecDepth 100000
set_option maxHeartbeats 8000000
theorem Zwm(e:EvD)(hl:(e.pl.length:Int)≤1099511627776):Zaa Tryz.prog 28 [Zb2 e] (dB (e.pl.all (okPl e.h e.m))):=by
 have Zr:=Tryz.results28
 refine inN Tryz.func28 rfl Tryz.ntmps28 fun I=>?_
 refine aGo Zr ?_
 repeat with_reducible intro K hK
 refine ZaH (fun(k:Nat)=>[(1,.lp 0 0 0 0),(6,ZhG e.pl),(7,dI e.pl.length),(8,dI k)]) (fun _=>[(0,⟨28,0,8,[cEv e],0,false⟩)]) 1 0 (fun k=>k≤e.pl.length∧(e.pl.take k).all (okPl e.h e.m)=true) (fun k=>e.pl.length-k) 0 ⟨by omega,rfl⟩ ?_ ?_
 ·exact leGo trivial
 rintro k ⟨hk,hg⟩
 obtain⟨hw,h0⟩:=ZaS k
 by_cases h1:(k:Int)<e.pl.length
 rotate_left
 ·refine aGo (cj2 Zr h1) ?_
  repeat with_reducible intro K hK
  rw[Ya8 (by omega)]at hg
  exact Zaj hg.symm
 obtain⟨p,hx⟩:∃ p,e.pl[k]? =some p:=⟨_,Ya0 (by omega)⟩
 have bad:okPl e.h e.m p=false→D.v (.bool false)=dB (e.pl.all (okPl e.h e.m)):=fun h=>Zaj (ZcD hx h).symm
 have fine:okPl e.h e.m p=true→k+1≤e.pl.length∧(e.pl.take (k+1)).all (okPl e.h e.m)=true:=fun h=>⟨by omega,ZaG hx hg h⟩
 have k1:=ZkD p.k 7
 have k2:=ZkD p.h e.h
 have k3:=ZkD p.m e.m
 cases h2:idx p.k 7
 ·rw[h2]at k1
  refine aGo (cj4 Zr h0 h1 (cj2 hx hw)) ?_
  repeat with_reducible intro K hK
  exact bad (by simp[okPl,h2])
 rw[h2]at k1
 cases h3:(p.k==0)
 ·have h3':¬ p.k=0:=by simpa using h3
  cases h4:(p.h != -1)
  rotate_left
  ·refine aGo (cj4 Zr h0 h1 (cj4 hx hw h3 h4)) ?_
   repeat with_reducible intro K hK
   exact bad (by simp at h4;simp[okPl,h2,h3',h4])
  cases h5:(p.m != -1)
  rotate_left
  ·refine aGo (cj4 Zr h0 h1 (cj4 hx hw h3 (cj2 h4 h5))) ?_
   repeat with_reducible intro K hK
   exact bad (by simp at h5;simp[okPl,h2,h3',h5])
  refine aGo (cj4 Zr h0 h1 (cj4 hx hw h3 (cj2 h4 h5))) ?_
  repeat with_reducible intro K hK
  exact Zah (k+1) (fine (by simp at h4 h5;simp[okPl,h2,h3',h4,h5])) (by omega) (by exact leGo trivial)
 ·have h3':p.k=0:=by simpa using h3
  cases h4:idx p.h e.h
  ·rw[h4]at k2
   refine aGo (cj4 Zr h0 h1 (cj3 hx hw h3)) ?_
   repeat with_reducible intro K hK
   exact bad (by simp[okPl,h2,h3',h4])
  rw[h4]at k2
  cases h5:idx p.m e.m
  ·rw[h5]at k3
   refine aGo (cj4 Zr h0 h1 (cj3 hx hw h3)) ?_
   repeat with_reducible intro K hK
   exact bad (by simp[okPl,h2,h3',h4,h5])
  rw[h5]at k3
  refine aGo (cj4 Zr h0 h1 (cj3 hx hw h3)) ?_
  repeat with_reducible intro K hK
  exact Zah (k+1) (fine (by simp[okPl,h3',h4,h5];rfl)) (by omega) (by exact leGo trivial)
theorem Zun{e:EvD}{f:Int}{p:PlD}(h:e.pl[f.toNat]? =some p):Zfp e f=p.k:=by unfold Zfp;rw[h];rfl
theorem Zuu{i n:Int}:idx i n=true↔0≤i∧i<n:=by simp[idx]
theorem ZBi(e:EvD)(x:MvD):Zaa Tryz.prog 29 [Zb2 e,.agg (cMv x)] (dB (okMv e x)):=by
 have Zr:=Tryz.results29
 refine inN Tryz.func29 rfl Tryz.ntmps29 fun I=>?_
 have k1:=ZkD x.f e.pl.length
 have k2:=ZkD x.t e.pl.length
 have k3:=ZkD x.s e.s
 have k4:=Zn9 x.r 0 1099511627776
 cases h1:idx x.f e.pl.length
 ·rw[h1]at k1
  refine aGo Zr ?_
  repeat with_reducible intro K hK
  exact Zaj (by simp[okMv,h1])
 rw[h1]at k1
 cases h2:idx x.t e.pl.length
 ·rw[h2]at k2
  refine aGo Zr ?_
  repeat with_reducible intro K hK
  exact Zaj (by simp[okMv,h2])
 rw[h2]at k2
 cases h3:(x.f==x.t)
 rotate_left
 ·refine aGo (cj2 Zr h3) ?_
  repeat with_reducible intro K hK
  exact Zaj (by simp at h3;simp[okMv,h3])
 obtain⟨f0,f1⟩:=Zuu.1 h1
 obtain⟨t0,t1⟩:=Zuu.1 h2
 obtain⟨p,hp⟩:∃ p,e.pl[x.f.toNat]? =some p:=⟨_,Ya0 (by omega)⟩
 obtain⟨q,hq⟩:∃ p,e.pl[x.t.toNat]? =some p:=⟨_,Ya0 (by omega)⟩
 have ep:=Zun hp
 have eq:=Zun hq
 have hne:x.f≠x.t:=by simpa using h3
 have e0:okMv e x=(!(p.k==5)&&(!(p.k==6)&&(!(p.k==0&&x.a)&&(!(q.k==0)&&(if x.s = -1 then x.r==0 else idx x.s e.s&&(decide (0≤x.r)&&decide (x.r≤1099511627776))))))):=by
  unfold okMv
  rw[h1,h2,ep,eq,bne_iff_ne.2 hne];simp
 rw[e0]
 clear e0 ep eq
 cases h4:(p.k==5)
 rotate_left
 ·exact aGo (cj4 Zr h3 hp (cj2 f0 h4)) trivial
 cases h5:(p.k==6)
 rotate_left
 ·exact aGo (cj4 Zr h3 hp (cj3 f0 h4 h5)) trivial
 cases h6:(p.k==0)
 ·cases h8:(q.k==0)
  rotate_left
  ·exact aGo (cj4 Zr h3 hp (cj4 hq f0 t0 (cj4 h4 h5 h6 h8))) trivial
  cases h9:(x.s == -1)
  ·have h9':¬ x.s = -1:=by simpa using h9
   cases h10:idx x.s e.s
   ·rw[h10]at k3
    refine aGo (cj4 Zr h3 hp (cj4 hq f0 t0 (cj4 h4 h5 h6 (cj2 h8 h9)))) ?_
    repeat with_reducible intro K hK
    exact Zaj (by simp[h9'])
   ·rw[h10]at k3
    refine aGo (cj4 Zr h3 hp (cj4 hq f0 t0 (cj4 h4 h5 h6 (cj2 h8 h9)))) ?_
    repeat with_reducible intro K hK
    exact Zaj (by simp[h9'])
  ·have h9':x.s = -1:=by simpa using h9
   refine aGo (cj4 Zr h3 hp (cj4 hq f0 t0 (cj4 h4 h5 h6 (cj2 h8 h9)))) ?_
   repeat with_reducible intro K hK
   exact Zaj (by simp[h9'])
 ·cases h7:x.a
  rotate_left
  ·exact aGo (cj4 Zr h3 hp (cj4 hq f0 t0 (cj4 h4 h5 h6 h7))) trivial
  cases h8:(q.k==0)
  rotate_left
  ·exact aGo (cj4 Zr h3 hp (cj4 hq f0 t0 (cj4 h4 h5 h6 (cj2 h7 h8)))) trivial
  cases h9:(x.s == -1)
  ·have h9':¬ x.s = -1:=by simpa using h9
   cases h10:idx x.s e.s
   ·rw[h10]at k3
    refine aGo (cj4 Zr h3 hp (cj4 hq f0 t0 (cj4 h4 h5 h6 (cj3 h7 h8 h9)))) ?_
    repeat with_reducible intro K hK
    exact Zaj (by simp[h9'])
   ·rw[h10]at k3
    refine aGo (cj4 Zr h3 hp (cj4 hq f0 t0 (cj4 h4 h5 h6 (cj3 h7 h8 h9)))) ?_
    repeat with_reducible intro K hK
    exact Zaj (by simp[h9'])
  ·have h9':x.s = -1:=by simpa using h9
   refine aGo (cj4 Zr h3 hp (cj4 hq f0 t0 (cj4 h4 h5 h6 (cj3 h7 h8 h9)))) ?_
   repeat with_reducible intro K hK
   exact Zaj (by simp[h9'])
theorem ZAJ(e:EvD)(hl1:(e.ce.length:Int)≤1099511627776)(hl2:(e.re.length:Int)≤1099511627776)(hl3:(e.pu.length:Int)≤1099511627776):Zaa Tryz.prog 30 [Zb2 e] (dB (Zfw e)):=by
 have Zr:=Tryz.results30
 have bad1:e.ce.all (okCe e.s)=false→D.v (.bool false)=dB (Zfw e):=fun h=>Zaj (by unfold Zfw;rw[h];rfl)
 have bad2:e.re.all (okRe e.s)=false→D.v (.bool false)=dB (Zfw e):=fun h=>Zaj (by unfold Zfw;rw[h];simp)
 have bad3:e.pu.all (okPu e.mv.length e.m)=false→D.v (.bool false)=dB (Zfw e):=fun h=>Zaj (by unfold Zfw;rw[h];simp)
 have fine:e.ce.all (okCe e.s)=true→e.re.all (okRe e.s)=true→e.pu.all (okPu e.mv.length e.m)=true→D.v (.bool true)=dB (Zfw e):=fun a b c=>Zaj (by unfold Zfw;rw[a,b,c];rfl)
 generalize Zfw e=out at *
 refine inN Tryz.func30 rfl Tryz.ntmps30 fun I=>?_
 refine aGo Zr ?_
 repeat with_reducible intro K hK
 refine ZaH (fun(k:Nat)=>[(1,.lp 0 0 0 0),(11,Zih e.ce),(12,dI e.ce.length),(13,dI k)]) (fun _=>[(0,⟨28,0,8,[cEv e],0,false⟩)]) 1 0 (fun k=>k≤e.ce.length∧(e.ce.take k).all (okCe e.s)=true) (fun k=>e.ce.length-k) 0 ⟨by omega,rfl⟩ ?_ ?_
 ·exact leGo trivial
 rintro k ⟨hk,hg⟩
 obtain⟨hw,h0⟩:=ZaS k
 by_cases h1:(k:Int)<e.ce.length
 ·obtain⟨c,hx⟩:∃ p,e.ce[k]? =some p:=⟨_,Ya0 (by omega)⟩
  have bad:okCe e.s c=false→D.v (.bool false)=dB out:=fun h=>bad1 (ZcD hx h)
  have k1:=ZkD c.s e.s
  have k2:=Zn9 c.g 0 1099511627776
  have k3:=Zn9 c.p 0 1000
  have k4:=Zn9 c.d 0 10000000
  have ed:okCe e.s c=((decide (0≤c.f)&&(decide (c.f≤c.u)&&decide (c.u≤100000)))&&(idx c.s e.s&&((decide (0≤c.g)&&decide (c.g≤1099511627776))&&((decide (0≤c.p)&&decide (c.p≤1000))&&(decide (0≤c.d)&&decide (c.d≤10000000)))))):=rfl
  by_cases d1:c.f≥0
  rotate_left
  ·refine aGo (cj4 Zr h0 h1 (cj3 hx hw d1)) ?_
   repeat with_reducible intro K hK
   exact bad (by rw[ed,decide_eq_false (by omega:¬ 0≤c.f)];rfl)
  by_cases d2:c.f≤c.u
  rotate_left
  ·refine aGo (cj4 Zr h0 h1 (cj4 hx hw d1 d2)) ?_
   repeat with_reducible intro K hK
   exact bad (by rw[ed,decide_eq_false d2];simp)
  by_cases d3:c.u≤100000
  rotate_left
  ·refine aGo (cj4 Zr h0 h1 (cj4 hx hw d1 (cj2 d2 d3))) ?_
   repeat with_reducible intro K hK
   exact bad (by rw[ed,decide_eq_false d3];simp)
  rw[decide_eq_true (by omega:0≤c.f),decide_eq_true d2,decide_eq_true d3]at ed
  cases h2:idx c.s e.s
  ·rw[h2]at k1
   refine aGo (cj4 Zr h0 h1 (cj4 hx hw d1 (cj2 d2 d3))) ?_
   repeat with_reducible intro K hK
   exact bad (by rw[ed,h2];rfl)
  rw[h2]at k1 ed
  generalize (decide (0≤c.g)&&decide (c.g≤1099511627776))=b1 at k2 ed
  generalize (decide (0≤c.p)&&decide (c.p≤1000))=b2 at k3 ed
  generalize (decide (0≤c.d)&&decide (c.d≤10000000))=b3 at k4 ed
  cases b1
  ·refine aGo (cj4 Zr h0 h1 (cj4 hx hw d1 (cj2 d2 d3))) ?_
   repeat with_reducible intro K hK
   exact bad ed
  cases b2
  ·refine aGo (cj4 Zr h0 h1 (cj4 hx hw d1 (cj2 d2 d3))) ?_
   repeat with_reducible intro K hK
   exact bad ed
  cases b3
  ·refine aGo (cj4 Zr h0 h1 (cj4 hx hw d1 (cj2 d2 d3))) ?_
   repeat with_reducible intro K hK
   exact bad ed
  refine aGo (cj4 Zr h0 h1 (cj4 hx hw d1 (cj2 d2 d3))) ?_
  repeat with_reducible intro K hK
  exact Zah (k+1) ⟨by omega,ZaG hx hg ed⟩ (by omega) (by exact leGo trivial)
 rw[Ya8 (by omega)]at hg
 refine aGo (cj2 Zr h1) ?_
 repeat with_reducible intro K hK
 clear h1 h0 hw
 refine ZaH (fun(k:Nat)=>[(1,.lp 0 0 0 0),(62,Zfr e.re),(63,dI e.re.length),(64,dI k)]) (fun _=>[(0,⟨28,0,8,[cEv e],0,false⟩)]) 1 0 (fun k=>k≤e.re.length∧(e.re.take k).all (okRe e.s)=true) (fun k=>e.re.length-k) 0 ⟨by omega,rfl⟩ ?_ ?_
 ·exact leGo trivial
 rintro k ⟨hk,hg2⟩
 obtain⟨hw,h0⟩:=ZaS k
 by_cases h1:(k:Int)<e.re.length
 ·obtain⟨c,hx⟩:∃ p,e.re[k]? =some p:=⟨_,Ya0 (by omega)⟩
  have bad:okRe e.s c=false→D.v (.bool false)=dB out:=fun h=>bad2 (ZcD hx h)
  have k1:=ZkD c.s e.s
  have k2:=Zn9 c.d 0 100000
  have ed:okRe e.s c=(idx c.s e.s&&(decide (0≤c.d)&&decide (c.d≤100000))):=rfl
  generalize idx c.s e.s=b0 at k1 ed
  generalize (decide (0≤c.d)&&decide (c.d≤100000))=b1 at k2 ed
  cases b0
  ·refine aGo (cj4 Zr h0 h1 (cj2 hx hw)) ?_
   repeat with_reducible intro K hK
   exact bad ed
  cases b1
  ·refine aGo (cj4 Zr h0 h1 (cj2 hx hw)) ?_
   repeat with_reducible intro K hK
   exact bad ed
  refine aGo (cj4 Zr h0 h1 (cj2 hx hw)) ?_
  repeat with_reducible intro K hK
  exact Zah (k+1) ⟨by omega,ZaG hx hg2 ed⟩ (by omega) (by exact leGo trivial)
 rw[Ya8 (by omega)]at hg2
 refine aGo (cj2 Zr h1) ?_
 repeat with_reducible intro K hK
 clear h1 h0 hw
 refine ZaH (fun(k:Nat)=>[(1,.lp 0 0 0 0),(82,ZgE e.pu),(83,dI e.pu.length),(84,dI k)]) (fun _=>[(0,⟨28,0,8,[cEv e],0,false⟩)]) 1 0 (fun k=>k≤e.pu.length∧(e.pu.take k).all (okPu e.mv.length e.m)=true) (fun k=>e.pu.length-k) 0 ⟨by omega,rfl⟩ ?_ ?_
 ·exact leGo trivial
 rintro k ⟨hk,hg3⟩
 obtain⟨hw,h0⟩:=ZaS k
 by_cases h1:(k:Int)<e.pu.length
 ·obtain⟨c,hx⟩:∃ p,e.pu[k]? =some p:=⟨_,Ya0 (by omega)⟩
  have bad:okPu e.mv.length e.m c=false→D.v (.bool false)=dB out:=fun h=>bad3 (ZcD hx h)
  have k1:=ZkD c.v e.mv.length
  have k2:=ZkD c.m e.m
  have ed:okPu e.mv.length e.m c=(idx c.v e.mv.length&&(idx c.m e.m&&(decide (0≤c.lo)&&(decide (c.lo≤c.hi)&&decide (c.hi≤1000))))):=rfl
  generalize idx c.v e.mv.length=b0 at k1 ed
  generalize idx c.m e.m=b1 at k2 ed
  cases b0
  ·refine aGo (cj4 Zr h0 h1 (cj2 hx hw)) ?_
   repeat with_reducible intro K hK
   exact bad ed
  cases b1
  ·refine aGo (cj4 Zr h0 h1 (cj2 hx hw)) ?_
   repeat with_reducible intro K hK
   exact bad ed
  by_cases d1:c.lo<0
  ·refine aGo (cj4 Zr h0 h1 (cj3 hx hw d1)) ?_
   repeat with_reducible intro K hK
   exact bad (by rw[ed,decide_eq_false (by omega:¬ 0≤c.lo)];rfl)
  by_cases d2:c.hi<c.lo
  ·refine aGo (cj4 Zr h0 h1 (cj4 hx hw d1 d2)) ?_
   repeat with_reducible intro K hK
   exact bad (by rw[ed,decide_eq_false (by omega:¬ c.lo≤c.hi)];simp)
  by_cases d3:c.hi>1000
  ·refine aGo (cj4 Zr h0 h1 (cj4 hx hw d1 (cj2 d2 d3))) ?_
   repeat with_reducible intro K hK
   exact bad (by rw[ed,decide_eq_false (by omega:¬ c.hi≤1000)];simp)
  refine aGo (cj4 Zr h0 h1 (cj4 hx hw d1 (cj2 d2 d3))) ?_
  repeat with_reducible intro K hK
  exact Zah (k+1) ⟨by omega,ZaG hx hg3 (by rw[ed,decide_eq_true (by omega:0≤c.lo),decide_eq_true (by omega:c.lo≤c.hi),decide_eq_true (by omega:c.hi≤1000)];rfl)⟩ (by omega) (by exact leGo trivial)
 rw[Ya8 (by omega)]at hg3
 refine aGo (cj2 Zr h1) ?_
 repeat with_reducible intro K hK
 exact fine hg hg2 hg3
structure LenE (e:EvD):Prop where
 pl:(e.pl.length:Int)≤1099511627776
 mv:(e.mv.length:Int)≤1099511627776
 ce:(e.ce.length:Int)≤1099511627776
 re:(e.re.length:Int)≤1099511627776
 pu:(e.pu.length:Int)≤1099511627776
theorem ZgC(e:EvD)(L:LenE e):Zaa Tryz.prog 7 [Zb2 e] (dI (Zcd e)):=by
 have Zr:=Tryz.results7
 have k1:=ZBr e
 have k2:=Zwm e L.pl
 have k3:=ZAJ e L.ce L.re L.pu
 obtain⟨-,hmv,-,-,-⟩:=L
 unfold Zcd
 cases h1:Zdq e
 rotate_left
 ·rw[h1]at k1
  refine inN Tryz.func7 rfl Tryz.ntmps7 fun I=>?_
  exact aGo Zr trivial
 rw[h1]at k1
 rw[if_neg Yc5]
 have ea:argE e=(decide (1≤e.m)&&(decide (0≤e.h)&&(decide (0≤e.s)&&e.pl.all (okPl e.h e.m)))):=rfl
 have no:argE e=false→D.v (.int .i64 1)=dI (if argE e=true then(if ZcF e 0 e.mv=0 then(if Zfw e=true then 0 else 1)else ZcF e 0 e.mv)else 1):=fun h=>by rw[h];rfl
 by_cases h2:e.m<1
 ·refine inN Tryz.func7 rfl Tryz.ntmps7 fun I=>?_
  refine aGo (cj2 Zr h2) ?_
  repeat with_reducible intro K hK
  exact no (by rw[ea,decide_eq_false (by omega:¬ 1≤e.m)];rfl)
 by_cases h3:e.h<0
 ·refine inN Tryz.func7 rfl Tryz.ntmps7 fun I=>?_
  refine aGo (cj3 Zr h2 h3) ?_
  repeat with_reducible intro K hK
  exact no (by rw[ea,decide_eq_false (by omega:¬ 0≤e.h)];simp)
 by_cases h4:e.s<0
 ·refine inN Tryz.func7 rfl Tryz.ntmps7 fun I=>?_
  refine aGo (cj4 Zr h2 h3 h4) ?_
  repeat with_reducible intro K hK
  exact no (by rw[ea,decide_eq_false (by omega:¬ 0≤e.s)];simp)
 cases h5:e.pl.all (okPl e.h e.m)
 ·rw[h5]at k2
  refine inN Tryz.func7 rfl Tryz.ntmps7 fun I=>?_
  refine aGo (cj4 Zr h2 h3 h4) ?_
  repeat with_reducible intro K hK
  exact no (by rw[ea,h5];simp)
 rw[h5]at k2
 rw[show argE e=true by rw[ea,h5,decide_eq_true (by omega:1≤e.m),decide_eq_true (by omega:0≤e.h),decide_eq_true (by omega:0≤e.s)];rfl,if_pos rfl]
 clear no ea
 generalize ho:(if ZcF e 0 e.mv=0 then(if Zfw e=true then(0:Int)else 1)else ZcF e 0 e.mv)=out
 refine inN Tryz.func7 rfl Tryz.ntmps7 fun I=>?_
 refine aGo (cj4 Zr h2 h3 h4) ?_
 repeat with_reducible intro K hK
 clear h2 h3 h4
 refine ZaH (fun(x:Nat×Int)=>[(1,.lp 0 0 0 0),(3,dI x.2),(29,ZdY e.mv),(30,dI e.mv.length),(31,dI x.1)]) (fun _=>[(0,⟨28,0,8,[cEv e],0,false⟩)]) 1 0 (fun x=>x.1≤e.mv.length∧ZcF e 0 e.mv=ZcF e x.2 (e.mv.drop x.1)) (fun x=>e.mv.length-x.1) (0,0) ⟨by omega,rfl⟩ ?_ ?_
 ·exact leGo trivial
 rintro⟨k,last⟩ ⟨hk,hg⟩
 simp only at hk hg
 obtain⟨hw,h0⟩:=ZaS k
 by_cases h6:(k:Int)<e.mv.length
 ·obtain⟨x,hx⟩:∃ p,e.mv[k]? =some p:=⟨_,Ya0 (by omega)⟩
  have km:=ZBi e x
  have ed:e.mv.drop k=x ::e.mv.drop (k+1):=by
   obtain⟨hi,rfl⟩:=Ya3.1 hx
   exact Yd7 hi
  have em:ZcF e last (e.mv.drop k)=if x.d<last∨x.d>100000 then 17 else if okMv e x=true then ZcF e x.d (e.mv.drop (k+1))else 1:=by rw[ed];rfl
  by_cases h7:x.d<last
  ·refine aGo (cj4 Zr h0 h6 (cj3 hx hw h7)) ?_
   repeat with_reducible intro K hK
   exact Zkb (by rw[← ho,hg,em.trans (if_pos (.inl h7))];rfl)
  by_cases h8:x.d>100000
  ·refine aGo (cj4 Zr h0 h6 (cj4 hx hw h7 h8)) ?_
   repeat with_reducible intro K hK
   exact Zkb (by rw[← ho,hg,em.trans (if_pos (.inr h8))];rfl)
  have em2:ZcF e last (e.mv.drop k)=if okMv e x=true then ZcF e x.d (e.mv.drop (k+1))else 1:=by rw[em,if_neg (by omega)]
  cases h9:okMv e x
  ·rw[h9]at km em2
   refine aGo (cj4 Zr h0 h6 (cj4 hx hw h7 h8)) ?_
   repeat with_reducible intro K hK
   exact Zkb (by rw[← ho,hg,em2];rfl)
  ·rw[h9]at km em2
   rw[if_pos rfl]at em2
   refine aGo (cj4 Zr h0 h6 (cj4 hx hw h7 h8)) ?_
   repeat with_reducible intro K hK
   exact Zah (k+1,x.d) ⟨by show k+1≤_;omega,by rw[hg];exact em2⟩ (by show e.mv.length-(k+1)<e.mv.length-k;omega) (by exact leGo trivial)
 ·rw[show e.mv.drop k=[] by rw[List.drop_eq_nil_iff];omega]at hg
  have e0:ZcF e last []=0:=rfl
  rw[hg,e0,if_pos rfl]at ho
  cases h7:Zfw e
  ·rw[h7]at k3 ho
   refine aGo (cj2 Zr h6) ?_
   repeat with_reducible intro K hK
   exact Zkb (by rw[← ho];rfl)
  ·rw[h7]at k3 ho
   refine aGo (cj2 Zr h6) ?_
   repeat with_reducible intro K hK
   exact Zkb (by rw[← ho];rfl)
set_option maxHeartbeats 32000000
theorem ZpL(e:EvD)(hf:Zcd e=0)(hn:e.mv.length≤12)(hp:e.pu.length≤12)(L:LenE e):Zae Tryz.prog 33 [Zb2 e] (.tup [encS (sysE e),dI 0]):=by
 have Zr:=Tryz.results33
 have Ri:=Zfc hf
 have k0:=ZgC e L
 rw[hf]at k0
 have k1:=Zx8 e Ri hn hp
 have hM:=Ri.m
 have mul1:(e.mv.length:Int)*e.m≤1200:=by
  have:=Int.mul_le_mul (a:=(e.mv.length:Int)) (b:=e.m) (c:=200) (d:=6) (by omega) (by omega) (by omega) (by omega)
  omega
 have mul0:0≤(e.mv.length:Int)*e.m:=Int.mul_nonneg (by omega) (by omega)
 have wm:IntKind.i64.wrap ((e.mv.length:Int)*e.m)=(e.mv.length:Int)*e.m:=ZaQ (by omega) (by omega)
 refine inC Tryz.func33 rfl Tryz.ntmps33 ?_
 refine aGo (cj2 Zr wm) ?_
 repeat with_reducible intro K hK
 rfl
theorem Zws(e:EvD)(hf:Zcd e=0)(hn:e.mv.length≤12)(hp:e.pu.length≤12)(L:LenE e){k:Nat}{w:RowD}{o:OriD}(hk:(Zia e)[k]? =some (w,o)):Zae Tryz.prog 35 [Zb2 e,dI k] (.tup [.agg (cOri o),dB true]):=by
 have Zr:=Tryz.results35
 have Ri:=Zfc hf
 have k0:=ZgC e L
 rw[hf]at k0
 have k1:=Zx8 e Ri hn hp
 have h0:¬ (k:Int)<0:=by omega
 have h1:(0:Int)≤k:=by omega
 have hl:=(Ya3.1 hk).1
 have h2:¬ ((k:Int)≥((Zia e).length:Int)):=by omega
 obtain⟨ok,ov,om,oi⟩:=o
 refine inC Tryz.func35 rfl Tryz.ntmps35 ?_
 exact aGo (Y:=True) (cj4 Zr h0 h1 (cj2 h2 hk)) trivial
def putL{α:Type}(k:Nat)(x:α):List (Nat×α)→List (Nat×α)
 | []=>[(k,x)]
 | p ::l=>cond (Nat.beq p.1 k) ((k,x) ::l) (p ::putL k x l)
def tabU:List (Nat×D)→Nat→D
 | []=>fun _=>.v undef
 | p ::l=>upd (tabU l) p.1 p.2
theorem ZsP{α:Type}(f:Nat→α)(k:Nat)(x y:α):upd (upd f k x) k y=upd f k y:=by
 funext j;unfold upd;split<;>rfl
theorem ZpE{α:Type}(f:Nat→α){k j:Nat}(h:j≠k)(x y:α):upd (upd f k x) j y=upd (upd f j y) k x:=by
 funext i;unfold upd;split<;>split<;>simp_all
theorem Znb(k:Nat)(x:D):∀ l,tabU (putL k x l)=upd (tabU l) k x
 | []=>rfl
 | p ::l=>by
   unfold putL
   cases h:Nat.beq p.1 k
   ·have hne:p.1≠k:=fun e=>by rw[e,Nat.beq_refl]at h;cases h
    simp only[cond_false,tabU,Znb k x l]
    exact ZpE _ hne _ _
   ·have:p.1=k:=Nat.eq_of_beq_eq_true h
    subst this
    simp only[cond_true,tabU,ZsP]
theorem Znc(k:Nat)(x:Blk):∀ l,tabM (putL k x l)=upd (tabM l) k (some x)
 | []=>rfl
 | p ::l=>by
   unfold putL
   cases h:Nat.beq p.1 k
   ·have hne:p.1≠k:=fun e=>by rw[e,Nat.beq_refl]at h;cases h
    simp only[cond_false,tabM,Znc k x l]
    exact ZpE _ hne _ _
   ·have:p.1=k:=Nat.eq_of_beq_eq_true h
    subst this
    simp only[cond_true,tabM,ZsP]
def ovL:List (Nat×Blk)→List (Nat×Blk)→List (Nat×Blk)
 | m,[]=>m
 | m,p ::l=>ovL (putL p.1 p.2 m) l
theorem Zhi:∀ (l m:List (Nat×Blk)),tabM (ovL m l)=ov (tabM m) l
 | [],_=>rfl
 | p ::l,m=>by unfold ovL ov;rw[Zhi l,Znc]
def Zpm:Nat→List D→List (Nat×D)
 | _,[]=>[]
 | i,d ::l=>(i,d) ::Zpm (i+1) l
theorem ZnU:∀ (l:List D)(i k:Nat),tabU (Zpm i l) k=if k<i then .v undef else(l[k-i]?).getD (.v undef)
 | [],i,k=>by unfold Zpm tabU;split<;>simp
 | d ::l,i,k=>by
   simp only[Zpm,tabU,upd,ZnU l]
   by_cases h:k=i
   ·subst h;simp
   ·by_cases h2:k<i
    ·rw[if_neg h,if_pos h2,if_pos (by omega)]
    ·rw[if_neg h,if_neg h2,if_neg (by omega),show k-i=(k-(i+1))+1 by omega,List.getElem?_cons_succ]
theorem Zsl(l:List D):tabU (Zpm 0 l)=ZiV l:=by
 funext k
 rw[ZnU]
 simp[ZiV]
structure CS where
 t:List (Nat×D)
 m:List (Nat×Blk)
 nx:Nat
def putC(t:List (Nat×D))(dst:Option Tmp)(d:D):List (Nat×D) :=
 match dst with
 | none=>t
 | some k=>putL k d t
theorem ZdO(t:List (Nat×D))(dst:Option Tmp)(d:D):tabU (putC t dst d)=putT (tabU t) dst d:=by
 cases dst with
 | none=>rfl
 | some k=>exact Znb k d t
def CS.den(c:CS)(lo:Nat):St:=⟨tabU c.t,tabM c.m,c.nx,lo⟩
def Zr2(op:BinOp)(x y:D):Bool :=
 match op with
 | .shr | .shl=>match y with
   | .v (.int _ b)=>decide (0≤b)
   | _=>true
 | .quo | .rem=>match y with
   | .v (.int _ b)=>b !=0
   | _=>true
 | .add=>match x,y with
   | .v (.string a),.v (.string b)=>decide (((a.size+b.size:Nat):Int)≤9223372036854775807)
   | _,_=>true
 | _=>true
theorem ZwA{op:BinOp}{x y:D}{q:Prop}{d:D}(h:binD op x y=some (q,d))(ho:Zr2 op x y=true):q:=by
 unfold binD at h
 split at h
 ·cases h;simpa[Zr2]using ho
 ·cases h;simpa[Zr2]using ho
 ·split at h
  ·split at h<;>cases h<;>first|trivial|(simpa[Zr2]using ho)
  ·cases h
 ·split at h<;>cases h<;>first|trivial|(simpa[Zr2]using ho)
 ·cases h
def Zzc(et:TyI)(s x:D)(m:Mem):Bool :=
 match ZfR m x with
 | some (es,_)=>es.all (fun e=>e.length==et.size&&e.all D.isCell)&&(match s with
   | .nil=>decide ((es.length:Int)*et.bytes≤140737488355328)&&decide ((es.length:Int)≤9007199254740992)
   | .ls id ver=>match ZbJ m id ver with
     | some b=>decide (((b.es.length+es.length:Nat):Int)*et.bytes≤140737488355328)&&(decide (((b.es.length+es.length:Nat):Int)≤9007199254740992)&&(!b.dead||decide (0<es.length)))
     | none=>false
   | _=>false)
 | none=>false
theorem Zvv{es:List (List D)}{k:Nat}(h:es.all (fun e=>e.length==k&&e.all D.isCell)=true):∀ e∈es,e.length=k∧e.all D.isCell=true:=by
 intro e he
 have:=Ya6.1 h e he
 simpa using this
theorem ZwC{ty et:TyI}{s x:D}{m:Mem}{nx:Nat}{r:Res}(h:Zfj ty et s x m nx=some r)(ho:Zzc et s x m=true):r.ok:=by
 unfold Zfj at h
 unfold Zzc at ho
 split at h
 ·split at h
  ·rename_i es rr he
   rw[he]at ho
   simp only[Ya2]at ho
   obtain⟨h1,h2⟩:=ho
   have h1:=Zvv h1
   split at h
   ·cases h
    simp only[Ya2,decide_eq_true_eq]at h2
    exact⟨h1,h2.1,h2.2⟩
   ·simp at h2
   ·split at h
    ·rename_i b hb
     simp only[hb,Ya2,decide_eq_true_eq,Bool.or_eq_true,Bool.not_eq_true']at h2
     split at h
     ·cases h;exact⟨h1,h2.1,h2.2.1⟩
     ·split at h
      ·rename_i hd
       cases h
       refine⟨h1,h2.1,h2.2.1,?_⟩
       rcases h2.2.2 with hf|hf
       ·rw[hd.1]at hf;cases hf
       ·exact hf
      ·cases h
    ·cases h
   ·cases h
  ·cases h
 ·cases h
def okSl(et:TyI)(x:D)(lo hi:Option D):Bool :=
 match x with
 | .sl es=>match ZiX lo 0,ZiX hi es.length with
   | some l,some h=>es.all (fun e=>e.length==et.size)&&(decide (0≤l)&&(decide (l≤h)&&decide (h≤es.length)))
   | _,_=>false
 | _=>false
theorem Zy9{et:TyI}{x:D}{lo hi:Option D}{r:Res}(h:ZkQ et x lo hi=some r)(ho:okSl et x lo hi=true):r.ok:=by
 unfold ZkQ at h
 unfold okSl at ho
 split at h
 ·split at h
  ·rename_i l hh h1 h2
   cases h
   simp only[h1,h2,Ya2,decide_eq_true_eq,Ya6,beq_iff_eq]at ho
   exact ho
  ·cases h
 ·cases h
def Zy8(x:D)(lo hi:Option D):Bool :=
 match x with
 | .v (.string s)=>match ZiX lo 0,ZiX hi s.size with
   | some l,some h=>decide (0≤l)&&(decide (l≤h)&&decide (h≤s.size))
   | _,_=>false
 | _=>false
theorem Zwx{x:D}{lo hi:Option D}{r:Res}(h:Zeu x lo hi=some r)(ho:Zy8 x lo hi=true):r.ok:=by
 unfold Zeu at h
 unfold Zy8 at ho
 split at h
 ·split at h
  ·rename_i l hh h1 h2
   cases h
   simp only[h1,h2,Ya2,decide_eq_true_eq]at ho
   exact ho
  ·cases h
 ·cases h
def okMk(et:TyI)(l c:D):Bool :=
 match l,c with
 | .v (.int _ l),.v (.int _ c)=>decide (0≤l)&&(decide (l≤c)&&(decide ((et.bytes:Int)*c≤140737488355328)&&decide (c≤9007199254740992)))
 | _,_=>false
theorem Zza{ty et:TyI}{l c:D}{nx:Nat}{r:Res}(h:Zda ty et l c nx=some r)(ho:okMk et l c=true):r.ok:=by
 unfold Zda at h
 unfold okMk at ho
 split at h
 ·split at h
  ·split at h
   ·cases h
    simpa only[Ya2,decide_eq_true_eq]using ho
   ·cases h
  ·cases h
 ·cases h
def okIx(d:D):Bool :=
 match d with
 | .v (.int _ n)=>decide (0≤n)
 | _=>false
def okOp(P:Program)(o:Op)(t:Nat→D)(m:Mem):Bool :=
 match o with
 | .indexAddr _ _ i=>okIx (rd t i)
 | .index _ _ i=>okIx (rd t i)
 | .slice T x lo hi none=>match tyOf P T with
   | some ty => if ty.kind = 2 then (match tyOf P ty.elem with
       | some et=>okSl et (rd t x) (lo.map (rd t)) (hi.map (rd t))
       | none=>false)
     else Zy8 (rd t x) (lo.map (rd t)) (hi.map (rd t))
   | none=>false
 | .makeSlice T l c=>match tyOf P T with
   | some ty=>match tyOf P ty.elem with
     | some et=>okMk et (rd t l) (rd t c)
     | none=>false
   | none=>false
 | .binOp op _ x y _=>Zr2 op (rd t x) (rd t y)
 | .call {callee:=.builtin .append,args,argTypes}=>match args.toList,argTypes.toList with
   | [x,y],[T,_]=>match tyOf P T with
     | some ty=>match tyOf P ty.elem with
       | some et=>Zzc et (rd t x) (rd t y) m
       | none=>false
     | none=>false
   | _,_=>false
 | _=>true
theorem ZgP{x:Option D}{r:Res}(h:x.map Res.pure=some r):r.ok:=by
 cases x with
 | none=>cases h
 | some d=>cases h;trivial
theorem ZtV{ty et:TyI}{x ix:D}{m:Mem}{r:Res}(h:Zci ty et x ix m=some r)(ho:okIx ix=true):r.ok:=by
 unfold Zci at h
 split at h
 ·split at h
  ·rename_i n
   have hn:0≤n:=by simpa[okIx]using ho
   split at h
   ·split at h
    ·split at h
     ·cases h;exact hn
     ·cases h
    ·cases h
   ·split at h
    ·split at h
     ·split at h
      ·cases h;exact hn
      ·cases h
     ·cases h
    ·cases h
   ·cases h
  ·cases h
 ·cases h
theorem Zzb{ty:TyI}{x ix:D}{r:Res}(h:Zlg ty x ix=some r)(ho:okIx ix=true):r.ok:=by
 unfold Zlg at h
 split at h
 ·split at h
  ·rename_i s _ n
   have hn:0≤n:=by simpa[okIx]using ho
   split at h
   ·cases h;exact hn
   ·cases h
  ·cases h
 ·cases h
theorem ZwQ{ty:TyI}{x:D}{m:Mem}{r:Res}(h:Zic ty x m=some r):r.ok:=by
 unfold Zic at h
 split at h
 ·exact ZgP h
 ·split at h
  ·rename_i b hb
   cases hq:ldE b.es _ _ ty with
   | none=>rw[hq]at h;cases h
   | some d=>rw[hq]at h;cases h;trivial
  ·cases h
 ·cases h
theorem Zs1{ty:TyI}{x y:D}{m:Mem}{r:Res}(h:ZgA ty x y m=some r):r.ok:=by
 unfold ZgA at h
 split at h
 ·split at h
  ·split at h
   ·split at h
    ·cases h;trivial
    ·cases h
   ·cases h
  ·cases h
 ·cases h
theorem Zmi{ty:TyI}{x:D}{f:Nat}{r:Res}(h:ZdG ty x f=some r):r.ok:=by
 unfold ZdG at h
 split at h
 ·split at h
  ·cases h
  ·split at h
   ·cases h;trivial
   ·cases h;trivial
   ·cases h
 ·cases h
theorem ZuL{ty:TyI}{x:D}{f:Nat}{r:Res}(h:Zlo ty x f=some r):r.ok:=by
 unfold Zlo at h
 split at h
 ·split at h
  ·cases h
  ·exact ZgP h
 ·cases h
theorem Zvg{ty:TyI}{ps:List (Nat×D)}{r:Res}(h:Zlt ty ps=some r):r.ok:=by
 unfold Zlt at h
 split at h
 ·split at h
  ·cases hq:Zkk (fun i=>(ty.fields[i]?).map fun f=>(f.1,f.2.1)) _ ps with
   | none=>rw[hq]at h;cases h
   | some d=>rw[hq]at h;cases h;trivial
  ·cases h
 ·cases h
theorem Zpr{ty et:TyI}{n:Nat}{ps:List (Nat×D)}{nx:Nat}{r:Res}(h:ZcB ty et n ps nx=some r):r.ok:=by
 unfold ZcB at h
 split at h
 ·split at h
  ·cases h;trivial
  ·cases h
 ·cases h
theorem Zzx{ty:TyI}{x:D}{m:Mem}{r:Res}(h:lenF ty x m=some r):r.ok:=by
 unfold lenF at h
 split at h
 ·split at h<;>cases h;trivial
 ·split at h<;>cases h;trivial
 ·split at h
  ·split at h<;>cases h;trivial
  ·cases h
 ·split at h<;>cases h;trivial
 ·cases h
theorem ZBk{b:Bool}{l:List D}{r:Res}(h:ZgO b l=some r):r.ok:=by
 unfold ZgO at h
 split at h
 ·split at h<;>cases h;trivial
 ·cases h
theorem Zxq{a b:TyI}{x:D}{r:Res}(h:Zgn a b x=some r):r.ok:=by
 unfold Zgn at h
 split at h
 ·split at h<;>cases h;trivial
 ·cases h
theorem Zvu{T:TypeId}{ty:TyI}{nx:Nat}{r:Res}(h:Zkv T ty nx=some r):r.ok:=by
 unfold Zkv at h
 split at h<;>cases h;trivial
theorem ZzX{T:TypeId}{x:D}{nx:Nat}{r:Res}(h:boxF T x nx=some r):r.ok:=by
 unfold boxF at h
 split at h<;>cases h;trivial
theorem ZtU{P:Program}{o:Op}{t:Nat→D}{m:Mem}{nx:Nat}{r:Res}(h:opF P o t m nx=some r)(ho:okOp P o t m=true):r.ok:=by
 unfold opF at h
 unfold okOp at ho
 split at h
 all_goals (try (cases h;trivial))
 all_goals (try simp only at ho)
 all_goals (repeat' (split at h))
 all_goals (try (cases h;done))
 all_goals (try (cases h;trivial))
 all_goals (first
  | exact ZgP h
  | exact ZwQ h
  | exact Zs1 h
  | exact Zmi h
  | exact ZuL h
  | exact Zvg h
  | exact Zpr h
  | exact Zzx h
  | exact ZBk h
  | exact Zxq h
  | exact Zvu h
  | exact ZzX h
  | exact ZtV h ho
  | exact Zzb h ho
  | skip)
 ·rename_i h1 h2 _ _ h3
  simp only[h1,h2,h3,if_true]at ho;exact Zy9 h ho
 ·rename_i h1 h2 _
  simp only[h1,if_neg h2]at ho;exact Zwx h ho
 ·rename_i h1 _ _ h2
  simp only[h1,h2]at ho;exact Zza h ho
 ·rename_i h1
  cases h
  exact ZwA h1 ho
 ·rename_i e1 e2 e3 _ _ h1 _ _ h2
  subst e3
  simp only[e1,e2,h1,h2]at ho
  exact ZwC h ho
section
variable (P:Program) (call:FuncId→List D→Option D) (inl:FuncId→List D→List (Nat×Blk)→Nat→Option (D×List (Nat×Blk)×Nat))
def newB(l:List Nat)(nx:Nat):Bool :=
 match l with
 | []=>true
 | [k]=>Nat.beq k nx
 | _=>false
theorem Zt5{l:List Nat}{nx:Nat}(h:newB l nx=true):l=[]∨l=[nx]:=by
 unfold newB at h
 split at h
 ·exact .inl rfl
 ·exact .inr (by rw[Nat.eq_of_beq_eq_true h])
 ·cases h
def ZqT(f:FuncId)(ds:List D)(c:CS):Option (D×List (Nat×Blk)) :=
 match call f (Zd3 (tabM (ovL c.m (ZbF (ZbI ds) (tabM c.m)))) ds)with
 | some d=>some (d,ovL c.m (ZbF (ZbI ds) (tabM c.m)))
 | none=>none
def evOp(o:SOp)(c:CS):Option CS :=
 match opF P o.op (tabU c.t) (tabM c.m) c.nx with
 | some r=>cond (okOp P o.op (tabU c.t) (tabM c.m)&&newB r.new c.nx) (some ⟨putC c.t o.dst r.d,ovL c.m r.wr,c.nx+r.new.length⟩) none
 | none=>match Zgy o.op (tabU c.t)with
   | some (f,ds)=>match inl f ds c.m c.nx with
     | some (d,m',nx')=>some ⟨putC c.t o.dst d,m',nx'⟩
     | none=>match ZqT call f ds c with
       | some (d,m')=>some ⟨putC c.t o.dst d,m',c.nx⟩
       | none=>none
   | none=>none
def Zml(ds:List (Option Tmp)):List SOp→CS→Option CS
 | [],c=>some c
 | o ::rest,c=>match o.guard with
   | none=>match evOp P call inl o c with
     | some c'=>Zml ds rest c'
     | none=>none
   | some g=>match ZeO ds g (tabU c.t)with
     | some p => cond (p.2 == g.2) (match evOp P call inl o c with
         | some c'=>Zml ds rest c'
         | none=>none) (Zml ds rest ⟨putC c.t o.dst (.v undef),c.m,c.nx⟩)
     | none=>none
def ZuO(o:SOp)(c:CS):Option (Ev×CS) :=
 match opF P o.op (tabU c.t) (tabM c.m) c.nx with
 | some r => cond (okOp P o.op (tabU c.t) (tabM c.m) && (newB r.new c.nx && r.wr.all (fun p => decide (p.1 < c.nx + r.new.length))))
     (some (⟨r.d,r.rd++r.new++r.wr.map (·.1),r.wr,false⟩,⟨putC c.t o.dst r.d,ovL c.m r.wr,c.nx+r.new.length⟩)) none
 | none=>match Zgy o.op (tabU c.t)with
   | some (f,ds)=>match ZqT call f ds c with
     | some (d, m') => cond ((ZbF (ZbI ds) (tabM c.m)).all (fun p => decide (p.1 < c.nx)))
         (some (⟨d,ZbI ds++(ZbF (ZbI ds) (tabM c.m)).map (·.1),ZbF (ZbI ds) (tabM c.m),false⟩,⟨putC c.t o.dst d,m',c.nx⟩)) none
     | none=>none
   | none=>none
def Zmk(ds:List (Option Tmp)):List SOp→CS→List Ev→Option (List Ev×CS)
 | [],c,tr=>some (tr,c)
 | o ::rest,c,tr=>match o.guard with
   | none=>match ZuO P call o c with
     | some (ev,c')=>Zmk ds rest c' (tr++[ev])
     | none=>none
   | some g=>match ZeO ds g (tabU c.t)with
     | some p => cond (p.2 == g.2) (match ZuO P call o c with
         | some (ev,c')=>Zmk ds rest c' (tr++[ev])
         | none=>none) (Zmk ds rest ⟨putC c.t o.dst (.v undef),c.m,c.nx⟩ (tr++[⟨.v undef,[],[],false⟩]))
     | none=>none
def ZqS(body:CS→Option (Exit×CS)):Nat→CS→Option (Exit×CS)
 | 0,_=>none
 | k+1,c=>match body c with
   | some (.normal,c')=>ZqS body k c'
   | r=>r
def Zwg(ops:Array Oper)(tr:List Ev):Bool:=tr.all (fun e=>e.wr.isEmpty)||ZgL ops (tr.map fun e=>(e.touch,ids e.wr))
def evC(L:Nat):Code→CS→Option (Exit×CS)
 | .skip,c=>some (.normal,c)
 | .exit id,c=>some (.exit id,c)
 | .ret,c=>some (.ret,c)
 | .seq x y,c=>match evC L x c with
   | some (.normal,c')=>evC L y c'
   | r=>r
 | .block id x,c=>match evC L x c with
   | some (.exit id',c')=>if id'=id then some (.normal,c')else some (.exit id',c')
   | r=>r
 | .cond o x y,c=>match rd (tabU c.t) o with
   | .v (.bool true)=>evC L x c
   | .v (.bool false)=>evC L y c
   | _=>none
 | .loop x,c=>ZqS (evC L x) L c
 | .region _ l false,c=>match Zml P call inl (l.toList.map (·.dst)) (l.toList.map ZgG) c with
   | some c'=>some (.normal,c')
   | none=>none
 | .region _ l true,c=>match Zmk P call (l.toList.map (·.dst)) (l.toList.map ZgG) c []with
   | some (tr,c')=>cond (Zwg l tr) (some (.normal,c')) none
   | none=>none
 | _,_=>none
def ZhA(n:Nat):Code→Bool
 | .skip | .exit _ | .ret=>true
 | .seq x y=>ZhA n x&&ZhA n y
 | .block _ x=>ZhA n x
 | .cond o x y=>ZdV n o&&(ZhA n x&&ZhA n y)
 | .loop x=>ZhA n x
 | .region _ l false=>l.all (Zbz n)
 | .region _ l true=>l.all (Zbz n)&&Zso l
 | _=>true
end
section ifl
variable [Ifl]
section
variable {P:Program} {call:FuncId→List D→Option D} {inl:FuncId→List D→List (Nat×Blk)→Nat→Option (D×List (Nat×Blk)×Nat)}
 (hc:∀ f ds d,call f ds=some d→Zaa P f ds d)
include hc
theorem ZnS{f:FuncId}{ds:List D}{c:CS}{d:D}{m':List (Nat×Blk)}(h:ZqT call f ds c=some (d,m')):Zaa P f (Zd3 (ZdS (tabM c.m) ds) ds) d∧tabM m'=ZdS (tabM c.m) ds∧m'=ovL c.m (ZbF (ZbI ds) (tabM c.m)):=by
 unfold ZqT at h
 split at h
 ·rename_i d' hd
  cases h
  have h1:=hc _ _ _ hd
  rw[Zhi]at h1
  exact⟨h1,Zhi _ _,rfl⟩
 ·cases h
variable (hi:∀ f ds m nx d m' nx',inl f ds m nx=some (d,m',nx')→∀ K:D→Mem→Nat→Prop,K d (tabM m') nx'→Zar P f ds (tabM m) nx K)
include hi
theorem ZuN{o:SOp}{c c':CS}{lo:Nat}{K:St→Prop}(h:evOp P call inl o c=some c')(k:K (c'.den lo)):opS P o (c.den lo) K:=by
 unfold evOp at h
 unfold opS CS.den
 simp only
 split at h
 ·rename_i r hr
  rw[hr]
  cases hb:(okOp P o.op (tabU c.t) (tabM c.m)&&newB r.new c.nx)
  ·rw[hb]at h;cases h
  ·rw[hb]at h
   simp only[cond_true,Ya1]at h
   subst h
   rw[Ya2]at hb
   refine⟨ZtU hr hb.1,Zt5 hb.2,?_⟩
   simp only[CS.den,ZdO,Zhi]at k
   exact k
 ·rename_i hr
  rw[hr]
  split at h
  ·rename_i f ds hd
   rw[hd]
   simp only
   split at h
   ·rename_i d m' nx' hin
    cases h
    refine hi _ _ _ _ _ _ _ hin _ ?_
    simp only[CS.den,ZdO]at k
    exact k
   ·split at h
    ·rename_i d m' hq
     cases h
     obtain⟨h1,h2,_⟩:=ZnS hc hq
     refine Zar.ofN h1 ?_
     simp only[CS.den,ZdO,h2]at k
     exact k
    ·cases h
  ·cases h
theorem Zjd{ds:List (Option Tmp)}{lo:Nat}{K:St→Prop}:∀ (l:List SOp)(c c':CS),Zml P call inl ds l c=some c'→K (c'.den lo)→opsL P ds l (c.den lo) K
 | [],c,c',h,k=>by unfold Zml at h;cases h;exact k
 | o ::rest,c,c',h,k=>by
   unfold Zml at h
   unfold opsL
   split at h
   ·rename_i hg
    rw[hg]
    simp only
    split at h
    ·rename_i c1 h1
     exact ZuN hc hi h1 (Zjd rest c1 c' h k)
    ·cases h
   ·rename_i g hg
    rw[hg]
    simp only
    split at h
    ·rename_i p hp
     rw[show ZeO ds g (c.den lo).t=some p from hp]
     obtain⟨k1,b⟩:=p
     obtain⟨j,want⟩:=g
     simp only
     have go:∀ {c1},evOp P call inl o c=some c1→Zml P call inl ds rest c1=some c'→opS P o (c.den lo) fun s'=>opsL P ds rest s' K:=fun h1 h2=>ZuN hc hi h1 (Zjd rest _ c' h2 k)
     have no:Zml P call inl ds rest ⟨putC c.t o.dst (.v undef),c.m,c.nx⟩=some c'→opsL P ds rest {(c.den lo)with t:=putT (c.den lo).t o.dst (.v undef)} K:=fun h2=>by
      have:=Zjd rest _ c' h2 k
      simp only[CS.den,ZdO]at this
      exact this
     cases b<;>cases want<;>simp only[beq_self_eq_true,cond_true]at h ⊢
     ·split at h
      ·rename_i c1 h1;exact go h1 h
      ·cases h
     ·exact no h
     ·exact no h
     ·split at h
      ·rename_i c1 h1;exact go h1 h
      ·cases h
    ·cases h
omit hi in
theorem ZqR{o:SOp}{c c':CS}{ev:Ev}{lo:Nat}{K:Ev→St→Prop}(h:ZuO P call o c=some (ev,c'))(k:K ev (c'.den lo)):opE P o (c.den lo) K∧ev.ints=false:=by
 unfold ZuO at h
 unfold opE CS.den
 simp only
 split at h
 ·rename_i r hr
  rw[hr]
  cases hb:(okOp P o.op (tabU c.t) (tabM c.m)&&(newB r.new c.nx&&r.wr.all (fun p=>decide (p.1<c.nx+r.new.length))))
  ·rw[hb]at h;cases h
  ·rw[hb]at h
   simp only[cond_true,Ya1,Prod.mk.injEq]at h
   obtain⟨rfl,rfl⟩:=h
   rw[Ya2,Ya2]at hb
   refine⟨⟨ZtU hr hb.1,Zt5 hb.2.1,hb.2.2,?_⟩,rfl⟩
   simp only[CS.den,ZdO,Zhi]at k
   exact k
 ·rename_i hr
  rw[hr]
  split at h
  ·rename_i f ds hd
   rw[hd]
   simp only
   split at h
   ·rename_i d m' hq
    cases hb:(ZbF (ZbI ds) (tabM c.m)).all (fun p=>decide (p.1<c.nx))
    ·rw[hb]at h;cases h
    ·rw[hb]at h
     simp only[cond_true,Ya1,Prod.mk.injEq]at h
     obtain⟨rfl,rfl⟩:=h
     obtain⟨h1,h2,h3⟩:=ZnS hc hq
     refine⟨.inl ⟨d,false,.inr h1,hb,?_⟩,rfl⟩
     simp only[CS.den,ZdO,h2]at k
     exact k
   ·cases h
  ·cases h
omit hi in
theorem Zmj{ds:List (Option Tmp)}{lo:Nat}{K:List Ev→St→Prop}:∀ (l:List SOp)(c c':CS)(tr tr':List Ev),Zmk P call ds l c tr=some (tr',c')→(tr.any (·.ints)=false→tr'.any (·.ints)=false→K tr' (c'.den lo))→tr.any (·.ints)=false→runL P ds l (c.den lo) tr K∧tr'.any (·.ints)=false
 | [],c,c',tr,tr',h,k,hn=>by unfold Zmk at h;cases h;exact⟨k hn hn,hn⟩
 | o ::rest,c,c',tr,tr',h,k,hn=>by
   unfold Zmk at h
   unfold runL
   have hn1:∀ ev:Ev,ev.ints=false→(tr++[ev]).any (·.ints)=false:=fun ev he=>by rw[List.any_append,hn];simp[he]
   have go:∀ {ev c1},ZuO P call o c=some (ev,c1)→Zmk P call ds rest c1 (tr++[ev])=some (tr',c')→(opE P o (c.den lo) fun ev s'=>runL P ds rest s' (tr++[ev]) K)∧tr'.any (·.ints)=false:=fun {ev c1} h1 h2=>by
    have e0:=(ZqR (lo:=lo) (K:=fun _ _=>True) hc h1 trivial).2
    obtain⟨a,b⟩:=Zmj rest c1 c' _ tr' h2 (fun _=>k hn) (hn1 ev e0)
    exact⟨(ZqR (K:=fun ev s'=>runL P ds rest s' (tr++[ev]) K) hc h1 a).1,b⟩
   split at h
   ·rename_i hg
    rw[hg]
    simp only
    split at h
    ·rename_i ev c1 h1
     exact go h1 h
    ·cases h
   ·rename_i g hg
    rw[hg]
    simp only
    split at h
    ·rename_i p hp
     rw[show ZeO ds g (c.den lo).t=some p from hp]
     obtain⟨k1,b⟩:=p
     obtain⟨j,want⟩:=g
     simp only
     have no:Zmk P call ds rest ⟨putC c.t o.dst (.v undef),c.m,c.nx⟩ (tr++[⟨.v undef,[],[],false⟩])=some (tr',c')→runL P ds rest {(c.den lo)with t:=putT (c.den lo).t o.dst (.v undef)} (tr++[⟨.v undef,[],[],false⟩]) K∧tr'.any (·.ints)=false:=fun h2=>by
      have:=Zmj rest _ c' _ tr' h2 (fun _=>k hn) (hn1 _ rfl)
      simp only[CS.den,ZdO]at this
      exact this
     cases b<;>cases want<;>simp only[beq_self_eq_true,cond_true]at h ⊢
     ·split at h
      ·rename_i ev c1 h1;exact go h1 h
      ·cases h
     ·exact no h
     ·exact no h
     ·split at h
      ·rename_i ev c1 h1;exact go h1 h
      ·cases h
    ·cases h
omit hc hi in
theorem Zwf{ops:Array Oper}{tr:List Ev}(h:Zwg ops tr=true):ZgL ops (tr.map fun e=>(e.touch,ids e.wr))=true:=by
 unfold Zwg at h
 rw[Bool.or_eq_true]at h
 rcases h with h|h
 ·unfold ZgL
  rw[Ya6]
  intro j _
  rw[Ya6]
  intro i _
  have hw:∀ (k:Nat) x,(tr.map fun e=>(e.touch,ids e.wr))[k]? =some x→x.2=[]:=fun k x hx=>by
   rw[Yb8]at hx
   cases he:tr[k]? with
   | none=>rw[he]at hx;cases hx
   | some e =>
     rw[he]at hx
     cases hx
     have:=Ya6.1 h e (Ya7 he)
     simp only[List.isEmpty_iff]at this
     simp[ids,this]
  split
  ·rename_i x y hx hy
   rw[hw _ _ hx,hw _ _ hy]
   simp[Zj1]
  ·rfl
 ·exact h
theorem ZfQ(hm:P.follows .mixedOrders=true){L n lo:Nat}:∀ (x:Code)(c c':CS)(e:Exit)(Q:Exit→St→Prop),ZhA n x=true→evC P call inl L x c=some (e,c')→Q e (c'.den lo)→AWP P n x Q (c.den lo)
 | .skip,c,c',e,Q,_,h,k=>by unfold evC at h;cases h;exact ZhQ k
 | .exit id,c,c',e,Q,_,h,k=>by unfold evC at h;cases h;exact ZhT k
 | .ret,c,c',e,Q,_,h,k=>by unfold evC at h;cases h;exact aRet k
 | .seq x y,c,c',e,Q,g,h,k=>by
   unfold evC at h
   unfold ZhA at g
   rw[Ya2]at g
   refine aSeq fun K hK=>?_
   split at h
   ·rename_i c1 h1
    exact ZfQ hm x c c1 .normal _ g.1 h1 (hK _ (ZfQ hm y c1 c' e Q g.2 h k))
   ·rename_i r hne
    refine ZfQ hm x c c' e _ g.1 h ?_
    cases e with
    | normal=>exact absurd h (hne c')
    | _=>exact k
 | .block id x,c,c',e,Q,g,h,k=>by
   unfold evC at h
   unfold ZhA at g
   refine Zee ?_
   split at h
   ·rename_i id' c1 h1
    refine ZfQ hm x c c1 (.exit id') _ g h1 ?_
    unfold Zgd
    simp only
    split at h
    ·rename_i hid;cases h;rw[if_pos hid];exact k
    ·rename_i hid;cases h;rw[if_neg hid];exact k
   ·rename_i r hne
    refine ZfQ hm x c c' e _ g h ?_
    cases e with
    | exit id'=>exact absurd h (hne id' c')
    | _=>exact k
 | .cond o x y,c,c',e,Q,g,h,k=>by
   unfold evC at h
   unfold ZhA at g
   rw[Ya2,Ya2]at g
   split at h
   ·rename_i hr;exact Zec g.1 hr (ZfQ hm x c c' e Q g.2.1 h k)
   ·rename_i hr;exact Zed g.1 hr (ZfQ hm y c c' e Q g.2.2 h k)
   ·cases h
 | .loop x,c,c',e,Q,g,h,k=>by
   unfold evC at h
   unfold ZhA at g
   refine Zz7 (X:={p:Nat×CS // ZqS (evC P call inl L x) p.1 p.2=some (e,c')}) (fun p=>p.1.2.den lo) (fun _=>True) (fun p=>p.1.1) ⟨⟨(L,c),h⟩,trivial,fun E B n β a w hr=>⟨β,hr⟩⟩ ?_
   rintro⟨⟨f,c1⟩,h1⟩ _
   simp only at h1 ⊢
   cases f with
   | zero=>cases h1
   | succ f =>
     unfold ZqS at h1
     split at h1
     ·rename_i c2 h2
      refine ZfQ hm x c1 c2 .normal _ g h2 ?_
      exact⟨⟨(f,c2),h1⟩,trivial,Nat.lt_succ_self _,fun E B n β a w hr=>⟨β,hr⟩⟩
     ·rename_i hne
      refine ZfQ hm x c1 c' e _ g h1 ?_
      cases e with
      | normal=>exact absurd h1 (hne c')
      | _=>exact k
 | .region id l false,c,c',e,Q,g,h,k=>by
   unfold evC at h
   unfold ZhA at g
   split at h
   ·rename_i c1 h1
    cases h
    have:l=l.toList.toArray:=by simp
    rw[this]
    exact aOps (l:=l.toList) _ rfl (by simpa using g) (Zjd hc hi _ _ _ h1 k)
   ·cases h
 | .region id l true,c,c',e,Q,g,h,k=>by
   unfold evC at h
   unfold ZhA at g
   rw[Ya2]at g
   split at h
   ·rename_i tr c1 h1
    cases hb:Zwg l tr
    ·rw[hb]at h;cases h
    ·rw[hb]at h
     simp only[cond_true,Ya1,Prod.mk.injEq]at h
     obtain⟨rfl,rfl⟩:=h
     have el:l=l.toList.toArray:=by simp
     rw[el]
     refine ZhR (l:=l.toList) _ rfl hm (by simpa using g.2) (by simpa using g.1) fun KE hE=>?_
     refine(Zmj hc _ _ _ _ _ h1 (fun _ h2=>hE tr _ ?_ (Zaz h2) k) rfl).1
     simpa using Zwf hb
   ·cases h
 | .rangeFunc ..,_,_,_,_,_,h,_=>by unfold evC at h;cases h
 | .scope _,_,_,_,_,_,h,_=>by unfold evC at h;cases h
 | .label _,_,_,_,_,_,h,_=>by unfold evC at h;cases h
 | .goto _,_,_,_,_,_,h,_=>by unfold evC at h;cases h
 | .refuse _,_,_,_,_,_,h,_=>by unfold evC at h;cases h
end
end ifl
def ZnF(P:Program)(p:FuncId×Func):Bool :=
 match p.2.body with
 | some c => ZhA p.2.ntmps c && (!(p.2.name == "runtime.NumGoroutine") && p.2.results.toList.all (ZiW p.2.ntmps))
 | none=>false
def Zxc(f:FuncId):List (FuncId×Func)→Option Func
 | []=>none
 | p ::l=>cond (Nat.beq p.1 f) (some p.2) (Zxc f l)
theorem ZnN{f:FuncId}{fn:Func}:∀ {l:List (FuncId×Func)},Zxc f l=some fn→(f,fn)∈l
 | [],h=>by cases h
 | p ::l,h=>by
   unfold Zxc at h
   cases hb:Nat.beq p.1 f
   ·rw[hb]at h;exact Yb6 _ (ZnN h)
   ·rw[hb]at h
    have:=Nat.eq_of_beq_eq_true hb
    subst this
    simp only[cond_true,Ya1]at h
    subst h
    exact Yb7
section
variable (P:Program) (fs:List (FuncId×Func)) (ora:FuncId→List D→Option D) (inB:FuncId→Bool) (L:Nat)
def evB(call:FuncId→List D→Option D)(inl:FuncId→List D→List (Nat×Blk)→Nat→Option (D×List (Nat×Blk)×Nat))(f:FuncId)(ds:List D)(m:List (Nat×Blk))(nx:Nat):Option (D×List (Nat×Blk)×Nat) :=
 match Zxc f fs with
 | none=>none
 | some fn=>match fn.body with
   | none=>none
   | some c=>cond (Nat.ble ds.length fn.ntmps) (match evC P call inl L c ⟨Zpm 0 ds,m,nx⟩with
     | some (.normal,s)=>match Zgt P (s.den nx) fn.results.toList with
       | some r=>some (oneD r,s.m,s.nx)
       | none=>none
     | some (.ret,s)=>match Zgt P (s.den nx) fn.results.toList with
       | some r=>some (oneD r,s.m,s.nx)
       | none=>none
     | _=>none) none
def evN(inl:FuncId→List D→List (Nat×Blk)→Nat→Option (D×List (Nat×Blk)×Nat))(f:FuncId)(ds:List D):Option D :=
 match ora f ds with
 | some d=>some d
 | none=>match inl f ds [] 0 with
   | some (d,m,_)=>some (fzT true (tabM m) 8 d)
   | none=>none
def evF:Nat→FuncId→List D→List (Nat×Blk)→Nat→Option (D×List (Nat×Blk)×Nat)
 | 0,_,_,_,_=>none
 | k+1,f,ds,m,nx=>evB P fs L (evN ora (evF k)) (fun g es m' nx'=>cond (inB g) (evF k g es m' nx') none) f ds m nx
variable {P fs ora inB L}
theorem ZBF[Ifl](hm:P.follows .mixedOrders=true)(hfs:∀ p∈fs,P.funcs[p.1]? =some p.2∧ZnF P p=true){call:FuncId→List D→Option D}{inl:FuncId→List D→List (Nat×Blk)→Nat→Option (D×List (Nat×Blk)×Nat)}
 (hc:∀ f ds d,call f ds=some d→Zaa P f ds d) (hi:∀ f ds m nx d m' nx',inl f ds m nx=some (d,m',nx')→∀ K:D→Mem→Nat→Prop,K d (tabM m') nx'→Zar P f ds (tabM m) nx K)
 {f:FuncId} {ds:List D} {m m':List (Nat×Blk)} {nx nx':Nat} {d:D} (h:evB P fs L call inl f ds m nx=some (d,m',nx')) {K:D→Mem→Nat→Prop} (k:K d (tabM m') nx'):Zar P f ds (tabM m) nx K:=by
 unfold evB at h
 split at h
 ·cases h
 ·rename_i fn hfn
  obtain⟨h1,h2⟩:=hfs _ (ZnN hfn)
  split at h
  ·cases h
  ·rename_i c hb
   unfold ZnF at h2
   simp only[hb,Ya2,Bool.not_eq_true']at h2
   obtain⟨g1,g2,g3⟩:=h2
   cases hl:Nat.ble ds.length fn.ntmps
   ·rw[hl]at h;cases h
   ·rw[hl]at h
    simp only[cond_true]at h
    have e0:(⟨ZiV ds,tabM m,nx,nx⟩:St)=(⟨Zpm 0 ds,m,nx⟩:CS).den nx:=by unfold CS.den;simp only[Zsl]
    have fin : ∀ {s : CS}, (match Zgt P (s.den nx) fn.results.toList with
        | some r=>some (oneD r,s.m,s.nx)
        | none=>none)=some (d,m',nx')→∃ r,Zgt P (s.den nx) fn.results.toList=some r∧K (oneD r) (s.den nx).m (s.den nx).nx:=fun {s} h=>by
     split at h
     ·rename_i r hr;cases h;exact⟨r,hr,k⟩
     ·cases h
    refine Zar.inline h1 hb g2 (decide_eq_true (Nat.le_of_ble_eq_true hl)) g3 ?_
    rw[e0]
    split at h
    ·rename_i s hs;exact ZfQ hc hi hm c _ s .normal _ g1 hs (fin h)
    ·rename_i s hs;exact ZfQ hc hi hm c _ s .ret _ g1 hs (fin h)
    ·cases h
theorem ZuP(hm:P.follows .mixedOrders=true)(hfs:∀ p∈fs,P.funcs[p.1]? =some p.2∧ZnF P p=true)(ho:∀ f ds d,ora f ds=some d→Zaa P f ds d):∀ (k:Nat)(f:FuncId)(ds:List D) (m m':List (Nat×Blk)) (nx nx':Nat) (d:D),evF P fs ora inB L k f ds m nx=some (d,m',nx')→∀ (I:Ifl)(K:D→Mem→Nat→Prop),K d (tabM m') nx'→@Zar I P f ds (tabM m) nx K
 | 0,_,_,_,_,_,_,_,h,_,_,_=>by cases h
 | k+1,f,ds,m,m',nx,nx',d,h,I,K,hk=>by
   unfold evF at h
   refine ZBF hm hfs (fun g es d hg=>?_) (fun g es m1 n1 d1 m2 n2 hg K1 k1=>?_) h hk
   ·unfold evN at hg
    split at hg
    ·rename_i d' hd;cases hg;exact ho _ _ _ hd
    ·split at hg
     ·rename_i d' m1 n1 hd
      cases hg
      exact Zaa.ofA fun I=>ZuP hm hfs ho k g es [] m1 0 n1 d' hd I _ rfl
     ·cases hg
   ·cases hb:inB g
    ·simp only[hb,cond_false]at hg;cases hg
    ·simp only[hb,cond_true]at hg
     exact ZuP hm hfs ho k g es m1 m2 n1 n2 d1 hg I K1 k1
theorem ZnR(hm:P.follows .mixedOrders=true)(hfs:∀ p∈fs,P.funcs[p.1]? =some p.2∧ZnF P p=true)(ho:∀ f ds d,ora f ds=some d→Zaa P f ds d){k:Nat}{f:FuncId}{ds:List D}{d:D}(h:evN ora (evF P fs ora inB L k) f ds=some d):Zaa P f ds d:=by
 unfold evN at h
 split at h
 ·rename_i d' hd;cases h;exact ho _ _ _ hd
 ·split at h
  ·rename_i d' m1 n1 hd
   cases h
   exact Zaa.ofA fun I=>ZuP hm hfs ho k f ds [] m1 0 n1 d' hd I _ rfl
  ·cases h
end
set_option maxHeartbeats 16000000
def Zr4(_:FuncId)(_:List D):Option D:=none
theorem Zho{P:Program}:∀ (f:FuncId)(ds:List D)(d:D),Zr4 f ds=some d→Zaa P f ds d:=fun _ _ _ h=>by cases h
noncomputable def fsS:List (FuncId×Func):=[(71,Tryz.f71),(106,Tryz.f106),(145,Tryz.f145),(98,Tryz.f98),(138,Tryz.f138)]
theorem ZBs:∀ p∈fsS,Tryz.prog.funcs[p.1]? =some p.2∧ZnF Tryz.prog p=true:=by
 unfold fsS
 simp only[List.forall_mem_cons,List.not_mem_nil,false_implies,implies_true,and_true]
 exact⟨⟨Tryz.func71,by kernel_rfl⟩,⟨Tryz.func106,by kernel_rfl⟩,⟨Tryz.func145,by kernel_rfl⟩,⟨Tryz.func98,by kernel_rfl⟩,⟨Tryz.func138,by kernel_rfl⟩⟩
theorem ZyM:Zaa Tryz.prog 71 [.sl [],.clo 72 []] (oneD []) :=
 ZnR (ora:=Zr4) (inB:=fun _=>false) (L:=20) (k:=6) mixed ZBs Zho (by kernel_rfl)
theorem ZzG(e:EvD)(L:LenE e):Zaa Tryz.prog 36 [Zb2 e,.sl []] (.tup [Zbr [],dB (Zcd e==0)]):=by
 have Zr:=Tryz.results36
 have k0:=ZgC e L
 have k1:=ZyM
 cases hf:(Zcd e !=0)
 ·have h0:(Zcd e==0)=true:=by simpa using hf
  rw[h0]
  refine inN Tryz.func36 rfl Tryz.ntmps36 fun I=>?_
  refine aGo (cj2 Zr hf) ?_
  repeat with_reducible intro K hK
  refine ZaH (fun(_:Unit)=>[(2,.lp 0 0 0 0),(6,.nil),(13,.sl []),(14,dI 0),(15,dI 0)]) (fun _=>[(0,Zfe e)]) 1 0 (fun _=>True) (fun _=>0) () trivial ?_ ?_
  ·refine Zb1 _ _ _ ?_ ?_ ?_ ?_ ?_ (.inl rfl)<;>simp[go_sem,okD,okDs,Zb8]
  rintro⟨⟩ -
  refine aGo Zr ?_
  repeat with_reducible intro K hK
  refine ZaH (fun(_:Unit)=>[(2,.lp 0 0 0 0),(6,.nil),(9,dI 1)]) (fun _=>[(0,Zfe e)]) 1 0 (fun _=>True) (fun _=>0) () trivial ?_ ?_
  ·refine Zb1 _ _ _ ?_ ?_ ?_ ?_ ?_ (.inl rfl)<;>simp[go_sem,okD,okDs,Zb8]
  rintro⟨⟩ -
  refine aGo Zr ?_
  repeat with_reducible intro K hK
  rfl
 ·have h0:(Zcd e==0)=false:=by simpa using hf
  rw[h0]
  refine inN Tryz.func36 rfl Tryz.ntmps36 fun I=>?_
  refine aGo (cj2 Zr hf) ?_
  repeat with_reducible intro K hK
  rfl
noncomputable def rng0 (e:EvD):(OptD×OptD)×Int:=if Zcd e=0 then Zbl (sysE e) []else((zO,zO),1)
theorem Zwe(e:EvD)(L:LenE e)(hn:e.mv.length≤12)(hp:e.pu.length≤12)(F:Zcd e=0→Fit (sysE e) [] 3 8):Zae Tryz.prog 13 [Zb2 e,.sl []] (.tup [encR (rng0 e).1.1 (rng0 e).1.2,dI (rng0 e).2]):=by
 have Zr:=Tryz.results13
 have k0:=ZzG e L
 unfold rng0
 by_cases hf:Zcd e=0
 ·rw[if_pos hf]
  rw[hf]at k0
  have k1:=ZpL e hf hn hp L
  have k2:=Zx2 (sysE e) [] (F hf)
  generalize Zbl (sysE e) []=r at k2
  obtain⟨⟨a,b⟩,c⟩:=r
  refine inC Tryz.func13 rfl Tryz.ntmps13 ?_
  refine aGo Zr ?_
  repeat with_reducible intro K hK
  rfl
 ·rw[if_neg hf]
  rw[show(Zcd e==0)=false by simpa using hf]at k0
  refine inC Tryz.func13 rfl Tryz.ntmps13 ?_
  refine aGo Zr ?_
  repeat with_reducible intro K hK
  rfl
theorem ZAW(e:EvD)(L:LenE e)(hn:e.mv.length≤12)(hp:e.pu.length≤12)(F:Zcd e=0→Fit (sysE e) [] 3 8):Zae Tryz.prog 10 [Zb2 e] (dB (posB e)):=by
 have Zr:=Tryz.results10
 have k0:=Zwe e L hn hp F
 have hb:posB e=((rng0 e).2==0):=by
  unfold posB rng0
  by_cases hf:Zcd e=0
  ·rw[if_pos hf,hf];simp
  ·rw[if_neg hf,show(Zcd e==0)=false by simpa using hf];rfl
 rw[hb]
 generalize rng0 e=r at k0
 obtain⟨⟨a,b⟩,c⟩:=r
 refine inC Tryz.func10 rfl Tryz.ntmps10 ?_
 exact aGo (Y:=True) Zr trivial
structure PkD where
 v:Int
 m:Int
abbrev cPk(p:PkD):List D:=[dI p.v,dI p.m]
abbrev Zco(l:List PkD):D:=.sl (l.map cPk)
def okPk(e:EvD)(p:PkD):Bool:=decide (0≤p.v)&&(decide (p.v<e.mv.length)&&(decide (0≤p.m)&&decide (p.m<e.m)))
def varP(e:EvD)(p:PkD):Int:=p.v*e.m+p.m
def oneT(v:Int):Zag:=⟨v,ofQ ((1:Int):Rat)⟩
abbrev Zc7(e:EvD)(ps:List PkD):List Int:=(ps.map (varP e)).mergeSort fun x y=>decide (x≤y)
def dupI:List Int→Bool
 | a ::b ::l=>(a==b)||dupI (b ::l)
 | _=>false
def ZbW(e:EvD)(ps:List PkD):List Zag×Bool:=if ps.all (okPk e) && !dupI (Zc7 e ps)then((Zc7 e ps).map oneT,true)else([],false)
theorem Zyj:∀ {l:List Int} {i:Nat} {a:Int},l[i]? =some a→l[i+1]? =some a→dupI l=true
 | [],i,a,h,_=>by cases i<;>cases h
 | [x],i,a,_,h=>by cases i<;>simp at h
 | x ::y ::l,0,a,h1,h2=>by simp at h1 h2;subst h1;subst h2;simp[dupI]
 | x ::y ::l,i+1,a,h1,h2=>by
   rw[dupI,Zyj (l:=y ::l) (i:=i) (by simpa using h1) (by simpa using h2),Bool.or_true]
theorem Zyh:∀ {l:List Int},(∀ (i:Nat)(a b:Int),l[i]? =some a→l[i+1]? =some b→a≠b)→dupI l=false
 | [],_=>rfl
 | [x],_=>rfl
 | x ::y ::l,h=>by
   rw[dupI,Zyh fun i a b h1 h2=>h (i+1) a b (by simpa using h1) (by simpa using h2),Bool.or_false]
   exact beq_eq_false_iff_ne.2 (h 0 x y rfl rfl)
theorem Zyi:∀ {l:List Int},(l.Pairwise fun a b=>a≤b)→dupI l=false→l.Pairwise fun a b=>a<b
 | [],_,_=>List.Pairwise.nil
 | [x],_,_=>by simp
 | x ::y ::l,hs,hd=>by
   rw[dupI,Bool.or_eq_false_iff,beq_eq_false_iff_ne]at hd
   rw[List.pairwise_cons]at hs
   have ih:=Zyi hs.2 hd.2
   refine List.pairwise_cons.2 ⟨fun z hz=>?_,ih⟩
   have h1:=hs.1 y (by simp)
   rcases List.mem_cons.1 hz with rfl|hz
   ·omega
   ·have:=(List.pairwise_cons.1 ih).1 z hz;omega
theorem Zs6(l:List Int):(l.mergeSort fun x y=>decide (x≤y)).Pairwise fun a b=>a≤b:=by
 have:=List.pairwise_mergeSort (le:=fun x y:Int=>decide (x≤y)) (fun a b c h1 h2=>by simp only[decide_eq_true_eq]at *;omega) (fun a b=>by simp only[Bool.or_eq_true,decide_eq_true_eq];omega) l
 exact this.imp fun h=>by simpa using h
theorem ZmS{e:EvD}{ps:List PkD}{ts:List Zag}(hp:ts.Perm (ps.map fun p=>oneT (varP e p)))(hs:ts.Pairwise fun a b=>a.v≤b.v):ts=(Zc7 e ps).map oneT:=by
 have h1:ts.map (·.v)=Zc7 e ps:=by
  refine List.Perm.eq_of_pairwise (le:=fun a b:Int=>a≤b) (fun a b _ _ h1 h2=>by omega) (List.pairwise_map.2 hs) (Zs6 _) ?_
  refine(hp.map (·.v)).trans ?_
  rw[List.map_map]
  exact(List.mergeSort_perm _ _).symm
 rw[← h1,List.map_map]
 have:∀ t∈ts,(oneT∘fun t=>t.v) t=t:=fun t ht=>by
  obtain⟨p,_,rfl⟩:=Yc6.1 (hp.mem_iff.1 ht);rfl
 conv=>lhs;rw[← List.map_id ts]
 exact(List.map_congr_left this).symm
section
variable {e:EvD} (hf:Zcd e=0) (L:LenE e) (hn:e.mv.length≤12)
include hf L hn
theorem ZBp(ps:List PkD)(hl:ps.length≤100):Zae Tryz.prog 36 [Zb2 e,Zco ps] (.tup [Zbr (ZbW e ps).1,dB (ZbW e ps).2]):=by
 have Zr:=Tryz.results36
 have Ri:=Zfc hf
 have hM:=Ri.m
 have k0:=ZgC e L
 rw[hf]at k0
 have k1:=ZfP 1 (by decide) (by decide)
 refine inC Tryz.func36 rfl Tryz.ntmps36 ?_
 refine aGo Zr ?_
 repeat with_reducible intro K hK
 refine aLe (Zd9 6 144 5 rfl) ?_
 refine ZaH (fun(x:Nat×List Zag)=>[(2,.lp 0 0 0 0),(6,.ls 1 x.1),(13,Zco ps),(14,dI ps.length),(15,dI x.1)]) (fun x=>[(0,Zfe e),(1,⟨144,x.1,5,x.2.map cT,0,false⟩)]) 2 0 (fun x=>x.1≤ps.length∧x.2=(ps.take x.1).map (fun p=>oneT (varP e p))∧∀ p∈ps.take x.1,okPk e p=true) (fun x=>ps.length-x.1) (0,[]) ⟨Yb0 _,rfl,fun p hp=>by cases hp⟩ ?_ ?_
 ·exact leGo trivial
 rintro⟨k,Q⟩ ⟨hk,hQ,hok⟩
 simp only at hk hQ hok
 obtain⟨hw,h0⟩:=ZaS k
 have hlQ:Q.length≤100:=by rw[hQ,Yc0,Yc1];omega
 by_cases h1:(k:Int)<ps.length
 ·obtain⟨p,hp⟩:∃ p,ps[k]? =some p:=⟨_,Ya0 (by omega)⟩
  have hbad:okPk e p=false→ZbW e ps=([],false):=fun h=>by
   have:ps.all (okPk e)=false:=List.all_eq_false.2 ⟨p,Ya7 hp,by rw[h];exact Yc5⟩
   unfold ZbW;rw[this];rfl
  by_cases g1:p.v<0
  ·rw[hbad (by unfold okPk;rw[decide_eq_false (by omega)];rfl)]
   refine aGo (cj4 Zr h0 h1 (cj2 hp g1)) ?_
   repeat with_reducible intro K hK
   rfl
  by_cases g2:p.v≥e.mv.length
  ·rw[hbad (by unfold okPk;rw[decide_eq_false (p:=p.v<e.mv.length) (by omega)];simp)]
   refine aGo (cj4 Zr h0 h1 (cj3 hp g1 g2)) ?_
   repeat with_reducible intro K hK
   rfl
  by_cases g3:p.m<0
  ·rw[hbad (by unfold okPk;rw[decide_eq_false (p:=0≤p.m) (by omega)];simp)]
   refine aGo (cj4 Zr h0 h1 (cj4 hp g1 g2 g3)) ?_
   repeat with_reducible intro K hK
   rfl
  by_cases g4:p.m≥e.m
  ·rw[hbad (by unfold okPk;rw[decide_eq_false (p:=p.m<e.m) (by omega)];simp)]
   refine aGo (cj4 Zr h0 h1 (cj4 hp g1 g2 (cj2 g3 g4))) ?_
   repeat with_reducible intro K hK
   rfl
  have mul0:0≤p.v*e.m:=Int.mul_nonneg (by omega) (by omega)
  have mul1:p.v*e.m≤1200:=by
   have:=Int.mul_le_mul (a:=p.v) (b:=e.m) (c:=200) (d:=6) (by omega) (by omega) (by omega) (by omega)
   omega
  have wm:IntKind.i64.wrap (p.v*e.m)=p.v*e.m:=ZaQ (by omega) (by omega)
  have ws:IntKind.i64.wrap (p.v*e.m+p.m)=p.v*e.m+p.m:=ZaQ (by omega) (by omega)
  have hts:Q++[oneT (varP e p)]=(ps.take (k+1)).map (fun p=>oneT (varP e p)):=by rw[Yb4,hp,hQ];simp
  have hok2:∀ q∈ps.take (k+1),okPk e q=true:=fun q hq=>by
   rw[Yb4,hp]at hq
   rcases Yd5.1 hq with hq|hq
   ·exact hok q hq
   ·simp at hq;subst hq
    unfold okPk;rw[decide_eq_true (by omega),decide_eq_true (by omega),decide_eq_true (by omega),decide_eq_true (by omega)];rfl
  obtain⟨Z,eZ⟩:∃ Z,Q++[oneT (varP e p)]=Z:=⟨_,rfl⟩
  have hZ:Q.map cT++[[dI (p.v*e.m+p.m),dI (ofQ ((1:Int):Rat)).p.s,Zad (ofQ ((1:Int):Rat)).p.d,dI (ofQ ((1:Int):Rat)).q.s,Zad (ofQ ((1:Int):Rat)).q.d]]=Z.map cT:=by rw[← eZ,List.map_append];rfl
  rw[eZ]at hts
  refine aGo (cj4 Zr h0 h1 (cj4 hp g1 g2 (cj4 g3 g4 wm (cj3 ws hw hZ)))) ?_
  repeat with_reducible intro K hK
  exact Zah (k+1,Z) ⟨by show k+1≤ps.length;omega,hts,hok2⟩ (by show ps.length-(k+1)<ps.length-k;omega) (by exact leGo trivial)
 ·obtain rfl:k=ps.length:=by omega
  rw[Ya8 (Ya4 _)]at hQ hok
  have hall:ps.all (okPk e)=true:=Ya6.2 hok
  refine aGo (cj2 Zr h1) ?_
  repeat with_reducible intro K hK
  refine ZaD (ZyL (ts:=Q) rfl (by omega)) ?_
  rintro d m' nx' ⟨rfl,rfl,ts,hp,hs,rfl⟩
  rw[hQ]at hp
  obtain rfl:=ZmS hp hs
  have hlS:(Zc7 e ps).length≤100:=by rw[List.length_mergeSort,Yc0];exact hl
  have hgd:ZbW e ps=if dupI (Zc7 e ps)=true then([],false)else((Zc7 e ps).map oneT,true):=by
   unfold ZbW;rw[hall];cases dupI (Zc7 e ps)<;>rfl
  obtain⟨GD,eG⟩:∃ GD,ZbW e ps=GD:=⟨_,rfl⟩
  rw[eG]at hgd
  generalize Zc7 e ps=S at hgd hlS ⊢
  refine aGo Zr ?_
  repeat with_reducible intro K hK
  refine ZaH (fun(i:Nat)=>[(6,.ls 1 ps.length),(9,dI ((i:Int)+1))]) (fun _=>[(1,⟨144,ps.length,5,(S.map oneT).map cT,0,false⟩)]) 2 0 (fun i=>i≤S.length∧∀ (j:Nat)(a b:Int),j<i→S[j]? =some a→S[j+1]? =some b→a≠b) (fun i=>S.length-i) 0 ⟨Yb0 _,fun j a b h=>by omega⟩ ?_ ?_
  ·exact leGo trivial
  rintro i ⟨hi,hno⟩
  have w1:IntKind.i64.wrap ((i:Int)+1+1)=(i:Int)+1+1:=ZaQ (by omega) (by omega)
  have w2:IntKind.i64.wrap ((i:Int)+1-1)=(i:Int):=(ZaQ (by omega) (by omega)).trans (by omega)
  have i0:(0:Int)≤i:=by omega
  have i1:(0:Int)≤(i:Int)+1:=by omega
  have it:((i:Int)+1).toNat=i+1:=by omega
  by_cases h2:(i:Int)+1<S.length
  ·obtain⟨a,ha⟩:∃ a,S[i]? =some a:=⟨_,Ya0 (by omega)⟩
   obtain⟨b,hb⟩:∃ b,S[i+1]? =some b:=⟨_,Ya0 (by omega)⟩
   have h3:(i:Int)<S.length:=by omega
   have oa:(oneT a).v=a:=rfl
   have ob:(oneT b).v=b:=rfl
   cases e1:(a==b)
   ·refine aGo (cj4 Zr h2 h3 (cj4 ha hb w1 (cj4 w2 i0 i1 (cj4 it oa ob e1)))) ?_
    repeat with_reducible intro K hK
    refine Zah (i+1) ⟨by omega,fun j x y hj hx hy=>?_⟩ (by omega) (by exact leGo trivial)
    by_cases e:j=i
    ·subst e
     rw[ha]at hx;rw[hb]at hy
     cases hx;cases hy
     exact beq_eq_false_iff_ne.1 e1
    ·exact hno j x y (by omega) hx hy
   ·have e2:a=b:=by simpa using e1
    subst e2
    rw[if_pos (Zyj ha hb)]at hgd
    refine aGo (cj4 Zr h2 h3 (cj4 ha hb w1 (cj4 w2 i0 i1 (cj4 it oa ob e1)))) ?_
    repeat with_reducible intro K hK
    rw[eG,hgd];rfl
  ·have hd:dupI S=false:=Zyh fun j a b h4 h5=>hno j a b (by have:=(Ya3.1 h5).1;omega) h4 h5
   rw[hd,if_neg Yc5]at hgd
   refine aGo (cj2 Zr h2) ?_
   repeat with_reducible intro K hK
   rw[ZaF (fun _=>rfl),eG,hgd]
end
theorem tyfYI:tyOf Tryz.prog 142=some ⟨0,1,8,some [.v .nilFunc],0,none,[]⟩:=by kernel_rfl
attribute [local go_sem] tyfYI ZvN Zmb
abbrev Zvc(l:List Int):D:=.ep [[Zad l]] 0 0
theorem ZAi{yl:Nat}{l:List Int}{J:(Nat→Nat→Prop)→List Int→World→Prop}(hJ:∀ S L A B,J S L A→Below A.heap.size A B→J S L B)(hl:(l.length:Int)≤1000000)
 (hY:∀ S L x t v W,L++x ::t=l→J S L W→Ze1 S W→Rep noB noM S W v (dI x)→YieldAt Fence.wide 0 Tryz.prog yl #[v] W fun e W'=>e = .returned (.bool true)∧∃ S',J S' (L++[x]) W'∧Ze1 S' W'∧Zaw S W S' W') :
 ZxK Tryz.prog 121 [.v (.func (.yield yl) #[] #[]),Zvc l] (fun S=>J S []) (fun S=>J S l) (oneD []):=by
 have hst:∀ L S0 W0,Stab fun S w=>J S L w∧Zaw S0 W0 S w:=fun L S0 W0 S A B h hb=>⟨hJ S L A B h.1 hb,h.2.trans fun b o u h1 h2=>⟨h1,(hb.cell (p:=⟨b,o,none⟩) (Zib h2)).trans h2⟩⟩
 have Zr:=Tryz.results121
 refine ZxK.inline Tryz.func121 rfl (by kernel_rfl) (by kernel_rfl) (by kernel_rfl) fun S0 W0 hI=>?_
 rw[Tryz.ntmps121]
 repeat(first
  | (refine hK _ ?_;clear hK;clear K)
  | (refine jSeq fun K hK=>?_)
  | (refine ZnB ?_)
  | (refine Zuo ?_)
  | (refine Zup ?_)
  | (refine jRet ?_)
  | (refine Zj6 (hst _ _ _) fun I KR hR=>?_;refine aOps _ rfl (by kernel_rfl) ?_;simp only[go_sem,↓reduceIte];refine Zdn _ ?_;refine hR _ ?_;clear hR;clear KR))
 refine jLoop (fun(i:Nat)=>⟨tabT [(0,.v (.func (.yield yl) #[] #[])),(5,Zad l),(6,dI l.length),(7,dI i)],fun S w=>J S (l.take i) w∧Zaw S0 W0 S w⟩) (fun i=>i≤l.length) (fun i=>l.length-i) 0 (Yb0 _) (Zum _ (fun S w h=>by simpa using h) (by simp[go_sem])) ?_
 rintro i hi
 by_cases h1:(i:Int)<l.length
 rotate_left
 ·obtain rfl:i=l.length:=by omega
  rw[Ya8 (Ya4 _)]
  repeat(first
   | (refine hK _ ?_;clear hK;clear K)
   | (refine jSeq fun K hK=>?_)
   | (refine ZnB ?_)
   | (refine Zuo ?_)
   | (refine Zup ?_)
   | (refine jRet ?_)
   | (refine Zj6 (hst _ _ _) fun I KR hR=>?_;refine aOps _ rfl (by kernel_rfl) ?_;simp only[go_sem,↓reduceIte];refine Zdn _ ?_;refine hR _ ?_;clear hR;clear KR)
   | (refine ZqD rfl ?hc ?_;case hc=>simp only[go_sem,↓reduceIte,h1])
   | (refine ZqE rfl ?hc ?_;case hc=>simp only[go_sem,↓reduceIte,h1]))
  simp only[go_sem,↓reduceIte]
  have hw:True:=trivial
  repeat(first
   | (refine hK _ ?_;clear hK;clear K)
   | (refine jSeq fun K hK=>?_)
   | (refine ZnB ?_)
   | (refine Zuo ?_)
   | (refine Zup ?_)
   | (refine jRet ?_)
   | (refine Zj6 (hst _ _ _) fun I KR hR=>?_;refine aOps _ rfl (by kernel_rfl) ?_;simp only[go_sem,↓reduceIte,hw];refine Zdn _ ?_;refine hR _ ?_;clear hR;clear KR)
   | (refine ZqD rfl ?hc ?_;case hc=>simp only[go_sem,↓reduceIte,h1])
   | (refine ZqE rfl ?hc ?_;case hc=>simp only[go_sem,↓reduceIte,h1])
   | (clear hK;clear K))
  refine⟨[],?_,rfl,fun S w h=>h⟩
  simp only[go_sem,↓reduceIte,Zr]
 obtain⟨x,hx⟩:=getE (l:=l) (k:=i) (by omega)
 obtain⟨hw,i0⟩:=ZaS i
 repeat(first
  | (refine hK _ ?_;clear hK;clear K)
  | (refine jSeq fun K hK=>?_)
  | (refine ZnB ?_)
  | (refine Zuo ?_)
  | (refine Zup ?_)
  | (refine jRet ?_)
  | (refine Zj6 (hst _ _ _) fun I KR hR=>?_;refine aOps _ rfl (by kernel_rfl) ?_;simp only[go_sem,↓reduceIte,i0,hx];refine Zdn _ ?_;refine hR _ ?_;clear hR;clear KR)
  | (refine ZqD rfl ?hc ?_;case hc=>simp only[go_sem,↓reduceIte,h1])
  | (refine ZqE rfl ?hc ?_;case hc=>simp only[go_sem,↓reduceIte,h1]))
 have hts:l.take i++[x]=l.take (i+1):=by rw[Yb4,hx];rfl
 have hpre:l.take i++x ::l.drop (i+1)=l:=by
  obtain⟨h,e⟩:=Ya3.1 hx
  rw[← e,← Yd7 h,List.take_append_drop]
 refine jList ?_
 refine⟨rfl,jOpL (hst _ _ _) (by kernel_rfl) rfl fun I KR hR=>?_⟩
 simp only[go_sem,↓reduceIte]
 refine hR _ (Zdn _ ?_)
 clear hR;clear KR
 refine⟨rfl,jOpL (hst _ _ _) (by kernel_rfl) rfl fun I KR hR=>?_⟩
 simp only[go_sem,↓reduceIte]
 refine hR _ (Zdn _ ?_)
 clear hR;clear KR
 refine⟨rfl,ZBm (l:=yl) (I':=fun S w=>J S (l.take (i+1)) w∧Zaw S0 W0 S w) rfl rfl rfl rfl ?_ ?_⟩
 ·intro S w v hw hI hv
  obtain⟨fn,tmps,assign,body,q1,q2⟩:=hY S (l.take i) x (l.drop (i+1)) v w hpre hI.1 hw hv
  refine⟨fn,tmps,assign,body,q1,RoundIn.mono q2 ?_⟩
  rintro e w' ⟨rfl,S',g1,g2,g3⟩
  exact⟨rfl,S',⟨by rw[← hts];exact g1,hI.2.trans g3⟩,g2,g3⟩
 refine⟨rfl,jOpL (hst _ _ _) (by kernel_rfl) rfl fun I KR hR=>?_⟩
 simp only[go_sem,↓reduceIte]
 refine hR _ (Zdn _ ?_)
 clear hR;clear KR
 show ZvN K _ .normal _
 simp only[go_sem,↓reduceIte]
 repeat(first
  | (refine hK _ ?_;clear hK;clear K)
  | (refine jSeq fun K hK=>?_)
  | (refine ZnB ?_)
  | (refine Zuo ?_)
  | (refine Zup ?_)
  | (refine jRet ?_)
  | (refine Zj6 (hst _ _ _) fun I KR hR=>?_;refine aOps _ rfl (by kernel_rfl) ?_;simp only[go_sem,↓reduceIte,hw];refine Zdn _ ?_;refine hR _ ?_;clear hR;clear KR)
  | (refine ZqD rfl ?hc ?_;case hc=>simp only[go_sem,↓reduceIte,h1])
  | (refine ZqE rfl ?hc ?_;case hc=>simp only[go_sem,↓reduceIte,h1])
  | (clear hK;clear K))
 refine⟨i+1,by omega,by omega,Zum _ (fun S w h=>h) (by simp[go_sem])⟩
theorem ZsN(l:List Int)(hl:(l.length:Int)≤1000000):Zyt Tryz.prog 121 [Zvc l] dI l:=by
 refine⟨⟨_,_,Tryz.func121,rfl,by kernel_rfl⟩,fun yl S W vs J hfr hvs hJ hY h0=>?_⟩
 have h:=(ZAi (yl:=yl) hJ hl hY).2 S W (.func (.yield yl) #[] #[] ::vs) hfr h0 (Reps.cons (.v _) hvs)
 rw[show #[Value.func (.yield yl) #[] #[]]++vs.toArray=(Value.func (.yield yl) #[] #[] ::vs).toArray by simp]
 refine CallsIn.mono h ?_
 rintro e W' ⟨v,S',rfl,_,g,_⟩
 exact⟨⟨v,rfl⟩,S',g⟩
theorem Zyx(l:List Int):Zaa Tryz.prog 88 [Zad l] (.clo 121 [Zvc l]):=by
 have Zr:=Tryz.results88
 refine inN Tryz.func88 rfl Tryz.ntmps88 fun I=>?_
 exact aGo (Y:=True) Zr trivial
theorem Zs5(l:List Int)(hl:l.length≤1000):Zaa Tryz.prog 87 [.clo 121 [Zvc l]] (Zad (ZiS l)):=by
 have Zr:=Tryz.results87
 have hresC:=Tryz.results120
 have hresA:=Tryz.results166
 refine Zaa.ofR fun I hr=>Zar.inline Tryz.func87 rfl (by kernel_rfl) (by kernel_rfl) (by kernel_rfl) ?_
 rw[Tryz.ntmps87]
 refine aGo Zr ?_
 repeat with_reducible intro K hK
 refine ZcV Tryz.func120 rfl (by kernel_rfl) (by kernel_rfl) (by kernel_rfl) ?_
 rw[Tryz.ntmps120]
 refine aGo hresC ?_
 repeat with_reducible intro K hK
 refine ZcV Tryz.func166 rfl (by kernel_rfl) (by kernel_rfl) (by kernel_rfl) ?_
 rw[Tryz.ntmps166]
 refine aGo hresA ?_
 repeat with_reducible intro K hK
 refine aLe (Zdz 0 0 0 3 1 rfl rfl rfl) ?_
 simp only[go_sem]
 refine ZsB dI l [(2,.lp 0 0 0 0),(6,.clo 121 [Zvc l])] (fun L=>[(0,⟨31,0,1,[[.ls 1 L.length]],0,false⟩),(1,⟨3,L.length,1,ZbG L,0,false⟩)]) 2 0 ?hle rfl rfl rfl (ZsN l (by omega)) (by decide) hr ?hround ?hend
 case hle =>
  refine Zb1 _ _ _ ?_ ?_ ?_ ?_ ?_ (.inl rfl)<;>simp[go_sem,okD,okDs,Zb8]
 case hround =>
  intro L x T hL
  have hLl:L.length+1≤l.length:=by rw[← hL,Yb9,List.length_cons];omega
  refine rGo Zr ?_
  show Zpv _ ⟨tabT [],tabM [(0,⟨31,0,1,[[.ls 1 (L.length+1)]],0,false⟩),(1,⟨3,(L.length+1),1,ZbG (L++[x]),0,false⟩)],2,2⟩
  refine ZwU [] _ 2 (by simp) (by simp[go_sem]) (by simp) ?_ (by simp) (.inr fun id h=>by
   have h:id<2:=h
   have:id=0∨id=1:=by omega
   rcases this with rfl|rfl<;>rfl)
  intro p hp
  simp only[List.mem_cons,List.not_mem_nil,or_false]at hp
  rcases hp with rfl|rfl
  ·intro e he;obtain rfl:=List.mem_singleton.1 he;rfl
  ·intro e he;obtain⟨u,_,rfl⟩:=Yc6.1 he;rfl
 case hend =>
  refine aGo (cj3 hresA hresC Zr) ?_
  repeat with_reducible intro K hK
  refine ZaD (ZxQ ZAF rfl (l:=l) rfl (by omega)) ?_
  rintro d m' nx' ⟨rfl,rfl,rfl⟩
  refine aGo Zr ?_
  repeat with_reducible intro K hK
  rw[ZaF (fun _=>rfl)]
theorem ZAD(l:List Int)(hl:l.length≤1000):Zae Tryz.prog 56 [Zad l] (Zbr ((ZiS l).map oneT)):=by
 have Zr:=Tryz.results56
 have k0:=Zyx l
 have k1:=Zs5 l hl
 have k2:=ZfP 1 (by decide) (by decide)
 have hs:(ZiS l).length≤1000:=by rw[List.length_mergeSort];exact hl
 generalize ZiS l=S at k1 hs ⊢
 refine inC Tryz.func56 rfl Tryz.ntmps56 ?_
 refine aGo Zr ?_
 repeat with_reducible intro K hK
 refine aLe (Zd9 3 144 5 rfl) ?_
 refine ZaH (fun(x:Nat×List Zag)=>[(3,.ls 0 x.1),(9,Zad S),(10,dI S.length),(11,dI x.1)]) (fun x=>[(0,⟨144,x.1,5,x.2.map cT,0,false⟩)]) 1 0 (fun x=>x.1≤S.length∧x.2=(S.take x.1).map oneT) (fun x=>S.length-x.1) (0,[]) ⟨Yb0 _,rfl⟩ ?_ ?_
 ·exact leGo trivial
 rintro⟨k,Q⟩ ⟨hk,hQ⟩
 simp only at hk hQ
 obtain⟨hw,h0⟩:=ZaS k
 have hlQ:Q.length≤1000:=by rw[hQ,Yc0,Yc1];omega
 by_cases h1:(k:Int)<S.length
 ·obtain⟨v,hv⟩:∃ v,S[k]? =some v:=⟨_,Ya0 (by omega)⟩
  have hts:Q++[oneT v]=(S.take (k+1)).map oneT:=by rw[Yb4,hv,hQ];simp
  obtain⟨Z,eZ⟩:∃ Z,Q++[oneT v]=Z:=⟨_,rfl⟩
  have hZ:Q.map cT++[[dI v,dI (ofQ ((1:Int):Rat)).p.s,Zad (ofQ ((1:Int):Rat)).p.d,dI (ofQ ((1:Int):Rat)).q.s,Zad (ofQ ((1:Int):Rat)).q.d]]=Z.map cT:=by rw[← eZ,List.map_append];rfl
  rw[eZ]at hts
  refine aGo (cj4 Zr h0 h1 (cj3 hv hw hZ)) ?_
  repeat with_reducible intro K hK
  exact Zah (k+1,Z) ⟨by show k+1≤S.length;omega,hts⟩ (by show S.length-(k+1)<S.length-k;omega) (by exact leGo trivial)
 ·obtain rfl:k=S.length:=by omega
  refine aGo (cj2 Zr h1) ?_
  repeat with_reducible intro K hK
  rw[ZaF (fun _=>rfl),hQ,Ya8 (Ya4 _)]
theorem ZyR:eqTy Tryz.prog 68=true:=by kernel_rfl
attribute [local go_sem] ZyR eqL
def eqPk(p q:PkD):Bool:=(p.v==q.v)&&((p.m==q.m)&&true)
def Zpi(l:List PkD)(p:PkD):Bool:= !l.all (fun q=> !eqPk p q)
def Zpg(l:List PkD)(p:PkD):Int:=if l.all (fun q=> !eqPk p q)then -1 else l.findIdx (fun q=> !!eqPk p q)
theorem Zus(l:List PkD)(p:PkD)(hl:(l.length:Int)≤1099511627776):Zaa Tryz.prog 86 [Zco l,.agg (cPk p)] (dI (Zpg l p)):=by
 have Zr:=Tryz.results86
 refine inN Tryz.func86 rfl Tryz.ntmps86 fun I=>?_
 refine aGo Zr ?_
 repeat with_reducible intro K hK
 refine ZaH (fun(k:Nat)=>[(0,Zco l),(3,.lp 0 0 0 0),(7,dI l.length),(8,dI k)]) (fun _=>[(0,⟨68,0,2,[cPk p],0,false⟩)]) 1 0 (fun k=>k≤l.length∧(l.take k).all (fun q=> !eqPk p q)=true) (fun k=>l.length-k) 0 ⟨by omega,rfl⟩ ?_ ?_
 ·exact leGo trivial
 rintro k ⟨hk,hn⟩
 obtain⟨hw,h0⟩:=ZaS k
 by_cases h1:(k:Int)<l.length
 ·obtain⟨q,hx⟩:=getE (l:=l) (k:=k) (by omega)
  have he:((p.v==q.v)&&((p.m==q.m)&&true))=eqPk p q:=rfl
  cases h2:eqPk p q
  ·rw[h2]at he
   have he2:(p.v==q.v&&p.m==q.m)=false:=by simpa using he
   refine aGo (cj4 Zr h0 h1 (cj4 hx hw he he2)) ?_
   repeat with_reducible intro K hK
   exact Zah (k+1) ⟨by omega,ZaG hx hn (by simp[h2])⟩ (by omega) (by exact leGo trivial)
  ·rw[h2]at he
   have he2:(p.v==q.v&&p.m==q.m)=true:=by simpa using he
   have hx2:(fun q=> !eqPk p q) q=false:=by simp[h2]
   refine aGo (cj4 Zr h0 h1 (cj4 hx hw he he2)) ?_
   repeat with_reducible intro K hK
   have:Zpg l p=k:=by
    have h3:l.all (fun q=> !eqPk p q)=false:=ZcD hx hx2
    unfold Zpg
    rw[h3,ZgZ hx hn hx2];rfl
   rw[this]
 ·refine aGo (cj2 Zr h1) ?_
  repeat with_reducible intro K hK
  rw[Ya8 (by omega)]at hn
  have:Zpg l p = -1:=by unfold Zpg;rw[hn];rfl
  rw[this]
theorem Zn0(l:List PkD)(p:PkD)(hl:(l.length:Int)≤1099511627776):Zaa Tryz.prog 55 [Zco l,.agg (cPk p)] (dB (Zpi l p)):=by
 have Zr:=Tryz.results55
 have hc:=Zus l p hl
 have e:decide (Zpg l p≥0)=Zpi l p:=by
  unfold Zpg Zpi
  cases l.all fun q=> !eqPk p q
  ·simp only[Bool.false_eq_true,if_false,Bool.not_false];exact decide_eq_true (by omega)
  ·rfl
 rw[← e]
 refine inN Tryz.func55 rfl Tryz.ntmps55 fun I=>?_
 exact aGo Zr trivial
def ZjQ(e:EvD)(ps:List PkD):Nat→Bool
 | 0=>true
 | k+1=>ZjQ e ps k&&(match ps[k]? with|some p=>okPk e p && !Zpi (ps.take k) p|none=>true)
def Zek(e:EvD)(ps:List PkD)(a b:OptD):Bool :=
 decide (a.k≠1)&&(decide (b.k≠1)&&(ZjQ e ps ps.length&&(Zcf (sysE e) ((Zc7 e ps).map oneT) a&&Zcf (sysE e) (oppT ((Zc7 e ps).map oneT)) b)))
theorem Zwy{e:EvD}{ps:List PkD}{k:Nat}{p:PkD}(hp:ps[k]? =some p)(h:(okPk e p && !Zpi (ps.take k) p)=false):ZjQ e ps ps.length=false:=by
 have hk:=(Ya3.1 hp).1
 have:∀ n,k<n→ZjQ e ps n=false:=by
  intro n
  induction n with
  | zero=>intro h;omega
  | succ n ih =>
    intro hn
    by_cases e1:k=n
    ·subst e1
     simp only[ZjQ,hp,h,Bool.and_false]
    ·simp only[ZjQ,ih (by omega),Bool.false_and]
 exact this _ hk
theorem ZAY(goal:List Zag)(hs:smT goal):Zae Tryz.prog 58 [Zbr goal] (Zbr (oppT goal)):=by
 have Zr:=Tryz.results58
 have k1:=ZfP (-1) (by decide) (by decide)
 have k2:=Zqy goal (ofQ ((-1:Int):Rat)) hs (by have:=ZjP.1;unfold smF;omega)
 refine inC Tryz.func58 rfl Tryz.ntmps58 ?_
 refine aGo Zr ?_
 repeat with_reducible intro K hK
 rfl
theorem ZA9(S:List Int)(h:S.length≤100):smT (S.map oneT):=by
 refine⟨by rw[Yc0];omega,fun t ht=>?_⟩
 obtain⟨v,_,rfl⟩:=Yc6.1 ht
 have:szF (ofQ ((1:Int):Rat))≤3:=by decide +kernel
 show(szF (ofQ ((1:Int):Rat)):Int)≤_
 omega
theorem ZA7(S:List Int)(h:S.length≤100):smT (oppT (S.map oneT)):=by
 obtain⟨z1,z2⟩:=ZxY (B:=3) (S.map oneT) (fun t ht=>by
  obtain⟨v,_,rfl⟩:=Yc6.1 ht
  show szF (ofQ ((1:Int):Rat))≤3
  decide +kernel)
 rw[Yc0]at z1
 exact⟨by omega,fun t ht=>by have:=z2 t ht;unfold smF;omega⟩
theorem Zwk{e:EvD}(hf:Zcd e=0)(L:LenE e)(hn:e.mv.length≤12)(hpu:e.pu.length≤12)(ps:List PkD)(hl:ps.length≤100)(a b:OptD)(hs:tnS (sysE e))(ha:tnO a)(hb:tnO b) :
 Zae Tryz.prog 23 [Zb2 e,Zco ps,encR a b] (dB (Zek e ps a b)):=by
 have Zr:=Tryz.results23
 have Ri:=Zfc hf
 have hM:=Ri.m
 have k1:=ZpL e hf hn hpu L
 by_cases g1:a.k=1
 ·have e1:(a.k==1)=true:=by simpa using g1
  have e2:Zek e ps a b=false:=by unfold Zek;rw[decide_eq_false (by simpa using g1)];rfl
  rw[e2]
  refine inC Tryz.func23 rfl Tryz.ntmps23 ?_
  exact aGo (cj2 Zr e1) trivial
 have e1:(a.k==1)=false:=by simpa using g1
 by_cases g2:b.k=1
 ·have e2:(b.k==1)=true:=by simpa using g2
  have e3:Zek e ps a b=false:=by unfold Zek;rw[decide_eq_false (p:=b.k≠1) (by simpa using g2)];simp
  rw[e3]
  refine inC Tryz.func23 rfl Tryz.ntmps23 ?_
  exact aGo (cj3 Zr e1 e2) trivial
 have e2:(b.k==1)=false:=by simpa using g2
 have hpr:Zek e ps a b=(ZjQ e ps ps.length&&(Zcf (sysE e) ((Zc7 e ps).map oneT) a&&Zcf (sysE e) (oppT ((Zc7 e ps).map oneT)) b)):=by
  unfold Zek;rw[decide_eq_true g1,decide_eq_true g2];rfl
 have hlS:(Zc7 e ps).length≤100:=by rw[List.length_mergeSort,Yc0];exact hl
 have hsm:=ZA9 (Zc7 e ps) hlS
 have hsmo:=ZA7 (Zc7 e ps) hlS
 have k3:=ZAY _ hsm
 have k4:=Zq0 _ _ a hs hsm ha
 have k5:=Zq0 _ _ b hs hsmo hb
 refine inC Tryz.func23 rfl Tryz.ntmps23 ?_
 refine aGo (cj3 Zr e1 e2) ?_
 repeat with_reducible intro K hK
 refine aLe (Zd9 9 3 1 rfl) ?_
 refine ZaH (fun(x:Nat×List Int)=>[(1,Zco ps),(3,.lp 0 0 0 0),(5,.lp 1 0 0 0),(7,.lp 2 0 0 0),(9,.ls 3 x.1),(32,Zco ps),(33,dI ps.length),(34,dI x.1)]) (fun x=>[(0,Zfe e),(1,⟨40,0,16,[[dI a.k,dI a.v.p.s,Zad a.v.p.d,dI a.v.q.s,Zad a.v.q.d,ZbX a.x,ZbX a.y,ZbX a.d,dI b.k,dI b.v.p.s,Zad b.v.p.d,dI b.v.q.s,Zad b.v.q.d,ZbX b.x,ZbX b.y,ZbX b.d]],0,false⟩),(2,⟨88,0,2,[cS (sysE e)],0,false⟩),(3,⟨3,x.1,1,ZbG x.2,0,false⟩)]) 4 0 (fun x=>x.1≤ps.length∧x.2=(ps.take x.1).map (varP e)∧ZjQ e ps x.1=true) (fun x=>ps.length-x.1) (0,[]) ⟨Yb0 _,rfl,rfl⟩ ?_ ?_
 ·exact leGo trivial
 rintro⟨k,Q⟩ ⟨hk,hQ,hok⟩
 simp only at hk hQ hok
 obtain⟨hw,h0⟩:=ZaS k
 have hkl:(k:Int)≤ps.length:=by omega
 have hlQ:Q.length≤100:=by rw[hQ,Yc0,Yc1];omega
 by_cases h1:(k:Int)<ps.length
 rotate_left
 ·obtain rfl:k=ps.length:=by omega
  rw[Ya8 (Ya4 _)]at hQ
  rw[hok,Bool.true_and]at hpr
  have k2:=ZAD Q (by omega)
  have hdat:List.map (List.map datJ) (ZbG Q)=ZbG Q:=ZaF (fun _=>rfl) Q
  rw[show ZiS Q=Zc7 e ps by rw[hQ]]at k2
  generalize Zcf (sysE e) ((Zc7 e ps).map oneT) a=C1 at k4 hpr
  generalize Zcf (sysE e) (oppT ((Zc7 e ps).map oneT)) b=C2 at k5 hpr
  generalize (Zc7 e ps).map oneT=G at k2 k3 k4 k5
  generalize oppT G=H at k3 k5
  cases C1
  ·refine aGo (cj3 Zr h1 hdat) ?_
   repeat with_reducible intro K hK
   rw[hpr];rfl
  ·refine aGo (cj3 Zr h1 hdat) ?_
   repeat with_reducible intro K hK
   rw[hpr];rfl
 obtain⟨p,hp⟩:∃ p,ps[k]? =some p:=⟨_,Ya0 (by omega)⟩
 have q:=Zn0 (ps.take k) p (by rw[Yc1];omega)
 have hbad:(okPk e p && !Zpi (ps.take k) p)=false→Zek e ps a b=false:=fun h=>by rw[hpr,Zwy hp h];rfl
 by_cases g3:p.v<0
 ·rw[hbad (by unfold okPk;rw[decide_eq_false (p:=0≤p.v) (by omega)];rfl)]
  exact aGo (cj4 Zr h0 h1 (cj2 hp g3)) trivial
 by_cases g4:p.v≥e.mv.length
 ·rw[hbad (by unfold okPk;rw[decide_eq_false (p:=p.v<e.mv.length) (by omega)];simp)]
  exact aGo (cj4 Zr h0 h1 (cj3 hp g3 g4)) trivial
 by_cases g5:p.m<0
 ·rw[hbad (by unfold okPk;rw[decide_eq_false (p:=0≤p.m) (by omega)];simp)]
  exact aGo (cj4 Zr h0 h1 (cj4 hp g3 g4 g5)) trivial
 by_cases g6:p.m≥e.m
 ·rw[hbad (by unfold okPk;rw[decide_eq_false (p:=p.m<e.m) (by omega)];simp)]
  exact aGo (cj4 Zr h0 h1 (cj4 hp g3 g4 (cj2 g5 g6))) trivial
 have hsl:List.drop 0 (List.take k (List.map cPk ps))=List.map cPk (ps.take k):=by rw[List.drop_zero,List.map_take]
 have hsl2:List.take k (List.map cPk ps)=List.map cPk (ps.take k):=by rw[List.map_take]
 have hkp:(0:Int)≤0∧(0:Int)≤k:=by omega
 cases hc:Zpi (ps.take k) p
 ·rw[hc]at q
  have mul0:0≤p.v*e.m:=Int.mul_nonneg (by omega) (by omega)
  have mul1:p.v*e.m≤1200:=by
   have:=Int.mul_le_mul (a:=p.v) (b:=e.m) (c:=200) (d:=6) (by omega) (by omega) (by omega) (by omega)
   omega
  have wm:IntKind.i64.wrap (p.v*e.m)=p.v*e.m:=ZaQ (by omega) (by omega)
  have ws:IntKind.i64.wrap (p.v*e.m+p.m)=p.v*e.m+p.m:=ZaQ (by omega) (by omega)
  have hts:Q++[varP e p]=(ps.take (k+1)).map (varP e):=by rw[Yb4,hp,hQ];simp
  have hok2:ZjQ e ps (k+1)=true:=by
   simp only[ZjQ,hp,hok,hc,Bool.true_and,Bool.not_false,Bool.and_true]
   unfold okPk;rw[decide_eq_true (by omega),decide_eq_true (by omega),decide_eq_true (by omega),decide_eq_true (by omega)];rfl
  obtain⟨Z,eZ⟩:∃ Z,Q++[varP e p]=Z:=⟨_,rfl⟩
  have hZ:ZbG Q++[[dI (p.v*e.m+p.m)]]=ZbG Z:=by rw[← eZ];unfold ZbG;rw[List.map_append];rfl
  rw[eZ]at hts
  clear hbad hpr k3 k4 k5 k1 hsm hsmo
  refine aGo (cj4 Zr h0 h1 (cj4 hp g3 g4 (cj4 g5 g6 hsl (cj4 hsl2 hkl wm (cj3 ws hw hZ))))) ?_
  repeat with_reducible intro K hK
  exact Zah (k+1,Z) ⟨by show k+1≤ps.length;omega,hts,hok2⟩ (by show ps.length-(k+1)<ps.length-k;omega) (by exact leGo trivial)
 ·rw[hc]at q
  have hb:=hbad (by rw[hc];simp)
  rw[hb]
  clear hbad hpr k3 k4 k5 k1 hsm hsmo
  exact aGo (cj4 Zr h0 h1 (cj4 hp g3 g4 (cj4 g5 g6 hsl (cj2 hsl2 hkl)))) trivial
section ifl
variable [Ifl]
structure Stop (n:Nat):Prop where
theorem aHere{rid:Nat}(_:Stop rid){P:Program}{n:Nat}{l:Array Oper}{b:Bool}{Q:Exit→St→Prop}{s:St}(h:AWP P n (.region rid l b) Q s):AWP P n (.region rid l b) Q s:=h
theorem ZhS{n:Nat}{F Y X:Prop}(st:Stop n)(f:F)(y:Y)(h:Stop n→F→Keep Y→X:=by
 intro hst hf y
 repeat((fail_if_success refine aHere hst ?_);first
  | (refine hI _ ?_;clear hI;clear KI)
  | (refine hK _ ?_;try clear hK;try clear K)
  | ((with_reducible apply useK);(with_reducible assumption))
  | (refine aSeq fun KI hI=>?_)
  | (refine Zee ?_)
  | (refine ZhQ ?_)
  | (refine ZhT ?_)
  | (refine aRet ?_)
  | (refine aOps _ rfl (by kernel_rfl) ?_)
  | (refine ZhR _ rfl mixed (by kernel_rfl) (by kernel_rfl) fun KE hE=>?_)
  | (refine hE _ _ (by kernel_rfl) (Zaz rfl) ?_;clear hE;clear KE)
  | (refine hE _ _ (by kernel_rfl) (Zlf (by(first|((repeat(refine Zap rfl ?_));exact Zas)|(refine Zdb ?_;(repeat(refine ZbO rfl ?_));exact ZbP _))) rfl) ?_;clear hE;clear KE)
  | (refine hE _ _ (by kernel_rfl) (Zle (by(first|((repeat(refine Zap rfl ?_));exact Zas)|(refine Zdb ?_;(repeat(refine ZbO rfl ?_));exact ZbP _))) (by kernel_rfl) rfl) ?_;clear hE;clear KE)
  | (refine Zec rfl ?hc ?_;case hc=>simp only[go_sem,↓reduceIte,beq_self_eq_true,bne_self_eq_false,hf])
  | (refine Zed rfl ?hc ?_;case hc=>simp only[go_sem,↓reduceIte,beq_self_eq_true,bne_self_eq_false,hf])
  | ((with_reducible apply ZcU);(first|with_reducible assumption|assumption);rotate_left;(first|((repeat(refine Zap rfl ?_));exact Zas)|(refine Zdb ?_;(repeat(refine ZbO rfl ?_));exact ZbP _)))
  | ((with_reducible apply ZbH);(first|with_reducible assumption|assumption))
  | ((with_reducible apply Zdf);(first|with_reducible assumption|assumption);rfl)
  | ((with_reducible apply ZbY);(first|with_reducible assumption|assumption);rfl)
  | (simp only[go_sem,↓reduceIte,beq_self_eq_true,bne_self_eq_false,hf])
  | (refine And.intro ?ho ?_;(case ho=>omega))
  | (clear hI;clear KI))
 repeat(first|(revert hE;revert KE)|(revert hI;revert KI))
 first|done|exact y.out):X:=h st f ⟨y⟩
end ifl
theorem Zul[Ifl]{s:St}(k:Nat)(T:TypeId)(kk:Nat)(hk:s.t k = .nil):StLe s {s with t:=upd s.t k (.ls s.nx 1),m:=upd s.m s.nx (some ⟨T,1,kk,[],0,false⟩),nx:=s.nx+1}:=by
 intro E B nn β a w h
 obtain⟨h1,h2,h3⟩:=Ze9 (id:=s.nx) (h.mem.mono_nx (Nat.le_succ _)) (Nat.lt_succ_self _) ⟨T,1,kk,[],0,false⟩ rfl rfl (.inl h.mem.none)
 refine⟨_,h1,fun j hj=>?_,h.width,h.defers,h.le.trans h2,h.sle.trans h3,h.lo⟩
 by_cases e:j=k
 ·subst e
  simp only[Zac]
  have:=h.tmp j hj
  rw[hk]at this
  rw[this.inv_nil]
  exact .ls _ _ _ _ _ ⟨T,1,kk,[],0,false⟩ (Zac _ _ _) (Ya4 _) (fun _ h=>by cases h) fun _=>⟨rfl,Ya4 _,Yb0 _,.inl ⟨Zac _ _ _,rfl,rfl⟩⟩
 ·simp only[Zab _ _ e];exact(h.tmp j hj).mono h2 h3
structure Pl (k:Nat) (es:List (List D)):Prop where
 c:∀ e∈es,e.length=k∧e.all D.isCell=true
 v:∀ e∈es,∀ d∈e,∃ x,d = .v x
theorem Pl.fz{k:Nat}{es:List (List D)}(h:Pl k es)(b:Bool)(M:Mem)(j:Nat):List.map (List.map (fzT b M (j+1))) es=es:=by
 have h1:∀ e∈es,List.map (fzT b M (j+1)) e=e:=fun e he=>by
  conv=>rhs;rw[← List.map_id e]
  exact List.map_congr_left fun d hd=>by obtain⟨x,rfl⟩:=h.v e he d hd;rfl
 conv=>rhs;rw[← List.map_id es]
 exact List.map_congr_left fun e he=>h1 e he
theorem Zn4(es:List (List D))(hp:Pl 3 es)(hl:(es.length:Int)≤4096):Zaa Tryz.prog 38 [.sl es] (.sl es):=by
 have Zr:=Tryz.results38
 have hc:=hp.c
 refine inN Tryz.func38 rfl Tryz.ntmps38 fun I=>?_
 refine ZhS (n:=1) ⟨⟩ Zr ?_
 repeat with_reducible intro K hK
 refine ZdD (es:=es) Tryz.underlying22 rfl rfl rfl rfl rfl rfl (by kernel_rfl) (by kernel_rfl) rfl (fun h0=>?_) ?_
 ·refine aGo Zr ?_
  repeat with_reducible intro K hK
  rw[h0]
 ·refine aGo Zr ?_
  repeat with_reducible intro K hK
  refine⟨⟨hc,by omega,by omega⟩,?_⟩
  refine aGo Zr ?_
  repeat with_reducible intro K hK
  exact congrArg D.sl (hp.fz _ _ _)
theorem Zu9(es:List (List D))(hp:Pl 6 es)(hl:(es.length:Int)≤4096):Zaa Tryz.prog 39 [.sl es] (.sl es):=by
 have Zr:=Tryz.results39
 have hc:=hp.c
 refine inN Tryz.func39 rfl Tryz.ntmps39 fun I=>?_
 refine ZhS (n:=1) ⟨⟩ Zr ?_
 repeat with_reducible intro K hK
 refine ZdD (es:=es) Tryz.underlying23 rfl rfl rfl rfl rfl rfl (by kernel_rfl) (by kernel_rfl) rfl (fun h0=>?_) ?_
 ·refine aGo Zr ?_
  repeat with_reducible intro K hK
  rw[h0]
 ·refine aGo Zr ?_
  repeat with_reducible intro K hK
  refine⟨⟨hc,by omega,by omega⟩,?_⟩
  refine aGo Zr ?_
  repeat with_reducible intro K hK
  exact congrArg D.sl (hp.fz _ _ _)
theorem Zva[Ifl](es:List (List D))(hp:Pl 6 es)(hl:(es.length:Int)≤4096)(m:Mem)(nx:Nat):Zar Tryz.prog 39 [.sl es] m nx fun d m' nx'=>d = .ls nx 1∧nx<nx'∧m' nx=some ⟨55,1,6,es,0,false⟩∧∀ id,id<nx→m' id=m id:=by
 have Zr:=Tryz.results39
 have hc:=hp.c
 refine inA Tryz.func39 rfl Tryz.ntmps39 ?_
 refine ZhS (n:=1) ⟨⟩ Zr ?_
 repeat with_reducible intro K hK
 refine ZdD (es:=es) Tryz.underlying23 rfl rfl rfl rfl rfl rfl (by kernel_rfl) (by kernel_rfl) rfl (fun h0=>?_) ?_
 ·subst h0
  refine ZhS (n:=2) ⟨⟩ Zr ?_
  repeat with_reducible intro K hK
  refine aOps _ rfl (by kernel_rfl) ?_
  simp only[go_sem]
  refine hK _ (aLe (Zul 2 55 6 rfl) (aRet ?_))
  simp only[go_sem,Zr]
  exact⟨Nat.lt_succ_self _,fun id h=>if_neg (by omega)⟩
 ·have b1:(es.length:Int)≤9007199254740992:=by omega
  refine aGoM (cj3 Zr hc b1) ?_
  intro KI hI
  refine⟨⟨hc,by omega⟩,hI _ (aRet ?_)⟩
  simp only[go_sem,Zr,↓reduceIte]
  exact⟨Nat.lt_succ_self _,fun id h=>by rw[if_neg (by omega),if_neg (by omega)]⟩
theorem Zn5(es:List (List D))(hp:Pl 6 es)(hl:(es.length:Int)≤4096):Zaa Tryz.prog 40 [.sl es] (.sl es):=by
 have Zr:=Tryz.results40
 have hc:=hp.c
 refine inN Tryz.func40 rfl Tryz.ntmps40 fun I=>?_
 refine ZhS (n:=1) ⟨⟩ Zr ?_
 repeat with_reducible intro K hK
 refine ZdD (es:=es) Tryz.underlying24 rfl rfl rfl rfl rfl rfl (by kernel_rfl) (by kernel_rfl) rfl (fun h0=>?_) ?_
 ·refine aGo Zr ?_
  repeat with_reducible intro K hK
  rw[h0]
 ·refine aGo Zr ?_
  repeat with_reducible intro K hK
  refine⟨⟨hc,by omega,by omega⟩,?_⟩
  refine aGo Zr ?_
  repeat with_reducible intro K hK
  exact congrArg D.sl (hp.fz _ _ _)
theorem Zn2(es:List (List D))(hp:Pl 2 es)(hl:(es.length:Int)≤4096):Zaa Tryz.prog 41 [.sl es] (.sl es):=by
 have Zr:=Tryz.results41
 have hc:=hp.c
 refine inN Tryz.func41 rfl Tryz.ntmps41 fun I=>?_
 refine ZhS (n:=1) ⟨⟩ Zr ?_
 repeat with_reducible intro K hK
 refine ZdD (es:=es) Tryz.underlying25 rfl rfl rfl rfl rfl rfl (by kernel_rfl) (by kernel_rfl) rfl (fun h0=>?_) ?_
 ·refine aGo Zr ?_
  repeat with_reducible intro K hK
  rw[h0]
 ·refine aGo Zr ?_
  repeat with_reducible intro K hK
  refine⟨⟨hc,by omega,by omega⟩,?_⟩
  refine aGo Zr ?_
  repeat with_reducible intro K hK
  exact congrArg D.sl (hp.fz _ _ _)
theorem Zn3(es:List (List D))(hp:Pl 4 es)(hl:(es.length:Int)≤4096):Zaa Tryz.prog 42 [.sl es] (.sl es):=by
 have Zr:=Tryz.results42
 have hc:=hp.c
 refine inN Tryz.func42 rfl Tryz.ntmps42 fun I=>?_
 refine ZhS (n:=1) ⟨⟩ Zr ?_
 repeat with_reducible intro K hK
 refine ZdD (es:=es) Tryz.underlying26 rfl rfl rfl rfl rfl rfl (by kernel_rfl) (by kernel_rfl) rfl (fun h0=>?_) ?_
 ·refine aGo Zr ?_
  repeat with_reducible intro K hK
  rw[h0]
 ·refine aGo Zr ?_
  repeat with_reducible intro K hK
  refine⟨⟨hc,by omega,by omega⟩,?_⟩
  refine aGo Zr ?_
  repeat with_reducible intro K hK
  exact congrArg D.sl (hp.fz _ _ _)
theorem Zu7(es:List (List D))(hp:Pl 2 es)(hl:(es.length:Int)≤4096):Zaa Tryz.prog 50 [.sl es] (.sl es):=by
 have Zr:=Tryz.results50
 have hc:=hp.c
 refine inN Tryz.func50 rfl Tryz.ntmps50 fun I=>?_
 refine ZhS (n:=1) ⟨⟩ Zr ?_
 repeat with_reducible intro K hK
 refine ZdD (es:=es) Tryz.underlying56 rfl rfl rfl rfl rfl rfl (by kernel_rfl) (by kernel_rfl) rfl (fun h0=>?_) ?_
 ·refine aGo Zr ?_
  repeat with_reducible intro K hK
  rw[h0]
 ·refine aGo Zr ?_
  repeat with_reducible intro K hK
  refine⟨⟨hc,by omega,by omega⟩,?_⟩
  refine aGo Zr ?_
  repeat with_reducible intro K hK
  exact congrArg D.sl (hp.fz _ _ _)
theorem Zxw(es:List (List D))(hp:Pl 1 es)(hl:(es.length:Int)≤4096):Zaa Tryz.prog 65 [.sl es] (.sl es):=by
 have Zr:=Tryz.results65
 have hc:=hp.c
 refine inN Tryz.func65 rfl Tryz.ntmps65 fun I=>?_
 refine ZhS (n:=1) ⟨⟩ Zr ?_
 repeat with_reducible intro K hK
 refine ZdD (es:=es) Tryz.underlying31 rfl rfl rfl rfl rfl rfl (by kernel_rfl) (by kernel_rfl) rfl (fun h0=>?_) ?_
 ·refine aGo Zr ?_
  repeat with_reducible intro K hK
  rw[h0]
 ·refine aGo Zr ?_
  repeat with_reducible intro K hK
  refine⟨⟨hc,by omega,by omega⟩,?_⟩
  refine aGo Zr ?_
  repeat with_reducible intro K hK
  exact congrArg D.sl (hp.fz _ _ _)
theorem Zxx[Ifl](es:List (List D))(hp:Pl 1 es)(hl:(es.length:Int)≤4096)(m:Mem)(nx:Nat):Zar Tryz.prog 65 [.sl es] m nx fun d m' nx'=>d = .ls nx 1∧nx<nx'∧m' nx=some ⟨3,1,1,es,0,false⟩∧∀ id,id<nx→m' id=m id:=by
 have Zr:=Tryz.results65
 have hc:=hp.c
 refine inA Tryz.func65 rfl Tryz.ntmps65 ?_
 refine ZhS (n:=1) ⟨⟩ Zr ?_
 repeat with_reducible intro K hK
 refine ZdD (es:=es) Tryz.underlying31 rfl rfl rfl rfl rfl rfl (by kernel_rfl) (by kernel_rfl) rfl (fun h0=>?_) ?_
 ·subst h0
  refine ZhS (n:=2) ⟨⟩ Zr ?_
  repeat with_reducible intro K hK
  refine aOps _ rfl (by kernel_rfl) ?_
  simp only[go_sem]
  refine hK _ (aLe (Zul 2 3 1 rfl) (aRet ?_))
  simp only[go_sem,Zr]
  exact⟨Nat.lt_succ_self _,fun id h=>if_neg (by omega)⟩
 ·have b1:(es.length:Int)≤9007199254740992:=by omega
  refine aGoM (cj3 Zr hc b1) ?_
  intro KI hI
  refine⟨⟨hc,by omega⟩,hI _ (aRet ?_)⟩
  simp only[go_sem,Zr,↓reduceIte]
  exact⟨Nat.lt_succ_self _,fun id h=>by rw[if_neg (by omega),if_neg (by omega)]⟩
theorem ZA1(l:List PlD):Pl 3 (l.map cPl):=⟨fun e he=>by obtain⟨u,_,rfl⟩:=Yc6.1 he;exact⟨rfl,rfl⟩,fun e he d hd=>by obtain⟨u,_,rfl⟩:=Yc6.1 he;simp only[cPl,List.mem_cons,List.not_mem_nil,or_false]at hd;rcases hd with rfl|rfl|rfl<;>exact⟨_,rfl⟩⟩
theorem ZA2(l:List MvD):Pl 6 (l.map cMv):=⟨fun e he=>by obtain⟨u,_,rfl⟩:=Yc6.1 he;exact⟨rfl,rfl⟩,fun e he d hd=>by obtain⟨u,_,rfl⟩:=Yc6.1 he;simp only[cMv,List.mem_cons,List.not_mem_nil,or_false]at hd;rcases hd with rfl|rfl|rfl|rfl|rfl|rfl<;>exact⟨_,rfl⟩⟩
theorem ZA3(l:List ZcX):Pl 6 (l.map cC):=⟨fun e he=>by obtain⟨u,_,rfl⟩:=Yc6.1 he;exact⟨rfl,rfl⟩,fun e he d hd=>by obtain⟨u,_,rfl⟩:=Yc6.1 he;simp only[cC,List.mem_cons,List.not_mem_nil,or_false]at hd;rcases hd with rfl|rfl|rfl|rfl|rfl|rfl<;>exact⟨_,rfl⟩⟩
theorem ZAZ(l:List RecD):Pl 2 (l.map cRe):=⟨fun e he=>by obtain⟨u,_,rfl⟩:=Yc6.1 he;exact⟨rfl,rfl⟩,fun e he d hd=>by obtain⟨u,_,rfl⟩:=Yc6.1 he;simp only[cRe,List.mem_cons,List.not_mem_nil,or_false]at hd;rcases hd with rfl|rfl<;>exact⟨_,rfl⟩⟩
theorem ZA0(l:List PuD):Pl 4 (l.map cPu):=⟨fun e he=>by obtain⟨u,_,rfl⟩:=Yc6.1 he;exact⟨rfl,rfl⟩,fun e he d hd=>by obtain⟨u,_,rfl⟩:=Yc6.1 he;simp only[cPu,List.mem_cons,List.not_mem_nil,or_false]at hd;rcases hd with rfl|rfl|rfl|rfl<;>exact⟨_,rfl⟩⟩
theorem Zu8[Ifl](l:List MvD)(hl:(l.length:Int)≤4096)(m:Mem)(nx:Nat)(hm:m nx=none):EffC Tryz.prog 39 [ZdY l] m nx ⟨.ls nx 1,[nx],[(nx,⟨55,1,6,l.map cMv,0,false⟩)],false⟩ (nx+1):=by
 have hb:Zb8 (fun _=>false) ⟨55,1,6,l.map cMv,0,false⟩:=by intro x hx;obtain⟨u,_,rfl⟩:=Yc6.1 hx;rfl
 exact EffC.made hm hb fun m1 NX=>Zar.made hb (Zva _ (ZA2 l) (by simpa using hl) m1 NX)
def ZfS(l:List MvD)(S:List Int)(k:Nat):List MvD:=(l.take k).map (ZeT S)++l.drop k
section
variable {l:List MvD} {S:List Int} {k:Nat}
theorem Zmo(h:k≤l.length):(ZfS l S k).length=l.length:=by
 unfold ZfS;rw[Yb9,Yc0,Yc1,List.length_drop];omega
theorem ZqV{x:MvD}(h:l[k]? =some x):(ZfS l S k)[k]? =some x:=by
 have hk:=(Ya3.1 h).1
 unfold ZfS
 rw[Yc4 (by rw[Yc0,Yc1];omega),Yc0,Yc1,List.getElem?_drop]
 rw[show k+(k-min k l.length)=k by omega];exact h
theorem ZqU{x:MvD}(h:l[k]? =some x):(ZfS l S k).set k (ZeT S x)=ZfS l S (k+1):=by
 have hk:=(Ya3.1 h).1
 have hl:((l.take k).map (ZeT S)).length=k:=by rw[Yc0,Yc1];omega
 unfold ZfS
 rw[List.set_append_right _ _ (by omega),hl,Nat.sub_self,Yb4,h,List.map_append]
 rw[show(l.drop k).set 0 (ZeT S x)=ZeT S x ::l.drop (k+1) by rw[Yd7 hk];rfl]
 simp
theorem Zxi:ZfS l S l.length=l.map (ZeT S):=by
 unfold ZfS;rw[Ya8 (Ya4 _),List.drop_length,List.append_nil]
theorem ZuT{x:MvD}(h:l[k]? =some x)(hd:ZeT S x=x):ZfS l S (k+1)=ZfS l S k:=by
 rw[← ZqU h,hd]
 obtain⟨hk,he⟩:=Ya3.1 (ZqV (S:=S) h)
 rw[← he];exact List.set_getElem_self hk
end
theorem Zw2(S:List Int)(x:Int):hasI S x=S.contains x:=by
 rw[Bool.eq_iff_iff,ZqI,List.contains_iff_mem]
theorem ZmA(e:EvD)(hf:Zcd e=0)(L:LenE e)(S:List Int)(hS:(S.length:Int)≤4096):Zaa Tryz.prog 14 [Zb2 e,Zad S] (Zb2 (Zan e S)):=by
 have Zr:=Tryz.results14
 have Ri:=Zfc hf
 have k0:=ZgC e L
 rw[hf]at k0
 have p1:=Zn4 _ (ZA1 e.pl) (by have:=Ri.lp;rw[Yc0];omega)
 have p3:=Zn5 _ (ZA3 e.ce) (by have:=Ri.lc;rw[Yc0];omega)
 have p4:=Zn2 _ (ZAZ e.re) (by have:=Ri.lr;rw[Yc0];omega)
 have p5:=Zn3 _ (ZA0 e.pu) (by have:=Ri.lu;rw[Yc0];omega)
 have hlm:(e.mv.length:Int)≤4096:=by have:=Ri.lm;omega
 refine inN Tryz.func14 rfl Tryz.ntmps14 fun I=>?_
 refine aGo Zr ?_
 repeat(guard_target =~ ∀ _:St→Prop,_;intro K hK)
 intro KX hX
 refine Za3 (Zu8 e.mv hlm _ _ rfl) ?_
 refine aGo Zr ?_
 repeat with_reducible intro K hK
 refine hX _ _ (by kernel_rfl) (Zaz rfl) ?_
 clear hX
 clear KX
 refine aGo Zr ?_
 repeat with_reducible intro K hK
 refine ZaH (fun(k:Nat)=>[(1,Zad S),(2,.lp 0 0 0 0),(4,.lp 1 0 0 0),(32,.ls 2 1),(33,dI e.mv.length),(34,dI k)]) (fun k=>[(0,⟨28,0,8,[[dI e.m,dI e.h,dI e.s,ZhG e.pl,.ls 2 1,Zih e.ce,Zfr e.re,ZgE e.pu]],0,false⟩),(1,⟨28,0,8,[[dI 0,dI 0,dI 0,.nil,.nil,.nil,.nil,.nil]],0,false⟩),(2,⟨55,1,6,(ZfS e.mv S k).map cMv,0,false⟩)]) 3 0 (fun k=>k≤e.mv.length) (fun k=>e.mv.length-k) 0 (Yb0 _) ?_ ?_
 ·have g0:ZfS e.mv S 0=e.mv:=rfl
  exact leGo g0
 rintro k hk
 obtain⟨hw,h0⟩:=ZaS k
 have hll:((ZfS e.mv S k).length:Int)=e.mv.length:=by rw[Zmo hk]
 by_cases h1:(k:Int)<e.mv.length
 ·obtain⟨x,hx⟩:∃ x,e.mv[k]? =some x:=⟨_,Ya0 (by omega)⟩
  have hxd:=ZqV (S:=S) hx
  have q:=ZiK S x.s (by omega)
  rw[Zw2]at q
  have hds:=ZqU (S:=S) hx
  have hsame:=ZuT (S:=S) hx
  have hdr:ZeT S x=if x.s ≠ -1∧S.contains x.s=true then {x with s:= -1,r:=0} else x:=rfl
  cases h2:(x.s != -1)
  ·have e1:x.s = -1:=by simpa using h2
   rw[if_neg (fun h=>h.1 e1)]at hdr
   have hs:=hsame hdr
   refine aGo (cj4 Zr h0 h1 (cj4 hxd hw h2 hll)) ?_
   repeat with_reducible intro K hK
   exact Zah (k+1) (by omega) (by omega) (by exact leGo hs)
  ·have e1:x.s ≠ -1:=by simpa using h2
   cases h3:S.contains x.s
   ·rw[h3]at q
    rw[h3,if_neg (fun h=>Yc5 h.2)]at hdr
    have hs:=hsame hdr
    refine aGo (cj4 Zr h0 h1 (cj4 hxd hw h2 hll)) ?_
    repeat with_reducible intro K hK
    exact Zah (k+1) (by omega) (by omega) (by exact leGo hs)
   ·rw[h3]at q
    rw[h3,if_pos ⟨e1,rfl⟩]at hdr
    rw[hdr]at hds
    obtain⟨E1,eE1⟩:∃ E1,((ZfS e.mv S k).map cMv).set k [dI x.d,dI x.f,dI x.t,dI (-1),dI x.r,dB x.a]=E1:=⟨_,rfl⟩
    have hkl:k<((ZfS e.mv S k).map cMv).length:=by rw[Yc0,Zmo hk];omega
    have gE1:E1[k]? =some [dI x.d,dI x.f,dI x.t,dI (-1),dI x.r,dB x.a]:=by rw[← eE1,List.getElem?_set_self hkl]
    have lE1:(E1.length:Int)=e.mv.length:=by rw[← eE1,List.length_set,Yc0,Zmo hk]
    have sE1:E1.set k [dI x.d,dI x.f,dI x.t,dI (-1),dI 0,dB x.a]=(ZfS e.mv S (k+1)).map cMv:=by rw[← eE1,List.set_set,← hds,List.map_set]
    have rz:(0:Nat)≤k:=Yb0 _
    clear hds hdr hsame
    refine aGo (cj4 Zr h0 h1 (cj4 hxd hw h2 (cj4 hll rz eE1 (cj3 gE1 lE1 sE1)))) ?_
    repeat with_reducible intro K hK
    exact Zah (k+1) (by omega) (by omega) (by exact leGo trivial)
 ·obtain rfl:k=e.mv.length:=by omega
  refine aGo (cj2 Zr h1) ?_
  repeat with_reducible intro K hK
  rw[ZaF (fun _=>rfl),Zxi];rfl
theorem Zkp(d:Array Int):∀ (m:Nat)(x:Int),x∈Lib.compactUpTo d m↔∃ j,j<m∧d[j]! =x:=by
 intro m
 induction m with
 | zero => intro x; constructor
           ·intro h;simp[Lib.compactUpTo]at h
           ·rintro⟨j,hj,_⟩;omega
 | succ m ih =>
   intro x
   rw[Lib.compactUpTo_succ,Yd5,ih]
   constructor
   ·rintro(⟨j,hj,e⟩|h)
    ·exact⟨j,by omega,e⟩
    ·split at h
     ·rw[List.mem_singleton]at h;exact⟨m,by omega,h.symm⟩
     ·cases h
   ·rintro⟨j,hj,e⟩
    by_cases hjm:j<m
    ·exact .inl ⟨j,hjm,e⟩
    ·obtain rfl:j=m:=by omega
     cases hk:Lib.keeps d j
     ·have h0:j≠0∧d[j]! =d[j-1]!:=by
       unfold Lib.keeps at hk
       rw[decide_eq_false_iff_not]at hk
       exact⟨fun h=>hk (.inl h),Classical.byContradiction fun h=>hk (.inr h)⟩
      exact .inl ⟨j-1,by omega,by rw[← h0.2];exact e⟩
     ·exact .inr (by simp[e])
theorem Zst(d:Array Int)(hs:∀ i j,i<j→j<d.size→d[i]! ≤d[j]!):∀ m,m≤d.size→(Lib.compactUpTo d m).Pairwise (·<·):=by
 intro m
 induction m with
 | zero=>intro _;simp[Lib.compactUpTo]
 | succ m ih =>
   intro hm
   rw[Lib.compactUpTo_succ,List.pairwise_append]
   refine⟨ih (by omega),?_,?_⟩
   ·split<;>simp
   ·intro a ha b hb
    split at hb
    ·rename_i hk
     rw[List.mem_singleton]at hb
     subst hb
     obtain⟨j,hj,rfl⟩:=(Zkp d m a).1 ha
     unfold Lib.keeps at hk
     rw[decide_eq_true_eq]at hk
     have h1:d[m]! ≠ d[m-1]!:=hk.resolve_left (by omega)
     have h2:d[m-1]! ≤d[m]!:=hs (m-1) m (by omega) (by omega)
     have h3:d[j]! ≤d[m-1]!:=by
      by_cases e:j=m-1
      ·rw[e];exact Int.le_refl _
      ·exact hs j (m-1) (by omega) (by omega)
     omega
    ·cases hb
theorem Zkq(l:List Int):(Lib.compact l).length≤l.length:=by
 unfold Lib.compact Lib.compactUpTo
 rw[Yc0]
 exact Yc7 (Yb1 _ _) (by rw[List.length_range];exact Ya4 _)
noncomputable def Zei (e:EvD):List Int:=(e.mv.map (·.s)).filter (· != -1)
noncomputable def Zgq (e:EvD):List Int:=Lib.compact ((Zei e).mergeSort fun x y=>decide (x≤y))
theorem ZrG(e:EvD)(s:Int):s∈Zei e↔s ≠ -1∧∃ x∈e.mv,x.s=s:=by
 unfold Zei
 rw[List.mem_filter,Yc6]
 constructor
 ·rintro⟨h1,h2⟩;exact⟨by simpa using h2,h1⟩
 ·rintro⟨h1,h2⟩;exact⟨h2,by simpa using h1⟩
theorem ZrH(e:EvD):(Zei e).length≤e.mv.length:=by
 unfold Zei
 exact Yc7 (Yb1 _ _) (by rw[Yc0];exact Ya4 _)
theorem ZvK(e:EvD):(Zgq e).length≤e.mv.length:=by
 unfold Zgq
 refine Yc7 (Zkq _) ?_
 rw[List.length_mergeSort]
 exact ZrH e
theorem Zyy(e:EvD):Zyp e (Zgq e):=by
 obtain⟨l,hl⟩:∃ l,(Zei e).mergeSort (fun x y=>decide (x≤y))=l:=⟨_,rfl⟩
 have hperm:∀ s,s∈l↔s∈Zei e:=fun s=>by rw[← hl];exact List.mem_mergeSort
 have hsort:l.Pairwise fun a b=>decide (a≤b)=true:=by
  rw[← hl]
  refine List.pairwise_mergeSort (fun a b c h1 h2=>?_) (fun a b=>?_) _
  ·simp only[decide_eq_true_eq]at *;omega
  ·simp only[Bool.or_eq_true,decide_eq_true_eq];omega
 have hs:∀ i j,i<j→j<l.toArray.size→l.toArray[i]! ≤l.toArray[j]!:=fun i j hij hj=>by
  have hj':j<l.length:=by simpa using hj
  have:=List.pairwise_iff_getElem.1 hsort i j (by omega) hj' hij
  rw[getElem!_pos l.toArray i (by simp;omega),getElem!_pos l.toArray j hj]
  simpa using this
 unfold Zgq
 rw[hl]
 refine⟨(Zst l.toArray hs l.length (by simp)).imp (fun h=>by omega),fun s=>?_⟩
 unfold Lib.compact
 rw[Zkp,← ZrG,← hperm]
 constructor
 ·rintro⟨j,hj,e⟩
  rw[getElem!_pos l.toArray j (by simpa using hj)]at e
  rw[← e]
  simp
 ·intro h
  obtain⟨j,hj,e⟩:=List.getElem_of_mem h
  exact⟨j,hj,by rw[getElem!_pos l.toArray j (by simpa using hj)];simpa using e⟩
end Go.Proofs.YtiincpioidnciaaGreat
