/-
  The reference's fractions, as data.
-/
import Derived.Test.YtjeaacindikplaaGreatWLib
import Derived.Test.YtjeaacindikplaaGreatWRefA
namespace Go.Proofs.YtjeaacindikplaaGreat
set_option linter.unusedVariables false
set_option linter.unusedSimpArgs false
set_option linter.unusedSectionVars false
open Go Go.RowKit
set_option maxRecDepth 100000
set_option maxHeartbeats 1000000
theorem ZDS(f:FracD)(n:Int):Zaf Tryz.prog 30 [encF f,dI n] (dB (decide ((f.p.d.length:Int)≤n)&&decide ((f.q.d.length:Int)≤n))):=by
 refine inC Tryz.func30 rfl Tryz.ntmps30 ?_
 have hres:=Tryz.results30
 by_cases h1:(f.p.d.length:Int)≤n
 ·by_cases h2:(f.q.d.length:Int)≤n
  ·exact aGo (cj3 hres h1 h2) trivial
  ·exact aGo (cj3 hres h1 h2) trivial
 ·exact aGo (cj2 hres h1) trivial
theorem Zlb(f:FracD)(hf:(szF f:Int)≤549755813888):Zaf Tryz.prog 94 [encF f] (dB (okF f)):=by
 have hres:=Tryz.results94
 have h1:=(Zny f.p (by unfold szF at hf;omega)).toN rfl
 have h2:=(Zny f.q (by unfold szF at hf;omega)).toN rfl
 cases hp:okB f.p
 ·rw[hp]at h1
  refine inC Tryz.func94 rfl Tryz.ntmps94 ?_
  refine aGo hres ?_
  repeat with_reducible intro K hK
  exact Zai (by simp[okF,hp])
 cases hq:okB f.q
 ·rw[hp]at h1
  rw[hq]at h2
  refine inC Tryz.func94 rfl Tryz.ntmps94 ?_
  refine aGo hres ?_
  repeat with_reducible intro K hK
  exact Zai (by simp[okF,hq])
 rw[hp]at h1
 rw[hq]at h2
 by_cases hs:f.q.s<1
 ·refine inC Tryz.func94 rfl Tryz.ntmps94 ?_
  refine aGo (cj2 hres hs) ?_
  repeat with_reducible intro K hK
  refine Zai ?_
  have:(f.q.s==1)=false:=by simp;omega
  simp[okF,this]
 obtain⟨a,ha⟩:=ZjD.1 hp
 obtain⟨b,hb⟩:=ZjD.1 hq
 obtain⟨p,q⟩:=f
 dsimp only at ha hb hs h1 h2
 subst ha
 subst hb
 have hb0:0<b:=by
  have h:(ofZ b).s=b.sign:=rfl
  have:=ZaL b
  omega
 have la:(szZ a:Int)≤549755813888:=by have:szF ⟨ofZ a,ofZ b⟩=max (szZ a) (szZ b):=rfl;omega
 have lb:(szZ b:Int)≤549755813888:=by have:szF ⟨ofZ a,ofZ b⟩=max (szZ a) (szZ b):=rfl;omega
 have hg:=Zv1 a b la lb
 have h1c:=ZvZ 1 (by omega) (by omega)
 have hgb:(Nat.gcd a.natAbs b.natAbs:Nat)≤b.natAbs:=Nat.gcd_le_right _ (by omega)
 have hc:=(ZmA (Nat.gcd a.natAbs b.natAbs) 1 (by have:szZ (Nat.gcd a.natAbs b.natAbs:Int)≤szZ b:=Zg5 hgb;omega) (by have:szZ 1≤1:=ZhJ (by decide);omega)).toN rfl
 have hok:okF ⟨ofZ a,ofZ b⟩=(Nat.gcd a.natAbs b.natAbs==1):=by
  have:((ofZ b).s==1)=true:=by
   have h:(ofZ b).s=b.sign:=rfl
   rw[h,Yb2 hb0];rfl
  simp only[okF,hp,hq,this,Bool.true_and,Zjj]
 refine inC Tryz.func94 rfl Tryz.ntmps94 ?_
 refine aGo (cj2 hres hs) ?_
 repeat with_reducible intro K hK
 refine Zai ?_
 rw[hok]
 rcases Nat.lt_trichotomy (Nat.gcd a.natAbs b.natAbs) 1 with h|h|h
 ·have:Nat.gcd a.natAbs b.natAbs=0:=by omega
  rw[this];rfl
 ·rw[h];rfl
 ·have h3:(Nat.gcd a.natAbs b.natAbs==1)=false:=by simp;omega
  rw[h3,Ze0 (by omega)]
  rfl
set_option maxHeartbeats 8000000
theorem ZDQ(p q:Int)(hq:q≠0)(lp:(szZ p:Int)≤549755813888)(lq:(szZ q:Int)≤549755813888):Zaa Tryz.prog 154 [encB (ofZ p),encB (ofZ q)] (.tup [encF (ofQ (Rat.divInt p q)),dI 0]):=by
 have hres:=Tryz.results154
 have h1:=Zcr p (by omega)
 have h2:=Zcr q (by omega)
 have eq:(ofZ q).s=q.sign:=rfl
 rcases Int.lt_or_gt_of_ne hq with hneg|hpos
 ·have n1:=ZAH p (by omega)
  have n2:=ZAH q (by omega)
  have t1:(q.sign==0)=false:=by rw[Yb3 hneg];rfl
  have t2:q.sign<0:=by rw[Yb3 hneg];decide
  obtain⟨c,d,hpc,hqd,hof,hg0⟩:=ZdX (p:= -p) (q:= -q) (by omega)
  have hgc:=Zv1 (-p) (-q) (by rw[Zgo];exact lp) (by rw[Zgo];exact lq)
  have lg:(szZ (Nat.gcd (-p).natAbs (-q).natAbs:Int):Int)≤549755813888:=by
   have:szZ (Nat.gcd (-p).natAbs (-q).natAbs:Int)≤szZ (-q):=Zg5 (Nat.gcd_le_right _ (by omega))
   rw[Zgo]at this;omega
  have d1:=Zsk (-p) (Nat.gcd (-p).natAbs (-q).natAbs) c hg0 hpc (by rw[Zgo];exact lp) lg
  have d2:=Zsk (-q) (Nat.gcd (-p).natAbs (-q).natAbs) d hg0 hqd (by rw[Zgo];exact lq) lg
  rw[Rat.neg_divInt_neg]at hof
  rw[hof]
  clear hof hpc hqd hg0
  generalize Nat.gcd (-p).natAbs (-q).natAbs=G at *
  refine inN Tryz.func154 rfl Tryz.ntmps154 fun I=>?_
  exact aGo (cj4 hres eq t1 t2) trivial
 ·have t1:(q.sign==0)=false:=by rw[Yb2 hpos];rfl
  have t2:¬ q.sign<0:=by rw[Yb2 hpos];decide
  obtain⟨c,d,hpc,hqd,hof,hg0⟩:=ZdX (p:=p) (q:=q) (by omega)
  have hgc:=Zv1 p q lp lq
  have lg:(szZ (Nat.gcd p.natAbs q.natAbs:Int):Int)≤549755813888:=by
   have:szZ (Nat.gcd p.natAbs q.natAbs:Int)≤szZ q:=Zg5 (Nat.gcd_le_right _ (by omega))
   omega
  have d1:=Zsk p (Nat.gcd p.natAbs q.natAbs) c hg0 hpc lp lg
  have d2:=Zsk q (Nat.gcd p.natAbs q.natAbs) d hg0 hqd lq lg
  rw[hof]
  clear hof hpc hqd hg0
  generalize Nat.gcd p.natAbs q.natAbs=G at *
  refine inN Tryz.func154 rfl Tryz.ntmps154 fun I=>?_
  exact aGo (cj4 hres eq t1 t2) trivial
theorem Zvi(n:Int)(h1 : -9223372036854775808≤n)(h2:n≤9223372036854775808):szZ n≤4:=by
 have:=Zdf n h1 h2
 rw[Zd3]at this
 simp at this
 omega
theorem rof_c(p q:Int)(hq:q≠0)(p1 : -9223372036854775808≤p)(p2:p≤9223372036854775807)(q1 : -9223372036854775808≤q)(q2:q≤9223372036854775807):Zaa Tryz.prog 98 [dI p,dI q] (.tup [encF (ofQ (Rat.divInt p q)),dI 0]):=by
 have hres:=Tryz.results98
 have h1:=ZvZ p p1 p2
 have h2:=ZvZ q q1 q2
 have hn:=ZDQ p q hq (by have:=Zvi p p1 (by omega);omega) (by have:=Zvi q q1 (by omega);omega)
 refine inN Tryz.func98 rfl Tryz.ntmps98 fun I=>?_
 exact aGo hres trivial
theorem ZuJ(n:Int):Rat.divInt n 1=(n:Rat):=by simp[Rat.divInt,Rat.mkRat_one]
theorem ZDR(n:Int)(h1 : -9223372036854775808≤n)(h2:n≤9223372036854775807):Zaa Tryz.prog 50 [dI n] (encF (ofQ (n:Rat))):=by
 have hres:=Tryz.results50
 have h:=rof_c n 1 (by decide) h1 h2 (by decide) (by decide)
 rw[ZuJ]at h
 refine inN Tryz.func50 rfl Tryz.ntmps50 fun I=>?_
 exact aGo hres trivial
theorem Znx(f:FracD)(zf:(szF f:Int)≤549755813888):Zaf Tryz.prog 47 [encF f] (dI (sgnD f)):=by
 have hres:=Tryz.results47
 have h1:=(Zlb f zf).toN rfl
 cases hf:okF f
 ·rw[hf]at h1
  refine inC Tryz.func47 rfl Tryz.ntmps47 ?_
  refine aGo hres ?_
  repeat with_reducible intro K hK
  exact ZaX (by simp[sgnD,hf])
 ·rw[hf]at h1
  obtain⟨a,rfl⟩:=Zey.1 hf
  rw[ZbN]
  refine inC Tryz.func47 rfl Tryz.ntmps47 ?_
  refine aGo hres ?_
  repeat with_reducible intro K hK
  exact ZaX (ZnP a)
theorem ZqN(f g:FracD)(zf:(szF f:Int)≤68719476736)(zg:(szF g:Int)≤68719476736):Zaf Tryz.prog 49 [encF f,encF g] (dI (cmpD f g)):=by
 have hres:=Tryz.results49
 have h1:=(Zlb f (by omega)).toN rfl
 have h2:=(Zlb g (by omega)).toN rfl
 cases hf:okF f
 ·rw[hf]at h1
  refine inC Tryz.func49 rfl Tryz.ntmps49 ?_
  refine aGo hres ?_
  repeat with_reducible intro K hK
  exact ZaX (by simp[cmpD,hf])
 cases hg:okF g
 ·rw[hf]at h1
  rw[hg]at h2
  refine inC Tryz.func49 rfl Tryz.ntmps49 ?_
  refine aGo hres ?_
  repeat with_reducible intro K hK
  exact ZaX (by simp[cmpD,hf,hg])
 rw[hf]at h1
 rw[hg]at h2
 obtain⟨a,rfl⟩:=Zey.1 hf
 obtain⟨b,rfl⟩:=Zey.1 hg
 rw[Zoy]
 have za:=Zd3 a
 have zb:=Zd3 b
 have ea:szF (ofQ a)=szQ a:=rfl
 have eb:szF (ofQ b)=szQ b:=rfl
 have da:=a.den_pos
 have db:=b.den_pos
 have m1:=ZAI a.num b.den (by omega) (by omega)
 have m2:=ZAI b.num a.den (by omega) (by omega)
 have s1:=ZbY a.num b.den
 have s2:=ZbY b.num a.den
 have hc:=(ZmA (a.num*b.den) (b.num*a.den) (by omega) (by omega)).toN rfl
 rw[← ZqE]at hc
 refine inC Tryz.func49 rfl Tryz.ntmps49 ?_
 exact aGo hres trivial
end Go.Proofs.YtjeaacindikplaaGreat
