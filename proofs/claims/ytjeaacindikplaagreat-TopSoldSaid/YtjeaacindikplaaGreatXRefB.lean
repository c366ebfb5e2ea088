/-
  The reference's fractions, as data.
-/
import Derived.Test.YtjeaacindikplaaGreatXLib
import Derived.Test.YtjeaacindikplaaGreatXRefA
namespace Go.Proofs.YtjeaacindikplaaGreat
set_option linter.unusedVariables false
set_option linter.unusedSimpArgs false
set_option linter.unusedSectionVars false
open Go Go.RowKit
set_option maxRecDepth 100000
set_option maxHeartbeats 1000000
theorem ZvZ(f:Zag)(hf:(szF f:Int)≤549755813888):Zah Tryz.prog 94 [encF f] (dB (okF f)):=by
 have Zr:=Tryz.results94
 have h1:=(Znq f.p (by unfold szF at hf;omega)).toN rfl
 have h2:=(Znq f.q (by unfold szF at hf;omega)).toN rfl
 cases hp:okB f.p
 ·rw[hp]at h1
  refine inC Tryz.func94 rfl Tryz.ntmps94 ?_
  refine aGo Zr ?_
  repeat with_reducible intro K hK
  exact Zaj (by simp[okF,hp])
 cases hq:okB f.q
 ·rw[hp]at h1
  rw[hq]at h2
  refine inC Tryz.func94 rfl Tryz.ntmps94 ?_
  refine aGo Zr ?_
  repeat with_reducible intro K hK
  exact Zaj (by simp[okF,hq])
 rw[hp]at h1
 rw[hq]at h2
 by_cases hs:f.q.s<1
 ·refine inC Tryz.func94 rfl Tryz.ntmps94 ?_
  refine aGo (cj2 Zr hs) ?_
  repeat with_reducible intro K hK
  refine Zaj ?_
  have:(f.q.s==1)=false:=by simp;omega
  simp[okF,this]
 obtain⟨a,ha⟩:=ZjG.1 hp
 obtain⟨b,hb⟩:=ZjG.1 hq
 obtain⟨p,q⟩:=f
 dsimp only at ha hb hs h1 h2
 subst ha
 subst hb
 have hb0:0<b:=by
  have h:(ofZ b).s=b.sign:=rfl
  have:=ZaT b
  omega
 have la:(szZ a:Int)≤549755813888:=by have:szF ⟨ofZ a,ofZ b⟩=max (szZ a) (szZ b):=rfl;omega
 have lb:(szZ b:Int)≤549755813888:=by have:szF ⟨ofZ a,ofZ b⟩=max (szZ a) (szZ b):=rfl;omega
 have hg:=ZEm a b la lb
 have h1c:=ZEl 1 (by omega) (by omega)
 have hgb:(Nat.gcd a.natAbs b.natAbs:Nat)≤b.natAbs:=Nat.gcd_le_right _ (by omega)
 have hc:=(Zuo (Nat.gcd a.natAbs b.natAbs) 1 (by have:szZ (Nat.gcd a.natAbs b.natAbs:Int)≤szZ b:=Zkw hgb;omega) (by have:szZ 1≤1:=ZhO (by decide);omega)).toN rfl
 have hok:okF ⟨ofZ a,ofZ b⟩=(Nat.gcd a.natAbs b.natAbs==1):=by
  have:((ofZ b).s==1)=true:=by
   have h:(ofZ b).s=b.sign:=rfl
   rw[h,Yb2 hb0];rfl
  simp only[okF,hp,hq,this,Bool.true_and,Zjn]
 refine inC Tryz.func94 rfl Tryz.ntmps94 ?_
 refine aGo (cj2 Zr hs) ?_
 repeat with_reducible intro K hK
 refine Zaj ?_
 rw[hok]
 rcases Nat.lt_trichotomy (Nat.gcd a.natAbs b.natAbs) 1 with h|h|h
 ·have:Nat.gcd a.natAbs b.natAbs=0:=by omega
  rw[this];rfl
 ·rw[h];rfl
 ·have h3:(Nat.gcd a.natAbs b.natAbs==1)=false:=by simp;omega
  rw[h3,ZeZ (by omega)]
  rfl
set_option maxHeartbeats 8000000
theorem Zzd(f:Zag)(zf:(szF f:Int)≤549755813888):Zah Tryz.prog 47 [encF f] (dI (sgnD f)):=by
 have Zr:=Tryz.results47
 have h1:=(ZvZ f zf).toN rfl
 cases hf:okF f
 ·rw[hf]at h1
  refine inC Tryz.func47 rfl Tryz.ntmps47 ?_
  refine aGo Zr ?_
  repeat with_reducible intro K hK
  exact ZbA (by simp[sgnD,hf])
 ·rw[hf]at h1
  obtain⟨a,rfl⟩:=ZfZ.1 hf
  rw[ZbN]
  refine inC Tryz.func47 rfl Tryz.ntmps47 ?_
  refine aGo Zr ?_
  repeat with_reducible intro K hK
  exact ZbA (ZnF a)
end Go.Proofs.YtjeaacindikplaaGreat
