/-
  Scales that must have been wrong (plain): recalls since day 0, the search for sets, what the law TopSuspects asks.
-/
import Derived.Test.YtiincpioidnciaaGreatVT04
import Derived.Test.YtiincpioidnciaaGreatVT00
import Derived.Test.YtiincpioidnciaaGreatVT03
import Derived.Test.YtiincpioidnciaaGreatVT01
import Derived.Test.YtiincpioidnciaaGreatVRefA
namespace Go.Proofs.YtiincpioidnciaaGreat
set_option linter.unusedVariables false
set_option linter.unusedSimpArgs false
set_option linter.unusedSectionVars false
open Go Go.RowKit
set_option maxRecDepth 100000
theorem ZaH.symm{e u:EvD}(h:ZaH e u):ZaH u e:=⟨h.m.symm,h.pl.symm,h.pu.symm,h.n.symm,fun i=>(h.f i).symm,fun i=>(h.t i).symm,fun i=>(h.a i).symm⟩
theorem ZaH.trans{e u v:EvD}(h:ZaH e u)(k:ZaH u v):ZaH e v:=⟨h.m.trans k.m,h.pl.trans k.pl,h.pu.trans k.pu,h.n.trans k.n,fun i=>(h.f i).trans (k.f i),fun i=>(h.t i).trans (k.t i),fun i=>(h.a i).trans (k.a i)⟩
abbrev PosE(e:EvD):Prop:=∃ x,ZaM (sysE e) x=true
structure Zgr (e:EvD) (u:List Int):Prop where
 nd:u.Nodup
 mem:∀ s,s∈u↔s ≠ -1∧∃ x∈e.mv,x.s=s
section
variable {e:EvD} (R:Zeb e) {u:List Int} (U:Zgr e u) {P:List Int→Bool} (hP:∀ S,P S=true↔PosE (Zef e S)) (hno:¬ PosE e)
include R U hP hno
end
section
variable {s:SysD} {goal:List Zae}
end
section
variable {s:SysD} {l:List Nat} (hs:Zar s=true) (hr:∀ i∈l,i<s.r.length) (hl:l.length≤6000)
include hr
include hs hl
end
set_option maxHeartbeats 16000000
structure Sm12 (s:SysD):Prop where
 sm:smS s
 l:s.r.length≤64
 w:∀ w∈s.r,w.t.length≤64∧szF w.v≤262144∧∀ t∈w.t,szF t.f≤262144
section
variable [Ifl]
end
abbrev ints(L:List Nat):List Int:=L.map fun(i:Nat)=>(i:Int)
structure Conf (s:SysD):Prop where
 r:Zar s=true
 n:s.n≤8
 l:s.r.length≤32
 w:∀ w∈s.r,w.t.length≤8∧szF w.v≤3∧∀ t∈w.t,szF t.f≤3
section
variable {s:SysD} (c:Conf s)
include c
end
set_option maxHeartbeats 32000000
set_option maxHeartbeats 8000000
structure LenE (e:EvD):Prop where
 pl:(e.pl.length:Int)≤1099511627776
 mv:(e.mv.length:Int)≤1099511627776
 ce:(e.ce.length:Int)≤1099511627776
 re:(e.re.length:Int)≤1099511627776
 pu:(e.pu.length:Int)≤1099511627776
end Go.Proofs.YtiincpioidnciaaGreat
