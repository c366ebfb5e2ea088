/-
  The program's code run on data by computation, and that the walk over data follows from it.
-/
import Derived.Test.YtiincpioidnciaaGreatVConv
import Derived.Test.YtiincpioidnciaaGreatVT05
import Derived.Test.YtiincpioidnciaaGreatVT04
import Derived.Test.YtiincpioidnciaaGreatVT02
import Derived.Test.YtiincpioidnciaaGreatVT03
import Derived.Lib.SlicesCompact
import Derived.Test.YtiincpioidnciaaGreatVT00
import Derived.Test.YtiincpioidnciaaGreatVT01
namespace Go.Proofs.YtiincpioidnciaaGreat
set_option linter.unusedVariables false
set_option linter.unusedSimpArgs false
set_option linter.unusedSectionVars false
open Go Go.RowKit
def tabU:List (Nat×D)→Nat→D
 | []=>fun _=>.v undef
 | p ::l=>upd (tabU l) p.1 p.2
structure CS where
 t:List (Nat×D)
 m:List (Nat×Blk)
 nx:Nat
def CS.den(c:CS)(lo:Nat):St:=⟨tabU c.t,tabM c.m,c.nx,lo⟩
section
variable (P:Program) (call:FuncId→List D→Option D) (inl:FuncId→List D→List (Nat×Blk)→Nat→Option (D×List (Nat×Blk)×Nat))
end
section ifl
variable [Ifl]
section
variable {P:Program} {call:FuncId→List D→Option D} {inl:FuncId→List D→List (Nat×Blk)→Nat→Option (D×List (Nat×Blk)×Nat)}
 (hc:∀ f ds d,call f ds=some d→Zal P f ds d)
include hc
variable (hi:∀ f ds m nx d m' nx',inl f ds m nx=some (d,m',nx')→∀ K:D→Mem→Nat→Prop,K d (tabM m') nx'→Zaj P f ds (tabM m) nx K)
include hi
omit hi in
omit hi in
omit hc hi in
end
end ifl
section
variable (P:Program) (fs:List (FuncId×Func)) (ora:FuncId→List D→Option D) (inB:FuncId→Bool) (L:Nat)
variable {P fs ora inB L}
end
set_option maxRecDepth 100000
set_option maxHeartbeats 16000000
structure PkD where
 v:Int
 m:Int
section
variable {e:EvD} (hf:Zge e=0) (L:LenE e) (hn:e.mv.length≤12)
include hf L hn
end
theorem tyfYI:tyOf Tryz.prog 142=some ⟨0,1,8,some [.v .nilFunc],0,none,[]⟩:=by kernel_rfl
attribute [local go_sem] tyfYI thenI Zex
theorem Zfd:eqTy Tryz.prog 68=true:=by kernel_rfl
attribute [local go_sem] Zfd eqL
section ifl
variable [Ifl]
end ifl
structure Pl (k:Nat) (es:List (List D)):Prop where
 c:∀ e∈es,e.length=k∧e.all D.isCell=true
 v:∀ e∈es,∀ d∈e,∃ x,d = .v x
theorem Pl.fz{k:Nat}{es:List (List D)}(h:Pl k es)(b:Bool)(M:Mem)(j:Nat):List.map (List.map (fzT b M (j+1))) es=es:=by
 have h1:∀ e∈es,List.map (fzT b M (j+1)) e=e:=fun e he=>by
  conv=>rhs;rw[← List.map_id e]
  exact List.map_congr_left fun d hd=>by obtain⟨x,rfl⟩:=h.v e he d hd;rfl
 conv=>rhs;rw[← List.map_id es]
 exact List.map_congr_left fun e he=>h1 e he
section
variable {l:List MvD} {S:List Int} {k:Nat}
end
structure SusE (e:EvD):Prop where
 f:Zge e=0
 L:LenE e
 n:e.mv.length≤4
 m:e.m≤2
 p:e.pu.length≤2
section
variable {e:EvD} (h:SusE e)
include h
end
section
variable {e:EvD} (h:SusE e)
include h
end
section
variable {e:EvD} (h:SusE e)
include h
end
section
variable {lo hi:Rat} {x:List Zad}
end
set_option maxHeartbeats 32000000
section
variable {α:Type} {L:List α} {p:Nat}
end
section
variable {e:EvD} (h:SusE e)
include h
end
section
variable {e:EvD} (h:SusE e)
include h
end
set_option maxHeartbeats 8000000
theorem Zf3:eqTy Tryz.prog 52=true:=by kernel_rfl
theorem ptrWt:Zf7 Tryz.prog 70=true:=by kernel_rfl
theorem tyfWt:tyOf Tryz.prog 70=some ⟨0,1,8,some [.v (.pointer none)],0,none,[]⟩:=by kernel_rfl
attribute [local go_sem] Zf3 ptrWt eqL tyfWt
section
variable {e:EvD} (h:SusE e)
include h
end
end Go.Proofs.YtiincpioidnciaaGreat
