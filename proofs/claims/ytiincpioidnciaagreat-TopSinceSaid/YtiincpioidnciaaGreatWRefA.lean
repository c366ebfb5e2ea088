/-
  The reference's integers, as data: Right, Same, Compare, Neg; the elder contracts.
-/
import Derived.Test.YtiincpioidnciaaGreatWLib
import Derived.Test.YtiincpioidnciaaGreatWConv
import Derived.Test.YtiincpioidnciaaGreatWRg
namespace Go.Proofs.YtiincpioidnciaaGreat
set_option linter.unusedVariables false
set_option linter.unusedSimpArgs false
set_option linter.unusedSectionVars false
open Go Go.RowKit
set_option maxRecDepth 100000
set_option maxHeartbeats 1000000
set_option maxHeartbeats 8000000
theorem Zex{a b:BigD}:Zgs a b=true↔a=b:=by
 cases a;cases b;simp[Zgs]
theorem ZyT{a b:BigD}(h:(a.s !=b.s)=true):Zgs a b=false:=by
 cases hs:Zgs a b with
 | false=>rfl
 | true=>rw[Zex.1 hs]at h;simp at h
theorem Zth{a b:BigD}(h:((a.d.length:Int) !=b.d.length)=true):Zgs a b=false:=by
 cases hs:Zgs a b with
 | false=>rfl
 | true=>rw[Zex.1 hs]at h;simp at h
theorem Zv3{a b:BigD}{k:Nat}{x y:Int}(hx:a.d[k]? =some x)(hy:b.d[k]? =some y)(h:(x !=y)=true):Zgs a b=false:=by
 cases hs:Zgs a b with
 | false=>rfl
 | true=>rw[Zex.1 hs,hy]at hx;cases hx;simp at h
theorem ZmI{a b:List Int}{k:Nat}{x y:Int}(h:a.take k=b.take k)(hx:a[k]? =some x)(hy:b[k]? =some y)(he:(x !=y)=false):a.take (k+1)=b.take (k+1):=by
 have:x=y:=by simpa using he
 rw[Yb4,Yb4,h,hx,hy,this]
theorem sign_mul(a b:Int) : -1≤a.sign*b.sign∧a.sign*b.sign≤1:=by
 rcases Zcg a with⟨_,h,_⟩|⟨_,h,_⟩|⟨_,h,_⟩<;>rcases Zcg b with⟨_,k,_⟩|⟨_,k,_⟩|⟨_,k,_⟩<;>rw[h,k]<;>decide
theorem Zkb{a b:Int}(h:a=b):dI a=dI b:=by rw[h]
end Go.Proofs.YtiincpioidnciaaGreat
