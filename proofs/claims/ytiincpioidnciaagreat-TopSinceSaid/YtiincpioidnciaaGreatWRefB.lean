/-
  The reference's fractions, as data.
-/
import Derived.Test.YtiincpioidnciaaGreatWLib
import Derived.Test.YtiincpioidnciaaGreatWRefA
namespace Go.Proofs.YtiincpioidnciaaGreat
set_option linter.unusedVariables false
set_option linter.unusedSimpArgs false
set_option linter.unusedSectionVars false
open Go Go.RowKit
set_option maxRecDepth 100000
set_option maxHeartbeats 1000000
theorem Zki(a b:BigD)(ha:(a.d.length:Int)≤9007199254740992):Zae Tryz.prog 77 [encB a,encB b] (dB (Zgs a b)):=by
 refine inC Tryz.func77 rfl Tryz.ntmps77 ?_
 have Zr:=Tryz.results77
 cases h1:a.s !=b.s;rotate_left
 ·refine aGo (cj2 Zr h1) ?_
  repeat with_reducible intro K hK
  exact Zaj (ZyT h1).symm
 cases h2:(a.d.length:Int) !=b.d.length;rotate_left
 ·refine aGo (cj3 Zr h1 h2) ?_
  repeat with_reducible intro K hK
  exact Zaj (Zth h2).symm
 have hlen:a.d.length=b.d.length:=by simp at h2;omega
 refine aGo (cj3 Zr h1 h2) ?_
 repeat with_reducible intro K hK
 refine ZaH (fun(k:Nat)=>[(2,.lp 0 0 0 0),(3,.lp 1 0 0 0),(5,dI k)]) (fun _=>[(0,⟨33,0,2,[cB a],0,false⟩),(1,⟨33,0,2,[cB b],0,false⟩)]) 2 0 (fun k=>k≤a.d.length∧a.d.take k=b.d.take k) (fun k=>a.d.length-k) 0 ⟨by omega,by simp⟩ ?_ ?_
 ·exact leGo trivial
 ·rintro k ⟨hk,hd⟩
  obtain⟨hw,h0⟩:=ZaS k
  by_cases h3:(k:Int)<a.d.length
  ·obtain⟨x,hx⟩:=getE (l:=a.d) (k:=k) (by omega)
   obtain⟨y,hy⟩:=getE (l:=b.d) (k:=k) (by omega)
   cases h4:x !=y;rotate_left
   ·refine aGo (cj4 Zr h0 h3 (cj3 h4 hx hy)) ?_
    repeat with_reducible intro K hK
    exact Zaj (Zv3 hx hy h4).symm
   ·refine aGo (cj4 Zr h0 h3 (cj4 h4 hx hy hw)) ?_
    repeat with_reducible intro K hK
    exact Zah (k+1) ⟨by omega,ZmI hd hx hy h4⟩ (by omega) (by exact leGo trivial)
  ·refine aGo (cj2 Zr h3) ?_
   repeat with_reducible intro K hK
   refine Zaj (Eq.symm (Zex.2 ?_))
   rw[Ya8 (by omega),Ya8 (by omega)]at hd
   have h1':a.s=b.s:=by simpa using h1
   cases a;cases b;simp_all
theorem Zp3(f g:Zaf)(hf:(szF f:Int)≤9007199254740992):Zae Tryz.prog 44 [encF f,encF g] (dB (Zej f g)):=by
 refine inC Tryz.func44 rfl Tryz.ntmps44 ?_
 have Zr:=Tryz.results44
 have h1:=(Zki f.p g.p (by unfold szF at hf;omega)).toN rfl
 have h2:=(Zki f.q g.q (by unfold szF at hf;omega)).toN rfl
 cases h:Zgs f.p g.p
 ·rw[h]at h1
  refine aGo Zr ?_
  repeat with_reducible intro K hK
  exact Zaj (by simp[Zej,h])
 ·rw[h]at h1
  refine aGo Zr ?_
  repeat with_reducible intro K hK
  exact Zaj (by simp[Zej,h])
set_option maxHeartbeats 8000000
end Go.Proofs.YtiincpioidnciaaGreat
