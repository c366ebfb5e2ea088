/-
  Boxes of a call's own: what they hold behind calls that make memory; results that lie in cells.
-/
import Derived.Test.YtiincpioidnciaaGreatVBigA
import Derived.Deep.LoopGhost
namespace Go.Proofs.YtiincpioidnciaaGreat
set_option linter.unusedVariables false
set_option linter.unusedSimpArgs false
set_option linter.unusedSectionVars false
open Go.RowKit
section
variable {w W:World} {o1 o2 o3 o4 o5 o6:Obj}
end
section
variable {W:World} {g:Nat} {T:TypeId} {c0 c1 c2 c3 c4:Value}
end
def Zdo(w:World)(v:Value)(f:Zad):Prop:=∃ d e,v = .agg #[I f.p.s,d,I f.q.s,e]∧ZaV w d f.p.d∧ZaV w e f.q.d
def ZbA(w:World)(v:Value)(f:Zad):Prop:=∃ d e,v = .agg #[I f.p.s,d,I f.q.s,e]∧ZaV w d f.p.d∧ZaV w e f.q.d∧Zbz w d∧Zbz w e
theorem Zdo.below{w W:World}{v:Value}{f:Zad}(h:Zdo w v f)(hb:Below w.heap.size w W):Zdo W v f:=by
 obtain⟨d,e,rfl,h1,h2⟩:=h
 exact⟨d,e,rfl,h1.below RInt.mono hb,h2.below RInt.mono hb⟩
theorem ZbA.below{w W:World}{v:Value}{f:Zad}(h:ZbA w v f)(hb:Below w.heap.size w W):ZbA W v f:=by
 obtain⟨d,e,rfl,h1,h2,h3,h4⟩:=h
 exact⟨d,e,rfl,h1.below RInt.mono hb,h2.below RInt.mono hb,h3.below hb,h4.below hb⟩
theorem Zdo.mono(f:Zad):∀ w w' v,ZaG w w'→Zdo w v f→Zdo w' v f:=fun _ _ _ hg h=>h.below hg
theorem ZbA.mono(f:Zad):∀ w w' v,ZaG w w'→ZbA w v f→ZbA w' v f:=fun _ _ _ hg h=>h.below hg
theorem ZbA.set{w:World}{v u:Value}{x:Zad}{g i:Nat}{cs:Array Value}{T:TypeId}{fr:Nat×Nat}(h:ZbA w v x)(hg:w.heap[g]? =some (.cells cs T fr))(hT:T≠3):ZbA (w.setCell ⟨g,i,none⟩ u) v x:=by
 obtain⟨d,e,rfl,h1,h2,h3,h4⟩:=h
 obtain⟨h5,hne⟩:=Zbi (i:=i) (x:=u) h3 hg hT
 obtain⟨h6,hne2⟩:=Zbi (i:=i) (x:=u) h4 hg hT
 exact⟨d,e,rfl,Zba h1 Zbs hne,Zba h2 Zbs hne2,h5,h6⟩
def ZfH(w:World)(v:Value)(f:Zad)(e:Int):Prop:=∃ u,v = .tuple #[u,I e]∧ZbA w u f
theorem ZfH.mono(f:Zad)(e:Int):∀ w w' v,ZaG w w'→ZfH w v f e→ZfH w' v f e:=fun _ _ _ hg ⟨u,hv,h⟩=>⟨u,hv,h.below hg⟩
attribute [local go_sem] ZdB ZdC Zbm
attribute [local go_sem] ZdB ZdC Zbm ZbP
attribute [local go_sem] ZbP
end Go.Proofs.YtiincpioidnciaaGreat
