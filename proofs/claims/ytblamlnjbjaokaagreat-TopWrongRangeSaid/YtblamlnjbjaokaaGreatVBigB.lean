/-
  Boxes of a call's own: what they hold behind calls that make memory; results that lie in cells.
-/
import Derived.Test.YtblamlnjbjaokaaGreatVLib
import Derived.Test.YtblamlnjbjaokaaGreatVBigA
import Derived.Deep.LoopGhost
namespace Go.Proofs.YtblamlnjbjaokaaGreat
set_option linter.unusedVariables false
set_option linter.unusedSimpArgs false
set_option linter.unusedSectionVars false
open Go.RowKit
section
variable {w W:World} {o1 o2 o3 o4 o5 o6:Obj}
theorem Zhk(h:Below (w.alloc o1).heap.size (w.alloc o1) W):w.heap.size+0<W.heap.size∧Below w.heap.size w W∧W.heap[w.heap.size]? =some o1:=by
 have hs:=h.size
 simp at hs
 have hall:∀ i,i<1→W.heap[w.heap.size+i]? =(w.alloc o1).heap[w.heap.size+i]?:=fun i hi=>h.block _ (by simp;omega)
 have hb:Below w.heap.size w (w.alloc o1):=((Below.refl _ _).alloc (Ya4 _) _)
 refine⟨by omega,hb.trans (h.mono hb.size),?_⟩
 ·refine(hall 0 (by omega)).trans ?_
  have:=heap_alloc_new w o1
  simpa using this
theorem Zhj(h:Below ((w.alloc o1).alloc o2).heap.size ((w.alloc o1).alloc o2) W):w.heap.size+1<W.heap.size∧Below w.heap.size w W∧W.heap[w.heap.size]? =some o1∧W.heap[w.heap.size+1]? =some o2:=by
 have hs:=h.size
 simp at hs
 have hall:∀ i,i<2→W.heap[w.heap.size+i]? =((w.alloc o1).alloc o2).heap[w.heap.size+i]?:=fun i hi=>h.block _ (by simp;omega)
 have hb:Below w.heap.size w ((w.alloc o1).alloc o2):=((((Below.refl _ _).alloc (Ya4 _) _)).alloc (by simp) _)
 refine⟨by omega,hb.trans (h.mono hb.size),?_,?_⟩
 ·refine(hall 0 (by omega)).trans ?_
  rw[Below.heap_alloc _ _ _ (by simp<;>omega)]
  have:=heap_alloc_new w o1
  simpa using this
 ·refine(hall 1 (by omega)).trans ?_
  have:=heap_alloc_new (w.alloc o1) o2
  simpa using this
theorem ZiL(h:Below (((w.alloc o1).alloc o2).alloc o3).heap.size (((w.alloc o1).alloc o2).alloc o3) W):w.heap.size+2<W.heap.size∧Below w.heap.size w W∧W.heap[w.heap.size]? =some o1∧W.heap[w.heap.size+1]? =some o2∧W.heap[w.heap.size+2]? =some o3:=by
 have hs:=h.size
 simp at hs
 have hall:∀ i,i<3→W.heap[w.heap.size+i]? =(((w.alloc o1).alloc o2).alloc o3).heap[w.heap.size+i]?:=fun i hi=>h.block _ (by simp;omega)
 have hb:Below w.heap.size w (((w.alloc o1).alloc o2).alloc o3):=((((((Below.refl _ _).alloc (Ya4 _) _)).alloc (by simp) _)).alloc (by simp<;>omega) _)
 refine⟨by omega,hb.trans (h.mono hb.size),?_,?_,?_⟩
 ·refine(hall 0 (by omega)).trans ?_
  rw[Below.heap_alloc _ _ _ (by simp<;>omega),Below.heap_alloc _ _ _ (by simp<;>omega)]
  have:=heap_alloc_new w o1
  simpa using this
 ·refine(hall 1 (by omega)).trans ?_
  rw[Below.heap_alloc _ _ _ (by simp<;>omega)]
  have:=heap_alloc_new (w.alloc o1) o2
  simpa using this
 ·refine(hall 2 (by omega)).trans ?_
  have:=heap_alloc_new ((w.alloc o1).alloc o2) o3
  simpa using this
end
section
variable {W:World} {g:Nat} {T:TypeId} {c0 c1 c2 c3 c4:Value}
theorem Zb8(h:W.heap[g]? =some (.cells #[c0,c1] T (0,0))):W.cell? ⟨g,0,none⟩=some c0∧W.cell? ⟨g,1,none⟩=some c1∧(∀ i,W.frozen? ⟨g,i,none⟩=false) :=
 ⟨by rw[cell_of_row W _ 0 _ _ (0,0) h];rfl,by rw[cell_of_row W _ 1 _ _ (0,0) h];rfl,fun i=>frozen_of_row W g i _ _ h⟩
theorem Zmt(h:W.heap[g]? =some (.cells #[c0,c1,c2,c3] T (0,0))):W.cell? ⟨g,0,none⟩=some c0∧W.cell? ⟨g,1,none⟩=some c1∧W.cell? ⟨g,2,none⟩=some c2∧W.cell? ⟨g,3,none⟩=some c3∧(∀ i,W.frozen? ⟨g,i,none⟩=false) :=
 ⟨by rw[cell_of_row W _ 0 _ _ (0,0) h];rfl,by rw[cell_of_row W _ 1 _ _ (0,0) h];rfl,by rw[cell_of_row W _ 2 _ _ (0,0) h];rfl,by rw[cell_of_row W _ 3 _ _ (0,0) h];rfl,fun i=>frozen_of_row W g i _ _ h⟩
theorem set4(h:W.heap[g]? =some (.cells #[c0,c1,c2,c3] T (0,0)))(v0 v1 v2 v3:Value):((((W.setCell ⟨g,0,none⟩ v0).setCell ⟨g,1,none⟩ v1).setCell ⟨g,2,none⟩ v2).setCell ⟨g,3,none⟩ v3).heap[g]? =some (.cells #[v0,v1,v2,v3] T (0,0)):=by
 rw[heap_setCell_same _ g 3 _ _ v3 (heap_setCell_same _ g 2 _ _ v2 (heap_setCell_same _ g 1 _ _ v1 (heap_setCell_same W g 0 _ _ v0 h)))];rfl
theorem Zfh{w:World}{B:Nat}(h:Below B w W)(hg:B≤g)(v0 v1 v2 v3:Value):Below B w ((((W.setCell ⟨g,0,none⟩ v0).setCell ⟨g,1,none⟩ v1).setCell ⟨g,2,none⟩ v2).setCell ⟨g,3,none⟩ v3):=(((h.setCell (p:=⟨g,0,none⟩) hg v0).setCell (p:=⟨g,1,none⟩) hg v1).setCell (p:=⟨g,2,none⟩) hg v2).setCell (p:=⟨g,3,none⟩) hg v3
end
def ZeR(w:World)(v:Value)(f:Zac):Prop:=∃ d e,v = .agg #[I f.p.s,d,I f.q.s,e]∧Zau w d f.p.d∧Zau w e f.q.d
def Zdu(w:World)(v:Value)(f:Zac):Prop:=∃ d e,v = .agg #[I f.p.s,d,I f.q.s,e]∧Zau w d f.p.d∧Zau w e f.q.d∧Zeo w d∧Zeo w e
theorem ZeR.below{w W:World}{v:Value}{f:Zac}(h:ZeR w v f)(hb:Below w.heap.size w W):ZeR W v f:=by
 obtain⟨d,e,rfl,h1,h2⟩:=h
 exact⟨d,e,rfl,h1.below RInt.mono hb,h2.below RInt.mono hb⟩
theorem Zdu.below{w W:World}{v:Value}{f:Zac}(h:Zdu w v f)(hb:Below w.heap.size w W):Zdu W v f:=by
 obtain⟨d,e,rfl,h1,h2,h3,h4⟩:=h
 exact⟨d,e,rfl,h1.below RInt.mono hb,h2.below RInt.mono hb,h3.below hb,h4.below hb⟩
theorem ZeR.mono(f:Zac):∀ w w' v,ZaP w w'→ZeR w v f→ZeR w' v f:=fun _ _ _ hg h=>h.below hg
theorem Zdu.mono(f:Zac):∀ w w' v,ZaP w w'→Zdu w v f→Zdu w' v f:=fun _ _ _ hg h=>h.below hg
theorem Zdu.set{w:World}{v u:Value}{x:Zac}{g i:Nat}{cs:Array Value}{T:TypeId}{fr:Nat×Nat}(h:Zdu w v x)(hg:w.heap[g]? =some (.cells cs T fr))(hT:T≠3):Zdu (w.setCell ⟨g,i,none⟩ u) v x:=by
 obtain⟨d,e,rfl,h1,h2,h3,h4⟩:=h
 obtain⟨h5,hne⟩:=ZhU (i:=i) (x:=u) h3 hg hT
 obtain⟨h6,hne2⟩:=ZhU (i:=i) (x:=u) h4 hg hT
 exact⟨d,e,rfl,ZdL h1 ZeI hne,ZdL h2 ZeI hne2,h5,h6⟩
theorem Zdu.set4{w:World}{v v0 v1 v2 v3:Value}{x:Zac}{g:Nat}{c0 c1 c2 c3:Value}{T:TypeId}(h:Zdu w v x)(hg:w.heap[g]? =some (.cells #[c0,c1,c2,c3] T (0,0)))(hT:T≠3) :
 Zdu ((((w.setCell ⟨g,0,none⟩ v0).setCell ⟨g,1,none⟩ v1).setCell ⟨g,2,none⟩ v2).setCell ⟨g,3,none⟩ v3) v x :=
 (((h.set hg hT).set (heap_setCell_same w g 0 _ _ v0 hg) hT).set (heap_setCell_same _ g 1 _ _ v1 (heap_setCell_same w g 0 _ _ v0 hg)) hT).set (heap_setCell_same _ g 2 _ _ v2 (heap_setCell_same _ g 1 _ _ v1 (heap_setCell_same w g 0 _ _ v0 hg))) hT
theorem Zdu.set2{w:World}{v v0 v1:Value}{x:Zac}{g:Nat}{c0 c1:Value}{T:TypeId}(h:Zdu w v x)(hg:w.heap[g]? =some (.cells #[c0,c1] T (0,0)))(hT:T≠3) :
 Zdu ((w.setCell ⟨g,0,none⟩ v0).setCell ⟨g,1,none⟩ v1) v x :=
 (h.set hg hT).set (heap_setCell_same w g 0 _ _ v0 hg) hT
theorem BigF.set4{w:World}{v v0 v1 v2 v3:Value}{x:BigD}{g:Nat}{c0 c1 c2 c3:Value}{T:TypeId}(h:BigF w v x)(hg:w.heap[g]? =some (.cells #[c0,c1,c2,c3] T (0,0)))(hT:T≠3) :
 BigF ((((w.setCell ⟨g,0,none⟩ v0).setCell ⟨g,1,none⟩ v1).setCell ⟨g,2,none⟩ v2).setCell ⟨g,3,none⟩ v3) v x :=
 (((h.set hg hT).set (heap_setCell_same w g 0 _ _ v0 hg) hT).set (heap_setCell_same _ g 1 _ _ v1 (heap_setCell_same w g 0 _ _ v0 hg)) hT).set (heap_setCell_same _ g 2 _ _ v2 (heap_setCell_same _ g 1 _ _ v1 (heap_setCell_same w g 0 _ _ v0 hg))) hT
def Zvz(w:World)(v:Value)(f:Zac)(e:Int):Prop:=∃ u,v = .tuple #[u,I e]∧Zdu w u f
theorem Zvz.mono(f:Zac)(e:Int):∀ w w' v,ZaP w w'→Zvz w v f e→Zvz w' v f e:=fun _ _ _ hg ⟨u,hv,h⟩=>⟨u,hv,h.below hg⟩
def Zk0(w:World)(f:Zac)(r:Int)(e:Ending)(w':World):Prop:=∃ v,e = .returned v∧Zvz w' v f r∧Below w.heap.size w w'
attribute [local go_sem] Zf8 Zlz ZfJ
def Zlp(x y:BigD):Bool:=x.s==y.s&&decide (x.d=y.d)
theorem Zlc{a b:List Int}{j:Nat}{x y:Int}(h:a.take j=b.take j)(hx:a[j]? =some x)(hy:b[j]? =some y)(e:x=y):a.take (j+1)=b.take (j+1):=by
 obtain⟨h1,rfl⟩:=Ya3.1 hx
 obtain⟨h2,rfl⟩:=Ya3.1 hy
 rw[List.take_succ_eq_append_getElem h1,List.take_succ_eq_append_getElem h2,h,e]
theorem ZlJ(a:Int):(ofZ a).s=a.sign∧(ofZ a).d=digs a.natAbs:=⟨rfl,rfl⟩
theorem Zof(a:Int):sgnd (-a.sign) (digs a.natAbs)=ofZ (-a):=by
 refine Zcu _ ?_ ?_
 ·have:=Int.sign_mul_natAbs a;grind
 ·rcases Int.lt_trichotomy a 0 with h|h|h
  ·rw[Yb3 h];exact .inl rfl
  ·subst h;right;right;rfl
  ·rw[Yb2 h];exact .inr (.inl rfl)
set_option maxRecDepth 100000 in
set_option maxHeartbeats 8000000 in
theorem Zv9(a:Int)(va:Value)(w:World)(ha:BigZ w va a)(la:(szZ a:Int)≤4398046511104):Calls Tryz.prog 43 #[va] w (Zph w (ofZ (-a))):=by
 obtain⟨da,rfl,ia⟩:=ha
 obtain⟨A,ca,rfl,hla,hca⟩:=ia.shape
 have HA:=Lib.hid (fun W h=>Zdf a (.agg #[I (ofZ a).s,.slice A (ofZ a).d.length ca]) W h)
 obtain⟨sba1,sba2⟩:=ZaS a
 have sbn:IntKind.i64.wrap (-a.sign) = -a.sign:=IntWalk.i64_in _ (by omega)
 have Hia:=Lib.hid ia
 have HS:=Lib.hid (Zof a)
 have hsa:(ofZ a).s=a.sign:=rfl
 have hda:(ofZ a).d=digs a.natAbs:=rfl
 simp only[hsa,hda]at *
 clear hsa hda ia
 go_enter Tryz.func43,Tryz.ntmps43
 go_upto_region 3 with(go_at_call 86;fail)
 go_at_call 86
 refine(HA.out _ ⟨_,rfl,Hia.out.below RInt.mono (ZgE _ _ _)⟩).mono ?_
 rintro e w1 ⟨rfl,hb1⟩
 obtain⟨hs1,hb1',k0,k1⟩:=Zhj hb1
 have K1:=Lib.hid k1
 obtain⟨a0,a1,af⟩:=Zb8 k0
 clear k0 k1
 have Hia1:=Lib.hid (Hia.out.below RInt.mono hb1')
 have hsz0:w.heap.size<w1.heap.size:=by omega
 go_upto_region 3 with fail
 refine ZaK 7 (by kernel_rfl) (by kernel_rfl) (by kernel_rfl) (by kernel_rfl) (by kernel_rfl) ?_
 simp only[List.take_succ_cons,List.take_zero]
 repeat (with_reducible apply ZcI
         ·intro wx hx
          have hc:=(ZbZ hx).2.1
          try simp only[Yc8,Yc9]
          repeat(first|with_reducible refine Zaq ?_|(with_reducible refine ZaA ?_ ?_;(· decide +kernel)))
          with_reducible refine Zav ?_
          go_simp
          exact⟨ZaP.refl _,rfl⟩)
 refine ZcH (fun W u=>Zau W u (digs a.natAbs)∧Zeo W u) (fun _ _ _ hg h=>⟨h.1.below RInt.mono hg,h.2.below hg⟩) ?_ ?_
 ·intro wx hx
  have hc:=(ZbZ hx).2.1
  try simp only[Yc8,Yc9]
  repeat(with_reducible refine Zaq ?_)
  with_reducible refine Zav ?_
  go_simp
  go_at_call 58
  refine(ZdS _ _ _ (Hia1.out.below RInt.mono hx) (by have:=la;unfold szZ at this;omega)).mono ?_
  rintro e w3 ⟨v3,rfl,ho,hb3⟩
  exact⟨_,rfl,hb3,ho.ints,ho.typed⟩
 refine ZcH (fun W u=>BigF W u (ofZ (-a))) (BigF.mono _) ?_ ?_
 ·intro wx hx
  have hc:=(ZbZ hx).2.1
  try simp only[Yc8,Yc9]
  repeat(with_reducible refine Zaq ?_)
  (with_reducible refine ZaQ ?_ ?_;(· decide +kernel))
  intro u12 hu12
  repeat(with_reducible refine Zaq ?_)
  with_reducible refine Zav ?_
  go_simp
  go_at_call 94
  refine(ZgL _ _ _ _ hu12.1 hu12.2).mono ?_
  rintro e w3 ⟨v3,rfl,ho,hb3⟩
  rw[HS.out]at ho
  exact⟨_,rfl,hb3,ho⟩
 with_reducible refine ZfI ?_
 intro w6 hg6
 simp only[Yc8,Yc9]
 repeat(with_reducible refine ZaW ?_)
 with_reducible refine ZbM ?_
 intro u12 hu12
 repeat(with_reducible refine ZaW ?_)
 with_reducible refine ZbM ?_
 intro u13 hu13
 repeat(with_reducible refine ZaW ?_)
 have kr6:=(hg6.block _ hs1).trans K1.out
 have Kr6:=Lib.hid kr6
 obtain⟨r0,r1,rf⟩:=Zb8 kr6
 have hu6:=Lib.hid hu13
 obtain⟨d6,e6,hi6,hty6⟩:=hu13
 obtain⟨A6,c6,e7,hl6,hc6⟩:=hi6.shape
 subst e7
 subst e6
 clear hi6 hty6 kr6
 with_reducible refine Zc6 ?_
 simp only[List.drop_succ_cons,List.drop_zero]
 go_frame
 go_wp2_with fail
 exact ZkJ rfl (by rfl) rfl (set2 Kr6.out _ _) Tryz.underlying32 rfl (by kernel_rfl) ⟨_,rfl,hu6.out.set2 Kr6.out (by decide),ZdX (hb1'.trans (hg6.mono hb1'.size)) (by omega) _ _⟩
theorem Zo8(a b:Int):(a.sign-b.sign).sign=(a-b).sign∨a.sign=b.sign:=by
 rcases Int.lt_trichotomy a 0 with h|h|h<;>rcases Int.lt_trichotomy b 0 with k|k|k
 ·right;rw[Yb3 h,Yb3 k]
 ·left;have e:=ZeB (x:=a) (y:=b) (by omega);rw[e,Yb3 h,k];decide
 ·left;have e:=ZeB (x:=a) (y:=b) (by omega);rw[e,Yb3 h,Yb2 k];decide
 ·left;have e:=ZfD (x:=a) (y:=b) (by omega);rw[e,Yb3 k,h];decide
 ·right;rw[h,k]
 ·left;have e:=ZeB (x:=a) (y:=b) (by omega);rw[e,Yb2 k,h];decide
 ·left;have e:=ZfD (x:=a) (y:=b) (by omega);rw[e,Yb2 h,Yb3 k];decide
 ·left;have e:=ZfD (x:=a) (y:=b) (by omega);rw[e,Yb2 h,k];decide
 ·right;rw[Yb2 h,Yb2 k]
theorem Zo9{a b:Int}(h:a.sign=b.sign):a.sign*((a.natAbs:Int)-b.natAbs).sign=(a-b).sign:=by
 have h1:=Int.sign_mul_natAbs a
 have h2:=Int.sign_mul_natAbs b
 rw[← h]at h2
 have e:a-b=a.sign*((a.natAbs:Int)-b.natAbs):=by grind
 rw[e,Int.sign_mul,Int.sign_sign]
set_option maxRecDepth 100000 in
set_option maxHeartbeats 8000000 in
theorem ZqL(a b:Int)(va vb:Value)(w:World)(ha:BigZ w va a)(hb:BigZ w vb b) :
 Calls Tryz.prog 41 #[va,vb] w fun e w'=>e = .returned (I (a-b).sign)∧Below w.heap.size w w':=by
 obtain⟨da,rfl,ia⟩:=ha
 obtain⟨db,rfl,ib⟩:=hb
 obtain⟨A,ca,rfl,hla,hca⟩:=ia.shape
 obtain⟨B',cb,rfl,hlb,hcb⟩:=ib.shape
 obtain⟨sb1,sb2⟩:=Za1 a b
 obtain⟨sba1,sba2⟩:=ZaS a
 obtain⟨sbb1,sbb2⟩:=ZaS b
 have sbw:IntKind.i64.wrap (a.sign*b.sign)=a.sign*b.sign:=IntWalk.i64_in _ (by omega)
 have HA:=Lib.hid (fun W h=>Zdf a (.agg #[I (ofZ a).s,.slice A (ofZ a).d.length ca]) W h)
 have HB:=Lib.hid (fun W h=>Zdf b (.agg #[I (ofZ b).s,.slice B' (ofZ b).d.length cb]) W h)
 have Hia:=Lib.hid ia
 have Hib:=Lib.hid ib
 have hc:=fun W h1 h2=>Zda (.slice A (ofZ a).d.length ca) (.slice B' (ofZ b).d.length cb) (ofZ a).d (ofZ b).d W h1 h2 (Zap a.natAbs) (Zap b.natAbs)
 rw[(ZlJ a).2,(ZlJ b).2,Zaw,Zaw]at hc
 have HC:=Lib.hid hc;clear hc
 have sc1:=ZaS ((a.natAbs:Int)-b.natAbs)
 have sc2:=ZaS (a.sign-b.sign)
 have hsa:(ofZ a).s=a.sign:=rfl
 have hsb:(ofZ b).s=b.sign:=rfl
 have hda:(ofZ a).d=digs a.natAbs:=rfl
 have hdb:(ofZ b).d=digs b.natAbs:=rfl
 simp only[hsa,hsb,hda,hdb]at *
 clear hsa hsb hda hdb ia ib
 by_cases hs:a.sign=b.sign
 ·have E:=Lib.hid (Zo9 hs)
  have hss:(a.sign !=b.sign)=false:=by simpa using hs
  have Hs:=Lib.hid hs;clear hs
  have hmb:=Za1 a ((a.natAbs:Int)-b.natAbs)
  have hmw:IntKind.i64.wrap (a.sign*((a.natAbs:Int)-b.natAbs).sign)=a.sign*((a.natAbs:Int)-b.natAbs).sign:=IntWalk.i64_in _ (by omega)
  go_enter Tryz.func41,Tryz.ntmps41
  go_upto_region 5 with(go_at_call 86;fail)
  go_at_call 86
  refine(HA.out _ ⟨_,rfl,Hia.out.below RInt.mono (ZgE _ _ _)⟩).mono ?_
  rintro e w1 ⟨rfl,hb1⟩
  obtain⟨hs1,hb1',k0,k1⟩:=Zhj hb1
  have hk1:=Zb8 k0
  have hk2:=Zb8 k1
  go_upto_region 5 with(go_at_call 86;fail)
  go_at_call 86
  refine(HB.out _ ⟨_,rfl,Hib.out.below RInt.mono hb1'⟩).mono ?_
  rintro e w2 ⟨rfl,hb2⟩
  have hb12:=hb1.trans (hb2.mono hb1.size)
  clear hs1 hb1' hk1 hk2 k0 k1
  obtain⟨hs2,hb2',k0,k1⟩:=Zhj hb12
  have Hia2:=Lib.hid (Hia.out.below RInt.mono hb2')
  have Hib2:=Lib.hid (Hib.out.below RInt.mono hb2')
  obtain⟨a0,a1,af⟩:=Zb8 k0
  obtain⟨b0,b1,bf⟩:=Zb8 k1
  have hsz0:w.heap.size<w2.heap.size:=by omega
  have hsz1:w.heap.size+1<w2.heap.size:=by omega
  clear k0 k1
  go_upto_region 5 with fail
  refine ZaK 9 (by kernel_rfl) (by kernel_rfl) (by kernel_rfl) (by kernel_rfl) (by kernel_rfl) ?_
  simp only[List.take_succ_cons,List.take_zero]
  repeat (with_reducible apply ZcI
          ·intro wx hx
           have hc:=(ZbZ hx).2.1
           try simp only[Yc8,Yc9]
           repeat(first|with_reducible refine Zaq ?_|(with_reducible refine ZaA ?_ ?_;(· decide +kernel)))
           with_reducible refine Zav ?_
           go_simp
           exact⟨ZaP.refl _,rfl⟩)
  apply ZcI (v:=I ((a.natAbs:Int)-b.natAbs).sign)
  ·intro wx hx
   have hc:=(ZbZ hx).2.1
   try simp only[Yc8,Yc9]
   repeat(with_reducible refine Zaq ?_)
   with_reducible refine Zav ?_
   go_simp
   go_at_call 92
   exact HC.out _ (Hia2.out.below RInt.mono hx) (Hib2.out.below RInt.mono hx)
  repeat (with_reducible apply ZcI
          ·intro wx hx
           have hc:=(ZbZ hx).2.1
           try simp only[Yc8,Yc9]
           repeat(first|with_reducible refine Zaq ?_|(with_reducible refine ZaA ?_ ?_;(· decide +kernel)))
           with_reducible refine Zav ?_
           go_simp
           exact⟨ZaP.refl _,rfl⟩)
  with_reducible refine ZfI ?_
  intro w6 hg6
  simp only[Yc8,Yc9]
  repeat(with_reducible refine ZaW ?_)
  with_reducible refine Zc6 ?_
  simp only[List.drop_succ_cons,List.drop_zero,List.drop_nil]
  go_frame
  go_wp2_with fail
  go_ret
  exact⟨retI E.out,hb2'.trans (hg6.mono hb2'.size)⟩
 ·have E:=Lib.hid ((Zo8 a b).resolve_right hs)
  have hss:(a.sign !=b.sign)=true:=by simpa using hs
  have Hs:=Lib.hid hs;clear hs
  go_enter Tryz.func41,Tryz.ntmps41
  go_upto_region 3 with(go_at_call 86;fail)
  go_at_call 86
  refine(HA.out _ ⟨_,rfl,Hia.out.below RInt.mono (ZgE _ _ _)⟩).mono ?_
  rintro e w1 ⟨rfl,hb1⟩
  obtain⟨hs1,hb1',k0,k1⟩:=Zhj hb1
  have hk1:=Zb8 k0
  have hk2:=Zb8 k1
  go_upto_region 3 with(go_at_call 86;fail)
  go_at_call 86
  refine(HB.out _ ⟨_,rfl,Hib.out.below RInt.mono hb1'⟩).mono ?_
  rintro e w2 ⟨rfl,hb2⟩
  have hb12:=hb1.trans (hb2.mono hb1.size)
  clear hs1 hb1' hk1 hk2 k0 k1
  obtain⟨hs2,hb2',k0,k1⟩:=Zhj hb12
  have Hia2:=Lib.hid (Hia.out.below RInt.mono hb2')
  have Hib2:=Lib.hid (Hib.out.below RInt.mono hb2')
  obtain⟨a0,a1,af⟩:=Zb8 k0
  obtain⟨b0,b1,bf⟩:=Zb8 k1
  have hsz0:w.heap.size<w2.heap.size:=by omega
  have hsz1:w.heap.size+1<w2.heap.size:=by omega
  clear k0 k1
  go_wp2_with (go_at_call 91;refine(ZkR _ _ _).mono ?_;rintro e w3 ⟨rfl,rfl⟩)
  go_ret
  exact⟨retI E.out,hb2'⟩
theorem ZbG(a:Int):(a<0∧a.sign = -1∧(a.natAbs:Int) = -a)∨(a=0∧a.sign=0∧(a.natAbs:Int)=0)∨(0<a∧a.sign=1∧(a.natAbs:Int)=a):=by
 rcases Int.lt_trichotomy a 0 with h|h|h
 ·exact .inl ⟨h,Yb3 h,by omega⟩
 ·subst h;exact .inr (.inl ⟨rfl,rfl,rfl⟩)
 ·exact .inr (.inr ⟨h,Yb2 h,by omega⟩)
theorem ZtU{a b:Int}(h:0≤a.sign*b.sign):sgnd (orI a.sign b.sign) (digs ((a.natAbs:Int)+b.natAbs).toNat)=ofZ (a+b):=by
 rcases ZbG a with⟨h1,h2,h3⟩|⟨h1,h2,h3⟩|⟨h1,h2,h3⟩<;>rcases ZbG b with⟨k1,k2,k3⟩|⟨k1,k2,k3⟩|⟨k1,k2,k3⟩<;>rw[h2,k2]at h ⊢<;>first
  | (exfalso;revert h;decide)
  | (refine Zcu _ ?_ ?_
     ·rw[orI];first|(rw[if_pos rfl];omega)|(rw[if_neg (by decide)];omega)
     ·rw[orI];first|(rw[if_pos rfl];first|exact .inl rfl|exact .inr (.inl rfl)|(right;right;omega))|(rw[if_neg (by decide)];first|exact .inl rfl|exact .inr (.inl rfl)))
theorem Zro{a b:Int}(h:¬ 0≤a.sign*b.sign)(hlt:(a.natAbs:Int)<b.natAbs):sgnd b.sign (digs (b.natAbs-a.natAbs))=ofZ (a+b):=by
 rcases ZbG a with⟨h1,h2,h3⟩|⟨h1,h2,h3⟩|⟨h1,h2,h3⟩<;>rcases ZbG b with⟨k1,k2,k3⟩|⟨k1,k2,k3⟩|⟨k1,k2,k3⟩<;>rw[h2,k2]at h<;>rw[k2]<;>first
  | (exfalso;revert h;decide)
  | (refine Zcu _ (by omega) ?_;first|exact .inl rfl|exact .inr (.inl rfl))
theorem Zrn{a b:Int}(h:¬ 0≤a.sign*b.sign)(hlt:¬ (a.natAbs:Int)<b.natAbs):sgnd a.sign (digs (a.natAbs-b.natAbs))=ofZ (a+b):=by
 rcases ZbG a with⟨h1,h2,h3⟩|⟨h1,h2,h3⟩|⟨h1,h2,h3⟩<;>rcases ZbG b with⟨k1,k2,k3⟩|⟨k1,k2,k3⟩|⟨k1,k2,k3⟩<;>rw[h2,k2]at h<;>rw[h2]<;>first
  | (exfalso;revert h;decide)
  | (refine Zcu _ (by omega) ?_;first|exact .inl rfl|exact .inr (.inl rfl))
attribute [local go_sem] Zf8 Zlz ZfJ ZgZ
theorem Zoe(n:Nat):sgnd 1 (digs n)=ofZ n:=Zcu _ (by omega) (.inl rfl)
theorem ZkN{a b:Nat}(h:a≤b):(digs a).length≤(digs b).length:=Zbe (by have:=Zbd b;omega)
set_option maxRecDepth 100000 in
set_option maxHeartbeats 8000000 in
theorem ZzR(a b:Int)(va vb:Value)(w:World)(ha:BigZ w va a)(hb:BigZ w vb b)(la:(szZ a:Int)≤2199023255552)(lb:(szZ b:Int)≤2199023255552) :
 Calls Tryz.prog 87 #[va,vb] w (ZnV w (ofZ (Nat.gcd a.natAbs b.natAbs:Nat)) 0):=by
 obtain⟨da,rfl,ia⟩:=ha
 obtain⟨db,rfl,ib⟩:=hb
 obtain⟨A,ca,rfl,hla,hca⟩:=ia.shape
 obtain⟨B',cb,rfl,hlb,hcb⟩:=ib.shape
 obtain⟨sb1,sb2⟩:=Za1 a b
 obtain⟨sba1,sba2⟩:=ZaS a
 obtain⟨sbb1,sbb2⟩:=ZaS b
 have sbw:IntKind.i64.wrap (a.sign*b.sign)=a.sign*b.sign:=IntWalk.i64_in _ (by omega)
 have HA:=Lib.hid (fun W h=>Zdf a (.agg #[I (ofZ a).s,.slice A (ofZ a).d.length ca]) W h)
 have HB:=Lib.hid (fun W h=>Zdf b (.agg #[I (ofZ b).s,.slice B' (ofZ b).d.length cb]) W h)
 have Hia:=Lib.hid ia
 have Hib:=Lib.hid ib
 have hsa:(ofZ a).s=a.sign:=rfl
 have hsb:(ofZ b).s=b.sign:=rfl
 have hda:(ofZ a).d=digs a.natAbs:=rfl
 have hdb:(ofZ b).d=digs b.natAbs:=rfl
 simp only[hsa,hsb,hda,hdb]at *
 clear hsa hsb hda hdb ia ib
 go_enter Tryz.func87,Tryz.ntmps87
 go_upto_region 3 with(go_at_call 86;fail)
 go_at_call 86
 refine(HA.out _ ⟨_,rfl,Hia.out.below RInt.mono (ZgD _ _ _ _)⟩).mono ?_
 rintro e w1 ⟨rfl,hb1⟩
 obtain⟨hs1,hb1',k0,k1,k2⟩:=ZiL hb1
 have hk1:=Zb8 k0
 have hk2:=Zb8 k1
 go_upto_region 3 with(go_at_call 86;fail)
 go_at_call 86
 refine(HB.out _ ⟨_,rfl,Hib.out.below RInt.mono hb1'⟩).mono ?_
 rintro e w2 ⟨rfl,hb2⟩
 have hb12:=hb1.trans (hb2.mono hb1.size)
 clear hs1 hb1' hk1 hk2 k0 k1 k2
 obtain⟨hs2,hb2',k0,k1,k2⟩:=ZiL hb12
 have Hia2:=Lib.hid (Hia.out.below RInt.mono hb2')
 have Hib2:=Lib.hid (Hib.out.below RInt.mono hb2')
 obtain⟨a0,a1,af⟩:=Zb8 k0
 obtain⟨b0,b1,bf⟩:=Zb8 k1
 have hsz0:w.heap.size<w2.heap.size:=by omega
 have hsz1:w.heap.size+1<w2.heap.size:=by omega
 have Kr:=Lib.hid k2
 clear k0 k1 k2
 go_upto_region 3 with fail
 refine ZaK 7 (by kernel_rfl) (by kernel_rfl) (by kernel_rfl) (by kernel_rfl) (by kernel_rfl) ?_
 simp only[List.take_succ_cons,List.take_zero]
 repeat (with_reducible apply ZcI
         ·intro wx hx
          have hc:=(ZbZ hx).2.1
          try simp only[Yc8,Yc9]
          repeat(first|with_reducible refine Zaq ?_|(with_reducible refine ZaA ?_ ?_;(· decide +kernel)))
          with_reducible refine Zav ?_
          go_simp
          exact⟨ZaP.refl _,rfl⟩)
 refine ZcH (fun W u=>Zau W u (digs a.natAbs)∧Zeo W u) (fun _ _ _ hg h=>⟨h.1.below RInt.mono hg,h.2.below hg⟩) ?_ ?_
 ·intro wx hx
  have hc:=(ZbZ hx).2.1
  try simp only[Yc8,Yc9]
  repeat(with_reducible refine Zaq ?_)
  with_reducible refine Zav ?_
  go_simp
  go_at_call 58
  refine(ZdS _ _ _ (Hia2.out.below RInt.mono hx) (by have:=la;unfold szZ at this;omega)).mono ?_
  rintro e w3 ⟨v3,rfl,ho,hb3⟩
  exact⟨_,rfl,hb3,ho.ints,ho.typed⟩
 repeat (with_reducible apply ZcI
         ·intro wx hx
          have hc:=(ZbZ hx).2.1
          try simp only[Yc8,Yc9]
          repeat(first|with_reducible refine Zaq ?_|(with_reducible refine ZaA ?_ ?_;(· decide +kernel)))
          with_reducible refine Zav ?_
          go_simp
          exact⟨ZaP.refl _,rfl⟩)
 refine ZcH (fun W u=>Zau W u (digs a.natAbs)∧Zeo W u) (fun _ _ _ hg h=>⟨h.1.below RInt.mono hg,h.2.below hg⟩) ?_ ?_
 ·intro wx hx
  have hc:=(ZbZ hx).2.1
  try simp only[Yc8,Yc9]
  repeat(with_reducible refine Zaq ?_)
  (with_reducible refine ZaQ ?_ ?_;(· decide +kernel))
  intro u24 hu24
  repeat(with_reducible refine Zaq ?_)
  with_reducible refine Zav ?_
  go_simp
  first|exact⟨ZaP.refl _,hu24⟩|exact ZaP.refl _
 repeat (with_reducible apply ZcI
         ·intro wx hx
          have hc:=(ZbZ hx).2.1
          try simp only[Yc8,Yc9]
          repeat(first|with_reducible refine Zaq ?_|(with_reducible refine ZaA ?_ ?_;(· decide +kernel)))
          with_reducible refine Zav ?_
          go_simp
          exact⟨ZaP.refl _,rfl⟩)
 with_reducible refine ZfI ?_
 intro w6 hg6
 simp only[Yc8,Yc9]
 repeat(with_reducible refine ZaW ?_)
 with_reducible refine ZbM ?_
 intro u24 hu24
 repeat(with_reducible refine ZaW ?_)
 with_reducible refine ZbM ?_
 intro u6 hu6
 repeat(with_reducible refine ZaW ?_)
 have hib6:=Lib.hid (Hib2.out.below RInt.mono hg6)
 have hb6':=hb2'.trans (hg6.mono hb2'.size)
 have Kr6:=Lib.hid ((hg6.block _ hs2).trans Kr.out)
 have hs6:w.heap.size+2<w6.heap.size:=by have:=hg6.size;omega
 obtain⟨hx6,hy6⟩:=hu6
 clear hu24
 with_reducible refine Zc6 ?_
 simp only[List.drop_succ_cons,List.drop_zero,List.drop_nil]
 go_frame
 go_wp2_with fail
 go_loopg [6,7] b.natAbs (fun g x y wr=>∃ X k:Nat,k=g∧Zau wr x (digs X)∧Zau wr y (digs k)∧Nat.gcd X k=Nat.gcd a.natAbs b.natAbs∧X≤max a.natAbs b.natAbs∧k≤b.natAbs∧Below w6.heap.size w6 wr)
 case atStart=>exact⟨a.natAbs,b.natAbs,rfl,hx6,hib6.out,rfl,by omega,by omega,Below.refl _ _⟩
 case round =>
  obtain⟨X,k,rfl,hx,hy,hgcd,hX,hkb,hB⟩:=hrel
  have Hg:=Lib.hid hgcd;clear hgcd
  have hlX:((digs X).length:Int)≤2199023255552:=by
   have h1:=ZkN hX
   have h2:(digs (max a.natAbs b.natAbs)).length≤max (digs a.natAbs).length (digs b.natAbs).length:=by
    rcases Nat.le_total a.natAbs b.natAbs with h|h
    ·rw[Nat.max_eq_right h];omega
    ·rw[Nat.max_eq_left h];omega
   unfold szZ at la lb
   omega
  obtain⟨A1,c1,rfl,hl1,hc1⟩:=hx.shape
  obtain⟨A2,c2,rfl,hl2,hc2⟩:=hy.shape
  have hkk:=Lib.hid hkb
  have Kr7:=Lib.hid ((hB.block _ hs6).trans Kr6.out)
  have hs7:w.heap.size+2<wr.heap.size:=by have:=hB.size;omega
  clear hX hkb
  by_cases hk:k=0
  ·subst hk
   have e0:(digs 0).length=0:=by rw[ZaI];rfl
   rw[e0]
   have HS:=Lib.hid (Zoe X)
   have hGe:=Hg.out
   rw[Nat.gcd_zero_right]at hGe
   have HG:=Lib.hid hGe;clear hGe
   clear e0
   go_upto_region 7 with fail
   go_upto_region 8 with(go_at_call 58;fail)
   go_at_call 58
   refine(ZdS _ _ _ hx (by omega)).mono ?_
   rintro e w7 ⟨v7,rfl,ho7,hb7⟩
   go_upto_region 8 with(go_at_call 94;fail)
   go_at_call 94
   refine(ZgL _ _ _ _ ho7.ints ho7.typed).mono ?_
   rw[HS.out]
   rintro e w8 ⟨v8,rfl,ho8,hb8⟩
   go_upto_region 8 with(go_at_call 128;fail)
   go_at_call 128
   refine(ZiI _ _ _ ho8).mono ?_
   rintro e w9 ⟨v9,rfl,⟨v10,rfl,ho9⟩,hb9⟩
   have hb79:=hb7.trans ((hb8.trans (hb9.mono hb8.size)).mono hb7.size)
   have kr9:=(hb79.block _ hs7).trans Kr7.out
   have Kr9:=Lib.hid kr9
   obtain⟨r0,r1,rf⟩:=Zb8 kr9
   have hu9:=Lib.hid ho9
   obtain⟨d9,e9,hi9,hty9⟩:=ho9
   obtain⟨A9,c9,e7,hl9,hc9⟩:=hi9.shape
   subst e7
   subst e9
   clear hi9 hty9 kr9
   go_wp2_with fail
   refine Zcz rfl (by rfl) (by rfl) rfl (set2 Kr9.out _ _) Tryz.underlying32 rfl (by kernel_rfl) ⟨_,rfl,⟨_,rfl,?_⟩,ZdX (hb6'.trans ((hB.trans (hb79.mono hB.size)).mono hb6'.size)) (by omega) _ _⟩
   have:=hu9.out.set2 (v0:=I (ofZ X).s) (v1:=.slice A9 (ofZ X).d.length c9) Kr9.out (by decide)
   rw[← HG.out];exact this
  ·have hpos:1≤(digs k).length:=by
    rcases Nat.eq_zero_or_pos (digs k).length with h|h
    ·exact absurd (Zdi.1 (Ya9 h)) hk
    ·exact h
   have Hk:=Lib.hid hk;clear hk
   go_wp2_with (go_at_call 129;refine(Zs1 X k _ _ _ hx hy hlX (by have:=Hk.out;omega)).mono ?_;rintro e w7 ⟨v7,u7,rfl,ho7,ho8,hb7⟩)
   go_roundg (X%k)
   case measure=>exact Nat.mod_lt _ (by have:=Hk.out;omega)
   case rel =>
    refine⟨k,X%k,rfl,hy.below RInt.mono hb7,ho8.ints,?_,by have:=hkk.out;omega,?_,hB.trans (hb7.mono hB.size)⟩
    ·rw[← Hg.out,Nat.gcd_comm X k,Nat.gcd_rec k X,Nat.gcd_comm]
    ·have h1:=Nat.mod_lt X (y:=k) (by have:=Hk.out;omega)
     have:=hkk.out
     omega
theorem ZtT{a g c:Int}(hg:0<g)(h:a=g*c):sgnd (a.sign*g.sign) (digs (a.natAbs / g.natAbs))=ofZ c:=by
 have e1:a.natAbs / g.natAbs=c.natAbs:=by
  rw[h,Int.natAbs_mul,Nat.mul_div_cancel_left _ (by omega)]
 have e2:a.sign*g.sign=c.sign:=by
  rw[h,Int.sign_mul,Yb2 hg];omega
 rw[e1,e2]
 refine Zcu _ (Int.sign_mul_natAbs c).symm ?_
 rcases ZbG c with⟨h1,h2,h3⟩|⟨h1,h2,h3⟩|⟨h1,h2,h3⟩
 ·exact .inr (.inl h2)
 ·subst h1;right;right;rfl
 ·exact .inl h2
theorem ZtS(s:Int):sgnd s (digs 0)=zB:=by unfold sgnd;rw[ZaI];rfl
attribute [local go_sem] ZgZ
theorem ZbB{n:Int}(h0:0≤n)(h1:n<18446744073709551616):IntKind.u64.wrap n=n:=by
 simp only[IntKind.wrap,IntKind.bits,IntKind.signed]
 simp;omega
theorem ZqP(n:Int)(h0:0≤n)(h1:n<2^64):IntKind.u64.wrap n=n:=ZbB h0 (by omega)
theorem Zoq(i:Nat){x y:Int}(hy:0≤y)(hy1:y<2^i)(hx:0≤x)(hx1:x*2^i<2^64)(hy2:y<2^64):bits .or .u64 y (x*2^i)=y+x*2^i:=by
 have hp:(0:Int)<2^i:=Int.pow_pos (by decide)
 have hc:bits .or .u64 y (x*2^i)=bits .or .u64 (x*2^i) y:=by simp only[bits,BitVec.or_comm]
 rw[hc,bits_join .u64 64 (by decide) ZqP i _ _ (Int.mul_nonneg hx (by omega)) (Int.mul_emod_left _ _) hx1 hy hy1 hy2]
 omega
def Zx7(z:Int)(w:World)(e:Ending)(w':World):Prop:=∃ (n:Int)(ok:Bool),e = .returned (.tuple #[I n,B ok])∧(ok&&(n==1))=decide (z=1)∧Below w.heap.size w w'
theorem Znq{z:Int}(h:z≠1):(false&&((0:Int)==1))=decide (z=1):=by simp[h]
theorem ZuP(z:Int):(true&&(z==1))=decide (z=1):=by
 rw[Bool.true_and,Bool.eq_iff_iff];simp
set_option maxRecDepth 100000 in
set_option maxHeartbeats 8000000 in
theorem Zx9(z:Int)(hz:0≤z)(va:Value)(w:World)(ha:BigZ w va z):Calls Tryz.prog 130 #[va] w (Zx7 z w):=by
 obtain⟨da,rfl,ia⟩:=ha
 obtain⟨A,ca,rfl,hla,hca⟩:=ia.shape
 have HA:=Lib.hid (fun W (h:Zau W (.slice A (ofZ z).d.length ca) (ofZ z).d)=>Zdf z (.agg #[I (ofZ z).s,.slice A (ofZ z).d.length ca]) W ⟨_,rfl,h⟩)
 have Hia:=Lib.hid ia
 have hs0:0≤z.sign:=Zm0 hz
 have hval:val (digs z.natAbs)=z:=by rw[Zaw];omega
 have hnorm:=Zap z.natAbs
 have hsa:(ofZ z).s=z.sign:=rfl
 have hda:(ofZ z).d=digs z.natAbs:=rfl
 simp only[hsa,hda]at *
 clear hsa hda ia
 generalize digs z.natAbs=l at *
 unfold maxLen at hca
 have HV:=Lib.hid hval;clear hval
 have Hbig:∀ k x,l[k]? =some x→1≤k→1≤x→Hid (z≠1):=fun k x hx hk hx1=>Lib.hid<|by
  have h1:=Zi6 (fun d hd=>(hnorm.1 d hd).1) hx
  rw[HV.out]at h1
  have h2:=ZkU hk
  have h3:bp k*1≤bp k*x:=Yd1 hx1 (Int.le_of_lt (Za3 k))
  simp only[bp]at h2
  omega
 by_cases hl:4<l.length
 ·have hz1:Hid (z≠1):=by
   have hx:l[l.length-1]? =some l[l.length-1]:=Ya0 (by omega)
   refine Hbig _ _ hx (by omega) ?_
   have h1:=Zax hnorm.1 hx
   have h2:=hnorm.2 _ (by rw[List.getLast?_eq_getElem?];exact hx)
   omega
  have hl4:(4:Int)<(l.length:Int):=by omega
  have HB:=Lib.hid Hbig;clear Hbig
  go_enter Tryz.func130,Tryz.ntmps130
  go_wp2_with (go_at_call 86;refine(HA.out _ (Hia.out.below RInt.mono (Zam _ _))).mono ?_;rintro e w1 ⟨rfl,hb1⟩;obtain⟨hs1,hb1',k0⟩:=Zhk hb1;obtain⟨a0,a1,af⟩:=Zb8 k0)
  go_ret2
  exact⟨0,false,rfl,Znq hz1.out,hb1'⟩
 ·have hl4:(l.length:Int)≤4:=by omega
  have HB:=Lib.hid Hbig;clear Hbig
  go_enter Tryz.func130,Tryz.ntmps130
  go_upto_region 3 with(go_at_call 86;refine(HA.out _ (Hia.out.below RInt.mono (Zam _ _))).mono ?_;rintro e w1 ⟨rfl,hb1⟩;obtain⟨hs1,hb1',k0⟩:=Zhk hb1;obtain⟨a0,a1,af⟩:=Zb8 k0)
  clear k0
  have hi1:=Hia.out.below RInt.mono hb1'
  have hnorm':=Lib.hid hnorm;clear hnorm
  go_wp2_with fail
  go_loop [19,4] (fun i u=>∃ j:Nat,j≤l.length∧i=I j∧u = .int .u64 (val (l.take j))∧0≤val (l.take j)∧val (l.take j)<bp j∧(j=4→val (l.take j)<10376293541461622784)) (fun i _=>l.length-(intOf i).toNat)
  case atStart=>exact⟨0,by omega,rfl,rfl,by simp[val],by simp[val,bp],fun h=>by omega⟩
  case round =>
   obtain⟨j,hj,rfl,rfl,hu0,hu1,hu4⟩:=hrel
   by_cases hlt:j<l.length
   ·obtain⟨bx,ox,x,rfl,hbx,hx,hcx⟩:=Zau.get1 hi1 hlt
    obtain⟨hx0,hx1⟩:=Zax hnorm'.out.1 hx.out
    have hstep:=Lib.hid (ZaJ hx.out)
    clear hu4
    generalize val (l.take j)=U at *
    have hjc:j=0∨j=1∨j=2∨j=3:=by omega
    rcases hjc with rfl|rfl|rfl|rfl
    ·have hU:U=0:=by simp only[bp]at hu1;omega
     subst hU
     have hor:=Zoq 0 (x:=x) (y:=0) (by omega) (by decide) hx0 (by omega) (by decide)
     simp only[Int.pow_zero,Int.mul_one,Int.zero_add]at hor
     have hw':=ZbB hx0 (by omega)
     clear hu0 hu1
     rw[Nat.add_zero]at hcx
     go_wp2_with fail
     go_round
     case rel =>
      have e:=hstep.out
      simp only[bp,Int.one_mul,Int.zero_add]at e
      exact⟨1,by omega,rfl,by rw[e],by rw[e];exact hx0,by rw[e];simp only[bp];omega,fun h=>by omega⟩
     case measure=>simp[intOf];omega
    ·simp only[bp]at hu1
     have hor:=Zoq 20 (x:=x) (y:=U) hu0 (by omega) hx0 (by omega) (by omega)
     rw[show(2:Int)^20=1048576 by decide]at hor
     have hw':=ZbB (n:=x*1048576) (by omega) (by omega)
     have hw2:=ZbB hx0 (by omega)
     go_wp2_with fail
     go_round
     case rel =>
      have e:=hstep.out
      simp only[bp]at e
      have e':U+x*1048576=val (l.take (1+1)):=by rw[e];omega
      exact⟨2,by omega,rfl,by rw[e'],by rw[← e'];omega,by rw[← e'];simp only[bp];omega,fun h=>by omega⟩
     case measure=>simp[intOf];omega
    ·simp only[bp]at hu1
     have hor:=Zoq 40 (x:=x) (y:=U) hu0 (by omega) hx0 (by omega) (by omega)
     rw[show(2:Int)^40=1099511627776 by decide]at hor
     have hw':=ZbB (n:=x*1099511627776) (by omega) (by omega)
     have hw2:=ZbB hx0 (by omega)
     go_wp2_with fail
     go_round
     case rel =>
      have e:=hstep.out
      simp only[bp]at e
      have e':U+x*1099511627776=val (l.take (2+1)):=by rw[e];omega
      exact⟨3,by omega,rfl,by rw[e'],by rw[← e'];omega,by rw[← e'];simp only[bp];omega,fun h=>by omega⟩
     case measure=>simp[intOf];omega
    ·simp only[bp]at hu1
     by_cases h8:8<x
     ·have hz1:=HB.out 3 x hx.out (by omega) (by omega)
      clear hu0 hu1
      go_wp2_with fail
      go_ret2
      exact⟨0,false,rfl,Znq hz1.out,hb1'⟩
     ·have hor:=Zoq 60 (x:=x) (y:=U) hu0 (by omega) hx0 (by omega) (by omega)
      rw[show(2:Int)^60=1152921504606846976 by decide]at hor
      have hw':=ZbB (n:=x*1152921504606846976) (by omega) (by omega)
      have hw2:=ZbB hx0 (by omega)
      go_wp2_with fail
      go_round
      case rel =>
       have e:=hstep.out
       simp only[bp]at e
       have e':U+x*1152921504606846976=val (l.take (3+1)):=by rw[e];omega
       exact⟨4,by omega,rfl,by rw[e'],by rw[← e'];omega,by rw[← e'];simp only[bp];omega,fun h=>by rw[← e'];omega⟩
      case measure=>simp[intOf];omega
   ·have e:j=l.length:=by omega
    subst e
    rw[Yc2]at hu0 hu1 hu4 ⊢
    rw[HV.out]at hu0 hu1 hu4 ⊢
    have hz64:z<18446744073709551616:=by
     rcases Nat.lt_or_ge l.length 4 with h|h
     ·have h1:=ZkU (a:=l.length) (b:=3) (by omega)
      simp only[bp]at h1
      omega
     ·have:=hu4 (by omega)
      omega
    clear hu1 hu4
    by_cases h63:z<9223372036854775808
    ·have hw3:IntKind.i64.wrap z=z:=IntWalk.i64_in _ (by omega)
     go_wp2_with fail
     go_ret2
     exact⟨z,true,rfl,ZuP z,hb1'⟩
    ·go_wp2_with fail
     go_ret2
     exact⟨0,false,rfl,Znq (by omega),hb1'⟩
theorem ZvL(z:Int)(hz:0≤z)(va:Value)(w:World)(ha:BigZ w va z):Calls Tryz.prog 88 #[va] w fun e w'=>e = .returned (B (decide (z=1)))∧Below w.heap.size w w':=by
 obtain⟨da,rfl,ia⟩:=ha
 obtain⟨A,ca,rfl,hla,hca⟩:=ia.shape
 have HA:=Lib.hid (fun W h=>Zx9 z hz (.agg #[I (ofZ z).s,.slice A (ofZ z).d.length ca]) W h)
 have Hia:=Lib.hid ia
 go_enter Tryz.func88,Tryz.ntmps88
 go_upto_region 2 with(go_at_call 130;fail)
 go_at_call 130
 refine(HA.out _ ⟨_,rfl,Hia.out.below RInt.mono (Zam _ _)⟩).mono ?_
 rintro e w1 ⟨n,ok,rfl,hd,hb1⟩
 have Hd:=Lib.hid hd;clear hd
 have hb1':=(Zam w (.cells #[I (ofZ z).s,.slice A (ofZ z).d.length ca] 32)).trans (hb1.mono (Zam w _).size)
 cases ok with
 | false =>
   go_wp2_with fail
   go_ret
   exact⟨retB (by rw[← Hd.out];rfl),hb1'⟩
 | true =>
   go_wp2_with fail
   go_ret
   exact⟨retB (by rw[← Hd.out];rfl),hb1'⟩
end Go.Proofs.YtblamlnjbjaokaaGreat
