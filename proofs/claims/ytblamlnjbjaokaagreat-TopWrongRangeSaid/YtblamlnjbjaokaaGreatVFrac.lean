/-
  Fractions: Right, Sign, Same, times, slim, Int: the walks.
-/
import Derived.Test.YtblamlnjbjaokaaGreatVBigB
import Derived.Test.YtblamlnjbjaokaaGreatVLib
namespace Go.Proofs.YtblamlnjbjaokaaGreat
set_option linter.unusedVariables false
set_option linter.unusedSimpArgs false
set_option linter.unusedSectionVars false
open Go.RowKit
attribute [local go_sem] Zf8 Zlz ZfJ
theorem Zdk{W:World}{g:Nat}{T:TypeId}{c0 c1 c2 c3:Value}(h:W.heap[g]? =some (.cells #[c0,c1,c2,c3] T (0,0))):W.cell? ⟨g,0,none⟩=some c0∧W.cell? ⟨g,1,none⟩=some c1∧W.cell? ⟨g,2,none⟩=some c2∧W.cell? ⟨g,3,none⟩=some c3:=by
 obtain⟨h0,h1,h2,h3,_⟩:=Zmt h
 exact⟨h0,h1,h2,h3⟩
theorem ZlI{P Q:Int}:okF ⟨ofZ P,ofZ Q⟩=((ofZ Q).s==1&&decide ((Nat.gcd P.natAbs Q.natAbs:Int)=1)):=by
 simp only[okF,Zik,ZhR,Bool.true_and]
 congr 1
 rw[Bool.eq_iff_iff];simp;omega
set_option maxRecDepth 100000 in
set_option maxHeartbeats 8000000 in
theorem Ztt(f:Zac)(v:Value)(w:World)(h:ZeR w v f)(hz:(szF f:Int)≤2199023255552) :
 Calls Tryz.prog 39 #[v] w fun e w'=>e = .returned (B (okF f))∧Below w.heap.size w w':=by
 obtain⟨d,e,rfl,id,ie⟩:=h
 obtain⟨A,ca,rfl,hla,hca⟩:=id.shape
 obtain⟨B',cb,rfl,hlb,hcb⟩:=ie.shape
 have HP:=Lib.hid (fun W h=>Zf4 f.p (.agg #[I f.p.s,.slice A f.p.d.length ca]) W h)
 have HQ:=Lib.hid (fun W h=>Zf4 f.q (.agg #[I f.q.s,.slice B' f.q.d.length cb]) W h)
 have Hid':=Lib.hid id
 have Hie:=Lib.hid ie
 clear id ie
 cases hp:okB f.p with
 | false =>
   rw[hp]at HP
   have E:Hid (false=okF f):=Lib.hid (by unfold okF;rw[hp];rfl)
   clear hp
   go_enter Tryz.func39,Tryz.ntmps39
   go_wp2_with (go_at_call 86;refine(HP.out _ ⟨_,rfl,Hid'.out.below RInt.mono (Zam _ _)⟩).mono ?_;rintro e w1 ⟨rfl,hb1⟩;obtain⟨hs1,hb1',k0⟩:=Zhk hb1;obtain⟨a0,a1,a2,a3⟩:=Zdk k0)
   go_ret
   exact⟨retB E.out,hb1'⟩
 | true =>
   rw[hp]at HP
   cases hq:okB f.q with
   | false =>
     rw[hq]at HQ
     have E:Hid (false=okF f):=Lib.hid (by unfold okF;rw[hp,hq];rfl)
     clear hp hq
     go_enter Tryz.func39,Tryz.ntmps39
     go_upto_region 3 with(go_at_call 86;fail)
     go_at_call 86
     refine(HP.out _ ⟨_,rfl,Hid'.out.below RInt.mono (Zam _ _)⟩).mono ?_
     rintro e w1 ⟨rfl,hb1⟩
     obtain⟨hs1,hb1',k0⟩:=Zhk hb1
     obtain⟨a0,a1,a2,a3⟩:=Zdk k0
     go_wp2_with (go_at_call 86;refine(HQ.out _ ⟨_,rfl,Hie.out.below RInt.mono hb1'⟩).mono ?_;rintro e w2 ⟨rfl,hb2⟩)
     go_ret
     exact⟨retB E.out,hb1'.trans (hb2.mono hb1'.size)⟩
   | true =>
     rw[hq]at HQ
     obtain⟨p,q⟩:=f
     simp only at *
     obtain⟨P,rfl⟩:=Zkd.1 hp
     obtain⟨Q,rfl⟩:=Zkd.1 hq
     clear hp hq
     have hE:=ZlI (P:=P) (Q:=Q)
     have hzP:(szZ P:Int)≤2199023255552:=by unfold szF at hz;simp only[Zh1]at hz;omega
     have hzQ:(szZ Q:Int)≤2199023255552:=by unfold szF at hz;simp only[Zh1]at hz;omega
     clear hz
     by_cases hs:(ofZ Q).s=1
     ·have hs1:((ofZ Q).s !=1)=false:=by simpa using hs
      have E:=Lib.hid (hE.trans (by rw[hs];rfl:_=decide ((Nat.gcd P.natAbs Q.natAbs:Int)=1)))
      have Hs:=Lib.hid hs
      clear hE hs
      have HG:=Lib.hid (fun W h1 h2=>ZzR P Q (.agg #[I (ofZ P).s,.slice A (ofZ P).d.length ca]) (.agg #[I (ofZ Q).s,.slice B' (ofZ Q).d.length cb]) W h1 h2 hzP hzQ)
      generalize hg:Nat.gcd P.natAbs Q.natAbs=G at *
      have Hg:=Lib.hid hg;clear hg
      go_enter Tryz.func39,Tryz.ntmps39
      go_upto_region 3 with(go_at_call 86;fail)
      go_at_call 86
      refine(HP.out _ ⟨_,rfl,Hid'.out.below RInt.mono (Zam _ _)⟩).mono ?_
      rintro e w1 ⟨rfl,hb1⟩
      obtain⟨hz1,hb1',k0⟩:=Zhk hb1
      obtain⟨a0,a1,a2,a3⟩:=Zdk k0
      go_upto_region 3 with(go_at_call 86;fail)
      go_at_call 86
      refine(HQ.out _ ⟨_,rfl,Hie.out.below RInt.mono hb1'⟩).mono ?_
      rintro e w2 ⟨rfl,hb2⟩
      have hb12:=hb1.trans (hb2.mono hb1.size)
      clear hb1' k0 a0 a1 a2 a3 hz1
      obtain⟨hz2,hb2',k0⟩:=Zhk hb12
      obtain⟨a0,a1,a2,a3⟩:=Zdk k0
      go_upto_region 4 with(go_at_call 87;fail)
      go_at_call 87
      refine(HG.out _ ⟨_,rfl,Hid'.out.below RInt.mono hb2'⟩ ⟨_,rfl,Hie.out.below RInt.mono hb2'⟩).mono ?_
      rintro e w3 ⟨v3,rfl,⟨v4,rfl,⟨d3,rfl,i3,t3⟩⟩,hb3⟩
      obtain⟨A3,c3,rfl,hl3,hc3⟩:=i3.shape
      have hb3':=hb2'.trans (hb3.mono hb2'.size)
      have hbb:=hb3'.trans ((Zam w3 (.cells #[I (ofZ (G:Int)).s,.slice A3 (ofZ (G:Int)).d.length c3] 32)).mono hb3'.size)
      go_wp2_with (go_at_call 88;refine(ZvL (G:Int) (by omega) _ _ ⟨_,rfl,i3.below RInt.mono (Zam w3 _)⟩).mono ?_;rintro e w5 ⟨rfl,hb5⟩)
      go_ret
      exact⟨retB E.out.symm,hbb.trans (hb5.mono hbb.size)⟩
     ·have hs1:((ofZ Q).s !=1)=true:=by simpa using hs
      have hs2:((ofZ Q).s==1)=false:=by simpa using hs
      have E:Hid (false=okF ⟨ofZ P,ofZ Q⟩):=Lib.hid (by rw[hE,hs2];rfl)
      clear hE hs
      go_enter Tryz.func39,Tryz.ntmps39
      go_upto_region 3 with(go_at_call 86;fail)
      go_at_call 86
      refine(HP.out _ ⟨_,rfl,Hid'.out.below RInt.mono (Zam _ _)⟩).mono ?_
      rintro e w1 ⟨rfl,hb1⟩
      obtain⟨hz1,hb1',k0⟩:=Zhk hb1
      obtain⟨a0,a1,a2,a3⟩:=Zdk k0
      go_upto_region 3 with(go_at_call 86;fail)
      go_at_call 86
      refine(HQ.out _ ⟨_,rfl,Hie.out.below RInt.mono hb1'⟩).mono ?_
      rintro e w2 ⟨rfl,hb2⟩
      have hb12:=hb1.trans (hb2.mono hb1.size)
      clear hb1' k0 a0 a1 a2 a3 hz1
      obtain⟨hz2,hb2',k0⟩:=Zhk hb12
      obtain⟨a0,a1,a2,a3⟩:=Zdk k0
      go_wp2_with fail
      go_ret
      exact⟨retB E.out,hb2'⟩
abbrev ZnY(w:World)(v:Value)(r:Rat):Prop:=ZeR w v (ofQ r)
theorem ZhQ(r:Rat)(v:Value)(w:World)(h:ZnY w v r)(hz:(szQ r:Int)≤2199023255552):Calls Tryz.prog 39 #[v] w fun e w'=>e = .returned (B true)∧Below w.heap.size w w' :=
 (Ztt _ v w h hz).mono fun _ _ h=>by rw[Zbj]at h;exact h
set_option maxRecDepth 100000 in
set_option maxHeartbeats 8000000 in
theorem Zn4(a b:Int)(va vb:Value)(w:World)(ha:BigZ w va a)(hb:BigZ w vb b)(la:(szZ a:Int)≤1099511627776)(lb:(szZ b:Int)≤1099511627776) :
 Calls Tryz.prog 42 #[va,vb] w (Zph w (ofZ (a*b))):=by
 obtain⟨da,rfl,ia⟩:=ha
 obtain⟨db,rfl,ib⟩:=hb
 obtain⟨A,ca,rfl,hla,hca⟩:=ia.shape
 obtain⟨B',cb,rfl,hlb,hcb⟩:=ib.shape
 have HM:=Lib.hid (fun W h1 h2=>ZzP a b (.agg #[I (ofZ a).s,.slice A (ofZ a).d.length ca]) (.agg #[I (ofZ b).s,.slice B' (ofZ b).d.length cb]) W h1 h2 la lb)
 have Hia:=Lib.hid ia
 have Hib:=Lib.hid ib
 clear ia ib
 go_enter Tryz.func42,Tryz.ntmps42
 go_upto_region 2 with(go_at_call 93;fail)
 go_at_call 93
 refine(HM.out _ ⟨_,rfl,Hia.out.below RInt.mono (ZgD _ _ _ _)⟩ ⟨_,rfl,Hib.out.below RInt.mono (ZgD _ _ _ _)⟩).mono ?_
 rintro e w1 ⟨v1,rfl,⟨u1,rfl,ho1⟩,hb1⟩
 obtain⟨hs1,hb1',k0,k1,k2⟩:=ZiL hb1
 have Kr:=Lib.hid k2
 have hu1:=Lib.hid ho1
 obtain⟨d1,e1,hi1,hty1⟩:=ho1
 obtain⟨A1,c1,e2,hl1,hc1⟩:=hi1.shape
 subst e2
 subst e1
 clear hi1 hty1 k0 k1
 obtain⟨r0,r1,rf⟩:=Zb8 k2
 clear k2
 go_wp2_with fail
 have q1:=set2 Kr.out (I (ofZ (a*b)).s) (.slice A1 (ofZ (a*b)).d.length c1)
 have q2:=hu1.out.set2 (v0:=I (ofZ (a*b)).s) (v1:=.slice A1 (ofZ (a*b)).d.length c1) Kr.out (by decide)
 have q3:=ZdX hb1' (by omega:w.heap.size≤w.heap.size+2) (I (ofZ (a*b)).s) (.slice A1 (ofZ (a*b)).d.length c1)
 refine ZkJ rfl (by rfl) rfl ((Below.heap_alloc _ _ _ (Ya5.1 q1).1).trans q1) Tryz.underlying32 rfl (by kernel_rfl) ⟨_,rfl,q2.below (Zam _ _),q3.alloc q3.size _⟩
set_option maxRecDepth 100000 in
set_option maxHeartbeats 8000000 in
theorem Zj3(a:Int)(va:Value)(w:World)(ha:BigZ w va a)(la:(szZ a:Int)≤4398046511104):Calls Tryz.prog 44 #[va] w (Zph w (ofZ a)):=by
 obtain⟨da,rfl,ia⟩:=ha
 obtain⟨A,ca,rfl,hla,hca⟩:=ia.shape
 have HN:=Lib.hid (fun W h1=>Zv9 a (.agg #[I (ofZ a).s,.slice A (ofZ a).d.length ca]) W h1 la)
 have hnn:=fun v W h1=>Zv9 (-a) v W h1 (by rw[ZmQ];exact la)
 rw[Int.neg_neg]at hnn
 have HNN:=Lib.hid hnn;clear hnn
 have Hia:=Lib.hid ia
 clear ia
 go_enter Tryz.func44,Tryz.ntmps44
 go_upto_region 2 with(go_at_call 43;fail)
 go_at_call 43
 refine(HN.out _ ⟨_,rfl,Hia.out.below RInt.mono (ZgE _ _ _)⟩).mono ?_
 rintro e w1 ⟨v1,rfl,ho1,hb1⟩
 go_upto_region 2 with(go_at_call 43;fail)
 go_at_call 43
 refine(HNN.out _ _ ho1.big).mono ?_
 rintro e w2 ⟨v2,rfl,ho2,hb2⟩
 have hb12:=hb1.trans (hb2.mono hb1.size)
 obtain⟨hs2,hb2',k0,k1⟩:=Zhj hb12
 have Kr:=Lib.hid k1
 have hu1:=Lib.hid ho2
 obtain⟨d1,e1,hi1,hty1⟩:=ho2
 obtain⟨A1,c1,e2,hl1,hc1⟩:=hi1.shape
 subst e2
 subst e1
 clear hi1 hty1 k0
 obtain⟨r0,r1,rf⟩:=Zb8 k1
 clear k1
 go_wp2_with fail
 exact ZkJ rfl (by rfl) rfl (set2 Kr.out _ _) Tryz.underlying32 rfl (by kernel_rfl) ⟨_,rfl,hu1.out.set2 Kr.out (by decide),ZdX hb2' (by omega) _ _⟩
theorem ZwV(n:Int):ofQ (n:Rat)=⟨ofZ n,ofZ 1⟩:=rfl
theorem ZeM{p q:Int}(hq:0<q):∃ c d:Int,p=(Nat.gcd p.natAbs q.natAbs:Int)*c∧q=(Nat.gcd p.natAbs q.natAbs:Int)*d∧ofQ (Rat.divInt p q)=⟨ofZ c,ofZ d⟩∧0<(Nat.gcd p.natAbs q.natAbs:Int):=by
 have hg:0<Nat.gcd p.natAbs q.natAbs:=Nat.gcd_pos_of_pos_right _ (by omega)
 have e1:((Nat.gcd p.natAbs q.natAbs:Nat):Int) ∣ p:=Int.gcd_dvd_left ..
 have e2:((Nat.gcd p.natAbs q.natAbs:Nat):Int) ∣ q:=Int.gcd_dvd_right ..
 refine⟨p / (Nat.gcd p.natAbs q.natAbs:Int),q / (Nat.gcd p.natAbs q.natAbs:Int),(Int.mul_ediv_cancel' e1).symm,(Int.mul_ediv_cancel' e2).symm,?_,by omega⟩
 have hgc:Int.gcd q p=Nat.gcd p.natAbs q.natAbs:=Nat.gcd_comm _ _
 have h1:(Rat.divInt p q).num=p / (Nat.gcd p.natAbs q.natAbs:Int):=by
  rw[Rat.num_divInt,Yb2 hq,hgc,Int.one_mul]
 have h2:(((Rat.divInt p q).den:Nat):Int)=q / (Nat.gcd p.natAbs q.natAbs:Int):=by
  rw[Rat.den_divInt,if_neg (by omega),hgc,Int.natCast_ediv]
  congr 1;omega
 unfold ofQ
 rw[h1,h2]
theorem Zq4{p q:Int}:szZ (Nat.gcd p.natAbs q.natAbs:Nat)≤max (szZ p) (szZ q):=by
 by_cases h:p=0
 ·subst h;rw[show Nat.gcd (0:Int).natAbs q.natAbs=q.natAbs by simp]
  have:szZ ((q.natAbs:Nat):Int)=szZ q:=by unfold szZ;simp
  omega
 ·have:szZ ((Nat.gcd p.natAbs q.natAbs:Nat):Int)≤szZ p:=Zj1 (by
   have:=Nat.gcd_le_left q.natAbs (show 0<p.natAbs by omega)
   simpa using this)
  omega
theorem Zbi(r:Rat):szZ r.num≤szQ r∧szZ (r.den:Int)≤szQ r:=by rw[Zet];omega
theorem ZpC{p q:Int}(hq:0<q):sgQ (Rat.divInt p q)=p.sign:=by
 obtain⟨c,d,h1,h2,h3,h4⟩:=ZeM (p:=p) hq
 have h5:(Rat.divInt p q).num=c:=ZwU (congrArg Zac.p h3)
 unfold sgQ
 rw[h5]
 conv=>rhs;rw[h1]
 rw[Int.sign_mul,Yb2 h4];omega
theorem Zrp(a b:Rat):sgQ (a-b)=(a.num*b.den-b.num*a.den).sign:=by
 rw[Zjc,ZpC]
 have h1:=a.den_pos
 have h2:=b.den_pos
 exact Int.mul_pos (by omega) (by omega)
def Zfj(f g:Zac):Bool:=Zlp f.p g.p&&Zlp f.q g.q
set_option maxRecDepth 100000 in
set_option maxHeartbeats 16000000 in
theorem ZnZ(a b:Rat)(va vb:Value)(w:World)(ha:ZnY w va a)(hb:ZnY w vb b)(za:(szQ a:Int)≤549755813888)(zb:(szQ b:Int)≤549755813888) :
 Calls Tryz.prog 13 #[va,vb] w fun e w'=>e = .returned (I (sgQ (a-b)))∧Below w.heap.size w w':=by
 obtain⟨da,ea,rfl,ida,iea⟩:=ha
 obtain⟨A,ca,rfl,hlaa,hcaa⟩:=ida.shape
 obtain⟨B1,cb,rfl,hlba,hcba⟩:=iea.shape
 obtain⟨db,eb,rfl,idb,ieb⟩:=hb
 obtain⟨A2,ca2,rfl,hlab,hcab⟩:=idb.shape
 obtain⟨B2,cb2,rfl,hlbb,hcbb⟩:=ieb.shape
 have hpa:(ofQ a).p=ofZ a.num:=rfl
 have hqa:(ofQ a).q=ofZ a.den:=rfl
 have hpb:(ofQ b).p=ofZ b.num:=rfl
 have hqb:(ofQ b).q=ofZ b.den:=rfl
 simp only[hpa,hqa,hpb,hqb]at *
 clear hpa hqa hpb hqb
 have zpa:=Zbi a
 have zpb:=Zbi b
 have HF:=Lib.hid (fun W h=>ZhQ a (.agg #[I (ofZ a.num).s,.slice A (ofZ a.num).d.length ca,I (ofZ a.den).s,.slice B1 (ofZ a.den).d.length cb]) W h (by omega))
 have HG:=Lib.hid (fun W h=>ZhQ b (.agg #[I (ofZ b.num).s,.slice A2 (ofZ b.num).d.length ca2,I (ofZ b.den).s,.slice B2 (ofZ b.den).d.length cb2]) W h (by omega))
 have Hf:=Lib.hid (show ZeR w (.agg #[I (ofZ a.num).s,.slice A (ofZ a.num).d.length ca,I (ofZ a.den).s,.slice B1 (ofZ a.den).d.length cb]) (ofQ a)from⟨_,_,rfl,ida,iea⟩)
 have Hg:=Lib.hid (show ZeR w (.agg #[I (ofZ b.num).s,.slice A2 (ofZ b.num).d.length ca2,I (ofZ b.den).s,.slice B2 (ofZ b.den).d.length cb2]) (ofQ b)from⟨_,_,rfl,idb,ieb⟩)
 have Hap:=Lib.hid ida
 have Haq:=Lib.hid iea
 have Hbp:=Lib.hid idb
 have Hbq:=Lib.hid ieb
 clear ida iea idb ieb
 have HT1:=Lib.hid (fun W h1 h2=>Zn4 a.num (b.den:Int) (.agg #[I (ofZ a.num).s,.slice A (ofZ a.num).d.length ca]) (.agg #[I (ofZ b.den).s,.slice B2 (ofZ b.den).d.length cb2]) W h1 h2 (by omega) (by omega))
 have HT2:=Lib.hid (fun W h1 h2=>Zn4 b.num (a.den:Int) (.agg #[I (ofZ b.num).s,.slice A2 (ofZ b.num).d.length ca2]) (.agg #[I (ofZ a.den).s,.slice B1 (ofZ a.den).d.length cb]) W h1 h2 (by omega) (by omega))
 have HC:=Lib.hid (fun va vb W h1 h2=>ZqL (a.num*b.den) (b.num*a.den) va vb W h1 h2)
 have E:=Lib.hid (Zrp a b)
 clear zpa zpb
 go_enter Tryz.func13,Tryz.ntmps13
 go_upto_region 3 with(go_at_call 39;fail)
 go_at_call 39
 refine(HF.out _ (Hf.out.below (ZgE _ _ _))).mono ?_
 rintro e w1 ⟨rfl,hb1⟩
 obtain⟨hs1,hb1',k0,k1⟩:=Zhj hb1
 obtain⟨y0,y1,y2,y3⟩:=Zdk k1
 go_upto_region 3 with(go_at_call 39;fail)
 go_at_call 39
 refine(HG.out _ (Hg.out.below hb1')).mono ?_
 rintro e w2 ⟨rfl,hb2⟩
 have hb12:=hb1.trans (hb2.mono hb1.size)
 clear y0 y1 y2 y3 hs1 hb1' k0 k1
 obtain⟨hs2,hb2',k0,k1⟩:=Zhj hb12
 obtain⟨x0,x1,x2,x3⟩:=Zdk k0
 obtain⟨y0,y1,y2,y3⟩:=Zdk k1
 have Hap2:=Lib.hid (Hap.out.below RInt.mono hb2')
 have Haq2:=Lib.hid (Haq.out.below RInt.mono hb2')
 have Hbp2:=Lib.hid (Hbp.out.below RInt.mono hb2')
 have Hbq2:=Lib.hid (Hbq.out.below RInt.mono hb2')
 have hz0:w.heap.size<w2.heap.size:=by omega
 have hz1:w.heap.size+1<w2.heap.size:=by omega
 clear k0 k1
 go_upto_region 3 with fail
 refine ZaK 11 (by kernel_rfl) (by kernel_rfl) (by kernel_rfl) (by kernel_rfl) (by kernel_rfl) ?_
 simp only[List.take_succ_cons,List.take_zero]
 repeat (with_reducible apply ZcI
         ·intro wx hx
          have hc:=(ZbZ hx).2.1
          try simp only[Yc8,Yc9]
          repeat(first|with_reducible refine Zaq ?_|(with_reducible refine ZaA ?_ ?_;(· decide +kernel)))
          with_reducible refine Zav ?_
          go_simp
          exact⟨ZaP.refl _,rfl⟩)
 refine ZcH (fun W u=>BigF W u (ofZ (a.num*b.den))) (BigF.mono _) ?_ ?_
 ·intro wx hx
  have hc:=(ZbZ hx).2.1
  try simp only[Yc8,Yc9]
  repeat(with_reducible refine Zaq ?_)
  with_reducible refine Zav ?_
  go_simp
  go_at_call 42
  refine(HT1.out _ ⟨_,rfl,Hap2.out.below RInt.mono hx⟩ ⟨_,rfl,Hbq2.out.below RInt.mono hx⟩).mono ?_
  rintro e w3 ⟨v3,rfl,ho,hb3⟩
  exact⟨_,rfl,hb3,ho⟩
 repeat (with_reducible apply ZcI
         ·intro wx hx
          have hc:=(ZbZ hx).2.1
          try simp only[Yc8,Yc9]
          repeat(first|with_reducible refine Zaq ?_|(with_reducible refine ZaA ?_ ?_;(· decide +kernel)))
          with_reducible refine Zav ?_
          go_simp
          exact⟨ZaP.refl _,rfl⟩)
 refine ZcH (fun W u=>BigF W u (ofZ (b.num*a.den))) (BigF.mono _) ?_ ?_
 ·intro wx hx
  have hc:=(ZbZ hx).2.1
  try simp only[Yc8,Yc9]
  repeat(with_reducible refine Zaq ?_)
  (with_reducible refine ZaA ?_ ?_;(· decide +kernel))
  repeat(with_reducible refine Zaq ?_)
  with_reducible refine Zav ?_
  go_simp
  go_at_call 42
  refine(HT2.out _ ⟨_,rfl,Hbp2.out.below RInt.mono hx⟩ ⟨_,rfl,Haq2.out.below RInt.mono hx⟩).mono ?_
  rintro e w3 ⟨v3,rfl,ho,hb3⟩
  exact⟨_,rfl,hb3,ho⟩
 apply ZcI (v:=I (a.num*b.den-b.num*a.den).sign)
 ·intro wx hx
  have hc:=(ZbZ hx).2.1
  try simp only[Yc8,Yc9]
  repeat(with_reducible refine Zaq ?_)
  (with_reducible refine ZaQ ?_ ?_;(· decide +kernel))
  intro u17 hu17
  repeat(with_reducible refine Zaq ?_)
  (with_reducible refine ZaQ ?_ ?_;(· decide +kernel))
  intro u22 hu22
  repeat(with_reducible refine Zaq ?_)
  with_reducible refine Zav ?_
  go_simp
  go_at_call 41
  exact HC.out _ _ _ hu17.big hu22.big
 with_reducible refine ZfI ?_
 intro w6 hg6
 simp only[Yc8,Yc9]
 repeat(with_reducible refine ZaW ?_)
 with_reducible refine ZbM ?_
 intro u17 hu17
 repeat(with_reducible refine ZaW ?_)
 with_reducible refine ZbM ?_
 intro u22 hu22
 repeat(with_reducible refine ZaW ?_)
 with_reducible refine Zc6 ?_
 simp only[List.drop_succ_cons,List.drop_zero]
 go_frame
 go_wp2_with fail
 go_ret
 exact⟨retI E.out.symm,hb2'.trans (hg6.mono hb2'.size)⟩
set_option maxRecDepth 100000 in
set_option maxHeartbeats 16000000 in
theorem ZsR(a b:Rat)(va vb:Value)(w:World)(ha:ZnY w va a)(hb:ZnY w vb b)(za:(szQ a:Int)≤549755813888)(zb:(szQ b:Int)≤549755813888) :
 Calls Tryz.prog 156 #[va,vb,I 1] w (Zk0 w (ofQ (maxQ a b)) 0):=by
 obtain⟨da,ea,rfl,ida,iea⟩:=ha
 obtain⟨A,ca,rfl,hlaa,hcaa⟩:=ida.shape
 obtain⟨B1,cb,rfl,hlba,hcba⟩:=iea.shape
 obtain⟨db,eb,rfl,idb,ieb⟩:=hb
 obtain⟨A2,ca2,rfl,hlab,hcab⟩:=idb.shape
 obtain⟨B2,cb2,rfl,hlbb,hcbb⟩:=ieb.shape
 have hpa:(ofQ a).p=ofZ a.num:=rfl
 have hqa:(ofQ a).q=ofZ a.den:=rfl
 have hpb:(ofQ b).p=ofZ b.num:=rfl
 have hqb:(ofQ b).q=ofZ b.den:=rfl
 simp only[hpa,hqa,hpb,hqb]at *
 clear hpa hqa hpb hqb
 have zpa:=Zbi a
 have zpb:=Zbi b
 have HF:=Lib.hid (fun W h=>ZhQ a (.agg #[I (ofZ a.num).s,.slice A (ofZ a.num).d.length ca,I (ofZ a.den).s,.slice B1 (ofZ a.den).d.length cb]) W h (by omega))
 have HG:=Lib.hid (fun W h=>ZhQ b (.agg #[I (ofZ b.num).s,.slice A2 (ofZ b.num).d.length ca2,I (ofZ b.den).s,.slice B2 (ofZ b.den).d.length cb2]) W h (by omega))
 have HC:=Lib.hid (fun W h1 h2=>ZnZ a b (.agg #[I (ofZ a.num).s,.slice A (ofZ a.num).d.length ca,I (ofZ a.den).s,.slice B1 (ofZ a.den).d.length cb]) (.agg #[I (ofZ b.num).s,.slice A2 (ofZ b.num).d.length ca2,I (ofZ b.den).s,.slice B2 (ofZ b.den).d.length cb2]) W h1 h2 (by omega) (by omega))
 have S1:=Lib.hid (fun W h=>Zj3 a.num (.agg #[I (ofZ a.num).s,.slice A (ofZ a.num).d.length ca]) W h (by omega))
 have S2:=Lib.hid (fun W h=>Zj3 a.den (.agg #[I (ofZ a.den).s,.slice B1 (ofZ a.den).d.length cb]) W h (by omega))
 have S3:=Lib.hid (fun W h=>Zj3 b.num (.agg #[I (ofZ b.num).s,.slice A2 (ofZ b.num).d.length ca2]) W h (by omega))
 have S4:=Lib.hid (fun W h=>Zj3 b.den (.agg #[I (ofZ b.den).s,.slice B2 (ofZ b.den).d.length cb2]) W h (by omega))
 have Hf:=Lib.hid (show ZeR w (.agg #[I (ofZ a.num).s,.slice A (ofZ a.num).d.length ca,I (ofZ a.den).s,.slice B1 (ofZ a.den).d.length cb]) (ofQ a)from⟨_,_,rfl,ida,iea⟩)
 have Hg:=Lib.hid (show ZeR w (.agg #[I (ofZ b.num).s,.slice A2 (ofZ b.num).d.length ca2,I (ofZ b.den).s,.slice B2 (ofZ b.den).d.length cb2]) (ofQ b)from⟨_,_,rfl,idb,ieb⟩)
 have Hap:=Lib.hid ida
 have Haq:=Lib.hid iea
 have Hbp:=Lib.hid idb
 have Hbq:=Lib.hid ieb
 clear ida iea idb ieb zpa zpb
 have Hc:=Lib.hid (ZvG (r:=a-b))
 have hcb : -1≤sgQ (a-b)∧sgQ (a-b)≤1:=ZaS _
 obtain⟨hcb1,hcb2⟩:=hcb
 have Hmx:=Lib.hid (show maxQ a b=if a≤b then b else a from rfl)
 generalize sgQ (a-b)=sg at *
 go_enter Tryz.func156,Tryz.ntmps156
 go_upto_region 3 with(go_at_call 39;fail)
 go_at_call 39
 refine(HF.out _ (Hf.out.below (ZgD _ _ _ _))).mono ?_
 rintro e w1 ⟨rfl,hb1⟩
 obtain⟨hs1,hb1',k0,k1,k2⟩:=ZiL hb1
 obtain⟨y0,y1,y2,y3⟩:=Zdk k1
 go_upto_region 3 with(go_at_call 39;fail)
 go_at_call 39
 refine(HG.out _ (Hg.out.below hb1')).mono ?_
 rintro e w2 ⟨rfl,hb2⟩
 have hb12:=hb1.trans (hb2.mono hb1.size)
 clear y0 y1 y2 y3 hs1 hb1' k0 k1 k2
 obtain⟨hs2,hb2',k0,k1,k2⟩:=ZiL hb12
 obtain⟨x0,x1,x2,x3⟩:=Zdk k0
 obtain⟨y0,y1,y2,y3⟩:=Zdk k1
 go_upto_region 4 with(go_at_call 13;fail)
 go_at_call 13
 refine(HC.out _ (Hf.out.below hb2') (Hg.out.below hb2')).mono ?_
 rintro e w4 ⟨rfl,hb4⟩
 have hb14:=hb12.trans (hb4.mono hb12.size)
 clear x0 x1 x2 x3 y0 y1 y2 y3 hs2 hb2' k0 k1 k2
 obtain⟨hs2,hb2',k0,k1,k2⟩:=ZiL hb14
 have K0:=Lib.hid k0
 have K2:=Lib.hid k2
 obtain⟨x0,x1,x2,x3,xf⟩:=Zmt k0
 obtain⟨y0,y1,y2,y3⟩:=Zdk k1
 clear k0 k1 k2
 have hz0:w.heap.size<w4.heap.size:=by omega
 have hz1:w.heap.size+1<w4.heap.size:=by omega
 by_cases hlt:sg<0
 ·have E:Hid (maxQ a b=b):=Lib.hid<|by
   have:=Hc.out.1 hlt
   rw[Hmx.out,if_pos (by grind)]
  go_upto_region 4 with fail
  go_upto_region 5 with fail
  obtain⟨w5,hw5⟩:∃ w5,w5=((((w4.setCell ⟨w.heap.size,0,none⟩ (I (ofZ b.num).s)).setCell ⟨w.heap.size,1,none⟩ (.slice A2 (ofZ b.num).d.length ca2)).setCell ⟨w.heap.size,2,none⟩ (I (ofZ b.den).s)).setCell ⟨w.heap.size,3,none⟩ (.slice B2 (ofZ b.den).d.length cb2)):=⟨_,rfl⟩
  have q1:=set4 K0.out (I (ofZ b.num).s) (.slice A2 (ofZ b.num).d.length ca2) (I (ofZ b.den).s) (.slice B2 (ofZ b.den).d.length cb2)
  have q2:=Zfh hb2' (by omega:w.heap.size≤w.heap.size) (I (ofZ b.num).s) (.slice A2 (ofZ b.num).d.length ca2) (I (ofZ b.den).s) (.slice B2 (ofZ b.den).d.length cb2)
  have q3:((((w4.setCell ⟨w.heap.size,0,none⟩ (I (ofZ b.num).s)).setCell ⟨w.heap.size,1,none⟩ (.slice A2 (ofZ b.num).d.length ca2)).setCell ⟨w.heap.size,2,none⟩ (I (ofZ b.den).s)).setCell ⟨w.heap.size,3,none⟩ (.slice B2 (ofZ b.den).d.length cb2)).heap[w.heap.size+2]? =some (.cells #[I 0,.slice none 0 0,I 0,.slice none 0 0] 34):=by
   rw[heap_setCell_other _ ⟨w.heap.size,3,none⟩ _ _ (by show _≠w.heap.size;omega),heap_setCell_other _ ⟨w.heap.size,2,none⟩ _ _ (by show _≠w.heap.size;omega),heap_setCell_other _ ⟨w.heap.size,1,none⟩ _ _ (by show _≠w.heap.size;omega),heap_setCell_other _ ⟨w.heap.size,0,none⟩ _ _ (by show _≠w.heap.size;omega)];exact K2.out
  rw[← hw5]at q1 q2 q3 ⊢
  have Kr:=Lib.hid q3
  have hs2':w.heap.size+2<w5.heap.size:=(Ya5.1 q3).1
  have hz0':w.heap.size<w5.heap.size:=by omega
  have Hbp5:=Lib.hid (Hbp.out.below RInt.mono q2)
  have Hbq5:=Lib.hid (Hbq.out.below RInt.mono q2)
  clear hw5 x0 x1 x2 x3 xf y0 y1 y2 y3 q3
  obtain⟨x0,x1,x2,x3⟩:=Zdk q1
  clear q1
  refine ZaK 7 (by kernel_rfl) (by kernel_rfl) (by kernel_rfl) (by kernel_rfl) (by kernel_rfl) ?_
  simp only[List.take_succ_cons,List.take_zero]
  repeat (with_reducible apply ZcI
          ·intro wx hx
           have hc:=(ZbZ hx).2.1
           try simp only[Yc8,Yc9]
           repeat(first|with_reducible refine Zaq ?_|(with_reducible refine ZaA ?_ ?_;(· decide +kernel)))
           with_reducible refine Zav ?_
           go_simp
           exact⟨ZaP.refl _,rfl⟩)
  refine ZcH (fun W u=>BigF W u (ofZ (b.num))) (BigF.mono _) ?_ ?_
  ·intro wx hx
   have hc:=(ZbZ hx).2.1
   try simp only[Yc8,Yc9]
   repeat(with_reducible refine Zaq ?_)
   with_reducible refine Zav ?_
   go_simp
   go_at_call 44
   refine(S3.out _ ⟨_,rfl,Hbp5.out.below RInt.mono hx⟩).mono ?_
   rintro e w3 ⟨v3,rfl,ho,hb3⟩
   exact⟨_,rfl,hb3,ho⟩
  repeat (with_reducible apply ZcI
          ·intro wx hx
           have hc:=(ZbZ hx).2.1
           try simp only[Yc8,Yc9]
           repeat(first|with_reducible refine Zaq ?_|(with_reducible refine ZaA ?_ ?_;(· decide +kernel)))
           with_reducible refine Zav ?_
           go_simp
           exact⟨ZaP.refl _,rfl⟩)
  refine ZcH (fun W u=>BigF W u (ofZ ((b.den:Int)))) (BigF.mono _) ?_ ?_
  ·intro wx hx
   have hc:=(ZbZ hx).2.1
   try simp only[Yc8,Yc9]
   repeat(with_reducible refine Zaq ?_)
   (with_reducible refine ZaA ?_ ?_;(· decide +kernel))
   repeat(with_reducible refine Zaq ?_)
   with_reducible refine Zav ?_
   go_simp
   go_at_call 44
   refine(S4.out _ ⟨_,rfl,Hbq5.out.below RInt.mono hx⟩).mono ?_
   rintro e w3 ⟨v3,rfl,ho,hb3⟩
   exact⟨_,rfl,hb3,ho⟩
  refine ZcH (fun W u=>Zdu W u (ofQ (b))) (Zdu.mono _) ?_ ?_
  ·intro wx hx
   have hc:=(ZbZ hx).2.1
   try simp only[Yc8,Yc9]
   repeat(with_reducible refine Zaq ?_)
   (with_reducible refine ZaQ ?_ ?_;(· decide +kernel))
   intro u26 hu26
   repeat(with_reducible refine Zaq ?_)
   (with_reducible refine ZaQ ?_ ?_;(· decide +kernel))
   intro u29 hu29
   repeat(with_reducible refine Zaq ?_)
   obtain⟨d3,he,hi3,ht3⟩:=hu26
   obtain⟨d4,he4,hi4,ht4⟩:=hu29
   with_reducible refine Zav ?_
   go_simp
   first|exact⟨ZaP.refl _,_,_,rfl,hi3,hi4,ht3,ht4⟩|exact⟨_,_,rfl,hi3,hi4,ht3,ht4⟩|trace_state
  with_reducible refine ZfI ?_
  intro w6 hg6
  simp only[Yc8,Yc9]
  repeat(with_reducible refine ZaW ?_)
  with_reducible refine ZbM ?_
  intro u26 hu26
  repeat(with_reducible refine ZaW ?_)
  with_reducible refine ZbM ?_
  intro u29 hu29
  repeat(with_reducible refine ZaW ?_)
  with_reducible refine ZbM ?_
  intro u30 hu30
  repeat(with_reducible refine ZaW ?_)
  have kr6:=(hg6.block _ hs2').trans Kr.out
  have Kr6:=Lib.hid kr6
  obtain⟨r0,r1,r2,r3,rf⟩:=Zmt kr6
  have hu6:=Lib.hid hu30
  obtain⟨d6,d7,e6,hi6,hi7,hty6,hty7⟩:=hu30
  obtain⟨A6,c6,e7,hl6,hc6⟩:=hi6.shape
  obtain⟨A7,c7,e8,hl7,hc7⟩:=hi7.shape
  subst e7
  subst e8
  subst e6
  clear hi6 hty6 hi7 hty7 kr6
  with_reducible refine Zc6 ?_
  simp only[List.drop_succ_cons,List.drop_zero]
  go_frame
  go_wp2_with fail
  rw[E.out]
  exact Zcz rfl (by rfl) (by rfl) rfl (set4 Kr6.out _ _ _ _) Tryz.underlying34 rfl (by kernel_rfl) ⟨_,rfl,⟨_,rfl,hu6.out.set4 Kr6.out (by decide)⟩,Zfh (q2.trans (hg6.mono q2.size)) (by omega) _ _ _ _⟩
 ·have E:Hid (maxQ a b=a):=Lib.hid<|by
   have h1:¬ (a-b<0):=fun h=>hlt (Hc.out.2 h)
   by_cases hab:a≤b
   ·rw[Hmx.out,if_pos hab];grind
   ·rw[Hmx.out,if_neg hab]
  have Kr:=K2
  have Hap2:=Lib.hid (Hap.out.below RInt.mono hb2')
  have Haq2:=Lib.hid (Haq.out.below RInt.mono hb2')
  go_upto_region 5 with fail
  refine ZaK 7 (by kernel_rfl) (by kernel_rfl) (by kernel_rfl) (by kernel_rfl) (by kernel_rfl) ?_
  simp only[List.take_succ_cons,List.take_zero]
  repeat (with_reducible apply ZcI
          ·intro wx hx
           have hc:=(ZbZ hx).2.1
           try simp only[Yc8,Yc9]
           repeat(first|with_reducible refine Zaq ?_|(with_reducible refine ZaA ?_ ?_;(· decide +kernel)))
           with_reducible refine Zav ?_
           go_simp
           exact⟨ZaP.refl _,rfl⟩)
  refine ZcH (fun W u=>BigF W u (ofZ (a.num))) (BigF.mono _) ?_ ?_
  ·intro wx hx
   have hc:=(ZbZ hx).2.1
   try simp only[Yc8,Yc9]
   repeat(with_reducible refine Zaq ?_)
   with_reducible refine Zav ?_
   go_simp
   go_at_call 44
   refine(S1.out _ ⟨_,rfl,Hap2.out.below RInt.mono hx⟩).mono ?_
   rintro e w3 ⟨v3,rfl,ho,hb3⟩
   exact⟨_,rfl,hb3,ho⟩
  repeat (with_reducible apply ZcI
          ·intro wx hx
           have hc:=(ZbZ hx).2.1
           try simp only[Yc8,Yc9]
           repeat(first|with_reducible refine Zaq ?_|(with_reducible refine ZaA ?_ ?_;(· decide +kernel)))
           with_reducible refine Zav ?_
           go_simp
           exact⟨ZaP.refl _,rfl⟩)
  refine ZcH (fun W u=>BigF W u (ofZ ((a.den:Int)))) (BigF.mono _) ?_ ?_
  ·intro wx hx
   have hc:=(ZbZ hx).2.1
   try simp only[Yc8,Yc9]
   repeat(with_reducible refine Zaq ?_)
   (with_reducible refine ZaA ?_ ?_;(· decide +kernel))
   repeat(with_reducible refine Zaq ?_)
   with_reducible refine Zav ?_
   go_simp
   go_at_call 44
   refine(S2.out _ ⟨_,rfl,Haq2.out.below RInt.mono hx⟩).mono ?_
   rintro e w3 ⟨v3,rfl,ho,hb3⟩
   exact⟨_,rfl,hb3,ho⟩
  refine ZcH (fun W u=>Zdu W u (ofQ (a))) (Zdu.mono _) ?_ ?_
  ·intro wx hx
   have hc:=(ZbZ hx).2.1
   try simp only[Yc8,Yc9]
   repeat(with_reducible refine Zaq ?_)
   (with_reducible refine ZaQ ?_ ?_;(· decide +kernel))
   intro u26 hu26
   repeat(with_reducible refine Zaq ?_)
   (with_reducible refine ZaQ ?_ ?_;(· decide +kernel))
   intro u29 hu29
   repeat(with_reducible refine Zaq ?_)
   obtain⟨d3,he,hi3,ht3⟩:=hu26
   obtain⟨d4,he4,hi4,ht4⟩:=hu29
   with_reducible refine Zav ?_
   go_simp
   first|exact⟨ZaP.refl _,_,_,rfl,hi3,hi4,ht3,ht4⟩|exact⟨_,_,rfl,hi3,hi4,ht3,ht4⟩|trace_state
  with_reducible refine ZfI ?_
  intro w6 hg6
  simp only[Yc8,Yc9]
  repeat(with_reducible refine ZaW ?_)
  with_reducible refine ZbM ?_
  intro u26 hu26
  repeat(with_reducible refine ZaW ?_)
  with_reducible refine ZbM ?_
  intro u29 hu29
  repeat(with_reducible refine ZaW ?_)
  with_reducible refine ZbM ?_
  intro u30 hu30
  repeat(with_reducible refine ZaW ?_)
  have kr6:=(hg6.block _ hs2).trans Kr.out
  have Kr6:=Lib.hid kr6
  obtain⟨r0,r1,r2,r3,rf⟩:=Zmt kr6
  have hu6:=Lib.hid hu30
  obtain⟨d6,d7,e6,hi6,hi7,hty6,hty7⟩:=hu30
  obtain⟨A6,c6,e7,hl6,hc6⟩:=hi6.shape
  obtain⟨A7,c7,e8,hl7,hc7⟩:=hi7.shape
  subst e7
  subst e8
  subst e6
  clear hi6 hty6 hi7 hty7 kr6
  with_reducible refine Zc6 ?_
  simp only[List.drop_succ_cons,List.drop_zero]
  go_frame
  go_wp2_with fail
  rw[E.out]
  exact Zcz rfl (by rfl) (by rfl) rfl (set4 Kr6.out _ _ _ _) Tryz.underlying34 rfl (by kernel_rfl) ⟨_,rfl,⟨_,rfl,hu6.out.set4 Kr6.out (by decide)⟩,Zfh (hb2'.trans (hg6.mono hb2'.size)) (by omega) _ _ _ _⟩
set_option maxRecDepth 100000 in
set_option maxHeartbeats 16000000 in
theorem ZzQ(a b:Rat)(va vb:Value)(w:World)(ha:ZnY w va a)(hb:ZnY w vb b)(za:(szQ a:Int)≤549755813888)(zb:(szQ b:Int)≤549755813888) :
 Calls Tryz.prog 115 #[va,vb] w (Zk0 w (ofQ (maxQ a b)) 0):=by
 obtain⟨da,ea,rfl,ida,iea⟩:=ha
 obtain⟨A,ca,rfl,hlaa,hcaa⟩:=ida.shape
 obtain⟨B1,cb,rfl,hlba,hcba⟩:=iea.shape
 obtain⟨db,eb,rfl,idb,ieb⟩:=hb
 obtain⟨A2,ca2,rfl,hlab,hcab⟩:=idb.shape
 obtain⟨B2,cb2,rfl,hlbb,hcbb⟩:=ieb.shape
 have hpa:(ofQ a).p=ofZ a.num:=rfl
 have hqa:(ofQ a).q=ofZ a.den:=rfl
 have hpb:(ofQ b).p=ofZ b.num:=rfl
 have hqb:(ofQ b).q=ofZ b.den:=rfl
 simp only[hpa,hqa,hpb,hqb]at *
 clear hpa hqa hpb hqb
 have HE:=Lib.hid (fun W h1 h2=>ZsR a b (.agg #[I (ofZ a.num).s,.slice A (ofZ a.num).d.length ca,I (ofZ a.den).s,.slice B1 (ofZ a.den).d.length cb]) (.agg #[I (ofZ b.num).s,.slice A2 (ofZ b.num).d.length ca2,I (ofZ b.den).s,.slice B2 (ofZ b.den).d.length cb2]) W h1 h2 za zb)
 have Hf:=Lib.hid (show ZeR w (.agg #[I (ofZ a.num).s,.slice A (ofZ a.num).d.length ca,I (ofZ a.den).s,.slice B1 (ofZ a.den).d.length cb]) (ofQ a)from⟨_,_,rfl,ida,iea⟩)
 have Hg:=Lib.hid (show ZeR w (.agg #[I (ofZ b.num).s,.slice A2 (ofZ b.num).d.length ca2,I (ofZ b.den).s,.slice B2 (ofZ b.den).d.length cb2]) (ofQ b)from⟨_,_,rfl,idb,ieb⟩)
 clear ida iea idb ieb
 go_enter Tryz.func115,Tryz.ntmps115
 go_upto_region 2 with(go_at_call 156;fail)
 go_at_call 156
 refine(HE.out _ (Hf.out.below (ZgD _ _ _ _)) (Hg.out.below (ZgD _ _ _ _))).mono ?_
 rintro e w1 ⟨v3,rfl,⟨v4,rfl,ho3⟩,hb1⟩
 obtain⟨hs1,hb1',k0,k1,k2⟩:=ZiL hb1
 have Kr:=Lib.hid k2
 have hu6:=Lib.hid ho3
 obtain⟨d6,d7,e6,hi6,hi7,hty6,hty7⟩:=ho3
 obtain⟨A6,c6,e7,hl6,hc6⟩:=hi6.shape
 obtain⟨A7,c7,e8,hl7,hc7⟩:=hi7.shape
 subst e7
 subst e8
 subst e6
 clear hi6 hty6 hi7 hty7
 obtain⟨r0,r1,r2,r3,rf⟩:=Zmt k2
 clear k0 k1 k2
 go_wp2_with fail
 exact Zcz rfl (by rfl) (by rfl) rfl (set4 Kr.out _ _ _ _) Tryz.underlying34 rfl (by kernel_rfl) ⟨_,rfl,⟨_,rfl,hu6.out.set4 Kr.out (by decide)⟩,Zfh hb1' (by omega) _ _ _ _⟩
end Go.Proofs.YtblamlnjbjaokaaGreat
