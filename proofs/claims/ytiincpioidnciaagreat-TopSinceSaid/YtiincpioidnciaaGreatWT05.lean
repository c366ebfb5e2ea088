/-
  The walk over data: put.
-/
import Derived.Test.YtiincpioidnciaaGreatWLib
import Derived.Test.YtiincpioidnciaaGreatWT04
import Derived.Test.YtiincpioidnciaaGreatWT01
namespace Go.Proofs.YtiincpioidnciaaGreat
set_option linter.unusedVariables false
set_option linter.unusedSimpArgs false
set_option linter.unusedSectionVars false
open Go Go.RowKit
set_option maxRecDepth 100000
set_option maxHeartbeats 16000000
theorem Cl.none{m:Mem}{nx id:Nat}(h:Cl m nx)(hi:nx≤id):m id=none:=by
 cases hm:m id with
 | none=>rfl
 | some b=>have:=(h id b hm).1;omega
def ZgF(I:Ids)(m x:Nat):Ids:={I with A:=fun k=>if k=m then x else I.A k,vR:=I.vR+1,vO:=I.vO+1,vF:=I.vF+1}
def sgQ'(turned:Bool)(q:Rat):Rat:=if turned then -q else q
def Zd4(d:Dic)(w:RowD)(turned:Bool):Dic :=
 {d with m:=d.m+1,own:=fun k=>if k=d.m then d.n+d.m else d.own k,v:=fun k=>if k=d.m then sgQ' turned (qOf w.v)else d.v k,a:=fun k=>if k=d.m then(fun j=>sgQ' turned (ZaU w.t j))else d.a k}
theorem Zxu{l:List Zag}{n:Nat}{N:Int}(h:Zai l N=true){i:Nat}{t:Zag}(ht:l[i]? =some t)(h0:0≤t.v)(ho:okF t.f=true) :
 (ratL n (ZaU (l.take i))).set t.v.toNat [dI t.f.p.s,Zad t.f.p.d,dI t.f.q.s,Zad t.f.q.d]=ratL n (ZaU (l.take (i+1))):=by
 have e:[dI t.f.p.s,Zad t.f.p.d,dI t.f.q.s,Zad t.f.q.d]=cF (ofQ (qOf t.f)):=by rw[← ZfK ho]
 rw[e,Zdp]
 refine ZaO fun u _=>?_
 rw[ZeV ht h0]
 by_cases e:u=t.v.toNat
 ·subst e;rw[if_pos rfl,if_pos rfl,Zd1 h ht h0];grind
 ·rw[if_neg e,if_neg e];grind
def Zjp(l:List Zag)(i:Nat)(u:Nat):Rat:=ZaU l u-2*ZaU (l.take i) u
theorem Zri(l:List Zag):Zjp l 0=ZaU l:=by funext u;unfold Zjp;simp only[List.take_zero,ZaU,dotS];grind
theorem ZsQ(l:List Zag):Zjp l l.length=fun u=> -ZaU l u:=by funext u;unfold Zjp;rw[Yc2];grind
theorem ZvL{l:List Zag}{n:Nat}{N:Int}(h:Zai l N=true){i:Nat}{t:Zag}(ht:l[i]? =some t)(h0:0≤t.v) :
 (ratL n (Zjp l i)).set t.v.toNat (cF (ofQ (-qOf t.f)))=ratL n (Zjp l (i+1)):=by
 rw[Zdp]
 refine ZaO fun u _=>?_
 unfold Zjp
 rw[ZeV ht h0]
 by_cases e:u=t.v.toNat
 ·subst e;rw[if_pos rfl,if_pos rfl,Zd1 h ht h0,Zu3 h ht h0];grind
 ·rw[if_neg e,if_neg e];grind
structure Zfn (fr:List (List D)) (m:Mem) (I:Ids) (d:Dic) (src:Nat→Nat×Bool):Prop where
 hp:m I.p=some (pB I d.n)
 hR:m I.R=some (rB I d.m d.v)
 hG:m I.G=some (fB d.n d.g)
 hO:m I.O=some (iB 3 I.vO d.m d.own)
 hFr:m I.Fr=some ⟨3,I.vFr,1,fr,0,false⟩
 hF:m I.F=some (sB I.vF d.m src)
 hA:∀ k,k<d.m→m (I.A k)=some (fB d.n (d.a k))
theorem Zfn.lt{fr:List (List D)}{m:Mem}{I:Ids}{d:Dic}{src:Nat→Nat×Bool}{nx:Nat}(h:Zfn fr m I d src)(hc:Cl m nx){id:Nat}(hi:inD I d.m id):id<nx:=by
 rcases hi with rfl|rfl|rfl|rfl|rfl|rfl|⟨k,hk,rfl⟩
 ·exact(hc _ _ h.hp).1
 ·exact(hc _ _ h.hR).1
 ·exact(hc _ _ h.hG).1
 ·exact(hc _ _ h.hO).1
 ·exact(hc _ _ h.hFr).1
 ·exact(hc _ _ h.hF).1
 ·exact(hc _ _ (h.hA k hk)).1
theorem Zfn.keep{fr:List (List D)}{m m':Mem}{I:Ids}{d:Dic}{src:Nat→Nat×Bool}(h:Zfn fr m I d src)(hf:∀ id,inD I d.m id→m' id=m id):Zfn fr m' I d src :=
 ⟨(hf _ (.inl rfl)).trans h.hp,(hf _ (.inr (.inl rfl))).trans h.hR,(hf _ (.inr (.inr (.inl rfl)))).trans h.hG,(hf _ (.inr (.inr (.inr (.inl rfl))))).trans h.hO,(hf _ (.inr (.inr (.inr (.inr (.inl rfl)))))).trans h.hFr,
   (hf _ (.inr (.inr (.inr (.inr (.inr (.inl rfl))))))).trans h.hF,fun k hk=>(hf _ (.inr (.inr (.inr (.inr (.inr (.inr ⟨k,hk,rfl⟩))))))).trans (h.hA k hk)⟩
theorem Zfn.at{m:Mem}{I:Ids}{d:Dic}{src:Nat→Nat×Bool}(h:Zfn (tabL d.n fun j=>[dI (d.free j)]) m I d src):Za2 m I d src:=⟨h.hp,h.hR,h.hG,h.hO,h.hFr,h.hF,h.hA⟩
theorem ZiZ(k:Nat)(c:Nat→List D):tabL (k+1) c=tabL k c++[c k]:=by unfold tabL;rw[List.range_succ,List.map_append];rfl
theorem Zfn.add{fr:List (List D)}{m m':Mem}{I:Ids}{d:Dic}{src:Nat→Nat×Bool}{nx x:Nat}(h:Zfn fr m I d src)(ap:Zgz I d.m)(lt:∀ id,inD I d.m id→id<nx)(w:RowD)(row:Nat)(turned:Bool){c:Nat→Rat}{Q:Rat}
 (h1:m' I.p=some ⟨224,0,6,[[dI d.n,.ls I.R (I.vR+1),.ls I.G 1,.ls I.O (I.vO+1),.ls I.Fr I.vFr,.ls I.F (I.vF+1)]],0,false⟩)
 (h2:m' I.R=some ⟨227,I.vR+1,5,Zh4 I d.m d.v++[[dI (ofQ Q).p.s,Zad (ofQ Q).p.d,dI (ofQ Q).q.s,Zad (ofQ Q).q.d,.ls x 1]],0,false⟩)
 (h3:m' I.O=some ⟨3,I.vO+1,1,(tabL d.m fun i=>[dI (d.own i)])++[[dI ((d.n+d.m:Nat):Int)]],0,false⟩)
 (h4:m' I.F=some ⟨251,I.vF+1,2,(tabL d.m fun i=>[dI (src i).1,dB (src i).2])++[[dI (row:Int),dB turned]],0,false⟩)
 (h5:m' x=some (fB d.n c)) (hc:∀ j,j<d.n→c j=sgQ' turned (ZaU w.t j)) (hQ:Q=sgQ' turned (qOf w.v)) (hf:∀ id,id<nx→id≠I.p→id≠I.R→id≠I.O→id≠I.F→m' id=m id) :
 Zfn fr m' (ZgF I d.m x) (Zd4 d w turned) (fun k=>if k=d.m then(row,turned)else src k):=by
 refine⟨h1,h2.trans ?_,?_,h3.trans ?_,?_,h4.trans ?_,fun k hk=>?_⟩
 ·unfold rB Zh4
  show _=some (Blk.mk _ _ _ (tabL (d.m+1) _) _ _)
  rw[ZiZ]
  refine congrArg (fun l=>some (Blk.mk _ _ _ l 0 false)) (_root_.congr (congrArg HAppend.hAppend (Zb4 fun k hk=>?_)) (congrArg (fun x=>[x]) ?_))
  ·simp only[Zd4,ZgF,if_neg (show ¬ k=d.m by omega)]
  ·simp only[Zd4,ZgF,if_pos,← hQ];rfl
 ·exact(hf _ (lt _ (.inr (.inr (.inl rfl)))) ap.pG.symm ap.RG.symm ap.GO ap.GF).trans h.hG
 ·unfold iB
  show _=some (Blk.mk _ _ _ (tabL (d.m+1) _) _ _)
  rw[ZiZ]
  refine congrArg (fun l=>some (Blk.mk _ _ _ l 0 false)) (_root_.congr (congrArg HAppend.hAppend (Zb4 fun k hk=>?_)) (congrArg (fun x=>[x]) ?_))
  ·simp only[Zd4,if_neg (show ¬ k=d.m by omega)]
  ·simp only[Zd4,if_pos]
 ·exact(hf _ (lt _ (.inr (.inr (.inr (.inr (.inl rfl)))))) ap.pFr.symm ap.RFr.symm ap.OFr.symm ap.FrF).trans h.hFr
 ·unfold sB
  show _=some (Blk.mk _ _ _ (tabL (d.m+1) _) _ _)
  rw[ZiZ]
  refine congrArg (fun l=>some (Blk.mk _ _ _ l 0 false)) (_root_.congr (congrArg HAppend.hAppend (Zb4 fun k hk=>?_)) (congrArg (fun x=>[x]) ?_))
  ·simp only[if_neg (show ¬ k=d.m by omega)]
  ·simp only[if_pos]
 ·by_cases e:k=d.m
  ·subst e
   simp only[ZgF,Zd4,if_pos]
   refine h5.trans ?_
   unfold fB
   rw[ZaO hc]
  ·have hk2:k<d.m:=by have:k<d.m+1:=hk;omega
   simp only[ZgF,Zd4,if_neg e]
   exact(hf _ (lt _ (.inr (.inr (.inr (.inr (.inr (.inr ⟨k,hk2,rfl⟩))))))) (ap.Ap k hk2) (ap.AR k hk2) (ap.AO k hk2) (ap.AF k hk2)).trans (h.hA k hk2)
theorem put_a[Ifl]{fr:List (List D)}{I:Ids}{d:Dic}{src:Nat→Nat×Bool}{m:Mem}{nx:Nat}(h:Zfn fr m I d src)(ap:Zgz I d.m)(row:Nat)(w:RowD)(turned:Bool)(hm:(d.m:Int)≤4000)(hn:(d.n:Int)≤4000)(hrow:(row:Int)≤4096)
 (hr:Zai w.t d.n=true) (hv:okF w.v=true) (sw:smW w) :
 Zar Tryz.prog 154 [.lp I.p 0 0 0,dI row,encW w,dB turned] m nx fun d' m' nx'=>d'=oneD []∧nx+1<nx'∧Zfn fr m' (ZgF I d.m (nx+1)) (Zd4 d w turned) (fun k=>if k=d.m then(row,turned)else src k)∧∀ id,id<nx→¬ inD I d.m id→m' id=m id:=by
 obtain⟨wt,wk,wv⟩:=w
 obtain⟨q,rfl⟩:∃ q,wv=ofQ q:=⟨qOf wv,ZfK hv⟩
 simp only at hr
 refine Zar.cl ⟨_,_,Tryz.func154,rfl,by kernel_rfl⟩ fun hcl=>?_
 have Zr:=Tryz.results154
 refine inA Tryz.func154 rfl Tryz.ntmps154 ?_
 have lt:∀ id,inD I d.m id→id<nx:=fun id hi=>h.lt hcl hi
 have lp:I.p<nx:=lt _ (.inl rfl)
 have n1:I.p≠nx:=by omega
 refine aGoM (cj4 Zr ZaP h.hp n1) ?_
 repeat with_reducible intro K hK
 refine Za3 (ZsF d.n _ _ (by omega) ((Zab _ _ (by omega)).trans (hcl.none (by omega)))) ?_
 have n2:I.p≠nx+1:=by omega
 refine aGoS (cj4 Zr ZaP h.hp (cj2 n1 n2)) ?_
 repeat with_reducible intro K hK
 have n3:I.p≠nx+2:=by omega
 with_reducible apply useE
 with_reducible assumption
 exact Zcu [I.p,nx,nx+1,nx+2] (by simp[n1,n2,n3]) [([],[]),([1],[]),([],[]),([],[]),([],[]),([0],[]),([2],[2]),([],[]),([3,3],[3]),([3,3],[3])] rfl rfl (by kernel_rfl)
 exact Zaz rfl
 have lw:(wt.length:Int)≤4096:=sw.1.1
 have n0:nx≠nx+1:=by omega
 have n4:nx≠nx+2:=by omega
 have n5:nx+1≠nx+2:=by omega
 refine aGoM (cj4 Zr ZaP h.hp (cj4 n1 n2 n0 n4)) ?_
 repeat with_reducible intro K hK
 have q0:ratL d.n (ZaU (wt.take 0))=ratL d.n (fun _=>0):=ZaO fun u _=>by simp only[List.take_zero,ZaU,dotS]
 refine ZcJ (fun(i:Nat)=>[(0,.lp I.p 0 0 0),(1,dI row),(3,dB turned),(6,.lp nx 0 0 0),(8,.lp (nx+2) 0 0 0),(22,Zbr wt),(23,dI wt.length),(24,dI i)]) nx
  (fun i m1 nx1=>i≤wt.length∧nx+2<nx1∧m1 nx=some ⟨175,0,6,[cW ⟨wt,wk,ofQ q⟩],0,false⟩∧m1 (nx+1)=some (fB d.n (ZaU (wt.take i)))∧m1 (nx+2)=some ⟨227,0,5,[[dI (ofQ q).p.s,Zad (ofQ q).p.d,dI (ofQ q).q.s,Zad (ofQ q).q.d,.ls (nx+1) 1]],0,false⟩∧∀ id,id<nx→m1 id=m id) (fun i=>wt.length-i) 0 ?_ ?_ ?_ ?_
 ·refine⟨Yb0 _,Nat.lt_succ_self _,?_,?_,?_,fun id h1=>?_⟩
  ·simp[Zau]
  ·simp only[Zau];simp;exact q0.symm
  ·simp[Zau]
  ·simp only[Zau];rw[if_neg (by omega),if_neg (by omega),if_neg (by omega),if_neg (by omega)]
 ·rfl
 ·simp[go_sem]
 ·rintro i m1 nx1 ⟨hi,hnx,eW,eA,eL,hfr⟩
  obtain⟨hw,i0⟩:=ZaS i
  by_cases h1:(i:Int)<wt.length
  ·obtain⟨t,ht⟩:=getE (l:=wt) (k:=i) (by omega)
   obtain⟨t0,t1,t2,t3⟩:=ZaY hr (ZaJ ht)
   have es:=Zxu (n:=d.n) hr ht t0 t2
   have le:=Zb7 d.n (ZaU (wt.take i))
   have x1:nx≠nx1:=by omega
   have x2:nx+1≠nx1:=by omega
   have x3:nx+2≠nx1:=by omega
   have gi:=Za1 (n:=d.n) (k:=t.v.toNat) (ZaU (wt.take i)) (by omega)
   refine aGoM (cj4 Zr eW eA (cj4 eL h1 hw (cj4 i0 ht t0 (cj4 t1 es le (cj4 x1 x2 x3 (cj3 Yb0 n5 gi)))))) ?_
   repeat with_reducible intro K hK
   refine Zam (i+1) ?_ (by omega) rfl (by simp[go_sem])
   refine⟨by omega,Nat.lt_of_lt_of_le hnx (Nat.le_succ _),?_,?_,?_,fun id h=>?_⟩
   ·exact(Zab _ _ (by omega)).trans ((Zab _ _ (by omega)).trans ((Zab _ _ (by omega)).trans eW))
   ·exact Zac _ _ _
   ·exact(Zab _ _ (by omega)).trans ((Zab _ _ (by omega)).trans ((Zab _ _ (by omega)).trans eL))
   ·exact(Zab _ _ (by omega)).trans ((Zab _ _ (by omega)).trans ((Zab _ _ (by omega)).trans (hfr id h)))
  ·obtain rfl:i=wt.length:=by omega
   rw[Yc2]at eA
   have hD0:True:=trivial
   have hD:Zfn fr m1 I d src:=h.keep fun id hi=>hfr id (lt id hi)
   cases turned with
   | false =>
     have y1:I.O≠nx1:=by have:=lt _ (.inr (.inr (.inr (.inl rfl))));omega
     have y2:I.p≠nx1:=by omega
     have y9:I.R≠nx1:=by have:=lt _ (.inr (.inl rfl));omega
     have y10:I.F≠nx1:=by have:=lt _ (.inr (.inr (.inr (.inr (.inr (.inl rfl))))));omega
     have y11:I.F≠nx1+1:=by have:=lt _ (.inr (.inr (.inr (.inr (.inr (.inl rfl))))));omega
     have y12:I.F≠nx1+2:=by have:=lt _ (.inr (.inr (.inr (.inr (.inr (.inl rfl))))));omega
     have y13:I.R≠nx1+1:=by have:=lt _ (.inr (.inl rfl));omega
     have y14:I.R≠nx1+2:=by have:=lt _ (.inr (.inl rfl));omega
     have y15:I.p≠nx1+1:=by omega
     have y16:I.p≠nx1+2:=by omega
     have y17:nx+2≠I.p:=by omega
     have y18:nx+2≠I.O:=by have:=lt _ (.inr (.inr (.inr (.inl rfl))));omega
     have y19:nx+2≠nx1:=by omega
     have y20:I.R≠I.p:=ap.pR.symm
     have y21:I.R≠I.O:=ap.RO
     have y22:I.F≠I.p:=ap.pF.symm
     have y23:I.F≠I.O:=ap.OF.symm
     have y24:I.F≠I.R:=ap.RF.symm
     have y25:=ap.pR
     have y26:=ap.pF
     have y3:=ap.pO
     have y27:=ap.RF
     have y4:IntKind.i64.wrap ((d.n:Int)+d.m)=((d.n+d.m:Nat):Int):=(ZaQ (by omega) (by omega)).trans (by omega)
     have y5:=Zi1 I d.m d.v
     have y6:=Zc5 d.m fun k=>[dI (d.own k)]
     have y60:=Zc5 d.m fun k=>[dI (src k).1,dB (src k).2]
     have y7:((d.m+1:Nat):Int)*8≤140737488355328:=by omega
     have y8:((d.m+1:Nat):Int)≤9007199254740992:=by omega
     have y70:((d.m+1:Nat):Int)*72≤140737488355328:=by omega
     have y80:((d.m+1:Nat):Int)*16≤140737488355328:=by omega
     refine aGoS (cj4 Zr eL h1 (cj4 hD.hp hD.hO hD.hR (cj4 hD.hF y1 y2 (cj4 y3 y4 y5 (cj4 y6 y7 y8 (cj3 eA trivial Yb0)))))) ?_
     repeat with_reducible intro K hK
     refine⟨by have:=lt _ (.inr (.inr (.inr (.inl rfl))));omega,by omega,?_⟩
     with_reducible apply useE
     with_reducible assumption
     exact Zcu [I.p,I.O,nx1,I.R] (by simp[y1,y2,y3,y25,y21,y9,y9.symm,y21.symm,y1.symm,y2.symm]) [([],[]),([],[]),([],[]),([],[]),([0],[]),([],[]),([],[]),([],[]),([0],[]),([],[]),([],[]),([],[]),([0],[]),([3],[]),([],[]),([2,2],[2]),([1,2,1],[1]),([],[]),([],[]),([0,0],[0])] rfl rfl (by kernel_rfl)
     exact Zaz rfl
     refine aGoS (cj4 Zr eL h1 (cj4 hD.hR hD.hF y2 (cj4 y9 y10 y11 (cj4 y12 y13 y14 (cj4 y15 y16 y17 (cj4 y18 y19 y20 (cj4 y21 y22 y23 (cj4 y24 y25 y26 (cj4 y5 y60 y70 (cj4 y80 y8 Yb0 y27)))))))))) ?_
     repeat with_reducible intro K hK
     refine⟨by have:=lt _ (.inr (.inl rfl));omega,by omega,by have:=lt _ (.inr (.inr (.inr (.inr (.inr (.inl rfl))))));omega,by omega,by omega,?_⟩
     with_reducible apply useE
     with_reducible assumption
     exact Zcu [I.p,nx+2,nx1+1,I.R,nx1+2,I.F] (by have lF:=lt _ (.inr (.inr (.inr (.inr (.inr (.inl rfl))))));have lR:=lt _ (.inr (.inl rfl));simp only[List.nodup_cons,List.mem_cons,List.not_mem_nil,not_or,or_false,List.nodup_nil,not_false_eq_true,and_true];omega) [([],[]),([],[]),([],[]),([],[]),([],[]),([0],[]),([1],[]),([2,2],[2]),([3,2,3],[3]),([],[]),([],[]),([],[]),([0],[]),([],[]),([],[]),([],[]),([4,4],[4]),([5,4,5],[5]),([],[]),([],[]),([0,0],[0]),([],[]),([],[]),([0,0],[0])] rfl rfl (by kernel_rfl)
     exact Zaz rfl
     have lO:=lt _ (.inr (.inr (.inr (.inl rfl))))
     have lF:=lt _ (.inr (.inr (.inr (.inr (.inr (.inl rfl))))))
     have lR:=lt _ (.inr (.inl rfl))
     refine aGoM (cj4 Zr y1 y2 (cj4 y9 y10 y11 (cj4 y12 y13 y14 (cj4 y15 y16 y20 (cj4 y21 y22 y23 (cj4 y24 y25 y26 (cj2 y3 y27))))))) ?_
     refine⟨h.add ap lt ⟨wt,wk,ofQ q⟩ row false (c:=ZaU wt) (Q:=(q)) ?_ ?_ ?_ ?_ ?_ (fun j _=>?_) ?_ (fun id g1 g2 g3 g4 g5=>?_),fun id g1 g2=>?_⟩
     ·simp only[Zau];repeat(first|rfl|rw[if_pos True.intro]|rw[if_neg (by omega)])
     ·simp only[Zau];repeat(first|rfl|rw[if_pos True.intro]|rw[if_neg (by omega)])
     ·simp only[Zau];repeat(first|rfl|rw[if_pos True.intro]|rw[if_neg (by omega)])
     ·simp only[Zau];repeat(first|rfl|rw[if_pos True.intro]|rw[if_neg (by omega)])
     ·simp only[Zau];repeat(rw[if_neg (by omega)])
      exact eA
     ·rfl
     ·exact(ZaM q).symm
     ·simp only[Zau];repeat(rw[if_neg (by omega)])
      exact hfr id g1
     ·have u1:id≠I.p:=fun e=>g2 (.inl e)
      have u2:id≠I.R:=fun e=>g2 (.inr (.inl e))
      have u3:id≠I.O:=fun e=>g2 (.inr (.inr (.inr (.inl e))))
      have u4:id≠I.F:=fun e=>g2 (.inr (.inr (.inr (.inr (.inr (.inl e))))))
      try simp only[Zau]
      repeat(rw[if_neg (by omega)])
      exact hfr id g1
   | true =>
     have zq:(szQ q:Int)≤4194304:=by have h2:(szF (ofQ q):Int)≤4194304:=sw.2;rw[← ZcY hv,ZaM]at h2;exact h2
     have k1:=Ziy q (by omega)
     refine aGoM (cj4 Zr eW eA (cj4 eL h1 n5 (cj4 k1 n4 n0 Yb0))) ?_
     repeat with_reducible intro K hK
     have q1:ratL d.n (Zjp wt 0)=ratL d.n (ZaU wt):=ZaO fun u _=>by rw[Zri]
     refine ZcJ (fun(i:Nat)=>[(0,.lp I.p 0 0 0),(1,dI row),(3,dB true),(6,.lp nx 0 0 0),(8,.lp (nx+2) 0 0 0),(42,Zbr wt),(43,dI wt.length),(44,dI i)]) nx
      (fun i m1 nx1=>i≤wt.length∧nx+2<nx1∧m1 nx=some ⟨175,0,6,[cW ⟨wt,wk,ofQ q⟩],0,false⟩∧m1 (nx+1)=some (fB d.n (Zjp wt i))∧m1 (nx+2)=some ⟨227,0,5,[[dI (ofQ (-q)).p.s,Zad (ofQ (-q)).p.d,dI (ofQ (-q)).q.s,Zad (ofQ (-q)).q.d,.ls (nx+1) 1]],0,false⟩∧∀ id,id<nx→m1 id=m id) (fun i=>wt.length-i) 0 ?_ ?_ ?_ ?_
     ·refine⟨Yb0 _,hnx,?_,?_,?_,fun id h1=>?_⟩
      ·exact(Zab _ _ n4).trans eW
      ·exact(Zab _ _ n5).trans (by unfold fB;rw[q1];exact eA)
      ·exact Zac _ _ _
      ·exact(Zab _ _ (by omega)).trans (hfr id h1)
     ·rfl
     ·simp[go_sem]
     ·rintro i m2 nx2 ⟨hi2,hnx2,eW2,eA2,eL2,hfr2⟩
      obtain⟨hw,i0⟩:=ZaS i
      by_cases h2:(i:Int)<wt.length
      ·obtain⟨⟨tv,tf⟩,ht⟩:∃ e,wt[i]? =some e:=⟨_,Ya0 (by omega)⟩
       obtain⟨t0,t1,t2,t3⟩:=ZaY hr (ZaJ ht)
       obtain⟨r,rfl⟩:∃ r,tf=ofQ r:=⟨qOf tf,ZfK t2⟩
       have zr:(szF (ofQ r):Int)≤4194304:=sw.1.2 _ (ZaJ ht)
       rw[← ZcY t2,ZaM]at zr
       have k2:=Ziy r (by omega)
       have es:=ZvL (n:=d.n) hr ht t0
       simp only[ZaM]at es
       simp only at t0 t1
       have le:=Zb7 d.n (Zjp wt i)
       have x1:nx≠nx2:=by omega
       have x2:nx+1≠nx2:=by omega
       have x3:nx+2≠nx2:=by omega
       have gi:=Za1 (n:=d.n) (k:=tv.toNat) (Zjp wt i) (by omega)
       refine aGoM (cj4 Zr eW2 eA2 (cj4 eL2 h2 hw (cj4 i0 ht t0 (cj4 t1 es le (cj4 x1 x2 x3 (cj4 Yb0 n5 gi k2)))))) ?_
       repeat with_reducible intro K hK
       refine Zam (i+1) ?_ (by omega) rfl (by simp[go_sem])
       refine⟨by omega,Nat.lt_of_lt_of_le hnx2 (Nat.le_succ _),?_,?_,?_,fun id h=>?_⟩
       ·exact(Zab _ _ (by omega)).trans ((Zab _ _ (by omega)).trans ((Zab _ _ (by omega)).trans eW2))
       ·exact Zac _ _ _
       ·exact(Zab _ _ (by omega)).trans ((Zab _ _ (by omega)).trans ((Zab _ _ (by omega)).trans eL2))
       ·exact(Zab _ _ (by omega)).trans ((Zab _ _ (by omega)).trans ((Zab _ _ (by omega)).trans (hfr2 id h)))
      ·obtain rfl:i=wt.length:=by omega
       rw[ZsQ]at eA2
       have hD:Zfn fr m2 I d src:=h.keep fun id hi=>hfr2 id (lt id hi)
       clear hfr hD0 eW eA eL
       have y1:I.O≠nx2:=by have:=lt _ (.inr (.inr (.inr (.inl rfl))));omega
       have y2:I.p≠nx2:=by omega
       have y9:I.R≠nx2:=by have:=lt _ (.inr (.inl rfl));omega
       have y10:I.F≠nx2:=by have:=lt _ (.inr (.inr (.inr (.inr (.inr (.inl rfl))))));omega
       have y11:I.F≠nx2+1:=by have:=lt _ (.inr (.inr (.inr (.inr (.inr (.inl rfl))))));omega
       have y12:I.F≠nx2+2:=by have:=lt _ (.inr (.inr (.inr (.inr (.inr (.inl rfl))))));omega
       have y13:I.R≠nx2+1:=by have:=lt _ (.inr (.inl rfl));omega
       have y14:I.R≠nx2+2:=by have:=lt _ (.inr (.inl rfl));omega
       have y15:I.p≠nx2+1:=by omega
       have y16:I.p≠nx2+2:=by omega
       have y17:nx+2≠I.p:=by omega
       have y18:nx+2≠I.O:=by have:=lt _ (.inr (.inr (.inr (.inl rfl))));omega
       have y19:nx+2≠nx2:=by omega
       have y20:I.R≠I.p:=ap.pR.symm
       have y21:I.R≠I.O:=ap.RO
       have y22:I.F≠I.p:=ap.pF.symm
       have y23:I.F≠I.O:=ap.OF.symm
       have y24:I.F≠I.R:=ap.RF.symm
       have y25:=ap.pR
       have y26:=ap.pF
       have y3:=ap.pO
       have y27:=ap.RF
       have y4:IntKind.i64.wrap ((d.n:Int)+d.m)=((d.n+d.m:Nat):Int):=(ZaQ (by omega) (by omega)).trans (by omega)
       have y5:=Zi1 I d.m d.v
       have y6:=Zc5 d.m fun k=>[dI (d.own k)]
       have y60:=Zc5 d.m fun k=>[dI (src k).1,dB (src k).2]
       have y7:((d.m+1:Nat):Int)*8≤140737488355328:=by omega
       have y8:((d.m+1:Nat):Int)≤9007199254740992:=by omega
       have y70:((d.m+1:Nat):Int)*72≤140737488355328:=by omega
       have y80:((d.m+1:Nat):Int)*16≤140737488355328:=by omega
       refine aGoS (cj4 Zr eL2 h2 (cj4 hD.hp hD.hO hD.hR (cj4 hD.hF y1 y2 (cj4 y3 y4 y5 (cj4 y6 y7 y8 (cj3 eA2 trivial Yb0)))))) ?_
       repeat with_reducible intro K hK
       refine⟨by have:=lt _ (.inr (.inr (.inr (.inl rfl))));omega,by omega,?_⟩
       with_reducible apply useE
       with_reducible assumption
       exact Zcu [I.p,I.O,nx2,I.R] (by simp[y1,y2,y3,y25,y21,y9,y9.symm,y21.symm,y1.symm,y2.symm]) [([],[]),([],[]),([],[]),([],[]),([0],[]),([],[]),([],[]),([],[]),([0],[]),([],[]),([],[]),([],[]),([0],[]),([3],[]),([],[]),([2,2],[2]),([1,2,1],[1]),([],[]),([],[]),([0,0],[0])] rfl rfl (by kernel_rfl)
       exact Zaz rfl
       refine aGoS (cj4 Zr eL2 h2 (cj4 hD.hR hD.hF y2 (cj4 y9 y10 y11 (cj4 y12 y13 y14 (cj4 y15 y16 y17 (cj4 y18 y19 y20 (cj4 y21 y22 y23 (cj4 y24 y25 y26 (cj4 y5 y60 y70 (cj4 y80 y8 Yb0 y27)))))))))) ?_
       repeat with_reducible intro K hK
       refine⟨by have:=lt _ (.inr (.inl rfl));omega,by omega,by have:=lt _ (.inr (.inr (.inr (.inr (.inr (.inl rfl))))));omega,by omega,by omega,?_⟩
       with_reducible apply useE
       with_reducible assumption
       exact Zcu [I.p,nx+2,nx2+1,I.R,nx2+2,I.F] (by have lF:=lt _ (.inr (.inr (.inr (.inr (.inr (.inl rfl))))));have lR:=lt _ (.inr (.inl rfl));simp only[List.nodup_cons,List.mem_cons,List.not_mem_nil,not_or,or_false,List.nodup_nil,not_false_eq_true,and_true];omega) [([],[]),([],[]),([],[]),([],[]),([],[]),([0],[]),([1],[]),([2,2],[2]),([3,2,3],[3]),([],[]),([],[]),([],[]),([0],[]),([],[]),([],[]),([],[]),([4,4],[4]),([5,4,5],[5]),([],[]),([],[]),([0,0],[0]),([],[]),([],[]),([0,0],[0])] rfl rfl (by kernel_rfl)
       exact Zaz rfl
       have lO:=lt _ (.inr (.inr (.inr (.inl rfl))))
       have lF:=lt _ (.inr (.inr (.inr (.inr (.inr (.inl rfl))))))
       have lR:=lt _ (.inr (.inl rfl))
       refine aGoM (cj4 Zr y1 y2 (cj4 y9 y10 y11 (cj4 y12 y13 y14 (cj4 y15 y16 y20 (cj4 y21 y22 y23 (cj4 y24 y25 y26 (cj2 y3 y27))))))) ?_
       refine⟨h.add ap lt ⟨wt,wk,ofQ q⟩ row true (c:=fun u=> -ZaU wt u) (Q:=(-q)) ?_ ?_ ?_ ?_ ?_ (fun j _=>?_) ?_ (fun id g1 g2 g3 g4 g5=>?_),fun id g1 g2=>?_⟩
       ·simp only[Zau];repeat(first|rfl|rw[if_pos True.intro]|rw[if_neg (by omega)])
       ·simp only[Zau];repeat(first|rfl|rw[if_pos True.intro]|rw[if_neg (by omega)])
       ·simp only[Zau];repeat(first|rfl|rw[if_pos True.intro]|rw[if_neg (by omega)])
       ·simp only[Zau];repeat(first|rfl|rw[if_pos True.intro]|rw[if_neg (by omega)])
       ·simp only[Zau];repeat(rw[if_neg (by omega)])
        exact eA2
       ·rfl
       ·show -q = -(qOf (ofQ q));rw[ZaM]
       ·simp only[Zau];repeat(rw[if_neg (by omega)])
        exact hfr2 id g1
       ·have u1:id≠I.p:=fun e=>g2 (.inl e)
        have u2:id≠I.R:=fun e=>g2 (.inr (.inl e))
        have u3:id≠I.O:=fun e=>g2 (.inr (.inr (.inr (.inl e))))
        have u4:id≠I.F:=fun e=>g2 (.inr (.inr (.inr (.inr (.inr (.inl e))))))
        try simp only[Zau]
        repeat(rw[if_neg (by omega)])
        exact hfr2 id g1
def dicZ(n:Nat)(g:Nat→Rat):Dic:={m:=0,n:=n,own:=fun _=>0,free:=fun j=>j,v:=fun _=>0,a:=fun _ _=>0,g:=g,z:=0}
def addP(w:RowD)(row:Nat)(turned:Bool)(x:Dic×(Nat→Nat×Bool)):Dic×(Nat→Nat×Bool):=(Zd4 x.1 w turned,fun k=>if k=x.1.m then(row,turned)else x.2 k)
def putP(x:Dic×(Nat→Nat×Bool))(row:Nat)(w:RowD):Dic×(Nat→Nat×Bool) :=
 let y:=if w.k=0 then x else addP w row false x
 if w.k=1 then y else addP w row true y
def Zbu(g:Nat→Rat)(s:SysD):Nat→Dic×(Nat→Nat×Bool)
 | 0=>(dicZ s.n.toNat g,fun _=>(0,false))
 | k+1=>match s.r[k]? with
   | some w=>putP (Zbu g s k) k w
   | none=>Zbu g s k
theorem add_m(d:Dic)(w:RowD)(b:Bool):(Zd4 d w b).m=d.m+1:=rfl
theorem ZAU(x:Dic×(Nat→Nat×Bool))(row:Nat)(w:RowD):(putP x row w).1.n=x.1.n:=by
 unfold putP addP
 simp only
 split<;>split<;>rfl
theorem ZAV(x:Dic×(Nat→Nat×Bool))(row:Nat)(w:RowD):(putP x row w).1.m≤x.1.m+2:=by
 unfold putP addP
 simp only
 split<;>split<;>simp[add_m]
theorem ZjO(g:Nat→Rat)(s:SysD):∀ k,(Zbu g s k).1.n=s.n.toNat
 | 0=>rfl
 | k+1=>by
   simp only[Zbu]
   split
   ·rw[ZAU,ZjO]
   ·exact ZjO g s k
theorem ZlP(g:Nat→Rat)(s:SysD):∀ k,(Zbu g s k).1.m≤2*k
 | 0=>Ya4 _
 | k+1=>by
   have:=ZlP g s k
   simp only[Zbu]
   split
   ·rename_i w _;have:=ZAV (Zbu g s k) k w;omega
   ·omega
def ZaR(s:SysD)(goal:List Zag):Dic×(Nat→Nat×Bool):=Zbu (fun j=> -ZaU goal j) s s.r.length
def Zgv(l:List Zag)(i:Nat)(u:Nat):Rat:= -ZaU (l.take i) u
theorem Zw3{l:List Zag}{n:Nat}{N:Int}(h:Zai l N=true){i:Nat}{t:Zag}(ht:l[i]? =some t)(h0:0≤t.v) :
 (ratL n (Zgv l i)).set t.v.toNat (cF (ofQ (-qOf t.f)))=ratL n (Zgv l (i+1)):=by
 rw[Zdp]
 refine ZaO fun u _=>?_
 unfold Zgv
 rw[ZeV ht h0]
 by_cases e:u=t.v.toNat
 ·subst e;rw[if_pos rfl,if_pos rfl,Zd1 h ht h0];grind
 ·rw[if_neg e,if_neg e];grind
theorem Zgz.add{I:Ids}{m x:Nat}(ap:Zgz I m)(hp:x≠I.p)(hR:x≠I.R)(hG:x≠I.G)(hO:x≠I.O)(hFr:x≠I.Fr)(hF:x≠I.F)(hA:∀ k,k<m→x≠I.A k):Zgz (ZgF I m x) (m+1):=by
 have key:∀ (y:Nat),x≠y→(∀ k,k<m→I.A k≠y)→∀ k,k<m+1→(ZgF I m x).A k≠y:=by
  intro y h1 h2 k hk
  simp only[ZgF]
  by_cases e:k=m
  ·rw[if_pos e];exact h1
  ·rw[if_neg e];exact h2 k (by omega)
 refine⟨ap.pR,ap.pG,ap.pO,ap.pFr,ap.pF,ap.RG,ap.RO,ap.RFr,ap.RF,ap.GO,ap.GFr,ap.GF,ap.OFr,ap.OF,ap.FrF,key _ hp ap.Ap,key _ hR ap.AR,key _ hG ap.AG,key _ hO ap.AO,key _ hFr ap.AFr,key _ hF ap.AF,?_⟩
 intro k l hk hl hkl
 simp only[ZgF]
 by_cases e:k=m
 ·rw[if_pos e,if_neg (by omega)];exact hA l (by omega)
 ·rw[if_neg e]
  by_cases e2:l=m
  ·rw[if_pos e2];exact(hA k (by omega)).symm
  ·rw[if_neg e2];exact ap.AA k l (by omega) (by omega) hkl
abbrev opI(nx:Nat)(A:Nat→Nat)(vR vO vFr vF:Nat):Ids:=⟨nx+2,nx+3,nx+1,nx+4,nx+5,nx+6,A,vR,vO,vFr,vF⟩
def Zfv(nx v:Nat)(fr:List (List D))(b:Nat)(m:Mem)(x:Dic×(Nat→Nat×Bool)):Prop :=
 ∃ A vR vO vF,Zfn fr m (opI nx A vR vO v vF) x.1 x.2∧Zgz (opI nx A vR vO v vF) x.1.m∧nx+6<b∧∀ k,k<x.1.m→nx+6<A k∧A k<b
theorem ZtQ{nx:Nat}{A:Nat→Nat}{vR vO vFr vF b M:Nat}(hb:nx+6<b)(h:∀ k,k<M→nx+6<A k∧A k<b){id:Nat}(hi:inD (opI nx A vR vO vFr vF) M id):nx<id∧id<b:=by
 rcases hi with rfl|rfl|rfl|rfl|rfl|rfl|⟨k,hk,rfl⟩
 ·exact⟨by show nx<nx+2;omega,by show nx+2<b;omega⟩
 ·exact⟨by show nx<nx+3;omega,by show nx+3<b;omega⟩
 ·exact⟨by show nx<nx+1;omega,by show nx+1<b;omega⟩
 ·exact⟨by show nx<nx+4;omega,by show nx+4<b;omega⟩
 ·exact⟨by show nx<nx+5;omega,by show nx+5<b;omega⟩
 ·exact⟨by show nx<nx+6;omega,by show nx+6<b;omega⟩
 ·have:=h k hk;exact⟨by show nx<A k;omega,by show A k<b;omega⟩
theorem Zwh[Ifl]{nx v:Nat}{fr:List (List D)}{b:Nat}{m:Mem}{x:Dic×(Nat→Nat×Bool)}(h:Zfv nx v fr b m x){nc:Nat}(hb:b≤nc)(row:Nat)(w:RowD)(turned:Bool)(hm:(x.1.m:Int)≤4000)(hn:(x.1.n:Int)≤4000)(hrow:(row:Int)≤4096)
 (hr:Zai w.t x.1.n=true) (hv:okF w.v=true) (sw:smW w) :
 Zar Tryz.prog 154 [.lp (nx+2) 0 0 0,dI row,encW w,dB turned] m nc fun d' m' nx'=>d'=oneD []∧nc≤nx'∧Zfv nx v fr nx' m' (addP w row turned x)∧∀ id,id<nc→(id≤nx∨b≤id)→m' id=m id:=by
 obtain⟨A,vR,vO,vF,h1,h2,h3,h4⟩:=h
 refine(put_a (nx:=nc) h1 h2 row w turned hm hn hrow hr hv sw).mono ?_
 rintro d' m' nx' ⟨rfl,g1,g2,g3⟩
 refine⟨rfl,by omega,⟨_,_,_,_,g2,?_,by omega,fun k hk=>?_⟩,fun id i1 i2=>g3 id i1 fun hi=>?_⟩
 ·refine h2.add ?_ ?_ ?_ ?_ ?_ ?_ fun k hk=>?_
  ·show nc+1≠nx+2;omega
  ·show nc+1≠nx+3;omega
  ·show nc+1≠nx+1;omega
  ·show nc+1≠nx+4;omega
  ·show nc+1≠nx+5;omega
  ·show nc+1≠nx+6;omega
  ·have:=h4 k hk;show nc+1≠A k;omega
 ·show nx+6<(if k=x.1.m then nc+1 else A k)∧(if k=x.1.m then nc+1 else A k)<nx'
  by_cases e:k=x.1.m
  ·rw[if_pos e];omega
  ·rw[if_neg e]
   have hk2:k<x.1.m+1:=hk
   have:=h4 k (by omega)
   omega
 ·have:=ZtQ h3 h4 hi
  omega
theorem Zfv.keep{nx v:Nat}{fr:List (List D)}{b b':Nat}{m m':Mem}{x:Dic×(Nat→Nat×Bool)}(h:Zfv nx v fr b m x)(hb:b≤b')(hk:∀ id,nx<id→id<b→m' id=m id):Zfv nx v fr b' m' x:=by
 obtain⟨A,vR,vO,vF,h1,h2,h3,h4⟩:=h
 exact⟨A,vR,vO,vF,h1.keep fun id hi=>by have:=ZtQ h3 h4 hi;exact hk id this.1 this.2,h2,by omega,fun k hk=>by have:=h4 k hk;omega⟩
def setG(x:Dic×(Nat→Nat×Bool))(g:Nat→Rat):Dic×(Nat→Nat×Bool):=({x.1 with g:=g},x.2)
theorem Zfv.g{nx v:Nat}{fr:List (List D)}{b:Nat}{m:Mem}{x:Dic×(Nat→Nat×Bool)}(h:Zfv nx v fr b m x){g:Nat→Rat}(hg:∀ j,j<x.1.n→g j=x.1.g j):Zfv nx v fr b m (setG x g):=by
 obtain⟨A,vR,vO,vF,h1,h2,h3,h4⟩:=h
 refine⟨A,vR,vO,vF,⟨h1.hp,h1.hR,?_,h1.hO,h1.hFr,h1.hF,h1.hA⟩,h2,h3,h4⟩
 have:=h1.hG
 unfold fB at this ⊢
 show _=some (Blk.mk _ _ _ (ratL x.1.n g) _ _)
 rw[ZaO hg];exact this
theorem Zfn.upto{fr fr':List (List D)}{m m':Mem}{nx:Nat}{A:Nat→Nat}{vR vO v v' vF b:Nat}{d:Dic}{src:Nat→Nat×Bool}(h:Zfn fr m (opI nx A vR vO v vF) d src){g:Nat→Rat}
 (hp:m' (nx+2)=some (pB (opI nx A vR vO v' vF) d.n)) (hG:m' (nx+1)=some (fB d.n g)) (hFr:m' (nx+5)=some ⟨3,v',1,fr',0,false⟩) (hk:∀ id,id<b→id≠nx+2→id≠nx+1→id≠nx+5→m' id=m id)
 (hb:nx+6<b) (hA:∀ k,k<d.m→nx+6<A k∧A k<b):Zfn fr' m' (opI nx A vR vO v' vF) {d with g:=g} src :=
 ⟨hp,(hk (nx+3) (by omega) (by omega) (by omega) (by omega)).trans h.hR,hG,(hk (nx+4) (by omega) (by omega) (by omega) (by omega)).trans h.hO,hFr,(hk (nx+6) (by omega) (by omega) (by omega) (by omega)).trans h.hF,
   fun k hk'=>(hk (A k) (hA k hk').2 (by have:=hA k hk';omega) (by have:=hA k hk';omega) (by have:=hA k hk';omega)).trans (h.hA k hk')⟩
theorem ZuF(j:Nat):(tabL j fun i=>[dI (i:Int)])++[[dI (j:Int)]]=tabL (j+1) fun i=>[dI (i:Int)]:=(ZiZ j _).symm
theorem ZoY(g g':Nat→Rat)(s:SysD):∀ k,Zbu g s k=setG (Zbu g' s k) g
 | 0=>rfl
 | k+1=>by
   simp only[Zbu]
   split
   ·rename_i w _
    rw[ZoY g g' s k]
    unfold putP
    simp only
    split<;>split<;>rfl
   ·exact ZoY g g' s k
theorem Zf9(g:Nat→Rat)(s:SysD):∀ k,(Zbu g s k).1.free=fun j=>j
 | 0=>rfl
 | k+1=>by
   simp only[Zbu]
   split
   ·rename_i w _
    have:=Zf9 g s k
    unfold putP
    simp only
    split<;>split<;>exact this
   ·exact Zf9 g s k
theorem Zhj(g:Nat→Rat)(s:SysD):∀ k,(Zbu g s k).1.g=g
 | 0=>rfl
 | k+1=>by
   simp only[Zbu]
   split
   ·rename_i w _
    have:=Zhj g s k
    unfold putP
    simp only
    split<;>split<;>exact this
   ·exact Zhj g s k
theorem Zqj(s:SysD)(goal:List Zag):ZaR s goal=setG (Zbu (fun _=>0) s s.r.length) (Zgv goal goal.length):=by
 have e:Zgv goal goal.length=fun j=> -ZaU goal j:=by funext u;unfold Zgv;rw[Yc2]
 rw[e]
 exact ZoY _ _ _ _
theorem ZxZ[Ifl](s:SysD)(goal:List Zag)(m:Mem)(nx:Nat)(hr:Zao s=true)(hg:Zai goal s.n=true)(hs:smS s)(hgs:smT goal)(hl:(s.r.length:Int)≤1900) :
 Zar Tryz.prog 108 [encS s,Zbr goal] m nx fun d' m' nx'=>∃ I:Ids,d' = .lp I.p 0 0 0∧nx≤nx'∧Za2 m' I (ZaR s goal).1 (ZaR s goal).2∧Zgz I (ZaR s goal).1.m∧(∀ id,inD I (ZaR s goal).1.m id→nx≤id)∧∀ id,id<nx→m' id=m id:=by
 obtain⟨sn,sr⟩:=s
 obtain⟨n,rfl⟩:∃ n:Nat,sn=n:=⟨sn.toNat,by simp only[Zao,Ya2,decide_eq_true_eq]at hr;have:=hr.1.1.1;omega⟩
 have hl':(sr.length:Int)≤1900:=hl
 have hn:(n:Int)≤1500:=by simp only[Zao,Ya2,decide_eq_true_eq]at hr;exact hr.1.1.2
 refine Zar.cl ⟨_,_,Tryz.func108,rfl,by kernel_rfl⟩ fun hcl=>?_
 have Zr:=Tryz.results108
 refine inA Tryz.func108 rfl Tryz.ntmps108 ?_
 refine aGoM (cj2 Zr ZaP) ?_
 repeat(first|(guard_target =~ ∀ _:St→Prop,_;intro KJ hJ)|(guard_target =~ ∀ _:List Ev→St→Prop,_;intro K hK))
 refine Za3 (ZsF n _ _ (by omega) ((Zab _ _ (by omega)).trans (hcl.none (by omega)))) ?_
 refine aGoS (cj2 Zr ZaP) ?_
 repeat(first|(guard_target =~ ∀ _:St→Prop,_;intro KJ hJ)|(guard_target =~ ∀ _:List Ev→St→Prop,_;intro K hK))
 have n0:nx≠nx+1:=by omega
 have n4:nx≠nx+2:=by omega
 have n5:nx+1≠nx+2:=by omega
 with_reducible apply useE
 with_reducible assumption
 exact Zcu [nx,nx+1,nx+2] (by simp) [([],[]),([0],[]),([],[]),([0],[]),([1],[1]),([],[]),([2,2],[2]),([],[])] rfl rfl (by kernel_rfl)
 exact Zaz rfl
 refine hJ _ ?_
 refine aLe (Zdz (nx+2) 0 1 227 5 (Zac _ _ _) rfl rfl) ?_
 refine aLe (Zdz (nx+2) 0 3 3 1 (Zac _ _ _) rfl rfl) ?_
 refine aLe (Zdz (nx+2) 0 4 3 1 (Zac _ _ _) rfl rfl) ?_
 refine aLe (Zdz (nx+2) 0 5 251 2 (Zac _ _ _) rfl rfl) ?_
 have n6:nx≠nx+3:=by omega
 have n7:nx≠nx+4:=by omega
 have n8:nx≠nx+5:=by omega
 have n9:nx≠nx+6:=by omega
 refine aGoM (cj4 Zr ZaP n0 (cj4 n4 n5 n6 (cj3 n7 n8 n9))) ?_
 repeat(first|(guard_target =~ ∀ _:St→Prop,_;intro KJ hJ)|(guard_target =~ ∀ _:List Ev→St→Prop,_;intro K hK))
 refine ZcJ (fun(i:Nat)=>[(1,Zbr goal),(2,.lp nx 0 0 0),(5,.lp (nx+2) 0 0 0),(19,Zsm sr),(20,dI sr.length),(21,dI i)]) nx
  (fun i m1 nx1=>i≤sr.length∧m1 nx=some ⟨88,0,2,[cS ⟨n,sr⟩],0,false⟩∧(∀ id,id<nx→m1 id=m id)∧Zfv nx 0 [] nx1 m1 (Zbu (fun _=>0) ⟨n,sr⟩ i)) (fun i=>sr.length-i) 0 ?_ ?_ ?_ ?_
 ·refine⟨Yb0 _,?_,fun id h1=>?_,⟨fun _=>0,0,0,0,⟨?_,?_,?_,?_,?_,?_,fun k hk=>absurd hk (Nat.not_lt_zero _)⟩,?_,?_,fun k hk=>absurd hk (Nat.not_lt_zero _)⟩⟩
  ·dsimp only
   simp only[Zau]
   repeat(first|rw[if_pos trivial]|rw[if_neg (by omega)])
  ·dsimp only
   simp only[Zau]
   repeat(rw[if_neg (by omega)])
  ·simp[Zau,Zbu,dicZ]
  ·simp[Zau,Zbu,dicZ,Zh4,tabL]
  ·simp[Zau,Zbu,dicZ]
  ·simp[Zau,Zbu,dicZ,tabL]
  ·simp[Zau,Zbu,dicZ,tabL]
  ·simp[Zau,Zbu,dicZ,tabL]
  ·constructor<;>first|(intro k hk;exact absurd hk (Nat.not_lt_zero _))|(intro k l hk;exact absurd hk (Nat.not_lt_zero _))|simp
  ·show nx+6<nx+7;omega
 ·rfl
 ·simp[go_sem]
 ·rintro i m1 nx1 ⟨hi,eS,hfr,hO⟩
  obtain⟨hw,i0⟩:=ZaS i
  by_cases h1:(i:Int)<sr.length
  ·obtain⟨w,hwi⟩:=getE (l:=sr) (k:=i) (by omega)
   have x1:nx≠nx1:=by obtain⟨_,_,_,_,_,_,h,_⟩:=hO;omega
   have hO1:Zfv nx 0 [] nx1 (upd (upd m1 nx1 (some ⟨175,0,6,[[.nil,dI 0,dI 0,.nil,dI 0,.nil]],0,false⟩)) nx1 (some ⟨175,0,6,[cW w],0,false⟩)) (Zbu (fun _=>0) ⟨n,sr⟩ i) :=
    hO.keep (Ya4 _) fun id g1 g2=>(Zab _ _ (by omega)).trans (Zab _ _ (by omega))
   have hK1:Zbu (fun _=>0) ⟨n,sr⟩ (i+1)=putP (Zbu (fun _=>0) ⟨n,sr⟩ i) i w:=by simp only[Zbu,hwi]
   have hx1:=ZjO (fun _=>0) ⟨n,sr⟩ i
   have hx2:=ZlP (fun _=>0) ⟨n,sr⟩ i
   simp only[Int.toNat_natCast]at hx1
   have hrw:=ZbC hr (ZaJ hwi)
   simp only[Int.toNat_natCast]at hrw
   have sw:=hs.2 w (ZaJ hwi)
   have hrt:Zai w.t ((Zbu (fun _=>0) ⟨n,sr⟩ i).1.n:Nat)=true:=by rw[hx1];exact hrw.1
   have x0:nx<nx1:=by obtain⟨_,_,_,_,_,_,h,_⟩:=hO;omega
   by_cases k0:w.k=0
   ·have t1:(w.k !=0)=false:=by simp[k0]
    have t2:(w.k !=1)=true:=by simp[k0]
    refine aGoM (cj4 Zr eS hwi (cj4 h1 hw i0 (cj4 t1 t2 x1 trivial))) ?_
    repeat with_reducible intro K hK
    refine ZaD (Zwh hO1 (Nat.le_succ _) i w true (by omega) (by omega) (by omega) hrt hrw.2.2.2 sw) ?_
    rintro _ m2 nx2 ⟨rfl,g1,g2,g3⟩
    refine aGoM (cj4 Zr hw i0 trivial) ?_
    repeat with_reducible intro K hK
    refine Zam (i+1) ⟨by omega,?_,fun id h=>?_,?_⟩ (by omega) rfl (by simp[go_sem])
    ·exact(g3 nx (by omega) (.inl (Ya4 _))).trans ((Zab _ _ x1).trans ((Zab _ _ x1).trans eS))
    ·exact(g3 id (by omega) (.inl (by omega))).trans ((Zab _ _ (by omega)).trans ((Zab _ _ (by omega)).trans (hfr id h)))
    ·rw[hK1];unfold putP;simp only[k0];exact g2
   ·have t1:(w.k !=0)=true:=by simp[k0]
    by_cases k1:w.k=1
    ·have t2:(w.k !=1)=false:=by simp[k1]
     refine aGoM (cj4 Zr eS hwi (cj4 h1 hw i0 (cj4 t1 t2 x1 trivial))) ?_
     repeat with_reducible intro K hK
     refine ZaD (Zwh hO1 (Nat.le_succ _) i w false (by omega) (by omega) (by omega) hrt hrw.2.2.2 sw) ?_
     rintro _ m2 nx2 ⟨rfl,g1,g2,g3⟩
     have r1:m2 nx1=some ⟨175,0,6,[cW w],0,false⟩:=(g3 nx1 (Nat.lt_succ_self _) (.inr (Ya4 _))).trans (Zac _ _ _)
     refine aGoM (cj4 Zr hw i0 (cj3 r1 t2 trivial)) ?_
     repeat with_reducible intro K hK
     refine Zam (i+1) ⟨by omega,?_,fun id h=>?_,?_⟩ (by omega) rfl (by simp[go_sem])
     ·exact(g3 nx (by omega) (.inl (Ya4 _))).trans ((Zab _ _ x1).trans ((Zab _ _ x1).trans eS))
     ·exact(g3 id (by omega) (.inl (by omega))).trans ((Zab _ _ (by omega)).trans ((Zab _ _ (by omega)).trans (hfr id h)))
     ·rw[hK1];unfold putP;simp only[k1];rw[if_pos trivial,if_neg (by decide)];exact g2
    ·have t2:(w.k !=1)=true:=by simp[k1]
     refine aGoM (cj4 Zr eS hwi (cj4 h1 hw i0 (cj4 t1 t2 x1 trivial))) ?_
     repeat with_reducible intro K hK
     refine ZaD (Zwh hO1 (Nat.le_succ _) i w false (by omega) (by omega) (by omega) hrt hrw.2.2.2 sw) ?_
     rintro _ m2 nx2 ⟨rfl,g1,g2,g3⟩
     have r1:m2 nx1=some ⟨175,0,6,[cW w],0,false⟩:=(g3 nx1 (Nat.lt_succ_self _) (.inr (Ya4 _))).trans (Zac _ _ _)
     refine aGoM (cj4 Zr hw i0 (cj3 r1 t2 trivial)) ?_
     repeat with_reducible intro K hK
     refine ZaD (Zwh g2 (Ya4 _) i w true (by show(((Zbu (fun _=>0) ⟨n,sr⟩ i).1.m+1:Nat):Int)≤4000;omega) (by show(((Zbu (fun _=>0) ⟨n,sr⟩ i).1.n:Nat):Int)≤4000;omega) (by omega) hrt hrw.2.2.2 sw) ?_
     rintro _ m3 nx3 ⟨rfl,f1,f2,f3⟩
     refine aGoM (cj4 Zr hw i0 trivial) ?_
     repeat with_reducible intro K hK
     refine Zam (i+1) ⟨by omega,?_,fun id h=>?_,?_⟩ (by omega) rfl (by simp[go_sem])
     ·exact(f3 nx (by omega) (.inl (Ya4 _))).trans ((g3 nx (by omega) (.inl (Ya4 _))).trans ((Zab _ _ x1).trans ((Zab _ _ x1).trans eS)))
     ·exact(f3 id (by omega) (.inl (by omega))).trans ((g3 id (by omega) (.inl (by omega))).trans ((Zab _ _ (by omega)).trans ((Zab _ _ (by omega)).trans (hfr id h))))
     ·rw[hK1];unfold putP;simp only[if_neg k0,if_neg k1];exact f2
  ·obtain rfl:i=sr.length:=by omega
   have hx1:=ZjO (fun _=>0) ⟨n,sr⟩ sr.length
   have hx2:=ZlP (fun _=>0) ⟨n,sr⟩ sr.length
   simp only[Int.toNat_natCast]at hx1
   have hfree:=Zf9 (fun _=>0) ⟨n,sr⟩ sr.length
   have hgg:=Zhj (fun _=>0) ⟨n,sr⟩ sr.length
   have hoD:=Zqj ⟨n,sr⟩ goal
   simp only at hoD
   generalize hD0:Zbu (fun _=>0) ⟨n,sr⟩ sr.length=D0 at hO hx1 hx2 hfree hgg hoD
   have hg0:∀ j,j<D0.1.n→Zgv goal 0 j=D0.1.g j:=fun j _=>by rw[hgg];unfold Zgv;simp only[List.take_zero,ZaU,dotS];grind
   have lg:(goal.length:Int)≤4096:=hgs.1
   refine aGoM (cj4 Zr hfr h1 trivial) ?_
   repeat with_reducible intro K hK
   refine ZcJ (fun(i:Nat)=>[(2,.lp nx 0 0 0),(5,.lp (nx+2) 0 0 0),(41,Zbr goal),(42,dI goal.length),(43,dI i)]) nx
    (fun i m1 nx1=>i≤goal.length∧m1 nx=some ⟨88,0,2,[cS ⟨n,sr⟩],0,false⟩∧(∀ id,id<nx→m1 id=m id)∧Zfv nx 0 [] nx1 m1 (setG D0 (Zgv goal i))) (fun i=>goal.length-i) 0 ?_ ?_ ?_ ?_
   ·exact⟨Yb0 _,eS,hfr,hO.g hg0⟩
   ·rfl
   ·simp[go_sem]
   ·clear hO eS hfr hJ hi hw i0 h1
    rintro i m2 nx2 ⟨hi,eS,hfr,A,vR,vO,vF,h1,h2,h3,h4⟩
    obtain⟨hw,i0⟩:=ZaS i
    have hp:=h1.hp
    have hG:=h1.hG
    have hF:=h1.hFr
    simp only[setG,hx1]at hp hG hF
    by_cases g1:(i:Int)<goal.length
    ·obtain⟨⟨tv,tf⟩,ht⟩:∃ e,goal[i]? =some e:=⟨_,Ya0 (by omega)⟩
     obtain⟨t0,t1,t2,t3⟩:=ZaY hg (ZaJ ht)
     obtain⟨r,rfl⟩:∃ r,tf=ofQ r:=⟨qOf tf,ZfK t2⟩
     have zr:(szF (ofQ r):Int)≤4194304:=hgs.2 _ (ZaJ ht)
     rw[← ZcY t2,ZaM]at zr
     have k2:=Ziy r (by omega)
     have es:=Zw3 (n:=n) hg ht t0
     simp only[ZaM]at es
     simp only at t0 t1
     have le:=Zb7 n (Zgv goal i)
     have x1:nx≠nx2:=by omega
     have x2:nx+1≠nx2:=by omega
     have x3:nx+2≠nx2:=by omega
     have gi:=Za1 (n:=n) (k:=tv.toNat) (Zgv goal i) (by omega)
     refine aGoM (cj4 Zr hp hG (cj4 ht g1 hw (cj4 i0 t0 t1 (cj4 es le gi (cj4 x1 x2 x3 (cj4 k2 ZaP n5 Yb0)))))) ?_
     repeat with_reducible intro K hK
     refine Zam (i+1) ⟨by omega,?_,fun id h=>?_,?_⟩ (by omega) rfl (by simp[go_sem])
     ·exact(Zab _ _ (by omega)).trans ((Zab _ _ x1).trans ((Zab _ _ x1).trans eS))
     ·exact(Zab _ _ (by omega)).trans ((Zab _ _ (by omega)).trans ((Zab _ _ (by omega)).trans (hfr id h)))
     ·refine⟨A,vR,vO,vF,h1.upto (b:=nx2) (g:=Zgv goal (i+1)) ?_ ?_ ?_ (fun id q1 q2 q3 q4=>?_) h3 h4,h2,Nat.lt_succ_of_lt h3,fun k hk=>⟨(h4 k hk).1,Nat.lt_succ_of_lt (h4 k hk).2⟩⟩
      ·exact(Zab _ _ (by omega)).trans ((Zab _ _ x3).trans ((Zab _ _ x3).trans h1.hp))
      ·refine(Zac _ _ _).trans ?_
       simp only[setG,hx1]
      ·exact(Zab _ _ (by omega)).trans ((Zab _ _ (by omega)).trans ((Zab _ _ (by omega)).trans h1.hFr))
      ·exact(Zab _ _ q3).trans ((Zab _ _ (by omega)).trans (Zab _ _ (by omega)))
    ·obtain rfl:i=goal.length:=by omega
     refine aGoM (cj4 Zr eS g1 trivial) ?_
     repeat with_reducible intro K hK
     refine ZcJ (fun(i:Nat)=>[(5,.lp (nx+2) 0 0 0),(59,dI n),(60,dI i)]) nx
      (fun i m1 nx1=>i≤n∧(∀ id,id<nx→m1 id=m id)∧Zfv nx i (tabL i fun j=>[dI j]) nx1 m1 (setG D0 (Zgv goal goal.length))) (fun i=>n-i) 0 ?_ ?_ ?_ ?_
     ·exact⟨Yb0 _,hfr,A,vR,vO,vF,h1,h2,h3,h4⟩
     ·rfl
     ·simp[go_sem]
     ·clear hfr h1 h2 h3 h4 hp hG hF eS hw i0 g1
      rintro i m3 nx3 ⟨hi3,hfr,A,vR,vO,vF,h1,h2,h3,h4⟩
      obtain⟨hw,i0⟩:=ZaS i
      have hp:=h1.hp
      have hG:=h1.hG
      have hF:=h1.hFr
      simp only[setG,hx1]at hp hG hF
      by_cases g1:(i:Int)<n
      ·have fs:=ZuF i
       have x1:nx+5≠nx3:=by omega
       have x2:nx+2≠nx3:=by omega
       have x3:nx+2≠nx+5:=by omega
       have lf:=Zc5 i fun j=>[dI (j:Int)]
       have y7:((i+1:Nat):Int)*8≤140737488355328:=by omega
       have y8:((i+1:Nat):Int)≤9007199254740992:=by omega
       refine aGoM (cj4 Zr hp hF (cj4 g1 hw i0 (cj4 fs lf x1 (cj4 x2 x3 y7 (cj3 y8 ZaP Yb0))))) ?_
       repeat with_reducible intro K hK
       refine Zam (i+1) ⟨by omega,fun id h=>?_,A,vR,vO,vF,h1.upto (b:=nx3) (g:=Zgv goal goal.length) ?_ ?_ ?_ (fun id q1 q2 q3 q4=>?_) h3 h4,(by cases h2;constructor<;>assumption),Nat.lt_succ_of_lt h3,fun k hk=>⟨(h4 k hk).1,Nat.lt_succ_of_lt (h4 k hk).2⟩⟩ (by omega) rfl (by simp[go_sem])
       ·dsimp only
        simp only[Zau]
        repeat(rw[if_neg (by omega)])
        exact hfr id h
       ·refine(Zac _ _ _).trans ?_
        simp only[setG,hx1]
       ·refine Eq.trans ?_ h1.hG
        dsimp only
        simp only[Zau]
        repeat(rw[if_neg (by omega)])
       ·exact(Zab _ _ (by omega)).trans (Zac _ _ _)
       ·exact(Zab _ _ q2).trans ((Zab _ _ q4).trans (Zab _ _ (by omega)))
      ·obtain rfl:i=n:=by omega
       refine aGoM (cj4 Zr hp hF (cj2 g1 ZaP)) ?_
       repeat with_reducible intro K hK
       rw[hoD]
       refine⟨opI nx A vR vO i vF,rfl,by omega,Zfn.at ?_,h2,fun id hi=>Nat.le_of_lt (ZtQ h3 h4 hi).1,hfr⟩
       have e:(tabL (setG D0 (Zgv goal goal.length)).1.n fun j=>[dI ((setG D0 (Zgv goal goal.length)).1.free j:Int)])=tabL i fun j=>[dI (j:Int)]:=by
        show(tabL D0.1.n fun j=>[dI (D0.1.free j:Int)])=_
        rw[hx1,hfree]
       rw[e];exact h1
def Zv6(d:Dic):List (List D):=tabL d.m fun k=>cF (ofQ (d.v k))++[.sl (ratL d.n (d.a k))]
abbrev Zc1(d:Dic)(src:Nat→Nat×Bool):D :=
 .ep [[dI d.n,.sl (Zv6 d),.sl (ratL d.n d.g),.sl (tabL d.m fun i=>[dI (d.own i)]),.sl (tabL d.n fun j=>[dI (d.free j)]),.sl (tabL d.m fun i=>[dI (src i).1,dB (src i).2])]] 0 0
theorem Zhb(d:Dic){k:Nat}(h:k<d.m):(Zv6 d)[k]? =some [dI (ofQ (d.v k)).p.s,Zad (ofQ (d.v k)).p.d,dI (ofQ (d.v k)).q.s,Zad (ofQ (d.v k)).q.d,.sl (ratL d.n (d.a k))]:=ZbA _ h
theorem ZiE(all:Bool)(m:Mem)(k n:Nat)(c:Nat→Rat):(ratL n c).map (List.map (fzT all m (k+1)))=ratL n c:=by
 unfold ratL tabL
 rw[List.map_map]
 exact List.map_congr_left fun u _=>rfl
def ZaV(d:Dic):Nat→Nat→Rat
 | 0=>fun _=>0
 | i+1=>fun u=>if d.own i<d.n∧u=d.own i then d.v i else ZaV d i u
theorem ZtG(d:Dic){i:Nat}(h:d.own i<d.n):(ratL d.n (ZaV d i)).set (d.own i) (cF (ofQ (d.v i)))=ratL d.n (ZaV d (i+1)):=by
 rw[Zdp]
 refine ZaO fun u _=>?_
 simp only[ZaV]
 by_cases e:u=d.own i
 ·rw[if_pos e,if_pos ⟨h,e⟩]
 ·rw[if_neg e,if_neg (fun h2=>e h2.2)]
theorem ZrX(d:Dic){i:Nat}(h:¬ d.own i<d.n):ZaV d (i+1)=ZaV d i:=by
 funext u
 simp only[ZaV]
 rw[if_neg (fun h2=>h h2.1)]
theorem ZoT(d:Dic)(src:Nat→Nat×Bool)(hm:(d.m:Int)≤4096)(hn:(d.n:Int)≤4096):Zaa Tryz.prog 110 [Zc1 d src] (.sl (ratL d.n (ZaV d d.m))):=by
 refine Zaa.ofA (fun I=>?_)
 have Zr:=Tryz.results110
 refine inA Tryz.func110 rfl Tryz.ntmps110 ?_
 refine aGoM (cj2 Zr ZaP) ?_
 repeat with_reducible intro K hK
 refine ZaD (Zar.made (Znk d.n _) (Zjk d.n _ _ hn)) ?_
 rintro _ _ _ ⟨rfl,rfl,rfl⟩
 have lo:=Zc5 d.m fun i=>[dI (d.own i)]
 refine aGoM (cj3 Zr ZaP lo) ?_
 repeat with_reducible intro K hK
 refine ZcJ (fun(i:Nat)=>[(0,Zc1 d src),(3,.ls 0 1),(14,.sl (tabL d.m fun i=>[dI (d.own i)])),(15,dI d.m),(16,dI i)]) 0
  (fun i m1 nx1=>i≤d.m∧0<nx1∧m1 0=some (fB d.n (ZaV d i))) (fun i=>d.m-i) 0 ?_ ?_ ?_ ?_
 ·exact⟨Yb0 _,Nat.zero_lt_one,by dsimp only;rw[Zac];try rfl⟩
 ·rfl
 ·simp[go_sem]
 ·rintro i m1 nx1 ⟨hi,hnx,eX⟩
  obtain⟨hw,i0⟩:=ZaS i
  by_cases h1:(i:Int)<d.m
  ·have him:i<d.m:=by omega
   have go:=ZbA (fun i=>[dI (d.own i)]) him
   have gr:=Zhb d him
   by_cases h2:(d.own i:Int)<d.n
   ·have es:=ZtG d (i:=i) (by omega)
    have o0:(0:Int)≤d.own i:=by omega
    have lx:=Zb7 d.n (ZaV d i)
    have gx:=Za1 (ZaV d i) (n:=d.n) (k:=d.own i) (by omega)
    refine aGoM (cj4 Zr ZaP eX (cj4 h1 hw i0 (cj4 go gr h2 (cj4 es o0 lx (cj2 gx Yb0))))) ?_
    repeat with_reducible intro K hK
    exact Zam (i+1) ⟨by omega,by show 0<nx1;omega,by dsimp only;rw[Zac]⟩ (by omega) rfl (by simp[go_sem])
   ·refine aGoM (cj4 Zr ZaP eX (cj4 h1 hw i0 (cj2 go h2))) ?_
    repeat with_reducible intro K hK
    refine Zam (i+1) ⟨by omega,by show 0<nx1;omega,?_⟩ (by omega) rfl (by simp[go_sem])
    rw[ZrX d (by omega)];exact eX
  ·obtain rfl:i=d.m:=by omega
   refine aGoM (cj4 Zr ZaP eX h1) ?_
   repeat with_reducible intro K hK
   simp only[fzT,ZbJ,eX,if_pos,Bool.true_or,ZiE]
def rayK(d:Dic)(s:Nat):Nat→Nat→Rat
 | 0=>fun u=>if d.free s<d.n∧u=d.free s then 1 else 0
 | i+1=>fun u=>if d.own i<d.n∧u=d.own i then -d.a i s else rayK d s i u
theorem Ztz(d:Dic)(s:Nat){i:Nat}(h:d.own i<d.n):(ratL d.n (rayK d s i)).set (d.own i) (cF (ofQ (-d.a i s)))=ratL d.n (rayK d s (i+1)):=by
 rw[Zdp]
 refine ZaO fun u _=>?_
 simp only[rayK]
 by_cases e:u=d.own i
 ·rw[if_pos e,if_pos ⟨h,e⟩]
 ·rw[if_neg e,if_neg (fun h2=>e h2.2)]
theorem Zqa(d:Dic)(s:Nat){i:Nat}(h:¬ d.own i<d.n):rayK d s (i+1)=rayK d s i:=by
 funext u
 simp only[rayK]
 rw[if_neg (fun h2=>h h2.1)]
theorem ZyX(d:Dic){s:Nat}(h:d.free s<d.n):(ratL d.n (fun _=>0)).set (d.free s) (cF (ofQ 1))=ratL d.n (rayK d s 0):=by
 rw[Zdp]
 refine ZaO fun u _=>?_
 simp only[rayK]
 by_cases e:u=d.free s
 ·rw[if_pos e,if_pos ⟨h,e⟩]
 ·rw[if_neg e,if_neg (fun h2=>e h2.2)]
theorem Zwb(d:Dic){s:Nat}(h:¬ d.free s<d.n):ratL d.n (fun _=>(0:Rat))=ratL d.n (rayK d s 0) :=
 ZaO fun u _=>by simp only[rayK];rw[if_neg (fun h2=>h h2.1)]
theorem ZAM(d:Dic)(src:Nat→Nat×Bool){s:Nat}(hs:s<d.n)(hm:(d.m:Int)≤4096)(hn:(d.n:Int)≤4096)(za:∀ i,i<d.m→(szQ (d.a i s):Int)≤536870912) :
 Zaa Tryz.prog 111 [Zc1 d src,dI s] (.sl (ratL d.n (rayK d s d.m))):=by
 refine Zaa.ofA (fun I=>?_)
 have Zr:=Tryz.results111
 refine inA Tryz.func111 rfl Tryz.ntmps111 ?_
 have s0:(0:Int)≤s:=by omega
 refine aGoM (cj3 Zr ZaP s0) ?_
 repeat with_reducible intro K hK
 refine ZaD (Zar.made (Znk d.n _) (Zjk d.n _ _ hn)) ?_
 rintro _ _ _ ⟨rfl,rfl,rfl⟩
 have lo:=Zc5 d.m fun i=>[dI (d.own i)]
 have gf:=ZbA (fun j=>[dI (d.free j)]) hs
 have k1:=nO_c
 by_cases h0:(d.free s:Int)<d.n
 ·have e1:=ZyX d (s:=s) (by omega)
  have f0:(0:Int)≤d.free s:=by omega
  have lz:=Zb7 d.n fun _=>0
  have gz:=Za1 (fun _=>0) (n:=d.n) (k:=d.free s) (by omega)
  refine aGoM (cj4 Zr ZaP lo (cj4 gf s0 h0 (cj4 e1 f0 lz (cj3 gz k1 Yb0)))) ?_
  repeat with_reducible intro K hK
  refine ZcJ (fun(i:Nat)=>[(0,Zc1 d src),(1,dI s),(5,.ls 0 1),(34,.sl (tabL d.m fun i=>[dI (d.own i)])),(35,dI d.m),(36,dI i)]) 0
   (fun i m1 nx1=>i≤d.m∧0<nx1∧m1 0=some (fB d.n (rayK d s i))) (fun i=>d.m-i) 0 ?_ ?_ ?_ ?_
  ·exact⟨Yb0 _,Nat.zero_lt_one,by dsimp only;rw[Zac];try rfl⟩
  ·rfl
  ·simp[go_sem]
  ·rintro i m1 nx1 ⟨hi,hnx,eX⟩
   obtain⟨hw,i0⟩:=ZaS i
   by_cases h1:(i:Int)<d.m
   ·have him:i<d.m:=by omega
    have go:=ZbA (fun i=>[dI (d.own i)]) him
    have gr:=Zhb d him
    by_cases h2:(d.own i:Int)<d.n
    ·have es:=Ztz d s (i:=i) (by omega)
     have o0:(0:Int)≤d.own i:=by omega
     have lx:=Zb7 d.n (rayK d s i)
     have gx:=Za1 (rayK d s i) (n:=d.n) (k:=d.own i) (by omega)
     have ga:=Za1 (d.a i) hs
     have zz:=za i him
     have k2:=Ziy (d.a i s) (by omega)
     refine aGoM (cj4 Zr ZaP eX (cj4 h1 hw i0 (cj4 go gr h2 (cj4 es o0 lx (cj4 gx ga k2 (cj2 s0 Yb0)))))) ?_
     repeat with_reducible intro K hK
     exact Zam (i+1) ⟨by omega,by show 0<nx1;omega,by dsimp only;rw[Zac]⟩ (by omega) rfl (by simp[go_sem])
    ·refine aGoM (cj4 Zr ZaP eX (cj4 h1 hw i0 (cj2 go h2))) ?_
     repeat with_reducible intro K hK
     refine Zam (i+1) ⟨by omega,by show 0<nx1;omega,?_⟩ (by omega) rfl (by simp[go_sem])
     rw[Zqa d s (by omega)];exact eX
   ·obtain rfl:i=d.m:=by omega
    refine aGoM (cj4 Zr ZaP eX h1) ?_
    repeat with_reducible intro K hK
    simp only[fzT,ZbJ,eX,if_pos,Bool.true_or,ZiE]
 ·have e1:=Zwb d (s:=s) (by omega)
  refine aGoM (cj4 Zr ZaP lo (cj4 gf s0 h0 (cj2 k1 Yb0))) ?_
  repeat with_reducible intro K hK
  refine ZcJ (fun(i:Nat)=>[(0,Zc1 d src),(1,dI s),(5,.ls 0 1),(34,.sl (tabL d.m fun i=>[dI (d.own i)])),(35,dI d.m),(36,dI i)]) 0
   (fun i m1 nx1=>i≤d.m∧0<nx1∧m1 0=some (fB d.n (rayK d s i))) (fun i=>d.m-i) 0 ?_ ?_ ?_ ?_
  ·refine⟨Yb0 _,Nat.zero_lt_one,?_⟩
   dsimp only
   rw[Zac]
   unfold fB;rw[e1]
  ·rfl
  ·simp[go_sem]
  ·rintro i m1 nx1 ⟨hi,hnx,eX⟩
   obtain⟨hw,i0⟩:=ZaS i
   by_cases h1:(i:Int)<d.m
   ·have him:i<d.m:=by omega
    have go:=ZbA (fun i=>[dI (d.own i)]) him
    have gr:=Zhb d him
    by_cases h2:(d.own i:Int)<d.n
    ·have es:=Ztz d s (i:=i) (by omega)
     have o0:(0:Int)≤d.own i:=by omega
     have lx:=Zb7 d.n (rayK d s i)
     have gx:=Za1 (rayK d s i) (n:=d.n) (k:=d.own i) (by omega)
     have ga:=Za1 (d.a i) hs
     have zz:=za i him
     have k2:=Ziy (d.a i s) (by omega)
     refine aGoM (cj4 Zr ZaP eX (cj4 h1 hw i0 (cj4 go gr h2 (cj4 es o0 lx (cj4 gx ga k2 (cj2 s0 Yb0)))))) ?_
     repeat with_reducible intro K hK
     exact Zam (i+1) ⟨by omega,by show 0<nx1;omega,by dsimp only;rw[Zac]⟩ (by omega) rfl (by simp[go_sem])
    ·refine aGoM (cj4 Zr ZaP eX (cj4 h1 hw i0 (cj2 go h2))) ?_
     repeat with_reducible intro K hK
     refine Zam (i+1) ⟨by omega,by show 0<nx1;omega,?_⟩ (by omega) rfl (by simp[go_sem])
     rw[Zqa d s (by omega)];exact eX
   ·obtain rfl:i=d.m:=by omega
    refine aGoM (cj4 Zr ZaP eX h1) ?_
    repeat with_reducible intro K hK
    simp only[fzT,ZbJ,eX,if_pos,Bool.true_or,ZiE]
theorem sz_0:szQ 0≤1:=by decide +kernel
theorem sz_1:szQ 1≤1:=by decide +kernel
def ZcA(src:Nat→Nat×Bool)(y:Nat→Rat)(k:Nat)(p:Rat):Nat→Rat:=fun u=>if u=(src k).1 then y u+(if (src k).2 then p else -p)else y u
theorem Zlr(src:Nat→Nat×Bool)(y:Nat→Rat)(k:Nat)(p:Rat)(M:Nat){q:Rat}(hq:q=if (src k).2 then p else -p):(ratL M y).set (src k).1 (cF (ofQ (y (src k).1+q)))=ratL M (ZcA src y k p):=by
 subst hq
 rw[Zdp]
 refine ZaO fun u _=>?_
 unfold ZcA
 by_cases e:u=(src k).1
 ·rw[if_pos e,if_pos e,e]
 ·rw[if_neg e,if_neg e]
theorem Zxy[Ifl](d:Dic)(src:Nat→Nat×Bool)(M Y k:Nat)(y:Nat→Rat)(p:Rat)(m:Mem)(nx:Nat)(hk:k<d.m)(hM:(src k).1<M)(hY:m Y=some (fB M y))(zy:(szQ (y (src k).1):Int)≤549755813888)(zp:(szQ p:Int)≤4294967296) :
 Zar Tryz.prog 161 [Zc1 d src,.ls Y 1,dI k,encF (ofQ p)] m nx fun d' m' nx'=>d'=oneD []∧nx≤nx'∧m' Y=some (fB M (ZcA src y k p))∧∀ id,id<nx→id≠Y→m' id=m id:=by
 refine Zar.cl ⟨_,_,Tryz.func161,rfl,by kernel_rfl⟩ fun hcl=>?_
 have Zr:=Tryz.results161
 have lY:=(hcl Y _ hY).1
 refine inA Tryz.func161 rfl Tryz.ntmps161 ?_
 have gs:=ZbA (fun i=>[dI (src i).1,dB (src i).2]) hk
 have k0:(0:Int)≤k:=by omega
 have s0:(0:Int)≤(src k).1:=by omega
 have gy:=Za1 y hM
 have ly:=Zb7 M y
 have n1:Y≠nx:=by omega
 have n2:Y≠nx+1:=by omega
 have n3:nx≠nx+1:=by omega
 have n4:nx+1≠nx:=by omega
 have np:(szQ (-p):Int)≤4294967296:=by rw[ZdL];exact zp
 cases ht:(src k).2 with
 | true =>
   have k2:=Znp (y (src k).1) p (by omega) (by omega)
   have es:=Zlr src y k p M (q:=p) (by rw[ht];rfl)
   rw[ht]at gs
   refine aGoS (cj4 Zr ZaP hY (cj4 gs k0 s0 (cj4 gy ly n1 (cj4 n2 n3 k2 (cj2 es Yb0))))) ?_
   repeat with_reducible intro K hK
   with_reducible apply useE
   with_reducible assumption
   exact Zcu [nx,nx+1,Y] (by simp[n1.symm,n2.symm]) [([],[]),([],[]),([1],[]),([],[]),([],[]),([1],[]),([2],[]),([2],[]),([0],[]),([],[]),([],[]),([],[]),([],[]),([2],[]),([2,2],[2])] rfl rfl (by kernel_rfl)
   exact Zaz rfl
   refine aGoM (cj3 Zr n1 n2) ?_
   exact fun id g1 g2=>by repeat(rw[if_neg (by omega)])
 | false =>
   have k1:=Ziy p (by omega)
   have k2:=Znp (y (src k).1) (-p) (by omega) (by omega)
   have es:=Zlr src y k p M (q:= -p) (by rw[ht];rfl)
   rw[ht]at gs
   refine aGoS (cj4 Zr ZaP hY (cj4 gs k0 s0 (cj4 gy ly n1 (cj4 n2 n3 k2 (cj4 es k1 n4 Yb0))))) ?_
   repeat with_reducible intro K hK
   with_reducible apply useE
   with_reducible assumption
   exact Zcu [nx,nx+1,Y] (by simp[n1.symm,n2.symm]) [([],[]),([],[]),([1],[]),([],[]),([],[]),([1],[]),([2],[]),([2],[]),([0],[]),([],[]),([],[]),([],[]),([],[]),([2],[]),([2,2],[2])] rfl rfl (by kernel_rfl)
   exact Zaz rfl
   refine aGoM (cj3 Zr n1 n2) ?_
   exact fun id g1 g2=>by repeat(rw[if_neg (by omega)])
theorem Zjg[Ifl](d:Dic)(src:Nat→Nat×Bool)(M Y k:Nat)(y:Nat→Rat)(p:Rat)(m:Mem)(nx:Nat)(hk:k<d.m)(hM:(src k).1<M)(hY:m Y=some (fB M y))(hl:Y<nx)(zy:(szQ (y (src k).1):Int)≤549755813888)(zp:(szQ p:Int)≤4294967296) :
 EffC Tryz.prog 161 [Zc1 d src,.ls Y 1,dI k,encF (ofQ p)] m nx ⟨oneD [],[Y],[(Y,fB M (ZcA src y k p))],false⟩ nx :=
 EffC.of ⟨_,_,Tryz.func161,rfl,by kernel_rfl⟩ (fun q hq=>by simp only[List.mem_singleton]at hq;subst hq;exact⟨by simp,hl⟩) fun m1 NX hN ht =>
  Zar.kept ((ht Y (by simp)).trans hY) rfl (Znk M _) (Zxy d src M Y k y p m1 NX hk hM ((ht Y (by simp)).trans hY) zy zp)
def ZbD(d:Dic)(src:Nat→Nat×Bool):Nat→Nat→Rat
 | 0=>fun _=>0
 | j+1=>if d.n≤d.free j then ZcA src (ZbD d src j) (d.free j-d.n) (-d.g j)else ZbD d src j
theorem Zks(src:Nat→Nat×Bool)(y:Nat→Rat)(k:Nat)(p:Rat){Z B:Nat}(hy:∀ u,szQ (y u)≤Z)(hp:szQ p≤B)(u:Nat):szQ (ZcA src y k p u)≤Z+(B+1):=by
 unfold ZcA
 split
 ·have h1:=ZhY (y u) (if (src k).2 then p else -p)
  have h2:szQ (if (src k).2 then p else -p)=szQ p:=by split;rfl;exact ZdL p
  have:=hy u
  omega
 ·have:=hy u;omega
theorem Zhg(d:Dic)(src:Nat→Nat×Bool){B:Nat}(hg:∀ j,j<d.n→szQ (d.g j)≤B):∀ j,j≤d.n→∀ u,szQ (ZbD d src j u)≤1+j*(B+1)
 | 0, _, u => by have : szQ 0 ≤ 1 := by decide +kernel
                 simp only[ZbD];omega
 | j+1,hj,u=>by
   have ih:=Zhg d src hg j (by omega)
   rw[Nat.add_mul,Nat.one_mul,← Nat.add_assoc]
   simp only[ZbD]
   split
   ·exact Zks src _ _ _ ih (by rw[ZdL];exact hg j (by omega)) u
   ·have:=ih u;omega
theorem Zwj(d:Dic)(src:Nat→Nat×Bool)(M:Nat)(hm:(d.m:Int)≤4096)(hn:(d.n:Int)≤1500)(hMl:(M:Int)≤4096)(hfree:∀ j,j<d.n→d.free j<d.n+d.m)(hsrc:∀ i,i<d.m→(src i).1<M)(zg:∀ j,j<d.n→szQ (d.g j)≤268435456) :
 Zaa Tryz.prog 113 [Zc1 d src,dI M] (.sl (ratL M (ZbD d src d.n))):=by
 refine Zaa.ofA (fun I=>?_)
 have Zr:=Tryz.results113
 refine inA Tryz.func113 rfl Tryz.ntmps113 ?_
 refine aGoM (cj2 Zr ZaP) ?_
 repeat with_reducible intro K hK
 refine ZaD (Zar.made (Znk M _) (Zjk M _ _ hMl)) ?_
 rintro _ _ _ ⟨rfl,rfl,rfl⟩
 have lf:=Zc5 d.n fun j=>[dI (d.free j)]
 refine aGoM (cj3 Zr ZaP lf) ?_
 repeat with_reducible intro K hK
 refine ZcJ (fun(i:Nat)=>[(0,Zc1 d src),(5,.ls 0 1),(13,.sl (tabL d.n fun j=>[dI (d.free j)])),(14,dI d.n),(15,dI i)]) 0
  (fun i m1 nx1=>i≤d.n∧0<nx1∧m1 0=some (fB M (ZbD d src i))) (fun i=>d.n-i) 0 ?_ ?_ ?_ ?_
 ·exact⟨Yb0 _,Nat.zero_lt_one,by dsimp only;rw[Zac];try rfl⟩
 ·rfl
 ·simp[go_sem]
 ·rintro i m1 nx1 ⟨hi,hnx,eX⟩
  obtain⟨hw,i0⟩:=ZaS i
  by_cases h1:(i:Int)<d.n
  ·have hin:i<d.n:=by omega
   have gf:=ZbA (fun j=>[dI (d.free j)]) hin
   have fl:=hfree i hin
   by_cases h2:(d.n:Int)≤d.free i
   ·have gg:=Za1 d.g hin
    have zi:=zg i hin
    have k1:=Ziy (d.g i) (by omega)
    have hs:IntKind.i64.wrap ((d.free i:Int)-d.n)=((d.free i-d.n:Nat):Int):=(ZaQ (by omega) (by omega)).trans (by omega)
    refine aGoM (cj4 Zr ZaP eX (cj4 h1 hw i0 (cj4 gf h2 gg (cj3 k1 hs Yb0)))) ?_
    repeat with_reducible intro K hK
    have zy:=Zhg d src zg i hi (src (d.free i-d.n)).1
    have hmul:i*(268435456+1)≤1500*(268435456+1):=Nat.mul_le_mul_right _ (by omega)
    refine Za3 (Zjg d src M 0 (d.free i-d.n) (ZbD d src i) (-d.g i) _ _ (by omega) (hsrc _ (by omega)) eX hnx (by have:=Int.ofNat_le.2 (Yc7 zy (Nat.add_le_add_left hmul 1));omega) (by rw[ZdL];omega)) ?_
    refine aGoM (cj3 Zr ZaP hw) ?_
    repeat with_reducible intro K hK
    refine Zam (i+1) ⟨by omega,by show 0<nx1;omega,?_⟩ (by omega) rfl (by simp[go_sem])
    dsimp only
    rw[Zac]
    simp only[ZbD]
    rw[if_pos (by omega)]
   ·refine aGoM (cj4 Zr ZaP eX (cj4 h1 hw i0 (cj2 gf h2))) ?_
    repeat with_reducible intro K hK
    refine Zam (i+1) ⟨by omega,by show 0<nx1;omega,?_⟩ (by omega) rfl (by simp[go_sem])
    simp only[ZbD]
    rw[if_neg (by omega)];exact eX
  ·obtain rfl:i=d.n:=by omega
   refine aGoM (cj4 Zr ZaP eX h1) ?_
   repeat with_reducible intro K hK
   simp only[fzT,ZbJ,eX,if_pos,Bool.true_or,ZiE]
def refK(d:Dic)(src:Nat→Nat×Bool)(r:Nat):Nat→Nat→Rat
 | 0=>if d.n≤d.own r then ZcA src (fun _=>0) (d.own r-d.n) 1 else fun _=>0
 | j+1=>if d.n≤d.free j then ZcA src (refK d src r j) (d.free j-d.n) (d.a r j)else refK d src r j
theorem Zm9(d:Dic)(src:Nat→Nat×Bool)(r:Nat){B:Nat}(hB:1≤B)(hg:∀ j,j<d.n→szQ (d.a r j)≤B):∀ j,j≤d.n→∀ u,szQ (refK d src r j u)≤1+(j+1)*(B+1)
 | 0,_,u=>by
   have h0:∀ u:Nat,szQ ((fun _=>0:Nat→Rat) u)≤1:=fun _=>sz_0
   have h1:szQ 1≤B:=Yc7 sz_1 hB
   simp only[refK]
   split
   ·have:=Zks src (fun _=>0) (d.own r-d.n) 1 h0 h1 u;omega
   ·have:szQ ((fun _=>0:Nat→Rat) u)≤1:=sz_0
    omega
 | j+1,hj,u=>by
   have ih:=Zm9 d src r hB hg j (by omega)
   rw[Nat.add_mul (j+1) 1,Nat.one_mul,← Nat.add_assoc]
   simp only[refK]
   split
   ·exact Zks src _ _ _ ih (hg j (by omega)) u
   ·have:=ih u;omega
theorem Ziu(d:Dic)(src:Nat→Nat×Bool)(M r:Nat)(hr:r<d.m)(hm:(d.m:Int)≤4096)(hn:(d.n:Int)≤1500)(hMl:(M:Int)≤4096)(hown:d.own r<d.n+d.m)(hfree:∀ j,j<d.n→d.free j<d.n+d.m)(hsrc:∀ i,i<d.m→(src i).1<M)(zg:∀ j,j<d.n→szQ (d.a r j)≤268435456) :
 Zaa Tryz.prog 112 [Zc1 d src,dI M,dI r] (.sl (ratL M (refK d src r d.n))):=by
 refine Zaa.ofA (fun I=>?_)
 have Zr:=Tryz.results112
 refine inA Tryz.func112 rfl Tryz.ntmps112 ?_
 have r0:(0:Int)≤r:=by omega
 have gr:=Zhb d hr
 have go:=ZbA (fun i=>[dI (d.own i)]) hr
 have lf:=Zc5 d.n fun j=>[dI (d.free j)]
 have k1:=nO_c
 refine aGoM (cj3 Zr ZaP r0) ?_
 repeat with_reducible intro K hK
 refine ZaD (Zar.made (Znk M _) (Zjk M _ _ hMl)) ?_
 rintro _ _ _ ⟨rfl,rfl,rfl⟩
 by_cases h0:(d.n:Int)≤d.own r
 ·have hs:IntKind.i64.wrap ((d.own r:Int)-d.n)=((d.own r-d.n:Nat):Int):=(ZaQ (by omega) (by omega)).trans (by omega)
  refine aGoM (cj4 Zr ZaP lf (cj4 go r0 h0 (cj3 k1 hs Yb0))) ?_
  repeat with_reducible intro K hK
  have hY0:upd noM 0 (some (fB M fun _=>0)) 0=some (fB M fun _=>(0:Rat)):=by rw[Zac]
  have z0:=sz_0
  have z1:=sz_1
  refine Za3 (Zjg d src M 0 (d.own r-d.n) (fun _=>0) 1 _ _ (by omega) (hsrc _ (by omega)) hY0 Nat.zero_lt_one (by show(szQ 0:Int)≤_;omega) (by omega)) ?_
  refine aGoM (cj4 Zr ZaP lf (cj2 r0 Yb0)) ?_
  repeat with_reducible intro K hK
  have e0:ZcA src (fun _=>0) (d.own r-d.n) 1=refK d src r 0:=by simp only[refK];rw[if_pos (by omega)]
  refine ZcJ (fun(i:Nat)=>[(0,Zc1 d src),(2,dI r),(7,.ls 0 1),(39,.sl (tabL d.n fun j=>[dI (d.free j)])),(40,dI d.n),(41,dI i)]) 0
   (fun i m1 nx1=>i≤d.n∧0<nx1∧m1 0=some (fB M (refK d src r i))) (fun i=>d.n-i) 0 ?_ ?_ ?_ ?_
  ·exact⟨Yb0 _,Nat.zero_lt_one,by dsimp only;rw[Zac,e0]⟩
  ·rfl
  ·simp[go_sem]
  ·rintro i m1 nx1 ⟨hi,hnx,eX⟩
   obtain⟨hw,i0⟩:=ZaS i
   by_cases h1:(i:Int)<d.n
   ·have hin:i<d.n:=by omega
    have gf:=ZbA (fun j=>[dI (d.free j)]) hin
    have fl:=hfree i hin
    by_cases h2:(d.n:Int)≤d.free i
    ·have gg:=Za1 (d.a r) hin
     have zi:=zg i hin
     have hs:IntKind.i64.wrap ((d.free i:Int)-d.n)=((d.free i-d.n:Nat):Int):=(ZaQ (by omega) (by omega)).trans (by omega)
     refine aGoM (cj4 Zr ZaP eX (cj4 h1 hw i0 (cj4 gf h2 gg (cj4 hs gr r0 Yb0)))) ?_
     repeat with_reducible intro K hK
     have zy:=Zm9 d src r (B:=268435456) (by decide) zg i hi (src (d.free i-d.n)).1
     have hmul:(i+1)*(268435456+1)≤1500*(268435456+1):=Nat.mul_le_mul_right _ (by omega)
     refine Za3 (Zjg d src M 0 (d.free i-d.n) (refK d src r i) (d.a r i) _ _ (by omega) (hsrc _ (by omega)) eX hnx (by have:=Int.ofNat_le.2 (Yc7 zy (Nat.add_le_add_left hmul 1));omega) (by omega)) ?_
     refine aGoM (cj3 Zr ZaP hw) ?_
     repeat with_reducible intro K hK
     refine Zam (i+1) ⟨by omega,by show 0<nx1;omega,?_⟩ (by omega) rfl (by simp[go_sem])
     dsimp only
     rw[Zac]
     simp only[refK]
     rw[if_pos (by omega)]
    ·refine aGoM (cj4 Zr ZaP eX (cj4 h1 hw i0 (cj2 gf h2))) ?_
     repeat with_reducible intro K hK
     refine Zam (i+1) ⟨by omega,by show 0<nx1;omega,?_⟩ (by omega) rfl (by simp[go_sem])
     simp only[refK]
     rw[if_neg (by omega)];exact eX
   ·obtain rfl:i=d.n:=by omega
    refine aGoM (cj4 Zr ZaP eX h1) ?_
    repeat with_reducible intro K hK
    simp only[fzT,ZbJ,eX,if_pos,Bool.true_or,ZiE]
 ·refine aGoM (cj4 Zr ZaP lf (cj4 go r0 h0 (cj2 k1 Yb0))) ?_
  repeat with_reducible intro K hK
  have e0:(fun _=>0)=refK d src r 0:=by simp only[refK];rw[if_neg (by omega)]
  refine ZcJ (fun(i:Nat)=>[(0,Zc1 d src),(2,dI r),(7,.ls 0 1),(39,.sl (tabL d.n fun j=>[dI (d.free j)])),(40,dI d.n),(41,dI i)]) 0
   (fun i m1 nx1=>i≤d.n∧0<nx1∧m1 0=some (fB M (refK d src r i))) (fun i=>d.n-i) 0 ?_ ?_ ?_ ?_
  ·exact⟨Yb0 _,Nat.zero_lt_one,by dsimp only;rw[Zac,e0]⟩
  ·rfl
  ·simp[go_sem]
  ·rintro i m1 nx1 ⟨hi,hnx,eX⟩
   obtain⟨hw,i0⟩:=ZaS i
   by_cases h1:(i:Int)<d.n
   ·have hin:i<d.n:=by omega
    have gf:=ZbA (fun j=>[dI (d.free j)]) hin
    have fl:=hfree i hin
    by_cases h2:(d.n:Int)≤d.free i
    ·have gg:=Za1 (d.a r) hin
     have zi:=zg i hin
     have hs:IntKind.i64.wrap ((d.free i:Int)-d.n)=((d.free i-d.n:Nat):Int):=(ZaQ (by omega) (by omega)).trans (by omega)
     refine aGoM (cj4 Zr ZaP eX (cj4 h1 hw i0 (cj4 gf h2 gg (cj4 hs gr r0 Yb0)))) ?_
     repeat with_reducible intro K hK
     have zy:=Zm9 d src r (B:=268435456) (by decide) zg i hi (src (d.free i-d.n)).1
     have hmul:(i+1)*(268435456+1)≤1500*(268435456+1):=Nat.mul_le_mul_right _ (by omega)
     refine Za3 (Zjg d src M 0 (d.free i-d.n) (refK d src r i) (d.a r i) _ _ (by omega) (hsrc _ (by omega)) eX hnx (by have:=Int.ofNat_le.2 (Yc7 zy (Nat.add_le_add_left hmul 1));omega) (by omega)) ?_
     refine aGoM (cj3 Zr ZaP hw) ?_
     repeat with_reducible intro K hK
     refine Zam (i+1) ⟨by omega,by show 0<nx1;omega,?_⟩ (by omega) rfl (by simp[go_sem])
     dsimp only
     rw[Zac]
     simp only[refK]
     rw[if_pos (by omega)]
    ·refine aGoM (cj4 Zr ZaP eX (cj4 h1 hw i0 (cj2 gf h2))) ?_
     repeat with_reducible intro K hK
     refine Zam (i+1) ⟨by omega,by show 0<nx1;omega,?_⟩ (by omega) rfl (by simp[go_sem])
     simp only[refK]
     rw[if_neg (by omega)];exact eX
   ·obtain rfl:i=d.n:=by omega
    refine aGoM (cj4 Zr ZaP eX h1) ?_
    repeat with_reducible intro K hK
    simp only[fzT,ZbJ,eX,if_pos,Bool.true_or,ZiE]
theorem Zhw:∀ (l:List Nat)(m:Mem)(id:Nat)(b:Blk),m id=some b→ov m (ZbF l m) id=some (if id∈l then {b with dead:=true} else b)
 | [],m,id,b,h=>by simp only[ZbF,ov,h,List.not_mem_nil,if_false]
 | x ::l,m,id,b,h=>by
   by_cases e:x=id
   ·subst e
    simp only[ZbF,h,ov]
    rw[Zhw l _ x {b with dead:=true} (Zac _ _ _)]
    simp only[List.mem_cons,true_or,if_true,ite_self]
   ·simp only[ZbF]
    cases hx:m x with
    | none =>
      simp only
      rw[Zhw l m id b h]
      simp only[List.mem_cons,Ne.symm e,false_or]
    | some c =>
      simp only[ov]
      rw[Zhw l _ id b ((Zab _ _ (Ne.symm e)).trans h)]
      simp only[List.mem_cons,Ne.symm e,false_or]
def idsL(I:Ids)(m:Nat):List Nat:=[I.p,I.R,I.G,I.O,I.Fr,I.F]++(List.range m).map I.A
theorem Zqv{I:Ids}{m id:Nat}:id∈idsL I m↔inD I m id:=by
 unfold idsL inD
 simp only[Yd5,List.mem_cons,List.not_mem_nil,or_false,Yc6,Yd2]
 constructor
 ·rintro((h|h|h|h|h|h)|⟨k,hk,rfl⟩)
  ·exact .inl h
  ·exact .inr (.inl h)
  ·exact .inr (.inr (.inl h))
  ·exact .inr (.inr (.inr (.inl h)))
  ·exact .inr (.inr (.inr (.inr (.inl h))))
  ·exact .inr (.inr (.inr (.inr (.inr (.inl h)))))
  ·exact .inr (.inr (.inr (.inr (.inr (.inr ⟨k,hk,rfl⟩)))))
 ·rintro(h|h|h|h|h|h|⟨k,hk,rfl⟩)
  ·exact .inl (.inl h)
  ·exact .inl (.inr (.inl h))
  ·exact .inl (.inr (.inr (.inl h)))
  ·exact .inl (.inr (.inr (.inr (.inl h))))
  ·exact .inl (.inr (.inr (.inr (.inr (.inl h)))))
  ·exact .inl (.inr (.inr (.inr (.inr (.inr h)))))
  ·exact .inr ⟨k,hk,rfl⟩
theorem ZBq{m M:Mem}{I:Ids}{d:Dic}{src:Nat→Nat×Bool}(h:Za2 m I d src)(hd:∀ id,inD I d.m id→∀ b,m id=some b→M id=some {b with dead:=true}):fzT false M 7 (.lp I.p 0 0 0)=Zc1 d src:=by
 have hp:=hd _ (.inl rfl) _ h.hp
 have hR:=hd _ (.inr (.inl rfl)) _ h.hR
 have hG:=hd _ (.inr (.inr (.inl rfl))) _ h.hG
 have hO:=hd _ (.inr (.inr (.inr (.inl rfl)))) _ h.hO
 have hFr:=hd _ (.inr (.inr (.inr (.inr (.inl rfl))))) _ h.hFr
 have hF:=hd _ (.inr (.inr (.inr (.inr (.inr (.inl rfl)))))) _ h.hF
 have hA:=fun k hk=>hd _ (.inr (.inr (.inr (.inr (.inr (.inr ⟨k,hk,rfl⟩)))))) _ (h.hA k hk)
 have er:(Zh4 I d.m d.v).map (List.map (fzT false M 5))=Zv6 d:=by
  unfold Zh4 Zv6 tabL
  rw[List.map_map]
  refine List.map_congr_left fun k hk=>?_
  have hk:=Yd2.1 hk
  simp only[Function.comp,List.map_append,List.map_cons,List.map_nil,fzT,ZbJ,hA k hk,if_pos,Bool.false_or,ZiE]
 have eo:(tabL d.m fun i=>[dI (d.own i:Int)]).map (List.map (fzT false M 5))=tabL d.m fun i=>[dI (d.own i:Int)]:=by
  unfold tabL;rw[List.map_map];exact List.map_congr_left fun u _=>rfl
 have ef:(tabL d.n fun i=>[dI (d.free i:Int)]).map (List.map (fzT false M 5))=tabL d.n fun i=>[dI (d.free i:Int)]:=by
  unfold tabL;rw[List.map_map];exact List.map_congr_left fun u _=>rfl
 have es:(tabL d.m fun i=>[dI ((src i).1:Int),dB (src i).2]).map (List.map (fzT false M 5))=tabL d.m fun i=>[dI ((src i).1:Int),dB (src i).2]:=by
  unfold tabL;rw[List.map_map];exact List.map_congr_left fun u _=>rfl
 simp only[fzT,ZbJ,hp,hR,hG,hO,hFr,hF,if_pos,Bool.false_or,List.map_cons,List.map_nil,ZiE,er,eo,ef,es]
theorem ZeL[Ifl]{s:St}{I:Ids}{d:Dic}{src:Nat→Nat×Bool}(h:Za2 s.m I d src)(k:Nat)(hk:s.t k = .lp I.p 0 0 0)(l:List (Nat×D))(M:Mem)(n':Nat)(hM:∀ id b,M id=some b→s.m id=some b∧id<n'∧¬ inD I d.m id)
 (hc:∀ id b,M id=some b→Zb8 (fun i=>(M i).isSome) b) (ht:∀ p∈l,p.1≠k∧s.t p.1=p.2∧okD (fun i=>(M i).isSome) p.2=true) (hlo:s.lo=0):StLe s ⟨tabT ((k,Zc1 d src) ::l),M,n',0⟩:=by
 refine(ZwT (idsL I d.m)).trans ?_
 refine(Zie k 7).trans ?_
 have e:fzT false (ov s.m (ZbF (idsL I d.m) s.m)) 7 (s.t k)=Zc1 d src:=by
  rw[hk]
  exact ZBq h fun id hi b hb=>by rw[Zhw _ _ _ _ hb,if_pos (Zqv.2 hi)]
 rw[← hlo]
 refine ZBl _ M n' ⟨fun id b hb=>?_,hc⟩ (fun p hp=>?_) (fun p hp=>?_) (fun id hi=>?_)
 ·obtain⟨h1,h2,h3⟩:=hM id b hb
  refine⟨?_,h2⟩
  show ov s.m (ZbF (idsL I d.m) s.m) id=some b
  rw[Zhw _ _ _ _ h1,if_neg fun h4=>h3 (Zqv.1 h4)]
 ·rcases List.mem_cons.1 hp with rfl|hp
  ·exact(Zac _ _ _).trans e
  ·exact(Zab _ _ (ht p hp).1).trans (ht p hp).2.1
 ·rcases List.mem_cons.1 hp with rfl|hp
  ·rfl
  ·exact(ht p hp).2.2
 ·have:id<0:=hlo▸hi
  omega
def Zal(n:Nat)(c:Nat→Rat):List Zaf:=(List.range n).map fun u=>ofQ (c u)
theorem Zxb(n:Nat)(c:Nat→Rat):(Zal n c).map cF=ratL n c:=by unfold Zal ratL tabL;rw[List.map_map];rfl
theorem Zdl(n:Nat)(c:Nat→Rat):D.sl (ratL n c)=ZbX (Zal n c):=by show _=D.sl ((Zal n c).map cF);rw[Zxb]
theorem ZdU(n:Nat)(c:Nat→Rat):(Zal n c).length=n:=by simp[Zal]
theorem ZeP{n:Nat}{c:Nat→Rat}{f:Zaf}(h:f∈Zal n c):∃ u,u<n∧f=ofQ (c u):=by
 obtain⟨u,hu,rfl⟩:=Yc6.1 h
 exact⟨u,Yd2.1 hu,rfl⟩
theorem Zjb(n:Nat)(c:Nat→Rat):okP (Zal n c)=true:=by
 refine Ya6.2 fun f hf=>?_
 obtain⟨u,_,rfl⟩:=ZeP hf
 exact Zbm _
noncomputable def fin (s:SysD) (goal:List Zag):Dic:=Zfd (ZaR s goal).1
abbrev Zbo(s:SysD)(goal:List Zag):Nat→Nat×Bool:=(ZaR s goal).2
noncomputable def Zax (s:SysD) (goal:List Zag):OptD:=match next (fin s goal)with
 | .best=>⟨0,(Zcn goal (Zal s.n.toNat (ZaV (fin s goal) (fin s goal).m))).1,Zal s.n.toNat (ZaV (fin s goal) (fin s goal).m),Zal s.r.length (ZbD (fin s goal) (Zbo s goal) s.n.toNat),[]⟩
 | .row r=>⟨1,zF,[],Zal s.r.length (refK (fin s goal) (Zbo s goal) r s.n.toNat),[]⟩
 | .col c=>match next (fin s [])with
   | .row r=>⟨1,zF,[],Zal s.r.length (refK (fin s []) (Zbo s []) r s.n.toNat),[]⟩
   | _=>⟨2,zF,Zal s.n.toNat (ZaV (fin s []) (fin s []).m),[],Zal s.n.toNat (rayK (fin s goal) c (fin s goal).m)⟩
 | .ex _ _=>⟨0,zF,[],[],[]⟩
noncomputable def Zc0 (s:SysD) (goal:List Zag):OptD×Int:=if Zao s&&Zai goal s.n then(Zax s goal,0)else(⟨0,zF,[],[],[]⟩,1)
structure Fit (s:SysD) (goal:List Zag) (B:Nat:=2) (T:Nat:=6):Prop where
 l:s.r.length≤32
 n:Zao s=true→s.n≤16
 t:Zao s=true→s.n≤T∨(Zbu (fun _=>0) s s.r.length).1.m≤T
 w:∀ w∈s.r,w.t.length≤64∧szF w.v≤B∧∀ t∈w.t,szF t.f≤B
 g:goal.length≤16∧∀ t∈goal,szF t.f≤B
 b:1≤B
 gl:Dic.grow B T+B+1≤262144
theorem Zkf(B:Nat):∀ t,B≤Dic.grow B t
 | 0=>Ya4 _
 | t+1=>by have:=Zkf B t;simp only[Dic.grow];omega
section
variable {s:SysD} {goal:List Zag} {B T:Nat}
theorem Fit.tn(h:Fit s goal B T):tnS s:=⟨by have:=h.l;omega,fun w hw=>⟨⟨by have:=(h.w w hw).1;omega,fun t ht=>by have:=(h.w w hw).2.2 t ht;have:=h.gl;unfold tnF;omega⟩,by have:=(h.w w hw).2.1;have:=h.gl;unfold tnF;omega⟩⟩
theorem Fit.gt(h:Fit s goal B T):tnT goal:=⟨by have:=h.g.1;omega,fun t ht=>by have:=h.g.2 t ht;have:=h.gl;unfold tnF;omega⟩
theorem Fit.nil(h:Fit s goal B T):Fit s [] B T:=⟨h.l,h.n,h.t,h.w,⟨by simp,fun t ht=>by cases ht⟩,h.b,h.gl⟩
end
theorem Zf8(P:Dic×(Nat→Nat×Bool)→Prop)(g:Nat→Rat)(s:SysD)(h0:P (dicZ s.n.toNat g,fun _=>(0,false)))(h:∀ x k w b,P x→s.r[k]? =some w→P (addP w k b x)):∀ k,P (Zbu g s k)
 | 0=>h0
 | k+1=>by
   have ih:=Zf8 P g s h0 h k
   simp only[Zbu]
   split
   ·rename_i w hw
    unfold putP
    simp only
    split<;>split
    ·exact ih
    ·exact h _ _ _ _ ih hw
    ·exact h _ _ _ _ ih hw
    ·exact h _ _ _ _ (h _ _ _ _ ih hw) hw
   ·exact ih
theorem Za5(s:SysD)(goal:List Zag):(ZaR s goal).1.First:=by
 refine⟨?_,fun j _=>by unfold ZaR;rw[Zf9]⟩
 refine Zf8 (fun x=>∀ i,i<x.1.m→x.1.own i=x.1.n+i) _ s (fun i hi=>absurd hi (Nat.not_lt_zero _)) (fun x k w b ih _ i hi=>?_) s.r.length
 simp only[addP,Zd4]at hi ⊢
 by_cases e:i=x.1.m
 ·rw[if_pos e,e]
 ·rw[if_neg e];exact ih i (by omega)
theorem Zhk(s:SysD)(goal:List Zag):∀ i,i<(ZaR s goal).1.m→((ZaR s goal).2 i).1<s.r.length:=by
 refine Zf8 (fun x=>∀ i,i<x.1.m→(x.2 i).1<s.r.length) _ s (fun i hi=>absurd hi (Nat.not_lt_zero _)) (fun x k w b ih hw i hi=>?_) s.r.length
 simp only[addP,Zd4]at hi ⊢
 by_cases e:i=x.1.m
 ·rw[if_pos e];exact(Ya3.1 hw).1
 ·rw[if_neg e];exact ih i (by omega)
theorem Zel(s:SysD)(goal:List Zag):(ZaR s goal).1.n=s.n.toNat:=ZjO _ _ _
theorem ZoZ(s:SysD)(goal:List Zag):(ZaR s goal).1.m=(Zbu (fun _=>0) s s.r.length).1.m:=by rw[Zqj];rfl
theorem Zqi(s:SysD)(goal:List Zag):(ZaR s goal).1.m≤2*s.r.length:=ZlP _ _ _
theorem Zu2{l:List Zag}{n:Int}(h:Zai l n=true){B:Nat}(hB:1≤B)(hs:∀ t∈l,szF t.f≤B)(u:Nat):szQ (ZaU l u)≤B:=by
 by_cases he:∃ t∈l,t.v.toNat=u
 ·obtain⟨t,ht,rfl⟩:=he
  obtain⟨i,hi⟩:=List.getElem?_of_mem ht
  obtain⟨h0,h1,h2,h3⟩:=ZaY h ht
  rw[Zu3 h hi h0,ZcY h2];exact hs t ht
 ·have h0:∀ k,k≤l.length→ZaU (l.take k) u=0:=by
   intro k
   induction k with
   | zero=>intro _;simp only[List.take_zero,ZaU,dotS]
   | succ k ih =>
     intro hk
     obtain⟨t,ht⟩:=getE (l:=l) (k:=k) (by omega)
     have ht0:=(ZaY h (ZaJ ht)).1
     rw[ZeV ht ht0,ih (by omega),if_neg (fun e=>he ⟨t,ZaJ ht,e.symm⟩)];grind
  have:=h0 l.length (Ya4 _)
  rw[Yc2]at this
  rw[this];have:=sz_0;omega
theorem ZgN{s:SysD}{goal:List Zag}{B T:Nat}(h:Fit s goal B T)(hr:Zao s=true)(hg:Zai goal s.n=true):(ZaR s goal).1.Sized szQ B:=by
 have hB:=h.b
 have key:(∀ i,i<(ZaR s goal).1.m→szQ ((ZaR s goal).1.v i)≤B)∧∀ i j,i<(ZaR s goal).1.m→szQ ((ZaR s goal).1.a i j)≤B:=by
  refine Zf8 (fun x=>(∀ i,i<x.1.m→szQ (x.1.v i)≤B)∧∀ i j,i<x.1.m→szQ (x.1.a i j)≤B) _ s ⟨fun i hi=>absurd hi (Nat.not_lt_zero _),fun i j hi=>absurd hi (Nat.not_lt_zero _)⟩ (fun x k w b ih hw=>?_) s.r.length
  have hm:=ZaJ hw
  have h1:=ZbC hr hm
  have h2:=h.w w hm
  refine⟨fun i hi=>?_,fun i j hi=>?_⟩
  ·simp only[addP,Zd4]at hi ⊢
   by_cases e:i=x.1.m
   ·rw[if_pos e]
    have:szQ (qOf w.v)≤B:=by rw[ZcY h1.2.2.2];exact h2.2.1
    unfold sgQ';split
    ·rw[ZdL];exact this
    ·exact this
   ·rw[if_neg e];exact ih.1 i (by omega)
  ·simp only[addP,Zd4]at hi ⊢
   by_cases e:i=x.1.m
   ·rw[if_pos e]
    have:=Zu2 h1.1 (B:=B) hB h2.2.2 j
    unfold sgQ';split
    ·rw[ZdL];exact this
    ·exact this
   ·rw[if_neg e];exact ih.2 i j (by omega)
 refine⟨key.1,fun i j hi _=>key.2 i j hi,fun j _=>?_⟩
 unfold ZaR
 rw[Zhj]
 rw[ZdL]
 exact Zu2 hg hB h.g.2 j
theorem Zeo(s:SysD)(goal:List Zag):(fin s goal).m=(ZaR s goal).1.m:=(Zgh (Za5 s goal).part).m.symm
theorem ZcK(s:SysD)(goal:List Zag):(fin s goal).n=s.n.toNat:=(Zgh (Za5 s goal).part).n.symm.trans (Zel s goal)
theorem Zcm(s:SysD)(goal:List Zag):(fin s goal).Part:=Zsj (Za5 s goal).part
theorem ZhD(s:SysD)(goal:List Zag):Zgx (fin s goal):=ZgV (Za5 s goal).part
theorem Zcv{s:SysD}{goal:List Zag}{B T:Nat}(h:Fit s goal B T)(hr:Zao s=true)(hg:Zai goal s.n=true):(fin s goal).Sized szQ (Dic.grow B T):=by
 have h0:=ZbL hr
 exact Dic.small szFn (Za5 s goal) h.b (ZgN h hr hg) (Zcm s goal) (Zgh (Za5 s goal).part) (t:=T) (by
  rw[ZcK,Zeo,ZoZ]
  rcases h.t hr with h1|h1
  ·exact .inl (by omega)
  ·exact .inr h1)
theorem Zhh{s:SysD}{goal:List Zag}{B T:Nat}(h:Fit s goal B T)(hr:Zao s=true)(hg:Zai goal s.n=true):∀ i,i≤(fin s goal).m→∀ u,szQ (ZaV (fin s goal) i u)≤Dic.grow B T
 | 0,_,u=>by have:=sz_0;have:=h.b;have:=Zkf B T;simp only[ZaV];omega
 | i+1,hi,u=>by
   simp only[ZaV]
   split
   ·exact(Zcv h hr hg).v i (by omega)
   ·exact Zhh h hr hg i (by omega) u
theorem ZxW{s:SysD}{goal:List Zag}{B T:Nat}(h:Fit s goal B T)(hr:Zao s=true)(hg:Zai goal s.n=true){c:Nat}(hc:c<(fin s goal).n):∀ i,i≤(fin s goal).m→∀ u,szQ (rayK (fin s goal) c i u)≤Dic.grow B T
 | 0,_,u=>by
   have:=h.b
   have:=Zkf B T
   have h0:=sz_0
   have h1:=sz_1
   simp only[rayK]
   split<;>omega
 | i+1,hi,u=>by
   simp only[rayK]
   split
   ·rw[ZdL];exact(Zcv h hr hg).a i c (by omega) hc
   ·exact ZxW h hr hg hc i (by omega) u
theorem Zf0{n:Nat}{c:Nat→Rat}(hn:n≤64)(h:∀ u,szQ (c u)≤262144):tnFs (Zal n c):=by
 refine⟨by rw[ZdU];omega,fun f hf=>?_⟩
 obtain⟨u,_,rfl⟩:=ZeP hf
 have:=h u
 unfold szQ at this
 unfold tnF;omega
theorem Zar.nil2[Ifl]{P:Program}{f:FuncId}{a:D}{m:Mem}{nx:Nat}{K:D→Mem→Nat→Prop}(h:Zar P f [a,.sl []] m nx K):Zar P f [a,.nil] m nx K:=by
 refine⟨h.1,fun E β w vs hM hvs=>h.2 E β w vs hM ⟨hvs.1,fun i y d hy hd=>?_⟩⟩
 match i,hd with
 | 0,hd=>exact hvs.2 0 y d hy hd
 | 1,hd =>
   cases hd
   exact ZeD (hvs.2 1 y .nil hy rfl).inv_nil
 | i+2,hd=>cases hd
abbrev sysB(s:SysD):Blk:=⟨88,0,2,[cS s],0,false⟩
abbrev optB:Blk:=⟨38,0,8,[[dI 0,dI 0,.nil,dI 0,.nil,.nil,.nil,.nil]],0,false⟩
abbrev m0B(s:SysD):Mem:=upd (upd noM 0 (some (sysB s))) 1 (some optB)
theorem Zo9{s:SysD}{id:Nat}{b:Blk}(h:m0B s id=some b):(id=0∧b=sysB s)∨(id=1∧b=optB):=by
 simp only[m0B,Zau]at h
 by_cases e1:id=1
 ·rw[if_pos e1]at h;cases h;exact .inr ⟨e1,rfl⟩
 ·rw[if_neg e1]at h
  by_cases e0:id=0
  ·rw[if_pos e0]at h;cases h;exact .inl ⟨e0,rfl⟩
  ·rw[if_neg e0]at h;cases h
theorem Zr7(s:SysD):∀ id b,m0B s id=some b→Zb8 (fun i=>(m0B s i).isSome) b:=by
 intro id b h
 rcases Zo9 h with⟨_,rfl⟩|⟨_,rfl⟩
 ·intro e he;rw[List.mem_singleton.1 he];rfl
 ·intro e he;rw[List.mem_singleton.1 he];rfl
theorem ZjV{d:Dic}{r:Nat}(h:next d = .row r):r<d.m∧True:=by
 refine⟨?_,trivial⟩
 unfold next at h
 have key:∀ k,pick d.own (fun i=>neg' (d.v i)) d.m=some k→Zbp d k = .row r→r<d.m:=by
  intro k hk hr
  unfold Zbp at hr
  split at hr
  ·cases hr;exact(ZaT hk).1
  ·cases hr
 have hc:∀ k,Zbs d k ≠ .row r:=by
  intro k hr
  unfold Zbs at hr
  split at hr<;>cases hr
 split at h
 ·cases h
 ·rename_i hr _;exact key _ hr h
 ·rename_i hr _
  split at h
  ·exact key _ hr h
  ·exact absurd h (hc _)
 ·exact absurd h (hc _)
theorem Zo5{d:Dic}{c:Nat}(h:next d = .col c):c<d.n:=by
 unfold next at h
 have key:∀ k,pick d.free (fun j=>pos' (d.g j)) d.n=some k→Zbs d k = .col c→c<d.n:=by
  intro k hk hr
  unfold Zbs at hr
  split at hr
  ·cases hr;exact(ZaT hk).1
  ·cases hr
 have hc:∀ k,Zbp d k ≠ .col c:=by
  intro k hr
  unfold Zbp at hr
  split at hr<;>cases hr
 split at h
 ·cases h
 ·exact absurd h (hc _)
 ·rename_i hs
  split at h
  ·exact absurd h (hc _)
  ·exact key _ hs h
 ·rename_i hs;exact key _ hs h
theorem Zpb(s:SysD)(goal:List Zag){B T:Nat}(h:Fit s goal B T):Zae Tryz.prog 74 [encS s,Zbr goal] (.tup [encO (Zc0 s goal).1,dI (Zc0 s goal).2]):=by
 refine Zae.ofA ?_
 have hG:=h.gl
 have Zr:=Tryz.results74
 refine inA Tryz.func74 rfl Tryz.ntmps74 ?_
 have k1:=ZdR s h.tn.sm
 have k2:=Zfa goal s.n h.gt.sm
 cases hr:Zao s with
 | false =>
   have e1:Zc0 s goal=(⟨0,zF,[],[],[]⟩,1):=by unfold Zc0;rw[hr];rfl
   rw[hr]at k1
   rw[e1]
   refine aGoM (cj2 Zr ZaP) ?_
   repeat with_reducible intro K hK
   rfl
 | true =>
   cases hg:Zai goal s.n with
   | false =>
     have e1:Zc0 s goal=(⟨0,zF,[],[],[]⟩,1):=by unfold Zc0;rw[hr,hg];rfl
     rw[hr]at k1
     rw[hg]at k2
     rw[e1]
     refine aGoM (cj2 Zr ZaP) ?_
     repeat with_reducible intro K hK
     rfl
   | true =>
     have e1:Zc0 s goal=(Zax s goal,0):=by unfold Zc0;rw[hr,hg];rfl
     rw[hr]at k1
     rw[hg]at k2
     rw[e1]
     refine aGoM (cj2 Zr ZaP) ?_
     repeat with_reducible intro K hK
     have hl1:=h.l
     have hn1:=h.n hr
     have hn0:=(ZbL hr).1
     refine ZaD (ZxZ s goal _ _ hr hg h.tn.sm h.gt.sm (by omega)) ?_
     rintro _ m1 nx1 ⟨I,rfl,hnx1,hD1,ap1,hlo1,hfr1⟩
     refine aGoM (cj2 Zr ZaP) ?_
     repeat(first|(guard_target =~ ∀ _:St→Prop,_;intro KJ hJ)|(guard_target =~ ∀ _:List Ev→St→Prop,_;intro K hK))
     have dm:=Zqi s goal
     have dn:=Zel s goal
     have hsz:=ZgN h hr hg
     have ht:(ZaR s goal).1.n≤T∨(ZaR s goal).1.m≤T:=by rw[Zel,ZoZ];rcases h.t hr with h1|h1;exact .inl (by omega);exact .inr h1
     refine ZaD (Zp1 hD1 ap1 (Za5 s goal) (by omega) (by omega) h.b (by omega:(Dic.grow B T:Int)≤536870912) ht hsz) ?_
     rintro _ m2 nx2 ⟨rfl,hnx2,hD2,hfr2⟩
     have hen:=ZhD s goal
     have hD3:Za2 m2 I (fin s goal) (Zbo s goal):=hD2
     rw[show Zfd (ZaR s goal).1=fin s goal from rfl]
     have hM2:∀ id b,m0B s id=some b→m2 id=some b∧id<2∧¬ inD I (fin s goal).m id:=by
      intro id b hb
      have hid:id<2:=by rcases Zo9 hb with⟨rfl,_⟩|⟨rfl,_⟩<;>decide
      have hnin:¬ inD I (ZaR s goal).1.m id:=fun h=>by have:=hlo1 id h;omega
      refine⟨?_,hid,by rw[Zeo];exact hnin⟩
      rw[hfr2 id (by omega) hnin,hfr1 id hid];exact hb
     have tI0:(0:Int)≤s.r.length:=by omega
     cases hn:next (fin s goal)with
     | ex r c=>exact absurd hn (hen r c)
     | best =>
       simp only[Zkl]
       simp only[go_sem,↓reduceIte,Zr]
       refine hJ _ ?_
       refine aLe (ZeL hD3 6 rfl [(1,Zbr goal),(2,.lp 0 0 0 0),(4,.lp 1 0 0 0),(5,dI 0),(7,dI (-1)),(8,dI (-1))] (m0B s) 2 hM2 (Zr7 s) (by simp[go_sem,okD]) rfl) ?_
       have kp:=ZoT (fin s goal) (Zbo s goal) (by rw[Zeo];omega) (by rw[ZcK];omega)
       rw[ZcK,Zdl]at kp
       have sX:smFs (Zal s.n.toNat (ZaV (fin s goal) (fin s goal).m)):=(Zf0 (by omega) fun u=>by have:=Zhh h hr hg _ (Ya4 _) u;omega).sm
       have kv:=Zi8 goal _ h.gt.sm sX
       have kq:=Zwj (fin s goal) (Zbo s goal) s.r.length (by rw[Zeo];omega) (by rw[ZcK];omega) (by omega) (fun j hj=>(Zcm s goal).free_lt j hj) (fun i hi=>Zhk s goal i (by rw[← Zeo];exact hi)) (fun j hj=>by have:=(Zcv h hr hg).g j hj;omega)
       rw[ZcK,Zdl]at kq
       have e3:s.n=((fin s goal).n:Int):=by rw[ZcK];omega
       have eL:Zax s goal=⟨0,(Zcn goal (Zal s.n.toNat (ZaV (fin s goal) (fin s goal).m))).1,Zal s.n.toNat (ZaV (fin s goal) (fin s goal).m),Zal s.r.length (ZbD (fin s goal) (Zbo s goal) s.n.toNat),[]⟩:=by
        unfold Zax;rw[hn]
       rw[eL]
       clear eL e1 hn hen hD2 hD3 hfr2 hM2 hJ hK hsz ht
       generalize Zal s.n.toNat (ZaV (fin s goal) (fin s goal).m)=X at *
       generalize Zal s.r.length (ZbD (fin s goal) (Zbo s goal) s.n.toNat)=Y at *
       generalize fin s goal=F at *
       refine aGo (cj3 Zr ZaP tI0) ?_
       rfl
     | row r =>
       obtain⟨hrm,hrow⟩:=ZjV hn
       simp only[Zkl]
       simp only[go_sem,↓reduceIte,Zr]
       refine hJ _ ?_
       refine aLe (ZeL hD3 6 rfl [(1,Zbr goal),(2,.lp 0 0 0 0),(4,.lp 1 0 0 0),(5,dI 0),(7,dI r),(8,dI (-1))] (m0B s) 2 hM2 (Zr7 s) (by simp[go_sem,okD]) rfl) ?_
       have kq:=Ziu (fin s goal) (Zbo s goal) s.r.length r hrm (by rw[Zeo];omega) (by rw[ZcK];omega) (by omega) ((Zcm s goal).own_lt r hrm) (fun j hj=>(Zcm s goal).free_lt j hj) (fun i hi=>Zhk s goal i (by rw[← Zeo];exact hi)) (fun j hj=>by have:=(Zcv h hr hg).a r j hrm hj;omega)
       rw[ZcK,Zdl]at kq
       have eL:Zax s goal=⟨1,zF,[],Zal s.r.length (refK (fin s goal) (Zbo s goal) r s.n.toNat),[]⟩:=by
        unfold Zax;rw[hn]
       rw[eL]
       clear eL e1 hn hen hD2 hD3 hfr2 hM2 hJ hK hsz ht
       generalize Zal s.r.length (refK (fin s goal) (Zbo s goal) r s.n.toNat)=Y at *
       generalize fin s goal=F at *
       have r0:(0:Int)≤r:=by omega
       refine aGo (cj4 Zr ZaP tI0 r0) ?_
       rfl
     | col c =>
       have hcn:=Zo5 hn
       simp only[Zkl]
       simp only[go_sem,↓reduceIte,Zr]
       refine hJ _ ?_
       refine aLe (ZeL hD3 6 rfl [(2,.lp 0 0 0 0),(4,.lp 1 0 0 0),(5,dI 0),(8,dI c)] (m0B s) 2 hM2 (Zr7 s) (by simp[go_sem,okD]) rfl) ?_
       have c0:(0:Int)≤c:=by omega
       clear hD3 hfr2 hM2 hJ hK hsz ht hD1 ap1 hlo1 hfr1 hD2
       refine aGoM (cj3 Zr ZaP c0) ?_
       repeat with_reducible intro K hK
       have hf0:=h.nil
       have hg0:Zai [] s.n=true:=by simp only[Zai,Ya2,decide_eq_true_eq];exact⟨hn0,rfl⟩
       refine ZaD (Zar.nil2 (ZxZ s [] _ _ hr hg0 h.tn.sm hf0.gt.sm (by omega))) ?_
       rintro _ m1 nx1 ⟨I,rfl,hnx1,hD1,ap1,hlo1,hfr1⟩
       refine aGoM (cj2 Zr ZaP) ?_
       repeat(first|(guard_target =~ ∀ _:St→Prop,_;intro KJ hJ)|(guard_target =~ ∀ _:List Ev→St→Prop,_;intro K hK))
       have dm2:=Zqi s []
       have dn2:=Zel s []
       have hsz:=ZgN hf0 hr hg0
       have ht:(ZaR s []).1.n≤T∨(ZaR s []).1.m≤T:=by rw[Zel,ZoZ];rcases h.t hr with h1|h1;exact .inl (by omega);exact .inr h1
       refine ZaD (Zp1 hD1 ap1 (Za5 s []) (by omega) (by omega) h.b (by omega:(Dic.grow B T:Int)≤536870912) ht hsz) ?_
       rintro _ m2 nx2 ⟨rfl,hnx2,hD2,hfr2⟩
       have henE:=ZhD s []
       have hD3:Za2 m2 I (fin s []) (Zbo s []):=hD2
       rw[show Zfd (ZaR s []).1=fin s []from rfl]
       have hM2:∀ id b,m0B s id=some b→m2 id=some b∧id<2∧¬ inD I (fin s []).m id:=by
        intro id b hb
        have hid:id<2:=by rcases Zo9 hb with⟨rfl,_⟩|⟨rfl,_⟩<;>decide
        have hnin:¬ inD I (ZaR s []).1.m id:=fun h=>by have:=hlo1 id h;omega
        refine⟨?_,hid,by rw[Zeo];exact hnin⟩
        rw[hfr2 id (by omega) hnin,hfr1 id hid];exact hb
       cases hnE:next (fin s [])with
       | ex r c=>exact absurd hnE (henE r c)
       | best =>
         simp only[Zkl]
         simp only[go_sem,↓reduceIte,Zr]
         refine hJ _ ?_
         refine aLe (ZeL hD3 9 rfl [(2,.lp 0 0 0 0),(4,.lp 1 0 0 0),(5,dI 0),(6,Zc1 (fin s goal) (Zbo s goal)),(8,dI c),(10,dI (-1)),(11,dI (-1))] (m0B s) 2 hM2 (Zr7 s) (by simp[go_sem,okD]) rfl) ?_
         have kp:=ZoT (fin s []) (Zbo s []) (by rw[Zeo];omega) (by rw[ZcK];omega)
         rw[ZcK,Zdl]at kp
         have kr:=ZAM (fin s goal) (Zbo s goal) hcn (by rw[Zeo];omega) (by rw[ZcK];omega) (fun i hi=>by have:=(Zcv h hr hg).a i c hi hcn;omega)
         rw[ZcK,Zdl]at kr
         have eL:Zax s goal=⟨2,zF,Zal s.n.toNat (ZaV (fin s []) (fin s []).m),[],Zal s.n.toNat (rayK (fin s goal) c (fin s goal).m)⟩:=by
          unfold Zax;rw[hn];simp only[hnE]
         rw[eL]
         clear eL e1 hn hnE hen henE hD2 hD3 hfr2 hM2 hJ hK hsz ht
         generalize Zal s.n.toNat (ZaV (fin s []) (fin s []).m)=X at *
         generalize Zal s.n.toNat (rayK (fin s goal) c (fin s goal).m)=R at *
         generalize fin s goal=F at *
         generalize fin s []=G at *
         refine aGo (cj4 Zr ZaP tI0 c0) ?_
         rfl
       | col c2 =>
         have c20:(0:Int)≤c2:=by omega
         simp only[Zkl]
         simp only[go_sem,↓reduceIte,Zr]
         refine hJ _ ?_
         refine aLe (ZeL hD3 9 rfl [(2,.lp 0 0 0 0),(4,.lp 1 0 0 0),(5,dI 0),(6,Zc1 (fin s goal) (Zbo s goal)),(8,dI c),(10,dI (-1)),(11,dI c2)] (m0B s) 2 hM2 (Zr7 s) (by simp[go_sem,okD]) rfl) ?_
         have kp:=ZoT (fin s []) (Zbo s []) (by rw[Zeo];omega) (by rw[ZcK];omega)
         rw[ZcK,Zdl]at kp
         have kr:=ZAM (fin s goal) (Zbo s goal) hcn (by rw[Zeo];omega) (by rw[ZcK];omega) (fun i hi=>by have:=(Zcv h hr hg).a i c hi hcn;omega)
         rw[ZcK,Zdl]at kr
         have eL:Zax s goal=⟨2,zF,Zal s.n.toNat (ZaV (fin s []) (fin s []).m),[],Zal s.n.toNat (rayK (fin s goal) c (fin s goal).m)⟩:=by
          unfold Zax;rw[hn];simp only[hnE]
         rw[eL]
         clear eL e1 hn hnE hen henE hD2 hD3 hfr2 hM2 hJ hK hsz ht
         generalize Zal s.n.toNat (ZaV (fin s []) (fin s []).m)=X at *
         generalize Zal s.n.toNat (rayK (fin s goal) c (fin s goal).m)=R at *
         generalize fin s goal=F at *
         generalize fin s []=G at *
         refine aGo (cj4 Zr ZaP tI0 c0) ?_
         rfl
       | row r =>
         obtain⟨hrm,hrow⟩:=ZjV hnE
         simp only[Zkl]
         simp only[go_sem,↓reduceIte,Zr]
         refine hJ _ ?_
         refine aLe (ZeL hD3 9 rfl [(2,.lp 0 0 0 0),(4,.lp 1 0 0 0),(5,dI 0),(6,Zc1 (fin s goal) (Zbo s goal)),(8,dI c),(10,dI r),(11,dI (-1))] (m0B s) 2 hM2 (Zr7 s) (by simp[go_sem,okD]) rfl) ?_
         have kq:=Ziu (fin s []) (Zbo s []) s.r.length r hrm (by rw[Zeo];omega) (by rw[ZcK];omega) (by omega) ((Zcm s []).own_lt r hrm) (fun j hj=>(Zcm s []).free_lt j hj) (fun i hi=>Zhk s [] i (by rw[← Zeo];exact hi)) (fun j hj=>by have:=(Zcv hf0 hr hg0).a r j hrm hj;omega)
         rw[ZcK,Zdl]at kq
         have eL:Zax s goal=⟨1,zF,[],Zal s.r.length (refK (fin s []) (Zbo s []) r s.n.toNat),[]⟩:=by
          unfold Zax;rw[hn];simp only[hnE]
         clear e1 hn hnE hen henE hD2 hD3 hfr2 hM2 hJ hK hsz ht
         generalize Zal s.r.length (refK (fin s []) (Zbo s []) r s.n.toNat)=Y at *
         generalize fin s goal=F at *
         generalize fin s []=G at *
         have r0:(0:Int)≤r:=by omega
         have r1:¬ (r:Int)<0:=by omega
         refine aGo (cj4 Zr ZaP tI0 (cj3 c0 r0 r1)) ?_
         rw[eL]
         rfl
theorem ZtF{x:Dic×(Nat→Nat×Bool)}{row:Nat}{w:RowD}(h:w.k=0):putP x row w=addP w row true x:=by unfold putP;simp[h]
theorem ZtE{x:Dic×(Nat→Nat×Bool)}{row:Nat}{w:RowD}(h:w.k=1):putP x row w=addP w row false x:=by unfold putP;simp[h]
theorem ZtD{x:Dic×(Nat→Nat×Bool)}{row:Nat}{w:RowD}(h0:w.k≠0)(h1:w.k≠1):putP x row w=addP w row true (addP w row false x):=by unfold putP;simp[h0,h1]
theorem ZgM(P:Dic×(Nat→Nat×Bool)→Prop)(g:Nat→Rat)(s:SysD)(h0:P (dicZ s.n.toNat g,fun _=>(0,false)))
 (h:∀ x k w b,P x→s.r[k]? =some w→(b=false→w.k≠0)→(b=true→w.k≠1)→P (addP w k b x)):∀ k,P (Zbu g s k)
 | 0=>h0
 | k+1=>by
   have ih:=ZgM P g s h0 h k
   simp only[Zbu]
   split
   ·rename_i w hw
    by_cases e0:w.k=0
    ·rw[ZtF e0];exact h _ _ _ _ ih hw (fun e=>by cases e) (fun _=>by omega)
    ·by_cases e1:w.k=1
     ·rw[ZtE e1];exact h _ _ _ _ ih hw (fun _=>e0) (fun e=>by cases e)
     ·rw[ZtD e0 e1];exact h _ _ _ _ (h _ _ _ _ ih hw (fun _=>e0) (fun e=>by cases e)) hw (fun e=>by cases e) (fun _=>e1)
   ·exact ih
theorem Zhl(s:SysD)(goal:List Zag):∀ k,k<(ZaR s goal).1.m→∃ w,s.r[((ZaR s goal).2 k).1]? =some w∧(ZaR s goal).1.v k=sgQ' ((ZaR s goal).2 k).2 (qOf w.v)∧((ZaR s goal).1.a k=fun j=>sgQ' ((ZaR s goal).2 k).2 (ZaU w.t j)) ∧
 (((ZaR s goal).2 k).2=false→w.k≠0)∧(((ZaR s goal).2 k).2=true→w.k≠1):=by
 refine ZgM (fun x=>∀ k,k<x.1.m→∃ w,s.r[(x.2 k).1]? =some w∧x.1.v k=sgQ' (x.2 k).2 (qOf w.v)∧(x.1.a k=fun j=>sgQ' (x.2 k).2 (ZaU w.t j))∧((x.2 k).2=false→w.k≠0)∧((x.2 k).2=true→w.k≠1)) _ s
  (fun i hi=>absurd hi (Nat.not_lt_zero _)) (fun x k w b ih hw h1 h2 i hi=>?_) s.r.length
 simp only[addP,Zd4]at hi ⊢
 by_cases e:i=x.1.m
 ·simp only[if_pos e];exact⟨w,hw,rfl,rfl,h1,h2⟩
 ·simp only[if_neg e];exact ih i (by omega)
theorem ZiR(x:Dic×(Nat→Nat×Bool))(row:Nat)(w:RowD)(b:Bool):(addP w row b x).1.m=x.1.m+1:=rfl
theorem ZhP{x:Dic×(Nat→Nat×Bool)}(row:Nat)(w:RowD)(b:Bool){k:Nat}(h:k<x.1.m):(addP w row b x).2 k=x.2 k:=by
 show(if k=x.1.m then(row,b)else x.2 k)=x.2 k
 rw[if_neg (by omega)]
theorem Zji(x:Dic×(Nat→Nat×Bool))(row:Nat)(w:RowD)(b:Bool):(addP w row b x).2 x.1.m=(row,b):=by
 show(if x.1.m=x.1.m then(row,b)else x.2 x.1.m)=(row,b)
 rw[if_pos rfl]
theorem ZtC(x:Dic×(Nat→Nat×Bool))(row:Nat)(w:RowD):x.1.m≤(putP x row w).1.m∧∀ k,k<x.1.m→(putP x row w).2 k=x.2 k:=by
 by_cases e0:w.k=0
 ·rw[ZtF e0];exact⟨Nat.le_succ _,fun k hk=>ZhP _ _ _ hk⟩
 ·by_cases e1:w.k=1
  ·rw[ZtE e1];exact⟨Nat.le_succ _,fun k hk=>ZhP _ _ _ hk⟩
  ·rw[ZtD e0 e1]
   exact⟨by rw[ZiR,ZiR];omega,fun k hk=>(ZhP _ _ _ (by rw[ZiR];omega)).trans (ZhP _ _ _ hk)⟩
theorem Zwi(x:Dic×(Nat→Nat×Bool))(row:Nat)(w:RowD):(w.k≠0→∃ k,k<(putP x row w).1.m∧(putP x row w).2 k=(row,false))∧(w.k≠1→∃ k,k<(putP x row w).1.m∧(putP x row w).2 k=(row,true)):=by
 by_cases e0:w.k=0
 ·rw[ZtF e0];exact⟨fun h=>absurd e0 h,fun _=>⟨x.1.m,Nat.lt_succ_self _,Zji _ _ _ _⟩⟩
 ·by_cases e1:w.k=1
  ·rw[ZtE e1];exact⟨fun _=>⟨x.1.m,Nat.lt_succ_self _,Zji _ _ _ _⟩,fun h=>absurd e1 h⟩
  ·rw[ZtD e0 e1]
   exact⟨fun _=>⟨x.1.m,by rw[ZiR,ZiR];omega,(ZhP _ _ _ (by rw[ZiR];omega)).trans (Zji _ _ _ _)⟩,fun _=>⟨x.1.m+1,by rw[ZiR,ZiR];omega,Zji _ _ _ _⟩⟩
theorem Znh(g:Nat→Rat)(s:SysD):∀ K ρ w,ρ<K→s.r[ρ]? =some w→(w.k≠0→∃ k,k<(Zbu g s K).1.m∧(Zbu g s K).2 k=(ρ,false))∧(w.k≠1→∃ k,k<(Zbu g s K).1.m∧(Zbu g s K).2 k=(ρ,true))
 | 0,_,_,h,_=>absurd h (Nat.not_lt_zero _)
 | K+1,ρ,w,hρ,hw=>by
   simp only[Zbu]
   by_cases e:ρ=K
   ·subst e;rw[hw];exact Zwi _ _ _
   ·have ih:=Znh g s K ρ w (by omega) hw
    split
    ·rename_i w' _
     obtain⟨k1,k2⟩:=ZtC (Zbu g s K) K w'
     refine⟨fun h=>?_,fun h=>?_⟩
     ·obtain⟨k,h1,h2⟩:=ih.1 h;exact⟨k,by omega,(k2 k h1).trans h2⟩
     ·obtain⟨k,h1,h2⟩:=ih.2 h;exact⟨k,by omega,(k2 k h1).trans h2⟩
    ·exact ih
theorem Zvr(n:Nat)(c:Nat→Rat)(v:Nat)(hv:v<n):atP (Zal n c) v=c v:=by
 unfold atP Zal
 rw[Int.toNat_natCast,Yb8,List.getElem?_range hv]
 exact ZaM _
theorem ZnX{l:List Zag}{n:Nat}(h:Zai l n=true)(c:Nat→Rat):dotD l (Zal n c)=sumN n fun v=>ZaU l v*c v:=by
 rw[Zdr,Zij _ l (ZfG h)]
 exact ZaX n fun v hv=>by rw[Zvr n c v hv]
theorem ZrD{q:Rat}(h:0≤q):0≤sgnD (ofQ q):=by
 rw[Zcw]
 have:=@Zjx q
 have h2:¬ q<0:=by grind
 have h3:¬ sgQ q<0:=fun h=>h2 (this.1 h)
 omega
section
variable {s:SysD} {goal:List Zag}
theorem ZpU(hr:Zao s=true){κ:Rat}{x:Nat→Rat}(hx:(ZaR s goal).1.Sol κ x)(h0:∀ u,u<s.n.toNat+(ZaR s goal).1.m→0≤x u):∀ w∈s.r,ZdA w.k (sgQ (dotD w.t (Zal s.n.toNat x)-κ*qOf w.v))=true:=by
 intro w hw
 obtain⟨hwr,hk0,hk3,_⟩:=ZbC hr hw
 obtain⟨ρ,hρ⟩:=List.getElem?_of_mem hw
 have hall:=Znh (fun j=> -ZaU goal j) s s.r.length ρ w (Ya3.1 hρ).1 hρ
 have hF:=Za5 s goal
 have hn:=Zel s goal
 have key:∀ k b,k<(ZaR s goal).1.m→(ZaR s goal).2 k=(ρ,b)→0≤sgQ' b (qOf w.v)*κ-sgQ' b (dotD w.t (Zal s.n.toNat x)):=by
  intro k b hk hs
  obtain⟨w',hw',hv,ha,_⟩:=Zhl s goal k hk
  rw[hs]at hw' hv ha
  simp only at hw' hv ha
  rw[hρ]at hw'
  cases hw'
  have h1:=hx k hk
  unfold Dic.Row at h1
  rw[hF.own k hk,hn,hv,ha]at h1
  have h2:=h0 (s.n.toNat+k) (by omega)
  rw[h1]at h2
  have e:sumN s.n.toNat (fun j=>sgQ' b (ZaU w.t j)*x ((ZaR s goal).1.free j))=sgQ' b (dotD w.t (Zal s.n.toNat x)):=by
   rw[ZnX hwr]
   unfold sgQ'
   split
   ·rw[show -sumN s.n.toNat (fun v=>ZaU w.t v*x v)=(-1)*sumN s.n.toNat (fun v=>ZaU w.t v*x v) by grind,← Zdw]
    exact ZaX _ fun j hj=>by rw[hF.free j (by omega)];grind
   ·exact ZaX _ fun j hj=>by rw[hF.free j (by omega)]
  rw[e]at h2
  exact h2
 rw[ZhB hk0 hk3]
 have a1:w.k≠0→dotD w.t (Zal s.n.toNat x)-κ*qOf w.v≤0:=fun h=>by
  obtain⟨k,h1,h2⟩:=hall.1 h
  have:=key k false h1 h2
  simp only[sgQ']at this;grind
 have a2:w.k≠1→0≤dotD w.t (Zal s.n.toNat x)-κ*qOf w.v:=fun h=>by
  obtain⟨k,h1,h2⟩:=hall.2 h
  have:=key k true h1 h2
  simp only[sgQ']at this;grind
 refine⟨fun h=>a2 (by omega),fun h=>a1 (by omega),fun h=>?_⟩
 have:=a1 (by omega);have:=a2 (by omega);grind
theorem ZiF{n:Nat}{x:Nat→Rat}(h:∀ u,u<n→0≤x u):ZeH (Zal n x)=true:=by
 refine Ya6.2 fun f hf=>?_
 obtain⟨u,hu,rfl⟩:=ZeP hf
 exact decide_eq_true (ZrD (h u hu))
theorem Zs7(hr:Zao s=true){x:Nat→Rat}(hx:(ZaR s goal).1.Sol 1 x)(h0:∀ u,u<s.n.toNat+(ZaR s goal).1.m→0≤x u):ZaA s (Zal s.n.toNat x)=true:=by
 have h1:=ZpU hr hx h0
 have hn:=(ZbL hr).1
 simp only[ZaA,Ya2,decide_eq_true_eq]
 refine⟨⟨⟨⟨hr,by rw[ZdU];omega⟩,Zjb _ _⟩,ZiF fun u hu=>h0 u (by omega)⟩,Ya6.2 fun w hw=>?_⟩
 have:=h1 w hw
 rwa [show(1:Rat)*qOf w.v=qOf w.v by grind]at this
end
theorem Zng{d:Dic}(hP:d.Part){k:Nat}(hk:k<d.m)(hn:d.own k<d.n):∀ i,k<i→i≤d.m→ZaV d i (d.own k)=d.v k
 | 0,h,_=>absurd h (Nat.not_lt_zero _)
 | i+1,h,hi=>by
   simp only[ZaV]
   by_cases e:k=i
   ·subst e;rw[if_pos ⟨hn,rfl⟩]
   ·rw[if_neg (fun h2=>e (hP.own_inj k i hk (by omega) h2.2))]
    exact Zng hP hk hn i (by omega) (by omega)
theorem ZkX{d:Dic}{u:Nat}:∀ i,(∀ k,k<i→d.own k≠u)→ZaV d i u=0
 | 0,_=>rfl
 | i+1,h=>by
   simp only[ZaV]
   rw[if_neg (fun h2=>h i (by omega) h2.2.symm)]
   exact ZkX i fun k hk=>h k (by omega)
theorem ZkY{d:Dic}(hP:d.Part){u:Nat}(hu:u<d.n):ZaV d d.m u=d.base u:=by
 rcases hP.all u (by omega)with⟨i,hi,rfl⟩|⟨j,hj,rfl⟩
 ·rw[Zng hP hi hu d.m hi (Ya4 _),Dic.base_own hP hi]
 ·rw[ZkX d.m fun k hk=>hP.apart k j hk hj,Dic.base_free hP hj]
theorem ZtA{d:Dic}(hP:d.Part){s k:Nat}(hk:k<d.m)(hn:d.own k<d.n):∀ i,k<i→i≤d.m→rayK d s i (d.own k) = -d.a k s
 | 0,h,_=>absurd h (Nat.not_lt_zero _)
 | i+1,h,hi=>by
   simp only[rayK]
   by_cases e:k=i
   ·subst e;rw[if_pos ⟨hn,rfl⟩]
   ·rw[if_neg (fun h2=>e (hP.own_inj k i hk (by omega) h2.2))]
    exact ZtA hP hk hn i (by omega) (by omega)
theorem Zqb{d:Dic}{s u:Nat}:∀ i,(∀ k,k<i→d.own k≠u)→rayK d s i u=if d.free s<d.n∧u=d.free s then 1 else 0
 | 0,_=>rfl
 | i+1,h=>by
   simp only[rayK]
   rw[if_neg (fun h2=>h i (by omega) h2.2.symm)]
   exact Zqb i fun k hk=>h k (by omega)
theorem ZyZ{d:Dic}(hP:d.Part){s u:Nat}(hs:s<d.n)(hu:u<d.n):rayK d s d.m u=d.dir s u:=by
 rcases hP.all u (by omega)with⟨i,hi,rfl⟩|⟨j,hj,rfl⟩
 ·rw[ZtA hP hi hu d.m hi (Ya4 _),Dic.dir_own hP hi hs]
 ·rw[Zqb d.m fun k hk=>hP.apart k j hk hj,Dic.dir_free hP hj]
  by_cases e:j=s
  ·subst e;rw[if_pos ⟨hu,rfl⟩,if_pos rfl]
  ·rw[if_neg (fun h=>e (hP.free_inj j s hj hs h.2)),if_neg e]
theorem ZgT{n:Nat}{c e:Nat→Rat}(h:∀ u,u<n→c u=e u):Zal n c=Zal n e:=List.map_congr_left fun u hu=>by rw[h u (Yd2.1 hu)]
theorem Zim(src:Nat→Nat×Bool)(y rd:Nat→Rat)(k:Nat)(p:Rat){M:Nat}(h:(src k).1<M):sumN M (fun i=>ZcA src y k p i*rd i)=sumN M (fun i=>y i*rd i)-p*sgQ' (src k).2 (rd (src k).1):=by
 have e:(fun i=>ZcA src y k p i*rd i)=fun i=>y i*rd i+(if i=(src k).1 then(if (src k).2 then p else -p)*rd (src k).1 else 0):=by
  funext i
  unfold ZcA
  by_cases e:i=(src k).1
  ·rw[if_pos e,if_pos e,e];grind
  ·rw[if_neg e,if_neg e];grind
 rw[e,Ze4,Zf2,if_pos h]
 unfold sgQ'
 split<;>grind
section
variable {d:Dic} {src:Nat→Nat×Bool} {M:Nat} {rd A:Nat→Rat} (hP:d.Part) (hs:∀ k,k<d.m→(src k).1<M) (hA:∀ k,k<d.m→A k=sgQ' (src k).2 (rd (src k).1))
include hP hs hA
theorem Zh6:∀ j,j≤d.n→sumN M (fun i=>ZbD d src j i*rd i)=sumN j fun l=>if d.n≤d.free l then d.g l*A (d.free l-d.n)else 0
 | 0,_=>by
   simp only[ZbD,sumN]
   rw[show(fun i=>(0:Rat)*rd i)=fun _=>0 by funext i;grind,Zbd]
 | j+1,hj=>by
   have ih:=Zh6 j (by omega)
   have fl:=hP.free_lt j (by omega)
   simp only[ZbD,sumN]
   by_cases e:d.n≤d.free j
   ·simp only[if_pos e]
    rw[Zim src _ rd _ _ (hs _ (by omega)),ih,hA (d.free j-d.n) (by omega)];grind
   ·simp only[if_neg e]
    rw[ih];grind
theorem ZoR{r:Nat}(hr:r<d.m):∀ j,j≤d.n→sumN M (fun i=>refK d src r j i*rd i)=(if d.n≤d.own r then -A (d.own r-d.n)else 0)-sumN j fun l=>if d.n≤d.free l then d.a r l*A (d.free l-d.n)else 0
 | 0,_=>by
   have ol:=hP.own_lt r hr
   have z:sumN M (fun i=>(0:Rat)*rd i)=0:=by rw[show(fun i=>(0:Rat)*rd i)=fun _=>0 by funext i;grind,Zbd]
   simp only[refK,sumN]
   by_cases e:d.n≤d.own r
   ·simp only[if_pos e]
    rw[Zim src _ rd _ _ (hs _ (by omega)),z,hA _ (by omega)];grind
   ·simp only[if_neg e]
    rw[z];grind
 | j+1,hj=>by
   have ih:=ZoR hr j (by omega)
   have fl:=hP.free_lt j (by omega)
   simp only[refK,sumN]
   by_cases e:d.n≤d.free j
   ·simp only[if_pos e]
    rw[Zim src _ rd _ _ (hs _ (by omega)),ih,hA (d.free j-d.n) (by omega)];grind
   ·simp only[if_neg e]
    rw[ih];grind
end
def rdG(s:SysD)(g:Int→Rat)(i:Nat):Rat:=match s.r[i]? with
 | some w=>dotS g w.t
 | none=>0
def rdV(s:SysD)(i:Nat):Rat:=match s.r[i]? with
 | some w=>qOf w.v
 | none=>0
theorem Zkj{n k:Nat}(c:Nat→Rat)(h:k<n):(Zal n c)[k]? =some (ofQ (c k)):=by
 unfold Zal;rw[Yb8,List.getElem?_range h];rfl
theorem Znr(s:SysD)(g:Int→Rat)(y:Nat→Rat):mixG g s.r (Zal s.r.length y)=sumN s.r.length fun i=>y i*rdG s g i:=by
 have h:∀ k,k≤s.r.length→mixG g (s.r.take k) ((Zal s.r.length y).take k)=sumN k fun i=>y i*rdG s g i:=by
  intro k
  induction k with
  | zero=>intro _;rw[List.take_zero,Zga];rfl
  | succ k ih =>
    intro hk
    obtain⟨w,hw⟩:=getE (l:=s.r) (k:=k) (by omega)
    rw[Zhs g _ _ k w _ hw (Zkj y (by omega)),ih (by omega),ZaM]
    simp only[sumN,rdG,hw]
 have:=h s.r.length (Ya4 _)
 rwa [Yc2,Ya8 (by rw[ZdU];exact Ya4 _)]at this
theorem Zk6(s:SysD)(y:Nat→Rat):mixV s.r (Zal s.r.length y)=sumN s.r.length fun i=>y i*rdV s i:=by
 have h:∀ k,k≤s.r.length→mixV (s.r.take k) ((Zal s.r.length y).take k)=sumN k fun i=>y i*rdV s i:=by
  intro k
  induction k with
  | zero=>intro _;rw[List.take_zero,Zhr];rfl
  | succ k ih =>
    intro hk
    obtain⟨w,hw⟩:=getE (l:=s.r) (k:=k) (by omega)
    rw[Zi6 _ _ k w _ hw (Zkj y (by omega)),ih (by omega),ZaM]
    simp only[sumN,rdV,hw]
 have:=h s.r.length (Ya4 _)
 rwa [Yc2,Ya8 (by rw[ZdU];exact Ya4 _)]at this
def ZsC(s:SysD)(y:Nat→Rat):Prop:=∀ i w,s.r[i]? =some w→(w.k=0→0≤y i)∧(w.k=1→y i≤0)
theorem Zh1(s:SysD):ZsC s fun _=>0:=fun _ _ _=>⟨fun _=>by grind,fun _=>by grind⟩
theorem ZfB{s:SysD}{goal:List Zag}{y:Nat→Rat}(h:ZsC s y){k:Nat}(hk:k<(ZaR s goal).1.m){p:Rat}(hp:0≤p):ZsC s (ZcA (Zbo s goal) y k p):=by
 intro i w hw
 unfold ZcA
 by_cases e:i=(Zbo s goal k).1
 ·rw[if_pos e]
  obtain⟨w',hw',_,_,h1,h2⟩:=Zhl s goal k hk
  have hi:s.r[i]? =some w':=by rw[e];exact hw'
  rw[hw]at hi
  cases hi
  have:=h i w hw
  cases hb:(ZaR s goal).2 k with
  | mk a b =>
    rw[hb]at h1 h2
    cases b with
    | false =>
      simp only[Zbo,hb,Bool.false_eq_true,if_false]
      exact⟨fun h0=>absurd h0 (h1 rfl),fun h0=>by have:=this.2 h0;grind⟩
    | true =>
      simp only[Zbo,hb,if_true]
      exact⟨fun h0=>by have:=this.1 h0;grind,fun h0=>absurd h0 (h2 rfl)⟩
 ·rw[if_neg e];exact h i w hw
theorem Zir{s:SysD}{goal:List Zag}{d:Dic}(hP:d.Part)(hm:d.m=(ZaR s goal).1.m)(hg:∀ j,j<d.n→d.g j≤0):∀ j,j≤d.n→ZsC s (ZbD d (Zbo s goal) j)
 | 0,_=>Zh1 s
 | j+1,hj=>by
   have ih:=Zir hP hm hg j (by omega)
   have fl:=hP.free_lt j (by omega)
   simp only[ZbD]
   split
   ·exact ZfB ih (by omega) (by have:=hg j (by omega);grind)
   ·exact ih
theorem ZmT{s:SysD}{goal:List Zag}{d:Dic}(hP:d.Part)(hm:d.m=(ZaR s goal).1.m){r:Nat}(hr:r<d.m)(hg:∀ j,j<d.n→0≤d.a r j):∀ j,j≤d.n→ZsC s (refK d (Zbo s goal) r j)
 | 0,_=>by
   have ol:=hP.own_lt r hr
   simp only[refK]
   split
   ·exact ZfB (Zh1 s) (by omega) (by decide +kernel)
   ·exact Zh1 s
 | j+1,hj=>by
   have ih:=ZmT hP hm hr hg j (by omega)
   have fl:=hP.free_lt j (by omega)
   simp only[refK]
   split
   ·exact ZfB ih (by omega) (hg j (by omega))
   ·exact ih
theorem ZpV{s:SysD}(hr:Zao s=true){y:Nat→Rat}(h:ZsC s y):Zcq s (Zal s.r.length y)=true:=by
 simp only[Zcq,Ya2]
 refine⟨ZcP.2 ⟨hr,ZdU _ _,Zjb _ _⟩,Ya6.2 fun p hp=>?_⟩
 obtain⟨i,hi⟩:=List.getElem?_of_mem hp
 rw[List.getElem?_zip_eq_some]at hi
 obtain⟨h1,h2⟩:=hi
 have hl:=(Ya3.1 h1).1
 rw[Zkj y hl]at h2
 cases p with
 | mk w f =>
   simp only[Ya1]at h1 h2
   subst h2
   have:=h i w h1
   simp only[ZcM,Zcw,Ya2,Bool.not_eq_true',Bool.and_eq_false_iff,beq_eq_false_iff_ne,decide_eq_false_iff_not]
   refine⟨?_,?_⟩
   ·by_cases e:w.k=0
    ·right;rw[Zjx];have:=this.1 e;grind
    ·exact .inl e
   ·by_cases e:w.k=1
    ·right;rw[gt_iff_lt,Zds];have:=this.2 e;grind
    ·exact .inl e
section
variable {D:Dic} (hF:D.First)
include hF
theorem ZgD{κ:Rat}{c:Nat→Rat}{q:Nat}(hq:q<D.n):D.val κ c q=c q:=by
 have:=Dic.val_free (k:=κ) (c:=c) hF.part hq
 rwa [hF.free q hq]at this
theorem ZhC{κ:Rat}{c:Nat→Rat}{q:Nat}(h1:D.n≤q)(h2:q<D.n+D.m):D.val κ c q=D.v (q-D.n)*κ-sumN D.n fun j=>D.a (q-D.n) j*c j:=by
 have:=Dic.val_own (k:=κ) (c:=c) hF.part (i:=q-D.n) (by omega)
 rwa [hF.own (q-D.n) (by omega),show D.n+(q-D.n)=q by omega]at this
theorem Zig{v:Nat}(hv:v<D.n){q:Nat}(hq:q<D.n+D.m):D.val 0 (fun l=>if l=v then 1 else 0) q=if q<D.n then(if q=v then 1 else 0)else -D.a (q-D.n) v:=by
 by_cases e:q<D.n
 ·rw[if_pos e,ZgD hF e]
 ·rw[if_neg e,ZhC hF (by omega) hq,Dic.sumN_at _ hv];grind
theorem ZgU{q:Nat}(hq:q<D.n+D.m):D.val 1 (fun _=>0) q=if q<D.n then 0 else D.v (q-D.n):=by
 by_cases e:q<D.n
 ·rw[if_pos e,ZgD hF e]
 ·rw[if_neg e,ZhC hF (by omega) hq,show(fun j=>D.a (q-D.n) j*(0:Rat))=fun _=>0 by funext j;grind,Zbd];grind
theorem Znf{F:Dic}(hS:Dic.Same D F)(hP:F.Part)(hg:∀ j,j<F.n→F.g j≤0){v:Nat}(hv:v<D.n) :
 (sumN F.n fun l=>if F.n≤F.free l then F.g l*D.a (F.free l-F.n) v else 0) ≤ -D.g v:=by
 have hn:=hS.n
 have hm:=hS.m
 have h1:=hS.obj 0 (D.val 0 fun l=>if l=v then 1 else 0) (Dic.val_sol hF.part)
 rw[Dic.val_obj hF.part,Dic.sumN_at _ hv]at h1
 unfold Dic.obj at h1
 have e:(fun l=>if F.n≤F.free l then F.g l*D.a (F.free l-F.n) v else 0)=fun l=>(if F.n≤F.free l then F.g l*D.a (F.free l-F.n) v else 0):=rfl
 have h2:(sumN F.n fun l=>if F.n≤F.free l then F.g l*D.a (F.free l-F.n) v else 0)+(sumN F.n fun j=>F.g j*D.val 0 (fun l=>if l=v then 1 else 0) (F.free j))≤0:=by
  rw[← Ze4]
  refine Dic.sumN_nonpos fun j hj=>?_
  have fl:=hP.free_lt j hj
  rw[Zig hF hv (by omega)]
  have:=hg j hj
  by_cases e:F.n≤F.free j
  ·rw[if_pos e,if_neg (by omega),hn];grind
  ·rw[if_neg e,if_pos (by omega)]
   split<;>grind
 grind
theorem Znd{F:Dic}(hS:Dic.Same D F)(hP:F.Part)(hz:D.z=0):(sumN F.n fun l=>if F.n≤F.free l then F.g l*D.v (F.free l-F.n)else 0) = -F.z:=by
 have hn:=hS.n
 have hm:=hS.m
 have h1:=hS.obj 1 (D.val 1 fun _=>0) (Dic.val_sol hF.part)
 rw[Dic.val_obj hF.part,show(fun j=>D.g j*(0:Rat))=fun _=>0 by funext j;grind,Zbd,hz]at h1
 unfold Dic.obj at h1
 have h2:(sumN F.n fun l=>if F.n≤F.free l then F.g l*D.v (F.free l-F.n)else 0)=sumN F.n fun j=>F.g j*D.val 1 (fun _=>0) (F.free j):=by
  refine ZaX _ fun j hj=>?_
  have fl:=hP.free_lt j hj
  rw[ZgU hF (by omega)]
  by_cases e:F.n≤F.free j
  ·rw[if_pos e,if_neg (by omega),hn]
  ·rw[if_neg e,if_pos (by omega)];grind
 grind
theorem Ztv{F:Dic}(hS:Dic.Same D F)(hP:F.Part){r:Nat}(hr:r<F.m)(ha:∀ j,j<F.n→0≤F.a r j){v:Nat}(hv:v<D.n) :
 (if F.n≤F.own r then -D.a (F.own r-F.n) v else 0)-(sumN F.n fun l=>if F.n≤F.free l then F.a r l*D.a (F.free l-F.n) v else 0)≤0:=by
 have hn:=hS.n
 have hm:=hS.m
 have h1:=(hS.sol 0 (D.val 0 fun l=>if l=v then 1 else 0)).1 (Dic.val_sol hF.part) r hr
 unfold Dic.Row at h1
 have ol:=hP.own_lt r hr
 rw[Zig hF hv (by omega)]at h1
 have h2:0≤(sumN F.n fun l=>if F.n≤F.free l then F.a r l*D.a (F.free l-F.n) v else 0)+(sumN F.n fun j=>F.a r j*D.val 0 (fun l=>if l=v then 1 else 0) (F.free j)):=by
  rw[← Ze4]
  refine Zot fun j hj=>?_
  have fl:=hP.free_lt j hj
  rw[Zig hF hv (by omega)]
  have:=ha j hj
  by_cases e:F.n≤F.free j
  ·rw[if_pos e,if_neg (by omega),hn];grind
  ·rw[if_neg e,if_pos (by omega)]
   split<;>grind
 by_cases e:F.n≤F.own r
 ·rw[if_pos e]
  rw[if_neg (by omega),← hn]at h1
  grind
 ·rw[if_neg e]
  rw[if_pos (by omega)]at h1
  split at h1<;>grind
theorem Ztu{F:Dic}(hS:Dic.Same D F)(hP:F.Part){r:Nat}(hr:r<F.m) :
 (if F.n≤F.own r then -D.v (F.own r-F.n)else 0)-(sumN F.n fun l=>if F.n≤F.free l then F.a r l*D.v (F.free l-F.n)else 0) = -F.v r:=by
 have hn:=hS.n
 have hm:=hS.m
 have h1:=(hS.sol 1 (D.val 1 fun _=>0)).1 (Dic.val_sol hF.part) r hr
 unfold Dic.Row at h1
 have ol:=hP.own_lt r hr
 rw[ZgU hF (by omega)]at h1
 have h2:(sumN F.n fun l=>if F.n≤F.free l then F.a r l*D.v (F.free l-F.n)else 0)=sumN F.n fun j=>F.a r j*D.val 1 (fun _=>0) (F.free j):=by
  refine ZaX _ fun j hj=>?_
  have fl:=hP.free_lt j hj
  rw[ZgU hF (by omega)]
  by_cases e:F.n≤F.free j
  ·rw[if_pos e,if_neg (by omega),hn]
  ·rw[if_neg e,if_pos (by omega)];grind
 by_cases e:F.n≤F.own r
 ·rw[if_pos e]
  rw[if_neg (by omega),← hn]at h1
  grind
 ·rw[if_neg e]
  rw[if_pos (by omega)]at h1
  grind
end
end Go.Proofs.YtiincpioidnciaaGreat
