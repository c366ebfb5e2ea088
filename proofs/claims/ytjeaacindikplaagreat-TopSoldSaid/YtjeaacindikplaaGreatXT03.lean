/-
  The walk over data: exchange.
-/
import Derived.Test.YtjeaacindikplaaGreatXLib
import Derived.Test.YtjeaacindikplaaGreatXT02
import Derived.Test.YtjeaacindikplaaGreatXT01
import Derived.Test.YtjeaacindikplaaGreatXRefA
namespace Go.Proofs.YtjeaacindikplaaGreat
set_option linter.unusedVariables false
set_option linter.unusedSimpArgs false
set_option linter.unusedSectionVars false
open Go Go.RowKit
set_option maxRecDepth 100000
set_option maxHeartbeats 16000000
theorem Zns{ops:Array Oper}{tr:List (List Nat×List Nat)}(J:Nat→Nat)(k:Nat)(tr0:List (List Nat×List Nat))(h:tr=tr0.map fun x=>(x.1.map J,x.2.map J))(hJ:∀ u v,u<k→v<k→J u=J v→u=v)
 (hb:tr0.all (fun x=>x.1.all (fun i=>decide (i<k))&&x.2.all (fun i=>decide (i<k)))=true) (hr:ZgF ops tr0=true):ZgF ops tr=true:=by
 have key:∀ a b:List Nat,a.all (fun i=>decide (i<k))=true→b.all (fun i=>decide (i<k))=true→ZlD a b=false→ZlD (a.map J) (b.map J)=false:=by
  intro a b ha hb hm
  cases hc:ZlD (a.map J) (b.map J)
  ·rfl
  ·unfold ZlD at hc
   obtain⟨u,hu,hc⟩:=List.any_eq_true.1 hc
   obtain⟨x,hx,rfl⟩:=Yc6.1 hu
   obtain⟨y,hy,e⟩:=Yc6.1 (List.contains_iff_mem.1 hc)
   have e2:=hJ y x (by simpa using Ya6.1 hb y hy) (by simpa using Ya6.1 ha x hx) e
   subst e2
   have:ZlD a b=true:=List.any_eq_true.2 ⟨y,hx,List.contains_iff_mem.2 hy⟩
   rw[hm]at this;cases this
 subst h
 unfold ZgF at hr ⊢
 simp only[Ya6,Yd2]at hr ⊢
 intro j hj i hi
 have h1:=hr j hj i hi
 rw[Yb8,Yb8]
 cases hx:tr0[i]? with
 | none=>rfl
 | some x =>
   cases hy:tr0[j]? with
   | none=>rfl
   | some y =>
     rw[hx,hy]at h1
     have bx:=Ya6.1 hb x (Ya7 hx)
     have by':=Ya6.1 hb y (Ya7 hy)
     rw[Ya2]at bx by'
     simp only[Yd0]
     rw[Bool.or_eq_true]at h1 ⊢
     rcases h1 with h1|h1
     ·left
      simp only[Ya2,Bool.not_eq_true']at h1 ⊢
      exact⟨key _ _ bx.2 by'.1 h1.1,key _ _ bx.1 by'.2 h1.2⟩
     ·exact .inr h1
theorem Zcg{ops:Array Oper}{tr:List (List Nat×List Nat)}(L:List Nat)(hL:L.Nodup)(tr0:List (List Nat×List Nat))(h:tr=tr0.map fun x=>(x.1.map fun i=>L.getD i 0,x.2.map fun i=>L.getD i 0))
 (hb:tr0.all (fun x=>x.1.all (fun i=>decide (i<L.length))&&x.2.all (fun i=>decide (i<L.length)))=true) (hr:ZgF ops tr0=true):ZgF ops tr=true:=by
 refine Zns (fun i=>L.getD i 0) L.length tr0 h (fun u v hu hv e=>?_) hb hr
 simp only[List.getD_eq_getElem?_getD,Ya0 hu,Ya0 hv,Option.getD_some]at e
 exact(List.getElem_inj hL).1 e
def sel3(a b c:Nat):Nat→Nat
 | 0=>a
 | 1=>b
 | _=>c
theorem Zsb{a b c:Nat}(h1:a≠b)(h2:a≠c)(h3:b≠c):∀ u v,u<3→v<3→sel3 a b c u=sel3 a b c v→u=v
 | 0,0,_,_,_=>rfl
 | 1,1,_,_,_=>rfl
 | 2,2,_,_,_=>rfl
 | 0,1,_,_,h=>absurd h h1
 | 1,0,_,_,h=>absurd h.symm h1
 | 0,2,_,_,h=>absurd h h2
 | 2,0,_,_,h=>absurd h.symm h2
 | 1,2,_,_,h=>absurd h h3
 | 2,1,_,_,h=>absurd h.symm h3
 | u+3,_,h,_,_=>absurd h (by omega)
 | _,v+3,_,h,_=>absurd h (by omega)
def ZA3:List (List Nat×List Nat):=[([],[]),([],[]),([],[]),([0],[]),([],[]),([],[]),([],[]),([],[]),([0],[]),([],[]),([],[]),([],[]),([],[]),([0],[]),([],[]),([2],[]),([2],[]),([],[]),([],[]),([],[]),([0],[]),([],[]),([1],[]),([1],[]),([1],[]),([1,1],[1]),([2],[]),([2,2],[2])]
section
variable {I:Ids} {d:Dic} {src:Nat→Nat×Bool} {m:Mem}
theorem Zbi.new(h:Zbi m I d src){x:Nat}{b:Option Blk}(hx:∀ id,inD I d.m id→id≠x):Zbi (upd m x b) I d src:=h.keep fun id hi=>Zac _ _ (hx id hi)
theorem Zbi.setR(h:Zbi m I d src)(ap:ZhN I d.m)(v:Nat→Rat):Zbi (upd m I.R (some (rB I d.m v))) I {d with v:=v} src :=
 ⟨by rw[Zac _ _ ap.pR];exact h.hp,Zae _ _ _,by rw[Zac _ _ ap.RG.symm];exact h.hG,by rw[Zac _ _ ap.RO.symm];exact h.hO,by rw[Zac _ _ ap.RFr.symm];exact h.hFr,by rw[Zac _ _ ap.RF.symm];exact h.hF,
   fun k hk=>by rw[Zac _ _ (ap.AR k hk)];exact h.hA k hk⟩
theorem Zbi.setA(h:Zbi m I d src)(ap:ZhN I d.m){r:Nat}(hr:r<d.m)(c:Nat→Rat):Zbi (upd m (I.A r) (some (fB d.n c))) I {d with a:=fun k=>if k=r then c else d.a k} src:=by
 refine⟨by rw[Zac _ _ (ap.Ap r hr).symm];exact h.hp,by rw[Zac _ _ (ap.AR r hr).symm];exact h.hR,by rw[Zac _ _ (ap.AG r hr).symm];exact h.hG,by rw[Zac _ _ (ap.AO r hr).symm];exact h.hO,by rw[Zac _ _ (ap.AFr r hr).symm];exact h.hFr,by rw[Zac _ _ (ap.AF r hr).symm];exact h.hF,
  fun k hk=>?_⟩
 by_cases e:k=r
 ·subst e;rw[Zae];simp
 ·rw[Zac _ _ (ap.AA k r hk hr e)];simp only[if_neg e];exact h.hA k hk
theorem Zbi.setA2(h:Zbi m I d src)(ap:ZhN I d.m){r:Nat}(hr:r<d.m)(c:Nat→Rat){a':Nat→Nat→Rat}(ha:∀ k,a' k=if k=r then c else d.a k):Zbi (upd m (I.A r) (some (fB d.n c))) I {d with a:=a'} src:=by
 have:=h.setA ap hr c
 rwa [← show a'=_ from funext ha]at this
theorem Zbi.congr(h:Zbi m I d src){v:Nat→Rat}{a:Nat→Nat→Rat}(hv:∀ k,k<d.m→v k=d.v k)(ha:∀ k j,k<d.m→j<d.n→a k j=d.a k j):Zbi m I {d with v:=v,a:=a} src :=
 ⟨h.hp,by have:=h.hR;unfold rB at this ⊢;rwa [← Zug hv]at this,h.hG,h.hO,h.hFr,h.hF,fun k hk=>by have:=h.hA k hk;unfold fB at this ⊢;rwa [← ZaY (ha k · hk)]at this⟩
theorem Zbi.setG(h:Zbi m I d src)(ap:ZhN I d.m)(c:Nat→Rat):Zbi (upd m I.G (some (fB d.n c))) I {d with g:=c} src :=
 ⟨by rw[Zac _ _ ap.pG];exact h.hp,by rw[Zac _ _ ap.RG];exact h.hR,Zae _ _ _,by rw[Zac _ _ ap.GO.symm];exact h.hO,by rw[Zac _ _ ap.GFr.symm];exact h.hFr,by rw[Zac _ _ ap.GF.symm];exact h.hF,
   fun k hk=>by rw[Zac _ _ (ap.AG k hk)];exact h.hA k hk⟩
theorem Zbi.setO(h:Zbi m I d src)(ap:ZhN I d.m)(f:Nat→Nat):Zbi (upd m I.O (some (iB 3 I.vO d.m f))) I {d with own:=f} src :=
 ⟨by rw[Zac _ _ ap.pO];exact h.hp,by rw[Zac _ _ ap.RO];exact h.hR,by rw[Zac _ _ ap.GO];exact h.hG,Zae _ _ _,by rw[Zac _ _ ap.OFr.symm];exact h.hFr,by rw[Zac _ _ ap.OF.symm];exact h.hF,
   fun k hk=>by rw[Zac _ _ (ap.AO k hk)];exact h.hA k hk⟩
theorem Zbi.setFr(h:Zbi m I d src)(ap:ZhN I d.m)(f:Nat→Nat):Zbi (upd m I.Fr (some (iB 3 I.vFr d.n f))) I {d with free:=f} src :=
 ⟨by rw[Zac _ _ ap.pFr];exact h.hp,by rw[Zac _ _ ap.RFr];exact h.hR,by rw[Zac _ _ ap.GFr];exact h.hG,by rw[Zac _ _ ap.OFr];exact h.hO,Zae _ _ _,by rw[Zac _ _ ap.FrF.symm];exact h.hF,
   fun k hk=>by rw[Zac _ _ (ap.AFr k hk)];exact h.hA k hk⟩
end
def rowK(s:Nat)(a:Nat→Rat)(i:Nat):Nat→Rat:=fun j=>if j<i∧j≠s then a j / a s else a j
theorem Zv3(s:Nat)(a:Nat→Rat):rowK s a 0=a:=by funext j;unfold rowK;rw[if_neg (by omega)]
theorem ZoY{s i:Nat}{a:Nat→Rat}(h:i=s∨a i=0):rowK s a (i+1)=rowK s a i:=by
 funext j;unfold rowK
 by_cases e:j=i
 ·subst e
  rcases h with h|h
  ·rw[if_neg (by omega),if_neg (by omega)]
  ·rw[h]
   by_cases e2:j=s
   ·rw[if_neg (by omega),if_neg (by omega)]
   ·rw[if_pos ⟨by omega,e2⟩,if_neg (by omega)];grind
 ·by_cases e2:j<i∧j≠s
  ·rw[if_pos ⟨by omega,e2.2⟩,if_pos e2]
  ·rw[if_neg (by omega),if_neg e2]
theorem Zzf{n s i:Nat}(a:Nat→Rat)(h:i≠s):(ratL n (rowK s a i)).set i (cF (ofQ (a i / a s)))=ratL n (rowK s a (i+1)):=by
 rw[ZdV]
 refine ZaY fun u _=>?_
 unfold rowK
 by_cases e:u=i
 ·subst e;rw[if_pos rfl,if_pos ⟨by omega,h⟩]
 ·rw[if_neg e]
  by_cases h2:u<i∧u≠s
  ·rw[if_pos h2,if_pos ⟨by omega,h2.2⟩]
  ·rw[if_neg h2,if_neg (by omega)]
theorem Zzg{d:Dic}{r s:Nat}:(ratL d.n (rowK s (d.a r) d.n)).set s (cF (ofQ (1 / d.a r s)))=ratL d.n ((d.ex r s).a r):=by
 rw[ZdV]
 refine ZaY fun u hu=>?_
 unfold rowK
 simp only[Dic.ex,if_pos]
 by_cases e:u=s
 ·rw[if_pos e,if_pos e]
 ·rw[if_neg e,if_neg e,if_pos ⟨hu,e⟩]
theorem ZyV{d:Dic}{r s i j:Nat}(h:i≠r):Zl6 s (d.a i) ((d.ex r s).a r) j=(d.ex r s).a i j:=by
 unfold Zl6
 simp only[Dic.ex,if_pos,if_neg h]
 by_cases e:j=s
 ·rw[if_pos e,if_pos e]
 ·rw[if_neg e,if_neg e,if_neg e]
theorem ZDh{d:Dic}{r s i:Nat}(h:i≠r)(h0:d.a i s=0):(d.ex r s).v i=d.v i∧∀ j,(d.ex r s).a i j=d.a i j:=by
 simp only[Dic.ex,if_neg h,h0]
 refine⟨by grind,fun j=>?_⟩
 by_cases e:j=s
 ·subst e;rw[if_pos rfl,h0];grind
 ·rw[if_neg e];grind
theorem ex_v{d:Dic}{r s i:Nat}(h:i≠r):(d.ex r s).v i=d.v i-d.a i s*(d.ex r s).v r:=by simp only[Dic.ex,if_neg h,if_pos]
theorem upto{i k:Nat}(r:Nat)(h:k≠i):(k<i+1∨k=r)↔(k<i∨k=r):=by omega
theorem ZyU{d:Dic}{r s:Nat}:Zl6 s d.g ((d.ex r s).a r)=(d.ex r s).g:=by
 funext j
 unfold Zl6
 simp only[Dic.ex,if_pos]
 by_cases e:j=s
 ·rw[if_pos e,if_pos e]
 ·rw[if_neg e,if_neg e,if_neg e]
theorem ZAu{d:Dic}{r s:Nat}(h0:d.g s=0):(d.ex r s).g=d.g:=by
 funext j
 simp only[Dic.ex,h0]
 by_cases e:j=s
 ·subst e;rw[if_pos rfl,h0];grind
 ·rw[if_neg e];grind
theorem Zs4{k r:Nat}(f:Nat→Nat)(x:Nat):(tabL k fun i=>[dI (f i)]).set r [dI x]=tabL k fun i=>[dI ((Dic.up f r x) i:Nat)]:=by
 rw[Zgu]
 refine Zbr fun u _=>?_
 unfold Dic.up
 by_cases e:u=r
 ·rw[if_pos e,if_pos e]
 ·rw[if_neg e,if_neg e]
theorem ZrV{I:Ids}{d:Dic}{src:Nat→Nat×Bool}{m:Mem}{r s:Nat}(h:Zbi m I {d with v:=(d.ex r s).v,a:=(d.ex r s).a,g:=(d.ex r s).g} src)(ap:ZhN I d.m) :
 Zbi (upd (upd m I.O (some (iB 3 I.vO d.m (Dic.up d.own r (d.free s))))) I.Fr (some (iB 3 I.vFr d.n (Dic.up d.free s (d.own r))))) I (d.ex r s) src:=by
 have:=(h.setO ap (Dic.up d.own r (d.free s))).setFr ap (Dic.up d.free s (d.own r))
 exact⟨this.hp,this.hR,this.hG,this.hO,this.hFr,this.hF,this.hA⟩
theorem szFn:Dic.SizeFn szQ:=⟨by decide +kernel,by decide +kernel,Zvv,Zgv,fun _ _ h=>ZBT h⟩
theorem Zhr[Ifl]{I:Ids}{d:Dic}{src:Nat→Nat×Bool}{m:Mem}{nx r s:Nat}(h:Zbi m I d src)(ap:ZhN I d.m)(hr:r<d.m)(hs:s<d.n)(hp:d.a r s≠0)(hm:(d.m:Int)≤4096)(hn:(d.n:Int)≤4096)
 {B:Nat} (hB1:1≤B) (hB:(B:Int)≤536870912) (sz:d.Sized szQ B) :
 ZaM Tryz.prog 188 [.lp I.p 0 0 0,dI r,dI s] m nx fun d' m' nx'=>d'=oneD []∧nx≤nx'∧Zbi m' I (d.ex r s) src∧∀ id,id<nx→¬ inD I d.m id→m' id=m id:=by
 refine ZaM.cl ⟨_,_,Tryz.func188,rfl,by kernel_rfl⟩ fun hcl=>?_
 have Zr:=Tryz.results188
 refine inA Tryz.func188 rfl Tryz.ntmps188 ?_
 have lt:∀ id,inD I d.m id→id<nx:=fun id hi=>h.lt hcl hi
 have lp:I.p<nx:=lt _ (.inl rfl)
 have lR:I.R<nx:=lt _ (.inr (.inl rfl))
 have lA:I.A r<nx:=lt _ (.inr (.inr (.inr (.inr (.inr (.inr ⟨r,hr,rfl⟩))))))
 have n1:I.p≠nx:=by omega
 have n2:I.R≠nx:=by omega
 have n3:I.A r≠nx:=by omega
 have n4:nx≠I.R:=by omega
 have n5:nx≠I.A r:=by omega
 have e1:=ap.pR
 have e2:=ap.AR r hr
 have e3:=ap.Ap r hr
 have e4:=(ap.Ap r hr).symm
 have e5:=(ap.AR r hr).symm
 have r0:(0:Int)≤r:=by omega
 have s0:(0:Int)≤s:=by omega
 have zp:=sz.a r s hr hs
 have zv:=sz.v r hr
 have gr:=ZdG I d.v hr
 have ga:=Zbc (d.a r) hs
 have k1:=Zqt (d.v r) (d.a r s) hp (by omega) (by omega)
 have es:=Zse (I:=I) (m:=d.m) (r:=r) d.v (d.v r / d.a r s)
 have hAr:=h.hA r hr
 have la:=Zck d.n (d.a r)
 have gr2:=ZdG I (fun k=>if k=r then d.v r / d.a r s else d.v k) hr
 refine aGoM (cj4 Zr h.hp h.hR (cj4 hAr n1 n2 (cj4 n3 n4 n5 (cj4 e1 e2 e3 (cj4 r0 s0 gr (cj4 ga es Yb0 (cj2 la gr2))))))) ?_
 repeat with_reducible intro K hK
 have hD0:Zbi (upd (upd (upd m nx (some ⟨53,0,4,[[dI 0,.nil,dI 0,.nil]],0,false⟩)) nx (some ⟨53,0,4,[cF (ofQ (d.a r s))],0,false⟩)) I.R (some (rB I d.m fun k=>if k=r then d.v r / d.a r s else d.v k))) I {d with v:=fun k=>if k=r then d.v r / d.a r s else d.v k} src :=
  ((h.new fun id hi=>by have:=lt id hi;omega).new fun id hi=>by have:=lt id hi;omega).setR ap _
 refine ZcT (fun(i:Nat)=>[(0,.lp I.p 0 0 0),(1,dI r),(2,dI s),(6,.lp I.R I.vR r 0),(7,.lp nx 0 0 0),(37,dI d.n),(38,dI i)]) nx
  (fun i m1 nx1=>i≤d.n∧nx<nx1∧Zbi m1 I {d with v:=fun k=>if k=r then d.v r / d.a r s else d.v k,a:=fun k=>if k=r then rowK s (d.a r) i else d.a k} src∧m1 nx=some ⟨53,0,4,[cF (ofQ (d.a r s))],0,false⟩∧∀ id,id<nx→¬ inD I d.m id→m1 id=m id) (fun i=>d.n-i) 0 ?_ ?_ ?_ ?_
 ·refine⟨Yb0 _,Nat.lt_succ_self _,?_,?_,fun id h1 h2=>?_⟩
  ·rw[Zv3,show(fun k=>if k=r then d.a r else d.a k)=d.a by funext k;by_cases e:k=r<;>simp[e]]
   exact hD0
  ·exact(Zac _ _ n4).trans (Zae _ _ _)
  ·exact(Zac _ _ (fun e=>h2 (.inr (.inl e)))).trans ((Zac _ _ (by omega)).trans (Zac _ _ (by omega)))
 ·rfl
 ·simp[go_sem]
 ·rintro i m1 nx1 ⟨hi,hnx,hD,hP,hfr⟩
  have hA1:=hD.hA r hr
  have hp1:=hD.hp
  have hR1:=hD.hR
  simp only[if_pos]at hA1 hp1 hR1
  obtain⟨hw,i0⟩:=ZaO i
  by_cases h1:(i:Int)<d.n
  ·have hin:i<d.n:=by omega
   have gi:=Zbc (rowK s (d.a r) i) hin
   have ei:rowK s (d.a r) i i=d.a r i:=by unfold rowK;rw[if_neg (by omega)]
   have zi:=sz.a r i hr hin
   have k2:=ZkZ (d.a r i)
   have li:=Zck d.n (rowK s (d.a r) i)
   by_cases h2:i=s
   ·subst h2
    have h2b:((i:Int) !=i)=false:=by simp
    refine aGoM (cj4 Zr hA1 hp1 (cj4 hR1 hP i0 (cj4 h1 h2b hw li))) ?_
    repeat with_reducible intro K hK
    refine Zat (i+1) ⟨by omega,hnx,?_,hP,hfr⟩ (by omega) rfl (by simp[go_sem])
    rw[ZoY (.inl rfl)];exact hD
   ·have h2b:((i:Int) !=s)=true:=by simp;omega
    by_cases h3:d.a r i=0
    ·rw[decide_eq_true h3]at k2
     refine aGoM (cj4 Zr hA1 hp1 (cj4 hR1 hP i0 (cj4 h1 h2b hw (cj4 li gi ei gr2)))) ?_
     repeat with_reducible intro K hK
     refine Zat (i+1) ⟨by omega,hnx,?_,hP,hfr⟩ (by omega) rfl (by simp[go_sem])
     rw[ZoY (.inr h3)];exact hD
    ·rw[decide_eq_false h3]at k2
     have k3:=Zqt (d.a r i) (d.a r s) hp (by omega) (by omega)
     have es2:=Zzf (n:=d.n) (d.a r) h2
     refine aGoM (cj4 Zr hA1 hp1 (cj4 hR1 hP i0 (cj4 h1 h2b hw (cj4 li gi ei (cj4 gr2 n5 r0 (cj4 es2 Yb0 e2 n3)))))) ?_
     repeat with_reducible intro K hK
     refine Zat (i+1) ⟨by omega,hnx,?_,?_,?_⟩ (by omega) rfl (by simp[go_sem])
     ·exact hD.setA2 ap hr (rowK s (d.a r) (i+1)) fun k=>by by_cases e:k=r<;>simp[e]
     ·exact(Zac _ _ n5).trans hP
     ·intro id g1 g2
      exact(Zac _ _ (fun e=>g2 (.inr (.inr (.inr (.inr (.inr (.inr ⟨r,hr,e⟩)))))))).trans (hfr id g1 g2)
  ·obtain rfl:i=d.n:=by omega
   have li:=Zck d.n (rowK s (d.a r) d.n)
   have gi:=Zbc (rowK s (d.a r) d.n) hs
   have z1:=ZdU 1 (by decide) (by decide)
   rw[show((1:Int):Rat)=1 from rfl]at z1
   have k2:=nO_c
   have k3:=Zqt 1 (d.a r s) hp (by omega) (by omega)
   have es3:=Zzg (d:=d) (r:=r) (s:=s)
   have lr:=ZkA I d.m (fun k=>if k=r then d.v r / d.a r s else d.v k)
   refine aGoM (cj4 Zr hA1 hp1 (cj4 hR1 hP s0 (cj4 h1 li gi (cj4 gr2 n5 r0 (cj4 es3 Yb0 e2 (cj4 n3 e3 lr (cj2 e4 e5))))))) ?_
   repeat with_reducible intro K hK
   have hD1:Zbi (upd m1 (I.A r) (some (fB d.n ((d.ex r s).a r)))) I {d with v:=fun k=>if k<0∨k=r then(d.ex r s).v k else d.v k,a:=fun k=>if k<0∨k=r then(d.ex r s).a k else d.a k} src:=by
    refine(hD.setA2 ap hr ((d.ex r s).a r) (a':=fun k=>if k<0∨k=r then(d.ex r s).a k else d.a k) fun k=>?_).congr (fun k _=>?_) fun _ _ _ _=>rfl
    ·by_cases e:k=r<;>simp[e]
    ·by_cases e:k=r
     ·subst e;simp[Dic.ex]
     ·simp[e]
   have zx:=Dic.ex_sized szFn hr hs hp sz hB1
   refine ZcT (fun(i:Nat)=>[(0,.lp I.p 0 0 0),(1,dI r),(2,dI s),(6,.lp I.R I.vR r 0),(84,dI d.m),(85,dI i)]) nx
    (fun i m2 nx2=>i≤d.m∧nx≤nx2∧Zbi m2 I {d with v:=fun k=>if k<i∨k=r then(d.ex r s).v k else d.v k,a:=fun k=>if k<i∨k=r then(d.ex r s).a k else d.a k} src∧∀ id,id<nx→¬ inD I d.m id→m2 id=m id) (fun i=>d.m-i) 0 ?_ ?_ ?_ ?_
   ·exact⟨Yb0 _,Nat.le_of_lt hnx,hD1,fun id g1 g2=>(Zac _ _ (fun e=>g2 (.inr (.inr (.inr (.inr (.inr (.inr ⟨r,hr,e⟩)))))))).trans (hfr id g1 g2)⟩
   ·rfl
   ·simp[go_sem]
   ·rintro i m2 nx2 ⟨hi2,hnx2,hE,hfr2⟩
    have hA1:=hE.hA r hr
    have hp1:=hE.hp
    have hR1:=hE.hR
    simp only[or_true,if_pos]at hA1 hp1 hR1
    obtain⟨hw,i0⟩:=ZaO i
    by_cases h2:(i:Int)<d.m
    ·have him:i<d.m:=by omega
     have lr2:=ZkA I d.m (fun k=>if k<i∨k=r then(d.ex r s).v k else d.v k)
     have gi:=ZdG I (fun k=>if k<i∨k=r then(d.ex r s).v k else d.v k) him
     by_cases h3:i=r
     ·subst h3
      have h3b:((i:Int) !=i)=false:=by simp
      refine aGoM (cj4 Zr hp1 hR1 (cj4 i0 h2 h3b (cj4 hw lr2 gi s0))) ?_
      repeat with_reducible intro K hK
      have e:∀ k,(k<i+1∨k=i)↔(k<i∨k=i):=fun k=>by omega
      exact Zat (i+1) ⟨by omega,hnx2,hE.congr (fun k _=>by simp only[e]) (fun k j _ _=>by simp only[e]),hfr2⟩ (by omega) rfl (by simp[go_sem])
     ·have h3b:((i:Int) !=r)=true:=by simp;omega
      have ei:(if i<i∨i=r then(d.ex r s).v i else d.v i)=d.v i:=if_neg (by omega)
      simp only[ei]at gi
      have gr3:=ZdG I (fun k=>if k<i∨k=r then(d.ex r s).v k else d.v k) hr
      have er:(if r<i∨r=r then(d.ex r s).v r else d.v r)=(d.ex r s).v r:=if_pos (.inr rfl)
      simp only[er]at gr3
      have hAi:m2 (I.A i)=some (fB d.n (d.a i)):=(hE.hA i him).trans (by simp only[if_neg (show ¬ (i<i∨i=r) by omega)])
      have gai:=Zbc (d.a i) hs
      have k2:=ZkZ (d.a i s)
      have lai:=Zck d.n (d.a i)
      have zi:=sz.a i s him hs
      by_cases h4:d.a i s=0
      ·rw[decide_eq_true h4]at k2
       refine aGoM (cj4 Zr hp1 hR1 (cj4 i0 h2 h3b (cj4 hw lr2 gi (cj4 s0 hAi gai lai)))) ?_
       repeat with_reducible intro K hK
       obtain⟨z1,z2⟩:=ZDh (s:=s) h3 h4
       refine Zat (i+1) ⟨by omega,hnx2,hE.congr (fun k _=>?_) (fun k j _ _=>?_),hfr2⟩ (by omega) rfl (by simp[go_sem])
       ·by_cases e:k=i
        ·subst e;simp only[z1,ite_self]
        ·simp only[upto r e]
       ·by_cases e:k=i
        ·subst e
         by_cases e2:k<k+1∨k=r
         ·rw[if_pos e2,z2];show d.a k j=(if k<k∨k=r then(d.ex r s).a k else d.a k) j;rw[if_neg (by omega)]
         ·omega
        ·simp only[upto r e]
      ·rw[decide_eq_false h4]at k2
       have zvi:=sz.v i him
       have zvr:=zx.v r hr
       have k3:=Zqv (d.v i) (d.a i s) ((d.ex r s).v r) (by omega) (by omega) (by omega)
       rw[← ex_v h3]at k3
       obtain⟨V,hV⟩:∃ V:Nat→Rat,V=fun k=>if k=i then(d.ex r s).v i else if k<i∨k=r then(d.ex r s).v k else d.v k:=⟨_,rfl⟩
       have es4:=Zse (I:=I) (m:=d.m) (r:=i) (fun k=>if k<i∨k=r then(d.ex r s).v k else d.v k) ((d.ex r s).v i)
       rw[← hV]at es4
       have gi5:=ZdG I V him
       have gr5:=ZdG I V hr
       have eA:I.A i≠I.A r:=ap.AA i r him hr h3
       have eAr:=eA.symm
       have eAR:=ap.AR i him
       have eARs:=eAR.symm
       refine aGoM (cj4 Zr hp1 hR1 (cj4 i0 h2 h3b (cj4 hw lr2 gi (cj4 s0 hAi gai (cj4 lai gr3 r0 (cj4 es4 Yb0 hA1 (cj4 eAR eARs e2 (cj3 e5 gi5 gr5)))))))) ?_
       repeat with_reducible intro K hK
       repeat with_reducible intro K hK
       have lAi:=lt _ (.inr (.inr (.inr (.inr (.inr (.inr ⟨i,him,rfl⟩))))))
       refine Zdj (ZA2 d.n s (I.A i) (I.A r) (d.a i) ((d.ex r s).a r) _ _ hn hs eA ((Zac _ _ eAR).trans hAi) ((Zac _ _ e2).trans hA1) (by omega) (fun j hj=>by have:=sz.a i j him hj;omega) (fun j hj=>by have:=zx.a r j hr hj;omega)) ?_
       refine aGoM (cj3 Zr h2 hw) ?_
       repeat with_reducible intro K hK
       refine Zat (i+1) ⟨by omega,hnx2,?_,?_⟩ (by omega) rfl (by simp[go_sem])
       ·refine((hE.setR ap V).setA2 ap him (Zl6 s (d.a i) ((d.ex r s).a r)) (a':=fun k=>if k=i then Zl6 s (d.a i) ((d.ex r s).a r)else if k<i∨k=r then(d.ex r s).a k else d.a k) fun k=>rfl).congr (fun k _=>?_) (fun k j _ _=>?_)
        ·by_cases e:k=i
         ·subst e;simp[hV]
         ·simp only[upto r e,if_neg e,hV]
        ·by_cases e:k=i
         ·subst e;simp only[if_pos,ZyV h3];rw[if_pos (by omega)]
         ·simp only[upto r e,if_neg e]
       ·intro id g1 g2
        exact(Zac _ _ (fun e=>g2 (.inr (.inr (.inr (.inr (.inr (.inr ⟨i,him,e⟩)))))))).trans ((Zac _ _ (fun e=>g2 (.inr (.inl e)))).trans (hfr2 id g1 g2))
    ·obtain rfl:i=d.m:=by omega
     have hE':Zbi m2 I {d with v:=(d.ex r s).v,a:=(d.ex r s).a} src:=hE.congr (fun k hk=>by simp[hk]) (fun k j hk _=>by simp[hk])
     have hA2:m2 (I.A r)=some (fB d.n ((d.ex r s).a r)):=hE'.hA r hr
     have hR2:m2 I.R=some (rB I d.m (d.ex r s).v):=hE'.hR
     have hp2:m2 I.p=some (pB I d.n):=hE'.hp
     have hG2:m2 I.G=some (fB d.n d.g):=hE'.hG
     have hO2:m2 I.O=some (iB 3 I.vO d.m d.own):=hE'.hO
     have hF2:m2 I.Fr=some (iB 3 I.vFr d.n d.free):=hE'.hFr
     have gg:=Zbc d.g hs
     have k2:=ZkZ (d.g s)
     have zg:=sz.g s hs
     have go:=ZbB (fun i=>[dI (d.own i)]) hr
     have gf:=ZbB (fun i=>[dI (d.free i)]) hs
     have so:=Zs4 (k:=d.m) (r:=r) d.own (d.free s)
     have sf:=Zs4 (k:=d.n) (r:=s) d.free (d.own r)
     have gr5:=ZdG I (d.ex r s).v hr
     have u1:=ap.pO
     have u2:=ap.pFr
     have u3:=ap.OFr
     have u4:=ap.OFr.symm
     by_cases h4:d.g s=0
     ·rw[decide_eq_true h4]at k2
      refine aGoM (cj4 Zr hp2 hG2 (cj4 gg s0 hO2 (cj4 hF2 go gf (cj4 so sf u1 (cj4 u2 u3 u4 (cj3 r0 h2 Yb0)))))) ?_
      repeat with_reducible intro K hK
      refine⟨Nat.lt_of_lt_of_le (lt _ (.inr (.inr (.inr (.inl rfl))))) hnx2,Nat.lt_of_lt_of_le (lt _ (.inr (.inr (.inr (.inr (.inl rfl)))))) hnx2,?_⟩
      with_reducible apply useE
      with_reducible assumption
      exact Zns (sel3 I.p I.O I.Fr) 3 ZA3 rfl (Zsb u1 u2 u3) (by decide) (by kernel_rfl)
      exact ZaC rfl
      refine aGoM Zr ?_
      refine⟨ZrV (by rw[ZAu h4];exact hE') ap,fun id g1 g2=>?_⟩
      rw[if_neg (fun e=>g2 (.inr (.inr (.inr (.inr (.inl e)))))),if_neg (fun e=>g2 (.inr (.inr (.inr (.inl e)))))]
      exact hfr2 id g1 g2
     ·rw[decide_eq_false h4]at k2
      have v1:=ap.pG
      have v2:=ap.RG
      have v3:=ap.AG r hr
      have v4:=v3.symm
      have v5:=ap.GO.symm
      have v6:=ap.GFr.symm
      refine aGoM (cj4 Zr hp2 hG2 (cj4 gg s0 hO2 (cj4 hF2 go gf (cj4 hR2 hA2 gr5 (cj4 u2 u3 u4 (cj4 r0 h2 Yb0 (cj4 v1 v2 v3 v4))))))) ?_
      repeat with_reducible intro K hK
      refine Zdj (ZA2 d.n s I.G (I.A r) d.g ((d.ex r s).a r) _ _ hn hs v4 hG2 hA2 (Nat.lt_of_lt_of_le (lt _ (.inr (.inr (.inl rfl)))) hnx2) (fun j hj=>by have:=sz.g j hj;omega) (fun j hj=>by have:=zx.a r j hr hj;omega)) ?_
      rw[ZyU]
      refine aGoM (cj4 Zr hp2 hG2 (cj4 gg s0 hO2 (cj4 hF2 go gf (cj4 so sf u1 (cj4 u2 u3 u4 (cj4 r0 h2 Yb0 (cj4 v1 v5 v6 trivial))))))) ?_
      repeat with_reducible intro K hK
      refine⟨Nat.lt_of_lt_of_le (lt _ (.inr (.inr (.inr (.inl rfl))))) hnx2,Nat.lt_of_lt_of_le (lt _ (.inr (.inr (.inr (.inr (.inl rfl)))))) hnx2,?_⟩
      with_reducible apply useE
      with_reducible assumption
      exact Zns (sel3 I.p I.O I.Fr) 3 ZA3 rfl (Zsb u1 u2 u3) (by decide) (by kernel_rfl)
      exact ZaC rfl
      refine aGoM Zr ?_
      refine⟨ZrV (hE'.setG ap (d.ex r s).g) ap,fun id g1 g2=>?_⟩
      rw[if_neg (fun e=>g2 (.inr (.inr (.inr (.inr (.inl e)))))),if_neg (fun e=>g2 (.inr (.inr (.inr (.inl e))))),if_neg (fun e=>g2 (.inr (.inr (.inl e))))]
      exact hfr2 id g1 g2
inductive Out where
 | best
 | row (r:Nat)
 | col (s:Nat)
 | ex (r s:Nat)
def ZbJ(d:Dic)(r:Nat):Out:=match pick d.free (fun j=>neg' (d.a r j)) d.n with
 | none=>.row r
 | some s=>.ex r s
def ZbK(d:Dic)(s:Nat):Out:=match pick d.own (fun i=>pos' (d.a i s)) d.m with
 | none=>.col s
 | some r=>.ex r s
def next(d:Dic):Out:=match pick d.own (fun i=>neg' (d.v i)) d.m,pick d.free (fun j=>pos' (d.g j)) d.n with
 | none,none=>.best
 | some r,none=>ZbJ d r
 | some r,some s=>if d.own r<d.free s then ZbJ d r else ZbK d s
 | none,some s=>ZbK d s
theorem ZnH{p:Rat→Bool}{q:Rat→Prop}(h:∀ r,p r=true↔q r){r:Rat}(hp:p r=false):¬ q r:=fun hq=>by rw[(h r).2 hq]at hp;cases hp
theorem ZsC{d:Dic}{r s:Nat}(hr:pick d.own (fun i=>neg' (d.v i)) d.m=some r)(hg:∀ j,j<d.n→0<d.g j→d.own r<d.free j)(h:ZbJ d r = .ex r s):d.Step r s:=by
 unfold ZbJ at h
 split at h
 ·cases h
 ·rename_i s' hs
  cases h
  obtain⟨h1,h2,h3⟩:=Zba hr
  obtain⟨g1,g2,g3⟩:=Zba hs
  exact .inl ⟨h1,g1,(ZgJ _).1 h2,fun i hi hv=>h3 i hi ((ZgJ _).2 hv),hg,(ZgJ _).1 g2,fun j hj ha=>g3 j hj ((ZgJ _).2 ha)⟩
theorem ZsD{d:Dic}{r s:Nat}(hs:pick d.free (fun j=>pos' (d.g j)) d.n=some s)(hv:∀ i,i<d.m→d.v i<0→d.free s<d.own i)(h:ZbK d s = .ex r s):d.Step r s:=by
 unfold ZbK at h
 split at h
 ·cases h
 ·rename_i r' hr
  cases h
  obtain⟨h1,h2,h3⟩:=Zba hr
  obtain⟨g1,g2,g3⟩:=Zba hs
  exact .inr ⟨h1,g1,(ZgG _).1 g2,fun j hj hg=>g3 j hj ((ZgG _).2 hg),hv,(ZgG _).1 h2,fun i hi ha=>h3 i hi ((ZgG _).2 ha)⟩
theorem Zmu{d:Dic}{r r' s:Nat}(h:ZbJ d r = .ex r' s):r'=r:=by
 unfold ZbJ at h;split at h<;>cases h;rfl
theorem Zm9{d:Dic}{s r s':Nat}(h:ZbK d s = .ex r s'):s'=s:=by
 unfold ZbK at h;split at h<;>cases h;rfl
theorem Zeu{d:Dic}(hP:d.Part){r s:Nat}(h:next d = .ex r s):d.Step r s:=by
 unfold next at h
 split at h
 ·cases h
 ·rename_i r0 hr hs
  obtain rfl:=Zmu h
  exact ZsC hr (fun j hj hg=>absurd hg (ZnH ZgG (ZdM hs j hj))) h
 ·rename_i r0 s0 hr hs
  split at h
  ·rename_i hlt
   obtain rfl:=Zmu h
   exact ZsC hr (fun j hj hg=>Nat.lt_of_lt_of_le hlt ((Zba hs).2.2 j hj ((ZgG _).2 hg))) h
  ·rename_i hlt
   obtain rfl:=Zm9 h
   refine ZsD hs (fun i hi hv=>?_) h
   have h1:=(Zba hr).2.2 i hi ((ZgJ _).2 hv)
   have h2:=hP.apart i s hi (Zba hs).1
   omega
 ·rename_i s0 hr hs
  obtain rfl:=Zm9 h
  exact ZsD hs (fun i hi hv=>absurd hv (ZnH ZgJ (ZdM hr i hi))) h
def iter(d:Dic):Dic:=match next d with
 | .ex r s=>d.ex r s
 | _=>d
def ZhM(d:Dic):Prop:=∀ r s,next d ≠ .ex r s
def Zfc:Nat→Dic→Dic
 | 0,d=>d
 | k+1,d=>Zfc k (iter d)
theorem ZlJ{d:Dic}{r s:Nat}(h:next d = .ex r s):iter d=d.ex r s:=by unfold iter;rw[h]
theorem ZmX{d:Dic}(h:ZhM d):iter d=d:=by
 unfold iter;split
 ·rename_i r s hn;exact absurd hn (h r s)
 ·rfl
theorem ZlH{d:Dic}(h:ZhM d):∀ k,Zfc k d=d
 | 0=>rfl
 | k+1=>by rw[Zfc,ZmX h,ZlH h k]
theorem Zfu(d:Dic):∀ k,Zfc (k+1) d=iter (Zfc k d)
 | 0=>rfl
 | k+1=>by rw[Zfc,Zfu (iter d) k];rfl
theorem ZwP{d:Dic}(h:¬ ZhM d):∃ r s,next d = .ex r s:=by
 unfold ZhM at h
 exact Classical.byContradiction fun hn=>h fun r s e=>hn ⟨r,s,e⟩
theorem ZlI{d:Dic}(h:d.Part):(iter d).Part:=by
 unfold iter;split
 ·rename_i r s hn;have:=Zeu h hn;exact Dic.ex_part h this.hr this.hs
 ·exact h
theorem Zhm{d:Dic}(h:d.Part):∀ k,(Zfc k d).Part
 | 0=>h
 | k+1=>by rw[Zfu];exact ZlI (Zhm h k)
theorem Zi9{d:Dic}(h:d.Part):∃ k,ZhM (Zfc k d):=by
 refine Classical.byContradiction fun hn=>?_
 have hno:∀ k,∃ r s,next (Zfc k d) = .ex r s:=fun k=>ZwP fun he=>hn ⟨k,he⟩
 have run:Dic.Run (2^(d.n+d.m)) (fun k=>Zfc k d) (fun k=>Classical.choose (hno k)) (fun k=>Classical.choose (Classical.choose_spec (hno k))):=by
  refine⟨h,fun k _=>?_,fun k _=>?_⟩
  ·exact Zeu (Zhm h k) (Classical.choose_spec (Classical.choose_spec (hno k)))
  ·show Zfc (k+1) d=_
   rw[Zfu]
   exact ZlJ (Classical.choose_spec (Classical.choose_spec (hno k)))
 have:=run.short
 simp only[Zfc]at this
 omega
noncomputable def left (d:Dic):Nat:=ZlE fun k=>ZhM (Zfc k d)
noncomputable def ZfA (d:Dic):Dic:=Zfc (left d) d
theorem ZgM{d:Dic}(h:d.Part){r s:Nat}(hn:next d = .ex r s):left (d.ex r s)<left d:=by
 have h1:=(Zcr (Zi9 h)).1
 have h2:=Zcr (Zi9 (d:=d.ex r s) (by rw[← ZlJ hn];exact ZlI h))
 unfold left
 cases hk:ZlE fun k=>ZhM (Zfc k d)with
 | zero=>rw[hk]at h1;exact absurd hn (h1 r s)
 | succ k =>
   rw[hk,Zfc,ZlJ hn]at h1
   have:=h2.2 k h1
   omega
theorem Zil{d:Dic}(h:d.Part):ZhM (ZfA d):=(Zcr (Zi9 h)).1
theorem Zho{d:Dic}(h:d.Part){r s:Nat}(hn:next d = .ex r s):ZfA (d.ex r s)=ZfA d:=by
 have hP:(d.ex r s).Part:=by rw[← ZlJ hn];exact ZlI h
 have h1:=ZgM h hn
 have h2:=Zil hP
 have h3:=Zil h
 unfold ZfA at h2 h3 ⊢
 have e1:left d=(left d-1)+1:=by omega
 rw[e1,Zfc,ZlJ hn]at h3 ⊢
 have h4:=(Zcr (Zi9 hP)).2 (left d-1) h3
 have h5:left (d.ex r s)≤left d-1:=h4
 have:∀ j k,j≤k→ZhM (Zfc j (d.ex r s))→Zfc k (d.ex r s)=Zfc j (d.ex r s):=by
  intro j k hjk he
  induction k with
  | zero => obtain rfl : j = 0 := by omega
            rfl
  | succ k ih =>
    by_cases e:j=k+1
    ·subst e;rfl
    ·rw[Zfu,ih (by omega),ZmX he]
 exact(this _ _ h5 h2).symm
theorem Zfz{d:Dic}(h:d.Part)(he:ZhM d):ZfA d=d:=ZlH he _
theorem ZmW{d:Dic}(h:d.Part):∀ k,Dic.Same d (Zfc k d)
 | 0=>Dic.Same.refl d
 | k+1=>by
   rw[Zfu]
   refine(ZmW h k).trans ?_
   unfold iter;split
   ·rename_i r s hn
    have:=Zeu (Zhm h k) hn
    exact Dic.ex_same this.hr this.hs this.ne
   ·exact Dic.Same.refl _
theorem ZuS{d:Dic}(h:d.Part):(ZfA d).Part:=Zhm h _
theorem Zhp{d:Dic}(h:d.Part):Dic.Same d (ZfA d):=ZmW h _
set_option maxHeartbeats 32000000
def Zkd:Out→D
 | .best=>.tup [dI (-1),dI (-1)]
 | .row r=>.tup [dI r,dI (-1)]
 | .col s=>.tup [dI (-1),dI s]
 | .ex _ _=>.junk
theorem Znn[Ifl]{I:Ids}{d0:Dic}{src:Nat→Nat×Bool}{m:Mem}{nx:Nat}(h:Zbi m I d0 src)(ap:ZhN I d0.m)(hf:d0.First)(hm:(d0.m:Int)≤4096)(hn:(d0.n:Int)≤4096)
 {B t:Nat} (hB1:1≤B) (hB:(Dic.grow B t:Int)≤536870912) (ht:d0.n≤t∨d0.m≤t) (sz:d0.Sized szQ B) :
 ZaM Tryz.prog 137 [.lp I.p 0 0 0] m nx fun d' m' nx'=>d'=Zkd (next (ZfA d0))∧nx≤nx'∧Zbi m' I (ZfA d0) src∧∀ id,id<nx→¬ inD I d0.m id→m' id=m id:=by
 refine ZaM.cl ⟨_,_,Tryz.func137,rfl,by kernel_rfl⟩ fun hcl=>?_
 have Zr:=Tryz.results137
 refine inA Tryz.func137 rfl Tryz.ntmps137 ?_
 have lt:∀ id,inD I d0.m id→id<nx:=fun id hi=>h.lt hcl hi
 refine aGoM (cj2 Zr ZaR) ?_
 repeat with_reducible intro K hK
 refine ZcT (fun(_:Dic)=>[(1,.lp nx 0 0 0)]) nx (fun E m1 nx1=>E.Part∧Dic.Same d0 E∧ZfA E=ZfA d0∧Zbi m1 I E src∧m1 nx=some (bxB 210 I.p)∧nx<nx1∧∀ id,id<nx→¬ inD I d0.m id→m1 id=m id) left d0 ?_ ?_ ?_ ?_
 ·exact⟨hf.part,Dic.Same.refl _,rfl,h.new fun id hi=>by have:=lt id hi;omega,Zae _ _ _,Nat.lt_succ_self _,fun id h1 _=>Zac _ _ (by omega)⟩
 ·rfl
 ·simp[go_sem]
 ·rintro E m1 nx1 ⟨hP,hS,hfin,hD,hbx,hnx,hfr⟩
  have eM:=hS.m
  have eN:=hS.n
  have lt1:∀ id,inD I E.m id→id<nx1:=fun id hi=>by rw[← eM]at hi;have:=lt id hi;omega
  have hp:=hD.hp
  have hO:=hD.hO
  have hF:=hD.hFr
  have lO:=lt1 _ (.inr (.inr (.inr (.inl rfl))))
  have lF:=lt1 _ (.inr (.inr (.inr (.inr (.inl rfl)))))
  refine aGoM (cj4 Zr ZaR hp (cj2 hO hbx)) ?_
  repeat with_reducible intro K hK
  refine ZaQ (ZjM E.m E.own (fun i=>neg' (E.v i)) I.O I.vO _ [.lp nx 0 0 0] _ _ (by omega) hO lO fun i hi m' nx' hn' hf'=>s1_a (hD.keep fun id hid=>hf' id (lt1 id hid)) ((hf' nx hnx).trans hbx) hi) ?_
  rintro _ m2 nx2 ⟨rfl,hn2,hf2⟩
  have hD2:Zbi m2 I E src:=hD.keep fun id hid=>hf2 id (lt1 id hid)
  have hbx2:=(hf2 nx hnx).trans hbx
  obtain⟨pr,hpr⟩:∃ pr,pick E.own (fun i=>neg' (E.v i)) E.m=pr:=⟨_,rfl⟩
  rw[hpr]
  have q1:nx≠nx2:=by omega
  have q2:I.p≠nx2:=by have:=lt1 _ (.inl rfl);omega
  have q3:I.Fr≠nx2:=by omega
  have ne2:∀ id,inD I E.m id→id≠nx2:=fun id hid=>by have:=lt1 id hid;omega
  refine aGoM (cj4 Zr ZaR hD2.hp (cj4 hD2.hFr hbx2 q1 (cj2 q2 q3))) ?_
  repeat with_reducible intro K hK
  have hD2':=(hD2.new (x:=nx2) (b:=some (nB 0)) ne2).new (x:=nx2) (b:=some (nB (oI pr))) ne2
  refine ZaQ (ZjM E.n E.free (fun j=>pos' (E.g j)) I.Fr I.vFr _ [.lp nx 0 0 0] _ _ (by omega) hD2'.hFr (by omega) fun i hi m' nx' hn' hf'=>s2_a (hD2'.keep fun id hid=>hf' id (by have:=lt1 id hid;omega)) ((hf' nx (by omega)).trans ((Zac _ _ q1).trans ((Zac _ _ q1).trans hbx2))) hi) ?_
  rintro _ m3 nx3 ⟨rfl,hn3,hf3⟩
  have hD3:Zbi m3 I E src:=hD2'.keep fun id hid=>hf3 id (by have:=lt1 id hid;omega)
  have hbx3:m3 nx=some (bxB 210 I.p):=(hf3 nx (by omega)).trans ((Zac _ _ q1).trans ((Zac _ _ q1).trans hbx2))
  have hr3:m3 nx2=some (nB (oI pr)):=(hf3 nx2 (by omega)).trans (Zae _ _ _)
  have hfr3:∀ id,id<nx→¬ inD I d0.m id→m3 id=m id:=fun id h1 h2=>(hf3 id (by omega)).trans ((Zac _ _ (by omega)).trans ((Zac _ _ (by omega)).trans ((hf2 id (by omega)).trans (hfr id h1 h2))))
  obtain⟨ps,hps⟩:∃ ps,pick E.free (fun j=>pos' (E.g j)) E.n=ps:=⟨_,rfl⟩
  rw[hps]
  have r1:nx≠nx3:=by omega
  have r2:nx2≠nx3:=by omega
  have r3:I.p≠nx3:=by have:=lt1 _ (.inl rfl);omega
  have r4:I.O≠nx3:=by omega
  have r5:I.Fr≠nx3:=by omega
  have r6:nx3≠nx:=by omega
  have r7:nx3≠nx2:=by omega
  have r8:nx2≠nx:=by omega
  have ne3:∀ id,inD I E.m id→id≠nx3:=fun id hid=>by have:=lt1 id hid;omega
  have hp3:=hD3.hp
  have hO3:=hD3.hO
  have hF3:=hD3.hFr
  have oN:oI none = -1:=rfl
  have oS:∀ a,oI (some a)=a:=fun _=>rfl
  have lO3:I.O<nx3:=by omega
  have lF3:I.Fr<nx3:=by omega
  have f0:=cj4 Zr ZaR hp3 (cj4 hO3 hF3 hbx3 (cj4 hr3 r1 r2 (cj4 r3 r4 r5 (cj3 r6 r7 r8))))
  cases pr with
  | none =>
    cases ps with
    | none =>
      have hnext:next E = .best:=by unfold next;rw[hpr,hps]
      have hend:ZhM E:=fun r s e=>by rw[hnext]at e;cases e
      have hfE:ZfA d0=E:=hfin.symm.trans (Zfz hP hend)
      have z1:(-1:Int)<0:=by decide
      refine aGoM (cj3 f0 oN z1) ?_
      rw[hfE,hnext]
      refine⟨rfl,by omega,(hD3.new ne3).new ne3,fun id h1 h2=>?_⟩
      rw[if_neg (by omega),if_neg (by omega)]
      exact hfr3 id h1 h2
    | some s =>
      have z0:(-1:Int)<0:=by decide
      have z2:¬ (-1:Int)≥0:=by decide
      have z3:¬ (s:Int)<0:=by omega
      refine aGoM (cj4 f0 oN oS (cj3 z0 z2 z3)) ?_
      repeat with_reducible intro K hK
      have hsn:=(Zba hps).1
      have hD4:=(hD3.new (x:=nx3) (b:=some (nB 0)) ne3).new (x:=nx3) (b:=some (nB s)) ne3
      refine ZaQ (ZjM E.m E.own (fun i=>pos' (E.a i s)) I.O I.vO _ [.lp nx 0 0 0,.lp nx3 0 0 0] _ _ (by omega) hD4.hO (by omega) fun i hi m' nx' hn' hf'=>s4_a (hD4.keep fun id hid=>hf' id (by have:=lt1 id hid;omega)) ((hf' nx (by omega)).trans ((Zac _ _ r1).trans ((Zac _ _ r1).trans hbx3))) hsn ((hf' nx3 (by omega)).trans (Zae _ _ _)) hi) ?_
      rintro _ m4 nx4 ⟨rfl,hn4,hf4⟩
      have hD4':Zbi m4 I E src:=hD4.keep fun id hid=>hf4 id (by have:=lt1 id hid;omega)
      have hbx4:m4 nx=some (bxB 210 I.p):=(hf4 nx (by omega)).trans ((Zac _ _ r1).trans ((Zac _ _ r1).trans hbx3))
      have hr4:m4 nx2=some (nB (-1)):=(hf4 nx2 (by omega)).trans ((Zac _ _ r2).trans ((Zac _ _ r2).trans hr3))
      have hs4:m4 nx3=some (nB s):=(hf4 nx3 (by omega)).trans (Zae _ _ _)
      have hfr4:∀ id,id<nx→¬ inD I d0.m id→m4 id=m id:=fun id h1 h2=>(hf4 id (by omega)).trans ((Zac _ _ (by omega)).trans ((Zac _ _ (by omega)).trans (hfr3 id h1 h2)))
      obtain⟨pq,hpq⟩:∃ pq,pick E.own (fun i=>pos' (E.a i s)) E.m=pq:=⟨_,rfl⟩
      rw[hpq]
      have hD5:=hD4'.new (x:=nx2) (b:=some (nB (oI pq))) ne2
      have hbx5:(upd m4 nx2 (some (nB (oI pq)))) nx=some (bxB 210 I.p):=(Zac _ _ q1).trans hbx4
      have hfr5:∀ id,id<nx→¬ inD I d0.m id→(upd m4 nx2 (some (nB (oI pq)))) id=m id:=fun id h1 h2=>(Zac _ _ (by omega)).trans (hfr4 id h1 h2)
      have hcol:next E=ZbK E s:=by unfold next;rw[hpr,hps]
      cases pq with
      | none =>
        have hnext:next E = .col s:=by rw[hcol];unfold ZbK;rw[hpq]
        have hend:ZhM E:=fun r s e=>by rw[hnext]at e;cases e
        have hfE:ZfA d0=E:=hfin.symm.trans (Zfz hP hend)
        have z1:(-1:Int)<0:=by decide
        refine aGoM (cj4 Zr hs4 hr4 (cj4 oN z1 r2 (cj2 r7 oS))) ?_
        rw[hfE,hnext]
        refine⟨rfl,by omega,hD5,fun id h1 h2=>?_⟩
        rw[if_neg (by omega)]
        exact hfr4 id h1 h2
      | some r =>
        have hnext:next E = .ex r s:=by rw[hcol];unfold ZbK;rw[hpq]
        have z1:¬ (r:Int)<0:=by omega
        refine aGoM (cj4 Zr hs4 hr4 (cj4 oS z1 r2 (cj4 r7 hbx4 ZaR (cj2 q1 r8)))) ?_
        repeat with_reducible intro K hK
        have hst:=Zeu hP hnext
        have zE:=Dic.small szFn hf hB1 sz hP hS (t:=t) (by omega)
        refine ZaQ (Zhr hD5 (eM▸ap) hst.hr hst.hs hst.ne (by omega) (by omega) (Dic.grow_pos hB1 t) hB zE) ?_
        rintro _ m6 nx6 ⟨rfl,hn6,hD6,hf6⟩
        refine aGoM (cj2 Zr ZaR) ?_
        repeat with_reducible intro K hK
        have hnin:∀ id,nx≤id→¬ inD I E.m id:=fun id h1 h2=>by have:=lt id (by rw[eM];exact h2);omega
        refine Zat (E.ex r s) ⟨Dic.ex_part hP hst.hr hst.hs,hS.trans (Dic.ex_same hst.hr hst.hs hst.ne),(Zho hP hnext).trans hfin,hD6,?_,?_,fun id h1 h2=>?_⟩ (ZgM hP hnext) rfl (by simp[go_sem])
        ·exact(hf6 nx (by omega) (hnin nx (Ya4 _))).trans hbx5
        ·show nx<nx6;omega
        ·exact(hf6 id (by omega) (by rw[← eM];exact h2)).trans (hfr5 id h1 h2)
  | some r =>
    have hrm:=(Zba hpr).1
    have go:=ZbB (fun i=>[dI (E.own i)]) hrm
    have z0:¬ (r:Int)<0:=by omega
    have z1:(r:Int)≥0:=by omega
    have z4:(0:Int)≤r:=by omega
    cases ps with
    | none =>
      have z5:(-1:Int)<0:=by decide
      refine aGoM (cj4 f0 oN oS (cj4 z0 z1 z4 z5)) ?_
      repeat with_reducible intro K hK
      have hrm:=(Zba hpr).1
      have hD4:=(hD3.new (x:=nx3) (b:=some (nB 0)) ne3).new (x:=nx3) (b:=some (nB (-1))) ne3
      refine ZaQ (ZjM E.n E.free (fun j=>neg' (E.a r j)) I.Fr I.vFr _ [.lp nx 0 0 0,.lp nx2 0 0 0] _ _ (by omega) hD4.hFr (by omega) fun i hi m' nx' hn' hf'=>s3_a (hD4.keep fun id hid=>hf' id (by have:=lt1 id hid;omega)) ((hf' nx (by omega)).trans ((Zac _ _ r1).trans ((Zac _ _ r1).trans hbx3))) hrm ((hf' nx2 (by omega)).trans ((Zac _ _ r2).trans ((Zac _ _ r2).trans hr3))) hi) ?_
      rintro _ m4 nx4 ⟨rfl,hn4,hf4⟩
      have hD4':Zbi m4 I E src:=hD4.keep fun id hid=>hf4 id (by have:=lt1 id hid;omega)
      have hbx4:m4 nx=some (bxB 210 I.p):=(hf4 nx (by omega)).trans ((Zac _ _ r1).trans ((Zac _ _ r1).trans hbx3))
      have hr4:m4 nx2=some (nB r):=(hf4 nx2 (by omega)).trans ((Zac _ _ r2).trans ((Zac _ _ r2).trans hr3))
      have hs4:m4 nx3=some (nB (-1)):=(hf4 nx3 (by omega)).trans (Zae _ _ _)
      have hfr4:∀ id,id<nx→¬ inD I d0.m id→m4 id=m id:=fun id h1 h2=>(hf4 id (by omega)).trans ((Zac _ _ (by omega)).trans ((Zac _ _ (by omega)).trans (hfr3 id h1 h2)))
      obtain⟨pq,hpq⟩:∃ pq,pick E.free (fun j=>neg' (E.a r j)) E.n=pq:=⟨_,rfl⟩
      rw[hpq]
      have hD5:=hD4'.new (x:=nx3) (b:=some (nB (oI pq))) ne3
      have hbx5:(upd m4 nx3 (some (nB (oI pq)))) nx=some (bxB 210 I.p):=(Zac _ _ r1).trans hbx4
      have hfr5:∀ id,id<nx→¬ inD I d0.m id→(upd m4 nx3 (some (nB (oI pq)))) id=m id:=fun id h1 h2=>(Zac _ _ (by omega)).trans (hfr4 id h1 h2)
      have hrow:next E=ZbJ E r:=by unfold next;rw[hpr,hps]
      cases pq with
      | none =>
        have hnext:next E = .row r:=by rw[hrow];unfold ZbJ;rw[hpq]
        have hend:ZhM E:=fun r s e=>by rw[hnext]at e;cases e
        have hfE:ZfA d0=E:=hfin.symm.trans (Zfz hP hend)
        have z1:(-1:Int)<0:=by decide
        refine aGoM (cj4 Zr hs4 hr4 (cj4 oN z1 r2 (cj2 r7 oS))) ?_
        rw[hfE,hnext]
        refine⟨rfl,by omega,hD5,fun id h1 h2=>?_⟩
        rw[if_neg (by omega)]
        exact hfr4 id h1 h2
      | some s =>
        have hnext:next E = .ex r s:=by rw[hrow];unfold ZbJ;rw[hpq]
        have z1:¬ (s:Int)<0:=by omega
        refine aGoM (cj4 Zr hs4 hr4 (cj4 oS z1 r2 (cj4 r7 hbx4 ZaR (cj2 r1 r6)))) ?_
        repeat with_reducible intro K hK
        have hst:=Zeu hP hnext
        have zE:=Dic.small szFn hf hB1 sz hP hS (t:=t) (by omega)
        refine ZaQ (Zhr hD5 (eM▸ap) hst.hr hst.hs hst.ne (by omega) (by omega) (Dic.grow_pos hB1 t) hB zE) ?_
        rintro _ m6 nx6 ⟨rfl,hn6,hD6,hf6⟩
        refine aGoM (cj2 Zr ZaR) ?_
        repeat with_reducible intro K hK
        have hnin:∀ id,nx≤id→¬ inD I E.m id:=fun id h1 h2=>by have:=lt id (by rw[eM];exact h2);omega
        refine Zat (E.ex r s) ⟨Dic.ex_part hP hst.hr hst.hs,hS.trans (Dic.ex_same hst.hr hst.hs hst.ne),(Zho hP hnext).trans hfin,hD6,?_,?_,fun id h1 h2=>?_⟩ (ZgM hP hnext) rfl (by simp[go_sem])
        ·exact(hf6 nx (by omega) (hnin nx (Ya4 _))).trans hbx5
        ·show nx<nx6;omega
        ·exact(hf6 id (by omega) (by rw[← eM];exact h2)).trans (hfr5 id h1 h2)
    | some s =>
      have hsn:=(Zba hps).1
      have gf:=ZbB (fun i=>[dI (E.free i)]) hsn
      have z2:¬ (s:Int)<0:=by omega
      have z3:(0:Int)≤s:=by omega
      by_cases hlt:E.own r<E.free s
      ·have hlt':(E.own r:Int)<E.free s:=by omega
       refine aGoM (cj4 f0 oS go (cj4 z0 z1 z4 (cj4 gf z2 z3 hlt'))) ?_
       repeat with_reducible intro K hK
       have hrm:=(Zba hpr).1
       have hD4:=(hD3.new (x:=nx3) (b:=some (nB 0)) ne3).new (x:=nx3) (b:=some (nB s)) ne3
       refine ZaQ (ZjM E.n E.free (fun j=>neg' (E.a r j)) I.Fr I.vFr _ [.lp nx 0 0 0,.lp nx2 0 0 0] _ _ (by omega) hD4.hFr (by omega) fun i hi m' nx' hn' hf'=>s3_a (hD4.keep fun id hid=>hf' id (by have:=lt1 id hid;omega)) ((hf' nx (by omega)).trans ((Zac _ _ r1).trans ((Zac _ _ r1).trans hbx3))) hrm ((hf' nx2 (by omega)).trans ((Zac _ _ r2).trans ((Zac _ _ r2).trans hr3))) hi) ?_
       rintro _ m4 nx4 ⟨rfl,hn4,hf4⟩
       have hD4':Zbi m4 I E src:=hD4.keep fun id hid=>hf4 id (by have:=lt1 id hid;omega)
       have hbx4:m4 nx=some (bxB 210 I.p):=(hf4 nx (by omega)).trans ((Zac _ _ r1).trans ((Zac _ _ r1).trans hbx3))
       have hr4:m4 nx2=some (nB r):=(hf4 nx2 (by omega)).trans ((Zac _ _ r2).trans ((Zac _ _ r2).trans hr3))
       have hs4:m4 nx3=some (nB s):=(hf4 nx3 (by omega)).trans (Zae _ _ _)
       have hfr4:∀ id,id<nx→¬ inD I d0.m id→m4 id=m id:=fun id h1 h2=>(hf4 id (by omega)).trans ((Zac _ _ (by omega)).trans ((Zac _ _ (by omega)).trans (hfr3 id h1 h2)))
       obtain⟨pq,hpq⟩:∃ pq,pick E.free (fun j=>neg' (E.a r j)) E.n=pq:=⟨_,rfl⟩
       rw[hpq]
       have hD5:=hD4'.new (x:=nx3) (b:=some (nB (oI pq))) ne3
       have hbx5:(upd m4 nx3 (some (nB (oI pq)))) nx=some (bxB 210 I.p):=(Zac _ _ r1).trans hbx4
       have hfr5:∀ id,id<nx→¬ inD I d0.m id→(upd m4 nx3 (some (nB (oI pq)))) id=m id:=fun id h1 h2=>(Zac _ _ (by omega)).trans (hfr4 id h1 h2)
       have hrow:next E=ZbJ E r:=by unfold next;rw[hpr,hps];exact if_pos hlt
       cases pq with
       | none =>
         have hnext:next E = .row r:=by rw[hrow];unfold ZbJ;rw[hpq]
         have hend:ZhM E:=fun r s e=>by rw[hnext]at e;cases e
         have hfE:ZfA d0=E:=hfin.symm.trans (Zfz hP hend)
         have z1:(-1:Int)<0:=by decide
         refine aGoM (cj4 Zr hs4 hr4 (cj4 oN z1 r2 (cj2 r7 oS))) ?_
         rw[hfE,hnext]
         refine⟨rfl,by omega,hD5,fun id h1 h2=>?_⟩
         rw[if_neg (by omega)]
         exact hfr4 id h1 h2
       | some s' =>
         have hnext:next E = .ex r s':=by rw[hrow];unfold ZbJ;rw[hpq]
         have z1:¬ (s':Int)<0:=by omega
         refine aGoM (cj4 Zr hs4 hr4 (cj4 oS z1 r2 (cj4 r7 hbx4 ZaR (cj2 r1 r6)))) ?_
         repeat with_reducible intro K hK
         have hst:=Zeu hP hnext
         have zE:=Dic.small szFn hf hB1 sz hP hS (t:=t) (by omega)
         refine ZaQ (Zhr hD5 (eM▸ap) hst.hr hst.hs hst.ne (by omega) (by omega) (Dic.grow_pos hB1 t) hB zE) ?_
         rintro _ m6 nx6 ⟨rfl,hn6,hD6,hf6⟩
         refine aGoM (cj2 Zr ZaR) ?_
         repeat with_reducible intro K hK
         have hnin:∀ id,nx≤id→¬ inD I E.m id:=fun id h1 h2=>by have:=lt id (by rw[eM];exact h2);omega
         refine Zat (E.ex r s') ⟨Dic.ex_part hP hst.hr hst.hs,hS.trans (Dic.ex_same hst.hr hst.hs hst.ne),(Zho hP hnext).trans hfin,hD6,?_,?_,fun id h1 h2=>?_⟩ (ZgM hP hnext) rfl (by simp[go_sem])
         ·exact(hf6 nx (by omega) (hnin nx (Ya4 _))).trans hbx5
         ·show nx<nx6;omega
         ·exact(hf6 id (by omega) (by rw[← eM];exact h2)).trans (hfr5 id h1 h2)
      ·have hlt':¬ (E.own r:Int)<E.free s:=by omega
       refine aGoM (cj4 f0 oS go (cj4 z0 z1 z4 (cj4 gf z2 z3 hlt'))) ?_
       repeat with_reducible intro K hK
       have hsn:=(Zba hps).1
       have hD4:=(hD3.new (x:=nx3) (b:=some (nB 0)) ne3).new (x:=nx3) (b:=some (nB s)) ne3
       refine ZaQ (ZjM E.m E.own (fun i=>pos' (E.a i s)) I.O I.vO _ [.lp nx 0 0 0,.lp nx3 0 0 0] _ _ (by omega) hD4.hO (by omega) fun i hi m' nx' hn' hf'=>s4_a (hD4.keep fun id hid=>hf' id (by have:=lt1 id hid;omega)) ((hf' nx (by omega)).trans ((Zac _ _ r1).trans ((Zac _ _ r1).trans hbx3))) hsn ((hf' nx3 (by omega)).trans (Zae _ _ _)) hi) ?_
       rintro _ m4 nx4 ⟨rfl,hn4,hf4⟩
       have hD4':Zbi m4 I E src:=hD4.keep fun id hid=>hf4 id (by have:=lt1 id hid;omega)
       have hbx4:m4 nx=some (bxB 210 I.p):=(hf4 nx (by omega)).trans ((Zac _ _ r1).trans ((Zac _ _ r1).trans hbx3))
       have hr4:m4 nx2=some (nB r):=(hf4 nx2 (by omega)).trans ((Zac _ _ r2).trans ((Zac _ _ r2).trans hr3))
       have hs4:m4 nx3=some (nB s):=(hf4 nx3 (by omega)).trans (Zae _ _ _)
       have hfr4:∀ id,id<nx→¬ inD I d0.m id→m4 id=m id:=fun id h1 h2=>(hf4 id (by omega)).trans ((Zac _ _ (by omega)).trans ((Zac _ _ (by omega)).trans (hfr3 id h1 h2)))
       obtain⟨pq,hpq⟩:∃ pq,pick E.own (fun i=>pos' (E.a i s)) E.m=pq:=⟨_,rfl⟩
       rw[hpq]
       have hD5:=hD4'.new (x:=nx2) (b:=some (nB (oI pq))) ne2
       have hbx5:(upd m4 nx2 (some (nB (oI pq)))) nx=some (bxB 210 I.p):=(Zac _ _ q1).trans hbx4
       have hfr5:∀ id,id<nx→¬ inD I d0.m id→(upd m4 nx2 (some (nB (oI pq)))) id=m id:=fun id h1 h2=>(Zac _ _ (by omega)).trans (hfr4 id h1 h2)
       have hcol:next E=ZbK E s:=by unfold next;rw[hpr,hps];exact if_neg hlt
       cases pq with
       | none =>
         have hnext:next E = .col s:=by rw[hcol];unfold ZbK;rw[hpq]
         have hend:ZhM E:=fun r s e=>by rw[hnext]at e;cases e
         have hfE:ZfA d0=E:=hfin.symm.trans (Zfz hP hend)
         have z1:(-1:Int)<0:=by decide
         refine aGoM (cj4 Zr hs4 hr4 (cj4 oN z1 r2 (cj2 r7 oS))) ?_
         rw[hfE,hnext]
         refine⟨rfl,by omega,hD5,fun id h1 h2=>?_⟩
         rw[if_neg (by omega)]
         exact hfr4 id h1 h2
       | some r' =>
         have hnext:next E = .ex r' s:=by rw[hcol];unfold ZbK;rw[hpq]
         have z1:¬ (r':Int)<0:=by omega
         refine aGoM (cj4 Zr hs4 hr4 (cj4 oS z1 r2 (cj4 r7 hbx4 ZaR (cj2 q1 r8)))) ?_
         repeat with_reducible intro K hK
         have hst:=Zeu hP hnext
         have zE:=Dic.small szFn hf hB1 sz hP hS (t:=t) (by omega)
         refine ZaQ (Zhr hD5 (eM▸ap) hst.hr hst.hs hst.ne (by omega) (by omega) (Dic.grow_pos hB1 t) hB zE) ?_
         rintro _ m6 nx6 ⟨rfl,hn6,hD6,hf6⟩
         refine aGoM (cj2 Zr ZaR) ?_
         repeat with_reducible intro K hK
         have hnin:∀ id,nx≤id→¬ inD I E.m id:=fun id h1 h2=>by have:=lt id (by rw[eM];exact h2);omega
         refine Zat (E.ex r' s) ⟨Dic.ex_part hP hst.hr hst.hs,hS.trans (Dic.ex_same hst.hr hst.hs hst.ne),(Zho hP hnext).trans hfin,hD6,?_,?_,fun id h1 h2=>?_⟩ (ZgM hP hnext) rfl (by simp[go_sem])
         ·exact(hf6 nx (by omega) (hnin nx (Ya4 _))).trans hbx5
         ·show nx<nx6;omega
         ·exact(hf6 id (by omega) (by rw[← eM];exact h2)).trans (hfr5 id h1 h2)
section
variable [Ifl]
theorem ZmQ{E:Env}{β:Bet}{m:Mem}{nx:Nat}{w:World}(hM:ZaU E β m nx w){id:Nat}{b:Blk}{es':List (List D)}(hb:m id=some b)(hl:es'.length=b.es.length)
 (hw:∀ (i:Nat)(e':List D),es'[i]? =some e'→∃ e,b.es[i]? =some e∧e'.length=e.length)
 (hc:∀ (i j:Nat)(d':D),cellAt es' i j=some d'→∃ d,cellAt b.es i j=some d∧∀ u,Rep β m (safe E β m) w u d→Rep β m (safe E β m) w u d') :
 ZaU E β (upd m id (some {b with es:=es'})) nx w∧Zbf β m w β (upd m id (some {b with es:=es'})) w∧ZaA (safe E β m) w (safe E β (upd m id (some {b with es:=es'}))) w:=by
 have hm:Zbf β m w β (upd m id (some {b with es:=es'})) w:=by
  refine⟨fun x y hx=>?_,fun _ _ h=>h⟩
  by_cases e:x=id
  ·subst e
   rw[hb]at hx;cases hx
   exact⟨_,Zae _ _ _,Ya4 _,fun _=>⟨rfl,hl,rfl⟩⟩
  ·exact⟨y,by rw[Zac _ _ e];exact hx,Ya4 _,fun _=>⟨rfl,rfl,rfl⟩⟩
 have hget:∀ x y,upd m id (some {b with es:=es'}) x=some y→∃ z,m x=some z∧y.T=z.T∧y.k=z.k∧y.es.length=z.es.length∧y.fz=z.fz∧y.dead=z.dead∧(y.es=z.es∨(z=b∧y.es=es')):=by
  intro x y hx
  by_cases e:x=id
  ·subst e;rw[Zae]at hx;cases hx;exact⟨b,hb,rfl,rfl,hl,rfl,rfl,.inr ⟨rfl,rfl⟩⟩
  ·rw[Zac _ _ e]at hx;exact⟨y,hx,rfl,rfl,rfl,rfl,rfl,.inl rfl⟩
 have hs:ZaA (safe E β m) w (safe E β (upd m id (some {b with es:=es'}))) w:=by
  intro c o u h1 h2
  refine⟨⟨h1.1,fun x y hx hy=>?_⟩,h2⟩
  obtain⟨z,hz,e1,e2,e3,e4,e5,_⟩:=hget x y hx
  rw[e4,e2,e5]
  exact h1.2 x z hz hy
 refine⟨⟨hM.below,?_,?_,?_,?_,?_,?_⟩,hm,hs⟩
 ·intro x y hx
  obtain⟨z,hz,_⟩:=hget x y hx
  exact hM.lt x z hz
 ·intro x y hx
  obtain⟨z,hz,e1,e2,e3,e4,_⟩:=hget x y hx
  rw[e3,e4];exact hM.fz x z hz
 ·intro x y hx i e he
  obtain⟨z,hz,e1,e2,e3,e4,e5,e6⟩:=hget x y hx
  rw[e2]
  rcases e6 with e6|⟨rfl,e6⟩
  ·rw[e6]at he;exact hM.wid x z hz i e he
  ·rw[e6]at he
   obtain⟨e0,h0,hlen⟩:=hw i e he
   rw[hlen];exact hM.wid x z hz i e0 h0
 ·intro x y hx hbx
  obtain⟨z,hz,e1,e2,e3,_⟩:=hget x y hx
  have:=hM.non x z hz hbx
  rw[this]at e3
  exact Ya9 e3
 ·intro x y c hx hbx
  obtain⟨z,hz,e1,e2,e3,e4,e5,e6⟩:=hget x y hx
  obtain⟨h3,cs',h4,h5,h6⟩:=hM.row x z c hz hbx
  rw[e1,e2,e3]
  refine⟨h3,cs',h4,h5,fun i j d hd=>?_⟩
  rcases e6 with e6|⟨rfl,e6⟩
  ·rw[e6]at hd
   obtain⟨u,h7,h8⟩:=h6 i j d hd
   exact⟨u,h7,h8.mono hm hs⟩
  ·rw[e6]at hd
   obtain⟨d0,h7,h70⟩:=hc i j d hd
   obtain⟨u,h8,h9⟩:=h6 i j d0 h7
   exact⟨u,h8,(h70 u h9).mono hm hs⟩
 ·intro x1 x2 y1 y2 c h1 h2 h3 h4
  obtain⟨z1,hz1,_⟩:=hget x1 y1 h1
  obtain⟨z2,hz2,_⟩:=hget x2 y2 h2
  exact hM.inj x1 x2 z1 z2 c hz1 hz2 h3 h4
theorem ZdH{s:St}(id i j T kk:Nat){b:Blk}{e:List D}(hb:s.m id=some b)(he:b.es[i]? =some e)(hj:e[j]? =some .nil) :
 StLe s ⟨s.t,upd (upd s.m s.nx (some ⟨T,0,kk,[],0,false⟩)) id (some {b with es:=b.es.set i (e.set j (.ls s.nx 0))}),s.nx+1,s.lo⟩:=by
 intro E B nn β a w h
 obtain⟨h1,h2,h3⟩:=Zib (id:=s.nx) (h.mem.mono_nx (Nat.le_succ _)) (Nat.lt_succ_self _) ⟨T,0,kk,[],0,false⟩ rfl rfl (.inl h.mem.none)
 have hne:id≠s.nx:=by have:=h.mem.lt id b hb;omega
 obtain⟨g1,g2,g3⟩:=ZmQ (id:=id) (b:=b) (es':=b.es.set i (e.set j (.ls s.nx 0))) h1 (by rw[Zac _ _ hne];exact hb) (by simp) (fun i' e' hi'=>by
  rw[List.getElem?_set]at hi'
  split at hi'
  ·rename_i hii
   subst hii
   split at hi'
   ·cases hi';exact⟨e,he,by simp⟩
   ·cases hi'
  ·exact⟨e',hi',rfl⟩) (fun i' j' d' hd'=>by
  obtain⟨e',he',hj'⟩:=Zal.1 hd'
  rw[List.getElem?_set]at he'
  split at he'
  ·rename_i hii
   subst hii
   split at he'
   ·cases he'
    rw[List.getElem?_set]at hj'
    split at hj'
    ·rename_i hjj
     subst hjj
     split at hj'
     ·cases hj'
      refine⟨.nil,Zal.2 ⟨e,he,hj⟩,fun u hu=>?_⟩
      rw[hu.inv_nil]
      exact .ls _ _ _ _ _ ⟨T,0,kk,[],0,false⟩ (Zae _ _ _) (Ya4 _) (fun _ _=>rfl) fun _=>⟨rfl,Ya4 _,Yb0 _,.inl ⟨Zae _ _ _,rfl,rfl⟩⟩
     ·cases hj'
    ·exact⟨d',Zal.2 ⟨e,he,hj'⟩,fun _ hu=>hu⟩
   ·cases he'
  ·exact⟨d',Zal.2 ⟨e',he',hj'⟩,fun _ hu=>hu⟩)
 exact⟨_,g1,fun k hk=>((h.tmp k hk).mono h2 h3).mono g2 g3,h.width,h.defers,(h.le.trans h2).trans g2,(h.sle.trans h3).trans g3,h.lo⟩
end
set_option maxHeartbeats 8000000
theorem Zl9(i n:Int):Zaa Tryz.prog 161 [dI i,dI n] (dB (idx i n)):=by
 have Zr:=Tryz.results161
 refine inN Tryz.func161 rfl Tryz.ntmps161 fun I=>?_
 by_cases h1:i≥0
 ·refine aGo (cj2 Zr h1) ?_
  repeat with_reducible intro K hK
  exact Zaj (by simp[idx,h1])
 ·refine aGo (cj2 Zr h1) ?_
  repeat with_reducible intro K hK
  exact Zaj (by simp[idx,h1])
theorem Znd(n lo hi:Int):Zaa Tryz.prog 93 [dI n,dI lo,dI hi] (dB (decide (lo≤n)&&decide (n≤hi))):=by
 have Zr:=Tryz.results93
 refine inN Tryz.func93 rfl Tryz.ntmps93 fun I=>?_
 by_cases h1:n≥lo
 ·exact aGo (cj2 Zr h1) trivial
 ·exact aGo (cj2 Zr h1) trivial
theorem ZEZ(e:EvD):Zaa Tryz.prog 104 [Zfd e] (dB (ZeT e)):=by
 refine⟨⟨_,_,Tryz.func104,rfl,by kernel_rfl⟩,fun S w vs hf hvs=>?_⟩
 obtain⟨v,rfl,h1⟩:=ZqD hvs
 obtain⟨us,rfl,hl,h2⟩:=h1.inv_agg
 obtain⟨a,b,c,d,f,g,i,j,rfl⟩:∃ a b c d f g i j,us=[a,b,c,d,f,g,i,j]:=by
  match us,hl with
  | [a,b,c,d,f,g,i,j],_=>exact⟨a,b,c,d,f,g,i,j,rfl⟩
 obtain rfl:=(h2 0 _ _ rfl rfl).inv_v
 obtain rfl:=(h2 1 _ _ rfl rfl).inv_v
 obtain rfl:=(h2 2 _ _ rfl rfl).inv_v
 obtain⟨a3,c3,rfl,-,-,-⟩:=(h2 3 _ _ rfl rfl).inv_sl
 obtain⟨a4,c4,rfl,-,-,-⟩:=(h2 4 _ _ rfl rfl).inv_sl
 obtain⟨a5,c5,rfl,-,-,-⟩:=(h2 5 _ _ rfl rfl).inv_sl
 obtain⟨a6,c6,rfl,-,-,-⟩:=(h2 6 _ _ rfl rfl).inv_sl
 obtain⟨a7,c7,rfl,-,-,-⟩:=(h2 7 _ _ rfl rfl).inv_sl
 simp only[Yc0]
 go_enter Tryz.func104,Tryz.ntmps104
 go_wp2_with fail
 go_loopw [36] (fun i wr => ∃ k : Nat, k ≤ 8 ∧ i = I k ∧ (([(e.m, 6), (e.h, 100), (e.s, 30), ((e.pl.length : Int), 100), ((e.mv.length : Int), 200), ((e.ce.length : Int), 100), ((e.re.length : Int), 30), ((e.pu.length : Int), 200)] : List (Int × Int)).take k).any (fun c => decide (c.1 > c.2)) = false ∧
     wr.heap[w.heap.size+1]? =some (.cells #[I e.m,I 6,I e.h,I 100,I e.s,I 30,I e.pl.length,I 100,I e.mv.length,I 200,I e.ce.length,I 100,I e.re.length,I 30,I e.pu.length,I 200] 226)∧Below w.heap.size w wr) (fun i _=>8-(intOf i).toNat)
 case atStart =>
  refine⟨0,by omega,rfl,rfl,?_,((Below.refl _ _).alloc (Ya4 _) _).alloc (by simp) _⟩
  rw[← World.size_alloc w]
  exact World.alloc_heap_new _ _
 case round =>
  obtain⟨k,hk,rfl,hg,hB,hb⟩:=hrel
  have hc0:=Zb0 hB (2*k)
  have hc1:=Zb0 hB (2*k+1)
  rcases(by omega:k=0∨k=1∨k=2∨k=3∨k=4∨k=5∨k=6∨k=7∨k=8)with rfl|rfl|rfl|rfl|rfl|rfl|rfl|rfl|rfl
  case inr.inr.inr.inr.inr.inr.inr.inr =>
   have hfu:ZeT e=false:=by simp[ZeT]at hg ⊢;omega
   go_wp2_with fail
   rw[hfu]
   go_ret
   exact⟨_,rfl,hb,.v _⟩
  all_goals simp at hc0 hc1 hg
  ·by_cases hgt:e.m>6
   ·rw[show ZeT e=true by simp[ZeT];omega]
    go_wp2_with fail
    go_ret
    exact⟨_,rfl,hb.alloc hb.size _,.v _⟩
   ·go_wp2_with fail
    exact⟨⟨1,by omega,rfl,by simp;omega,(Below.heap_alloc _ _ _ (Ya5.1 hB).1).trans hB,hb.alloc hb.size _⟩,by simp[intOf]⟩
  ·by_cases hgt:e.h>100
   ·rw[show ZeT e=true by simp[ZeT];omega]
    go_wp2_with fail
    go_ret
    exact⟨_,rfl,hb.alloc hb.size _,.v _⟩
   ·go_wp2_with fail
    exact⟨⟨2,by omega,rfl,by simp;omega,(Below.heap_alloc _ _ _ (Ya5.1 hB).1).trans hB,hb.alloc hb.size _⟩,by simp[intOf]⟩
  ·by_cases hgt:e.s>30
   ·rw[show ZeT e=true by simp[ZeT];omega]
    go_wp2_with fail
    go_ret
    exact⟨_,rfl,hb.alloc hb.size _,.v _⟩
   ·go_wp2_with fail
    exact⟨⟨3,by omega,rfl,by simp;omega,(Below.heap_alloc _ _ _ (Ya5.1 hB).1).trans hB,hb.alloc hb.size _⟩,by simp[intOf]⟩
  ·by_cases hgt:(e.pl.length:Int)>100
   ·rw[show ZeT e=true by simp[ZeT];omega]
    go_wp2_with fail
    go_ret
    exact⟨_,rfl,hb.alloc hb.size _,.v _⟩
   ·go_wp2_with fail
    exact⟨⟨4,by omega,rfl,by simp;omega,(Below.heap_alloc _ _ _ (Ya5.1 hB).1).trans hB,hb.alloc hb.size _⟩,by simp[intOf]⟩
  ·by_cases hgt:(e.mv.length:Int)>200
   ·rw[show ZeT e=true by simp[ZeT];omega]
    go_wp2_with fail
    go_ret
    exact⟨_,rfl,hb.alloc hb.size _,.v _⟩
   ·go_wp2_with fail
    exact⟨⟨5,by omega,rfl,by simp;omega,(Below.heap_alloc _ _ _ (Ya5.1 hB).1).trans hB,hb.alloc hb.size _⟩,by simp[intOf]⟩
  ·by_cases hgt:(e.ce.length:Int)>100
   ·rw[show ZeT e=true by simp[ZeT];omega]
    go_wp2_with fail
    go_ret
    exact⟨_,rfl,hb.alloc hb.size _,.v _⟩
   ·go_wp2_with fail
    exact⟨⟨6,by omega,rfl,by simp;omega,(Below.heap_alloc _ _ _ (Ya5.1 hB).1).trans hB,hb.alloc hb.size _⟩,by simp[intOf]⟩
  ·by_cases hgt:(e.re.length:Int)>30
   ·rw[show ZeT e=true by simp[ZeT];omega]
    go_wp2_with fail
    go_ret
    exact⟨_,rfl,hb.alloc hb.size _,.v _⟩
   ·go_wp2_with fail
    exact⟨⟨7,by omega,rfl,by simp;omega,(Below.heap_alloc _ _ _ (Ya5.1 hB).1).trans hB,hb.alloc hb.size _⟩,by simp[intOf]⟩
  ·by_cases hgt:(e.pu.length:Int)>200
   ·rw[show ZeT e=true by simp[ZeT];omega]
    go_wp2_with fail
    go_ret
    exact⟨_,rfl,hb.alloc hb.size _,.v _⟩
   ·go_wp2_with fail
    exact⟨⟨8,by omega,rfl,by simp;omega,(Below.heap_alloc _ _ _ (Ya5.1 hB).1).trans hB,hb.alloc hb.size _⟩,by simp[intOf]⟩
theorem Zzu(e:EvD)(hl:(e.pl.length:Int)≤1099511627776):Zaa Tryz.prog 105 [Zfd e] (dB (e.pl.all (okPl e.h e.m))):=by
 have Zr:=Tryz.results105
 refine inN Tryz.func105 rfl Tryz.ntmps105 fun I=>?_
 refine aGo Zr ?_
 repeat with_reducible intro K hK
 refine Zas (fun(k:Nat)=>[(1,.lp 0 0 0 0),(6,Zm7 e.pl),(7,dI e.pl.length),(8,dI k)]) (fun _=>[(0,⟨28,0,8,[cEv e],0,false⟩)]) 1 0 (fun k=>k≤e.pl.length∧(e.pl.take k).all (okPl e.h e.m)=true) (fun k=>e.pl.length-k) 0 ⟨by omega,rfl⟩ ?_ ?_
 ·exact leGo trivial
 rintro k ⟨hk,hg⟩
 obtain⟨hw,h0⟩:=ZaO k
 by_cases h1:(k:Int)<e.pl.length
 rotate_left
 ·refine aGo (cj2 Zr h1) ?_
  repeat with_reducible intro K hK
  rw[Ya8 (by omega)]at hg
  exact Zaj hg.symm
 obtain⟨p,hx⟩:∃ p,e.pl[k]? =some p:=⟨_,Ya0 (by omega)⟩
 have bad:okPl e.h e.m p=false→D.v (.bool false)=dB (e.pl.all (okPl e.h e.m)):=fun h=>Zaj (ZeP hx h).symm
 have fine:okPl e.h e.m p=true→k+1≤e.pl.length∧(e.pl.take (k+1)).all (okPl e.h e.m)=true:=fun h=>⟨by omega,ZaW hx hg h⟩
 have k1:=Zl9 p.k 7
 have k2:=Zl9 p.h e.h
 have k3:=Zl9 p.m e.m
 cases h2:idx p.k 7
 ·rw[h2]at k1
  refine aGo (cj4 Zr h0 h1 (cj2 hx hw)) ?_
  repeat with_reducible intro K hK
  exact bad (by simp[okPl,h2])
 rw[h2]at k1
 cases h3:(p.k==0)
 ·have h3':¬ p.k=0:=by simpa using h3
  cases h4:(p.h != -1)
  rotate_left
  ·refine aGo (cj4 Zr h0 h1 (cj4 hx hw h3 h4)) ?_
   repeat with_reducible intro K hK
   exact bad (by simp at h4;simp[okPl,h2,h3',h4])
  cases h5:(p.m != -1)
  rotate_left
  ·refine aGo (cj4 Zr h0 h1 (cj4 hx hw h3 (cj2 h4 h5))) ?_
   repeat with_reducible intro K hK
   exact bad (by simp at h5;simp[okPl,h2,h3',h5])
  refine aGo (cj4 Zr h0 h1 (cj4 hx hw h3 (cj2 h4 h5))) ?_
  repeat with_reducible intro K hK
  exact Zad (k+1) (fine (by simp at h4 h5;simp[okPl,h2,h3',h4,h5])) (by omega) (by exact leGo trivial)
 ·have h3':p.k=0:=by simpa using h3
  cases h4:idx p.h e.h
  ·rw[h4]at k2
   refine aGo (cj4 Zr h0 h1 (cj3 hx hw h3)) ?_
   repeat with_reducible intro K hK
   exact bad (by simp[okPl,h2,h3',h4])
  rw[h4]at k2
  cases h5:idx p.m e.m
  ·rw[h5]at k3
   refine aGo (cj4 Zr h0 h1 (cj3 hx hw h3)) ?_
   repeat with_reducible intro K hK
   exact bad (by simp[okPl,h2,h3',h4,h5])
  rw[h5]at k3
  refine aGo (cj4 Zr h0 h1 (cj3 hx hw h3)) ?_
  repeat with_reducible intro K hK
  exact Zad (k+1) (fine (by simp[okPl,h3',h4,h5];rfl)) (by omega) (by exact leGo trivial)
theorem ZjN{e:EvD}{f:Int}{p:PlD}(h:e.pl[f.toNat]? =some p):Zch e f=p.k:=by unfold Zch;rw[h];rfl
theorem Zxq{i n:Int}:idx i n=true↔0≤i∧i<n:=by simp[idx]
theorem ZEK(e:EvD)(x:MvD):Zaa Tryz.prog 106 [Zfd e,.agg (cMv x)] (dB (okMv e x)):=by
 have Zr:=Tryz.results106
 refine inN Tryz.func106 rfl Tryz.ntmps106 fun I=>?_
 have k1:=Zl9 x.f e.pl.length
 have k2:=Zl9 x.t e.pl.length
 have k3:=Zl9 x.s e.s
 have k4:=Znd x.r 0 1099511627776
 cases h1:idx x.f e.pl.length
 ·rw[h1]at k1
  refine aGo Zr ?_
  repeat with_reducible intro K hK
  exact Zaj (by simp[okMv,h1])
 rw[h1]at k1
 cases h2:idx x.t e.pl.length
 ·rw[h2]at k2
  refine aGo Zr ?_
  repeat with_reducible intro K hK
  exact Zaj (by simp[okMv,h2])
 rw[h2]at k2
 cases h3:(x.f==x.t)
 rotate_left
 ·refine aGo (cj2 Zr h3) ?_
  repeat with_reducible intro K hK
  exact Zaj (by simp at h3;simp[okMv,h3])
 obtain⟨f0,f1⟩:=Zxq.1 h1
 obtain⟨t0,t1⟩:=Zxq.1 h2
 obtain⟨p,hp⟩:∃ p,e.pl[x.f.toNat]? =some p:=⟨_,Ya0 (by omega)⟩
 obtain⟨q,hq⟩:∃ p,e.pl[x.t.toNat]? =some p:=⟨_,Ya0 (by omega)⟩
 have ep:=ZjN hp
 have eq:=ZjN hq
 have hne:x.f≠x.t:=by simpa using h3
 have e0:okMv e x=(!(p.k==5)&&(!(p.k==6)&&(!(p.k==0&&x.a)&&(!(q.k==0)&&(if x.s = -1 then x.r==0 else idx x.s e.s&&(decide (0≤x.r)&&decide (x.r≤1099511627776))))))):=by
  unfold okMv
  rw[h1,h2,ep,eq,bne_iff_ne.2 hne];simp
 rw[e0]
 clear e0 ep eq
 cases h4:(p.k==5)
 rotate_left
 ·exact aGo (cj4 Zr h3 hp (cj2 f0 h4)) trivial
 cases h5:(p.k==6)
 rotate_left
 ·exact aGo (cj4 Zr h3 hp (cj3 f0 h4 h5)) trivial
 cases h6:(p.k==0)
 ·cases h8:(q.k==0)
  rotate_left
  ·exact aGo (cj4 Zr h3 hp (cj4 hq f0 t0 (cj4 h4 h5 h6 h8))) trivial
  cases h9:(x.s == -1)
  ·have h9':¬ x.s = -1:=by simpa using h9
   cases h10:idx x.s e.s
   ·rw[h10]at k3
    refine aGo (cj4 Zr h3 hp (cj4 hq f0 t0 (cj4 h4 h5 h6 (cj2 h8 h9)))) ?_
    repeat with_reducible intro K hK
    exact Zaj (by simp[h9'])
   ·rw[h10]at k3
    refine aGo (cj4 Zr h3 hp (cj4 hq f0 t0 (cj4 h4 h5 h6 (cj2 h8 h9)))) ?_
    repeat with_reducible intro K hK
    exact Zaj (by simp[h9'])
  ·have h9':x.s = -1:=by simpa using h9
   refine aGo (cj4 Zr h3 hp (cj4 hq f0 t0 (cj4 h4 h5 h6 (cj2 h8 h9)))) ?_
   repeat with_reducible intro K hK
   exact Zaj (by simp[h9'])
 ·cases h7:x.a
  rotate_left
  ·exact aGo (cj4 Zr h3 hp (cj4 hq f0 t0 (cj4 h4 h5 h6 h7))) trivial
  cases h8:(q.k==0)
  rotate_left
  ·exact aGo (cj4 Zr h3 hp (cj4 hq f0 t0 (cj4 h4 h5 h6 (cj2 h7 h8)))) trivial
  cases h9:(x.s == -1)
  ·have h9':¬ x.s = -1:=by simpa using h9
   cases h10:idx x.s e.s
   ·rw[h10]at k3
    refine aGo (cj4 Zr h3 hp (cj4 hq f0 t0 (cj4 h4 h5 h6 (cj3 h7 h8 h9)))) ?_
    repeat with_reducible intro K hK
    exact Zaj (by simp[h9'])
   ·rw[h10]at k3
    refine aGo (cj4 Zr h3 hp (cj4 hq f0 t0 (cj4 h4 h5 h6 (cj3 h7 h8 h9)))) ?_
    repeat with_reducible intro K hK
    exact Zaj (by simp[h9'])
  ·have h9':x.s = -1:=by simpa using h9
   refine aGo (cj4 Zr h3 hp (cj4 hq f0 t0 (cj4 h4 h5 h6 (cj3 h7 h8 h9)))) ?_
   repeat with_reducible intro K hK
   exact Zaj (by simp[h9'])
theorem ZEk(e:EvD)(hl1:(e.ce.length:Int)≤1099511627776)(hl2:(e.re.length:Int)≤1099511627776)(hl3:(e.pu.length:Int)≤1099511627776):Zaa Tryz.prog 107 [Zfd e] (dB (Zh3 e)):=by
 have Zr:=Tryz.results107
 have bad1:e.ce.all (okCe e.s)=false→D.v (.bool false)=dB (Zh3 e):=fun h=>Zaj (by unfold Zh3;rw[h];rfl)
 have bad2:e.re.all (okRe e.s)=false→D.v (.bool false)=dB (Zh3 e):=fun h=>Zaj (by unfold Zh3;rw[h];simp)
 have bad3:e.pu.all (okPu e.mv.length e.m)=false→D.v (.bool false)=dB (Zh3 e):=fun h=>Zaj (by unfold Zh3;rw[h];simp)
 have fine:e.ce.all (okCe e.s)=true→e.re.all (okRe e.s)=true→e.pu.all (okPu e.mv.length e.m)=true→D.v (.bool true)=dB (Zh3 e):=fun a b c=>Zaj (by unfold Zh3;rw[a,b,c];rfl)
 generalize Zh3 e=out at *
 refine inN Tryz.func107 rfl Tryz.ntmps107 fun I=>?_
 refine aGo Zr ?_
 repeat with_reducible intro K hK
 refine Zas (fun(k:Nat)=>[(1,.lp 0 0 0 0),(11,ZpV e.ce),(12,dI e.ce.length),(13,dI k)]) (fun _=>[(0,⟨28,0,8,[cEv e],0,false⟩)]) 1 0 (fun k=>k≤e.ce.length∧(e.ce.take k).all (okCe e.s)=true) (fun k=>e.ce.length-k) 0 ⟨by omega,rfl⟩ ?_ ?_
 ·exact leGo trivial
 rintro k ⟨hk,hg⟩
 obtain⟨hw,h0⟩:=ZaO k
 by_cases h1:(k:Int)<e.ce.length
 ·obtain⟨c,hx⟩:∃ p,e.ce[k]? =some p:=⟨_,Ya0 (by omega)⟩
  have bad:okCe e.s c=false→D.v (.bool false)=dB out:=fun h=>bad1 (ZeP hx h)
  have k1:=Zl9 c.s e.s
  have k2:=Znd c.g 0 1099511627776
  have k3:=Znd c.p 0 1000
  have k4:=Znd c.d 0 10000000
  have ed:okCe e.s c=((decide (0≤c.f)&&(decide (c.f≤c.u)&&decide (c.u≤100000)))&&(idx c.s e.s&&((decide (0≤c.g)&&decide (c.g≤1099511627776))&&((decide (0≤c.p)&&decide (c.p≤1000))&&(decide (0≤c.d)&&decide (c.d≤10000000)))))):=rfl
  by_cases d1:c.f≥0
  rotate_left
  ·refine aGo (cj4 Zr h0 h1 (cj3 hx hw d1)) ?_
   repeat with_reducible intro K hK
   exact bad (by rw[ed,decide_eq_false (by omega:¬ 0≤c.f)];rfl)
  by_cases d2:c.f≤c.u
  rotate_left
  ·refine aGo (cj4 Zr h0 h1 (cj4 hx hw d1 d2)) ?_
   repeat with_reducible intro K hK
   exact bad (by rw[ed,decide_eq_false d2];simp)
  by_cases d3:c.u≤100000
  rotate_left
  ·refine aGo (cj4 Zr h0 h1 (cj4 hx hw d1 (cj2 d2 d3))) ?_
   repeat with_reducible intro K hK
   exact bad (by rw[ed,decide_eq_false d3];simp)
  rw[decide_eq_true (by omega:0≤c.f),decide_eq_true d2,decide_eq_true d3]at ed
  cases h2:idx c.s e.s
  ·rw[h2]at k1
   refine aGo (cj4 Zr h0 h1 (cj4 hx hw d1 (cj2 d2 d3))) ?_
   repeat with_reducible intro K hK
   exact bad (by rw[ed,h2];rfl)
  rw[h2]at k1 ed
  generalize (decide (0≤c.g)&&decide (c.g≤1099511627776))=b1 at k2 ed
  generalize (decide (0≤c.p)&&decide (c.p≤1000))=b2 at k3 ed
  generalize (decide (0≤c.d)&&decide (c.d≤10000000))=b3 at k4 ed
  cases b1
  ·refine aGo (cj4 Zr h0 h1 (cj4 hx hw d1 (cj2 d2 d3))) ?_
   repeat with_reducible intro K hK
   exact bad ed
  cases b2
  ·refine aGo (cj4 Zr h0 h1 (cj4 hx hw d1 (cj2 d2 d3))) ?_
   repeat with_reducible intro K hK
   exact bad ed
  cases b3
  ·refine aGo (cj4 Zr h0 h1 (cj4 hx hw d1 (cj2 d2 d3))) ?_
   repeat with_reducible intro K hK
   exact bad ed
  refine aGo (cj4 Zr h0 h1 (cj4 hx hw d1 (cj2 d2 d3))) ?_
  repeat with_reducible intro K hK
  exact Zad (k+1) ⟨by omega,ZaW hx hg ed⟩ (by omega) (by exact leGo trivial)
 rw[Ya8 (by omega)]at hg
 refine aGo (cj2 Zr h1) ?_
 repeat with_reducible intro K hK
 clear h1 h0 hw
 refine Zas (fun(k:Nat)=>[(1,.lp 0 0 0 0),(62,Zjb e.re),(63,dI e.re.length),(64,dI k)]) (fun _=>[(0,⟨28,0,8,[cEv e],0,false⟩)]) 1 0 (fun k=>k≤e.re.length∧(e.re.take k).all (okRe e.s)=true) (fun k=>e.re.length-k) 0 ⟨by omega,rfl⟩ ?_ ?_
 ·exact leGo trivial
 rintro k ⟨hk,hg2⟩
 obtain⟨hw,h0⟩:=ZaO k
 by_cases h1:(k:Int)<e.re.length
 ·obtain⟨c,hx⟩:∃ p,e.re[k]? =some p:=⟨_,Ya0 (by omega)⟩
  have bad:okRe e.s c=false→D.v (.bool false)=dB out:=fun h=>bad2 (ZeP hx h)
  have k1:=Zl9 c.s e.s
  have k2:=Znd c.d 0 100000
  have ed:okRe e.s c=(idx c.s e.s&&(decide (0≤c.d)&&decide (c.d≤100000))):=rfl
  generalize idx c.s e.s=b0 at k1 ed
  generalize (decide (0≤c.d)&&decide (c.d≤100000))=b1 at k2 ed
  cases b0
  ·refine aGo (cj4 Zr h0 h1 (cj2 hx hw)) ?_
   repeat with_reducible intro K hK
   exact bad ed
  cases b1
  ·refine aGo (cj4 Zr h0 h1 (cj2 hx hw)) ?_
   repeat with_reducible intro K hK
   exact bad ed
  refine aGo (cj4 Zr h0 h1 (cj2 hx hw)) ?_
  repeat with_reducible intro K hK
  exact Zad (k+1) ⟨by omega,ZaW hx hg2 ed⟩ (by omega) (by exact leGo trivial)
 rw[Ya8 (by omega)]at hg2
 refine aGo (cj2 Zr h1) ?_
 repeat with_reducible intro K hK
 clear h1 h0 hw
 refine Zas (fun(k:Nat)=>[(1,.lp 0 0 0 0),(82,Ztp e.pu),(83,dI e.pu.length),(84,dI k)]) (fun _=>[(0,⟨28,0,8,[cEv e],0,false⟩)]) 1 0 (fun k=>k≤e.pu.length∧(e.pu.take k).all (okPu e.mv.length e.m)=true) (fun k=>e.pu.length-k) 0 ⟨by omega,rfl⟩ ?_ ?_
 ·exact leGo trivial
 rintro k ⟨hk,hg3⟩
 obtain⟨hw,h0⟩:=ZaO k
 by_cases h1:(k:Int)<e.pu.length
 ·obtain⟨c,hx⟩:∃ p,e.pu[k]? =some p:=⟨_,Ya0 (by omega)⟩
  have bad:okPu e.mv.length e.m c=false→D.v (.bool false)=dB out:=fun h=>bad3 (ZeP hx h)
  have k1:=Zl9 c.v e.mv.length
  have k2:=Zl9 c.m e.m
  have ed:okPu e.mv.length e.m c=(idx c.v e.mv.length&&(idx c.m e.m&&(decide (0≤c.lo)&&(decide (c.lo≤c.hi)&&decide (c.hi≤1000))))):=rfl
  generalize idx c.v e.mv.length=b0 at k1 ed
  generalize idx c.m e.m=b1 at k2 ed
  cases b0
  ·refine aGo (cj4 Zr h0 h1 (cj2 hx hw)) ?_
   repeat with_reducible intro K hK
   exact bad ed
  cases b1
  ·refine aGo (cj4 Zr h0 h1 (cj2 hx hw)) ?_
   repeat with_reducible intro K hK
   exact bad ed
  by_cases d1:c.lo<0
  ·refine aGo (cj4 Zr h0 h1 (cj3 hx hw d1)) ?_
   repeat with_reducible intro K hK
   exact bad (by rw[ed,decide_eq_false (by omega:¬ 0≤c.lo)];rfl)
  by_cases d2:c.hi<c.lo
  ·refine aGo (cj4 Zr h0 h1 (cj4 hx hw d1 d2)) ?_
   repeat with_reducible intro K hK
   exact bad (by rw[ed,decide_eq_false (by omega:¬ c.lo≤c.hi)];simp)
  by_cases d3:c.hi>1000
  ·refine aGo (cj4 Zr h0 h1 (cj4 hx hw d1 (cj2 d2 d3))) ?_
   repeat with_reducible intro K hK
   exact bad (by rw[ed,decide_eq_false (by omega:¬ c.hi≤1000)];simp)
  refine aGo (cj4 Zr h0 h1 (cj4 hx hw d1 (cj2 d2 d3))) ?_
  repeat with_reducible intro K hK
  exact Zad (k+1) ⟨by omega,ZaW hx hg3 (by rw[ed,decide_eq_true (by omega:0≤c.lo),decide_eq_true (by omega:c.lo≤c.hi),decide_eq_true (by omega:c.hi≤1000)];rfl)⟩ (by omega) (by exact leGo trivial)
 rw[Ya8 (by omega)]at hg3
 refine aGo (cj2 Zr h1) ?_
 repeat with_reducible intro K hK
 exact fine hg hg2 hg3
structure LenE (e:EvD):Prop where
 pl:(e.pl.length:Int)≤1099511627776
 mv:(e.mv.length:Int)≤1099511627776
 ce:(e.ce.length:Int)≤1099511627776
 re:(e.re.length:Int)≤1099511627776
 pu:(e.pu.length:Int)≤1099511627776
theorem ZxI(e:EvD)(L:LenE e):Zaa Tryz.prog 52 [Zfd e] (dI (Zf3 e)):=by
 have Zr:=Tryz.results52
 have k1:=ZEZ e
 have k2:=Zzu e L.pl
 have k3:=ZEk e L.ce L.re L.pu
 obtain⟨-,hmv,-,-,-⟩:=L
 unfold Zf3
 cases h1:ZeT e
 rotate_left
 ·rw[h1]at k1
  refine inN Tryz.func52 rfl Tryz.ntmps52 fun I=>?_
  exact aGo Zr trivial
 rw[h1]at k1
 rw[if_neg Yc5]
 have ea:argE e=(decide (1≤e.m)&&(decide (0≤e.h)&&(decide (0≤e.s)&&e.pl.all (okPl e.h e.m)))):=rfl
 have no:argE e=false→D.v (.int .i64 1)=dI (if argE e=true then(if Zd2 e 0 e.mv=0 then(if Zh3 e=true then 0 else 1)else Zd2 e 0 e.mv)else 1):=fun h=>by rw[h];rfl
 by_cases h2:e.m<1
 ·refine inN Tryz.func52 rfl Tryz.ntmps52 fun I=>?_
  refine aGo (cj2 Zr h2) ?_
  repeat with_reducible intro K hK
  exact no (by rw[ea,decide_eq_false (by omega:¬ 1≤e.m)];rfl)
 by_cases h3:e.h<0
 ·refine inN Tryz.func52 rfl Tryz.ntmps52 fun I=>?_
  refine aGo (cj3 Zr h2 h3) ?_
  repeat with_reducible intro K hK
  exact no (by rw[ea,decide_eq_false (by omega:¬ 0≤e.h)];simp)
 by_cases h4:e.s<0
 ·refine inN Tryz.func52 rfl Tryz.ntmps52 fun I=>?_
  refine aGo (cj4 Zr h2 h3 h4) ?_
  repeat with_reducible intro K hK
  exact no (by rw[ea,decide_eq_false (by omega:¬ 0≤e.s)];simp)
 cases h5:e.pl.all (okPl e.h e.m)
 ·rw[h5]at k2
  refine inN Tryz.func52 rfl Tryz.ntmps52 fun I=>?_
  refine aGo (cj4 Zr h2 h3 h4) ?_
  repeat with_reducible intro K hK
  exact no (by rw[ea,h5];simp)
 rw[h5]at k2
 rw[show argE e=true by rw[ea,h5,decide_eq_true (by omega:1≤e.m),decide_eq_true (by omega:0≤e.h),decide_eq_true (by omega:0≤e.s)];rfl,if_pos rfl]
 clear no ea
 generalize ho:(if Zd2 e 0 e.mv=0 then(if Zh3 e=true then(0:Int)else 1)else Zd2 e 0 e.mv)=out
 refine inN Tryz.func52 rfl Tryz.ntmps52 fun I=>?_
 refine aGo (cj4 Zr h2 h3 h4) ?_
 repeat with_reducible intro K hK
 clear h2 h3 h4
 refine Zas (fun(x:Nat×Int)=>[(1,.lp 0 0 0 0),(3,dI x.2),(29,Zjc e.mv),(30,dI e.mv.length),(31,dI x.1)]) (fun _=>[(0,⟨28,0,8,[cEv e],0,false⟩)]) 1 0 (fun x=>x.1≤e.mv.length∧Zd2 e 0 e.mv=Zd2 e x.2 (e.mv.drop x.1)) (fun x=>e.mv.length-x.1) (0,0) ⟨by omega,rfl⟩ ?_ ?_
 ·exact leGo trivial
 rintro⟨k,last⟩ ⟨hk,hg⟩
 simp only at hk hg
 obtain⟨hw,h0⟩:=ZaO k
 by_cases h6:(k:Int)<e.mv.length
 ·obtain⟨x,hx⟩:∃ p,e.mv[k]? =some p:=⟨_,Ya0 (by omega)⟩
  have km:=ZEK e x
  have ed:e.mv.drop k=x ::e.mv.drop (k+1):=by
   obtain⟨hi,rfl⟩:=Ya3.1 hx
   exact Yd7 hi
  have em:Zd2 e last (e.mv.drop k)=if x.d<last∨x.d>100000 then 17 else if okMv e x=true then Zd2 e x.d (e.mv.drop (k+1))else 1:=by rw[ed];rfl
  by_cases h7:x.d<last
  ·refine aGo (cj4 Zr h0 h6 (cj3 hx hw h7)) ?_
   repeat with_reducible intro K hK
   exact ZbA (by rw[← ho,hg,em.trans (if_pos (.inl h7))];rfl)
  by_cases h8:x.d>100000
  ·refine aGo (cj4 Zr h0 h6 (cj4 hx hw h7 h8)) ?_
   repeat with_reducible intro K hK
   exact ZbA (by rw[← ho,hg,em.trans (if_pos (.inr h8))];rfl)
  have em2:Zd2 e last (e.mv.drop k)=if okMv e x=true then Zd2 e x.d (e.mv.drop (k+1))else 1:=by rw[em,if_neg (by omega)]
  cases h9:okMv e x
  ·rw[h9]at km em2
   refine aGo (cj4 Zr h0 h6 (cj4 hx hw h7 h8)) ?_
   repeat with_reducible intro K hK
   exact ZbA (by rw[← ho,hg,em2];rfl)
  ·rw[h9]at km em2
   rw[if_pos rfl]at em2
   refine aGo (cj4 Zr h0 h6 (cj4 hx hw h7 h8)) ?_
   repeat with_reducible intro K hK
   exact Zad (k+1,x.d) ⟨by show k+1≤_;omega,by rw[hg];exact em2⟩ (by show e.mv.length-(k+1)<e.mv.length-k;omega) (by exact leGo trivial)
 ·rw[show e.mv.drop k=[] by rw[List.drop_eq_nil_iff];omega]at hg
  have e0:Zd2 e last []=0:=rfl
  rw[hg,e0,if_pos rfl]at ho
  cases h7:Zh3 e
  ·rw[h7]at k3 ho
   refine aGo (cj2 Zr h6) ?_
   repeat with_reducible intro K hK
   exact ZbA (by rw[← ho];rfl)
  ·rw[h7]at k3 ho
   refine aGo (cj2 Zr h6) ?_
   repeat with_reducible intro K hK
   exact ZbA (by rw[← ho];rfl)
theorem Zyy{n:Nat}{a b:List Zaf}(ha:Zai a n=true)(hb:Zai b n=true):Zkj a b=Zjg n a b:=by
 rw[Bool.eq_iff_iff,ZfM,Zne ha hb]
theorem Zqj{n:Nat}{c:Nat→Rat}{t:Zaf}(h:t∈ZaS n c):∃ v,v<n∧t=⟨(v:Int),ofQ (c v)⟩:=by
 unfold ZaS at h
 obtain⟨v,hv,e⟩:=List.mem_filterMap.1 h
 split at e
 ·cases e
 ·cases e;exact⟨v,Yd2.1 hv,rfl⟩
theorem ZCV{s:SysD}{y:List Zag}(hs:tnS s)(hy:tnFs y)(hm:ZhJ s y=true):wkT (mixT s y):=by
 obtain⟨hr,hlen,hok⟩:=Zev.1 hm
 have hn:=Zb7 hr
 have hly:=hy.1
 refine⟨by have:=Zej (fun v=>mixG (indI v) s.r y) s.n.toNat;unfold mixT;omega,fun t ht=>?_⟩
 obtain⟨v,_,rfl⟩:=Zqj ht
 have h:=Zqk hs hy hok hr v y.length (Ya4 _) (by omega)
 unfold Zek at h
 rw[hlen,Yc2,← hlen,Yc2]at h
 rw[Ze8]
 omega
theorem ZBQ{s:SysD}{y:List Zag}(hs:tnS s)(hy:tnFs y)(hm:ZhJ s y=true):(szQ (mixV s.r y):Int)≤33554500:=by
 obtain⟨hr,hlen,hok⟩:=Zev.1 hm
 have h:=ZrS hs hy hok hr y.length (Ya4 _) (by omega)
 have hly:=hy.1
 rw[hlen,Yc2,← hlen,Yc2]at h
 omega
theorem Zqg{s:SysD}{goal:List Zaf}{y:List Zag}(h:(Zdb s y&&Zai goal s.n&&Zjg s.n.toNat (mixT s y) goal)=false):D.tup [encF zF,dB false]=D.tup [encF (Zb5 s goal y).1,dB (Zb5 s goal y).2]:=by
 unfold Zb5;rw[h];rfl
theorem ZAA(s:SysD)(goal:List Zaf)(y:List Zag)(hs:tnS s)(hg:smT goal)(hy:tnFs y):Zah Tryz.prog 121 [encS s,Zbk goal,Za0 y] (.tup [encF (Zb5 s goal y).1,dB (Zb5 s goal y).2]):=by
 have Zr:=Tryz.results121
 have k1:=Zx1 s y hs.sm hy.sm
 have k2:=Ze3 goal s.n hg
 cases h1:Zdb s y
 ·rw[h1]at k1
  refine inC Tryz.func121 rfl Tryz.ntmps121 ?_
  refine aGo Zr ?_
  repeat with_reducible intro K hK
  exact Zqg (by rw[h1];rfl)
 rw[h1]at k1
 cases h2:Zai goal s.n
 ·rw[h2]at k2
  refine inC Tryz.func121 rfl Tryz.ntmps121 ?_
  refine aGo Zr ?_
  repeat with_reducible intro K hK
  exact Zqg (by rw[h2];simp)
 rw[h2]at k2
 have hm:ZhJ s y=true:=by simp only[Zdb,Ya2]at h1;exact h1.1
 obtain⟨hr,hlen,hok⟩:=Zev.1 hm
 have k3:=ZFo s y hs hy
 rw[show Zpt s y=(mixT s y,ofQ (mixV s.r y)) by simp[Zpt,hm]]at k3
 have k4:=ZAE s.n.toNat (mixT s y) goal (Zhl hr y) (Zeo h2) (ZCV hs hy hm) hg.wk
 rw[Zyy (Zhl hr y) (Zeo h2)]at k4
 cases h3:Zjg s.n.toNat (mixT s y) goal
 ·rw[h3]at k4
  refine inC Tryz.func121 rfl Tryz.ntmps121 ?_
  refine aGo Zr ?_
  repeat with_reducible intro K hK
  exact Zqg (by rw[h3,Bool.and_false])
 ·rw[h3]at k4
  refine inC Tryz.func121 rfl Tryz.ntmps121 ?_
  rw[show Zb5 s goal y=(ofQ (mixV s.r y),true) by simp[Zb5,h1,h2,h3]]
  exact aGo Zr trivial
theorem ZyW{s:SysD}{goal:List Zaf}{y:List Zag}(hs:tnS s)(hy:tnFs y):(szF (Zb5 s goal y).1:Int)≤33554500:=by
 unfold Zb5
 split
 ·rename_i h
  simp only[Ya2,Zdb]at h
  exact ZBQ hs hy h.1.1.1
 ·show(szF zF:Int)≤_
  decide
def tnO(o:OptD):Prop:=tnF o.v∧tnFs o.x∧tnFs o.y∧tnFs o.d
set_option maxHeartbeats 4000000
theorem ZpJ{n:Int}:∀ (l:List Zaf)(last:Int),goR n last l=true→∀ t∈l,last<t.v
 | [],_,_,t,h=>by cases h
 | u ::l,last,h,t,ht=>by
   have h':=ZaH.1 h
   rcases List.mem_cons.1 ht with rfl|ht
   ·exact h'.1
   ·have:=ZpJ l u.v h'.2.2.2 t ht;omega
theorem Zm3{n:Int}:∀ (l:List Zaf)(last:Int),goR n last l=true→∀ (i:Nat)(t:Zaf),l[i]? =some t→dotS (indI t.v) (l.take i)=0
 | [],_,_,i,t,h=>by simp at h
 | u ::l,last,h,0,t,ht=>rfl
 | u ::l,last,h,i+1,t,ht=>by
   have h':=ZaH.1 h
   have h1:=Zm3 l u.v h'.2.2.2 i t (by simpa using ht)
   have h2:=ZpJ l u.v h'.2.2.2 t (Ya7 (by simpa using ht))
   rw[List.take_succ_cons]
   simp only[dotS,h1,indI,if_neg (show ¬ u.v=t.v by omega)];grind
theorem ZeK{l:List Zaf}{n:Int}(h:Zai l n=true){i:Nat}{t:Zaf}(ht:l[i]? =some t)(h0:0≤t.v):Za4 (l.take i) t.v.toNat=0:=by
 simp only[Zai,Ya2]at h
 unfold Za4
 rw[show((t.v.toNat:Nat):Int)=t.v by omega]
 exact Zm3 l (-1) h.2 i t ht
theorem ZfG{l:List Zaf}{i:Nat}{t:Zaf}(ht:l[i]? =some t)(h0:0≤t.v)(u:Nat):Za4 (l.take (i+1)) u=Za4 (l.take i) u+if u=t.v.toNat then qOf t.f else 0:=by
 unfold Za4
 rw[Zf5 ht]
 simp only[indI]
 by_cases e:u=t.v.toNat
 ·rw[if_pos e,if_pos (by omega)];grind
 ·rw[if_neg e,if_neg (by omega)];grind
theorem Zrq{l:List Zaf}{n:Int}(h:Zai l n=true){i:Nat}{t:Zaf}(ht:l[i]? =some t)(h0:0≤t.v):Za4 l t.v.toNat=qOf t.f:=by
 have h1:∀ k,i+1+k≤l.length→Za4 (l.take (i+1+k)) t.v.toNat=qOf t.f:=by
  intro k
  induction k with
  | zero=>intro _;rw[Nat.add_zero,ZfG ht h0,if_pos rfl,ZeK h ht h0];grind
  | succ k ih =>
    intro hk
    obtain⟨u,hu⟩:=getE (l:=l) (k:=i+1+k) (by omega)
    have hu0:=(Za6 h (ZaL hu)).1
    have hne:t.v.toNat≠u.v.toNat:=fun e=>by
     have hb:=ZeK h hu hu0
     rw[← e,ih (by omega)]at hb
     exact(Za6 h (ZaL ht)).2.2.2 hb
    rw[← Nat.add_assoc,ZfG hu hu0,if_neg hne,ih (by omega)];grind
 have hi:=(Ya3.1 ht).1
 have:=h1 (l.length-(i+1)) (by omega)
 rw[show i+1+(l.length-(i+1))=l.length by omega,Yc2]at this
 exact this
theorem Cl.none{m:Mem}{nx id:Nat}(h:Cl m nx)(hi:nx≤id):m id=none:=by
 cases hm:m id with
 | none=>rfl
 | some b=>have:=(h id b hm).1;omega
def ZhY(I:Ids)(m x:Nat):Ids:={I with A:=fun k=>if k=m then x else I.A k,vR:=I.vR+1,vO:=I.vO+1,vF:=I.vF+1}
def sgQ'(turned:Bool)(q:Rat):Rat:=if turned then -q else q
def ZeQ(d:Dic)(w:RowD)(turned:Bool):Dic :=
 {d with m:=d.m+1,own:=fun k=>if k=d.m then d.n+d.m else d.own k,v:=fun k=>if k=d.m then sgQ' turned (qOf w.v)else d.v k,a:=fun k=>if k=d.m then(fun j=>sgQ' turned (Za4 w.t j))else d.a k}
theorem ZAG{l:List Zaf}{n:Nat}{N:Int}(h:Zai l N=true){i:Nat}{t:Zaf}(ht:l[i]? =some t)(h0:0≤t.v)(ho:okF t.f=true) :
 (ratL n (Za4 (l.take i))).set t.v.toNat [dI t.f.p.s,Zab t.f.p.d,dI t.f.q.s,Zab t.f.q.d]=ratL n (Za4 (l.take (i+1))):=by
 have e:[dI t.f.p.s,Zab t.f.p.d,dI t.f.q.s,Zab t.f.q.d]=cF (ofQ (qOf t.f)):=by rw[← ZcF ho]
 rw[e,ZdV]
 refine ZaY fun u _=>?_
 rw[ZfG ht h0]
 by_cases e:u=t.v.toNat
 ·subst e;rw[if_pos rfl,if_pos rfl,ZeK h ht h0];grind
 ·rw[if_neg e,if_neg e];grind
def ZkW(l:List Zaf)(i:Nat)(u:Nat):Rat:=Za4 l u-2*Za4 (l.take i) u
theorem ZtO(l:List Zaf):ZkW l 0=Za4 l:=by funext u;unfold ZkW;simp only[List.take_zero,Za4,dotS];grind
theorem Zvn(l:List Zaf):ZkW l l.length=fun u=> -Za4 l u:=by funext u;unfold ZkW;rw[Yc2];grind
theorem ZyR{l:List Zaf}{n:Nat}{N:Int}(h:Zai l N=true){i:Nat}{t:Zaf}(ht:l[i]? =some t)(h0:0≤t.v) :
 (ratL n (ZkW l i)).set t.v.toNat (cF (ofQ (-qOf t.f)))=ratL n (ZkW l (i+1)):=by
 rw[ZdV]
 refine ZaY fun u _=>?_
 unfold ZkW
 rw[ZfG ht h0]
 by_cases e:u=t.v.toNat
 ·subst e;rw[if_pos rfl,if_pos rfl,ZeK h ht h0,Zrq h ht h0];grind
 ·rw[if_neg e,if_neg e];grind
structure Zgd (fr:List (List D)) (m:Mem) (I:Ids) (d:Dic) (src:Nat→Nat×Bool):Prop where
 hp:m I.p=some (pB I d.n)
 hR:m I.R=some (rB I d.m d.v)
 hG:m I.G=some (fB d.n d.g)
 hO:m I.O=some (iB 3 I.vO d.m d.own)
 hFr:m I.Fr=some ⟨3,I.vFr,1,fr,0,false⟩
 hF:m I.F=some (sB I.vF d.m src)
 hA:∀ k,k<d.m→m (I.A k)=some (fB d.n (d.a k))
theorem Zgd.lt{fr:List (List D)}{m:Mem}{I:Ids}{d:Dic}{src:Nat→Nat×Bool}{nx:Nat}(h:Zgd fr m I d src)(hc:Cl m nx){id:Nat}(hi:inD I d.m id):id<nx:=by
 rcases hi with rfl|rfl|rfl|rfl|rfl|rfl|⟨k,hk,rfl⟩
 ·exact(hc _ _ h.hp).1
 ·exact(hc _ _ h.hR).1
 ·exact(hc _ _ h.hG).1
 ·exact(hc _ _ h.hO).1
 ·exact(hc _ _ h.hFr).1
 ·exact(hc _ _ h.hF).1
 ·exact(hc _ _ (h.hA k hk)).1
theorem Zgd.keep{fr:List (List D)}{m m':Mem}{I:Ids}{d:Dic}{src:Nat→Nat×Bool}(h:Zgd fr m I d src)(hf:∀ id,inD I d.m id→m' id=m id):Zgd fr m' I d src :=
 ⟨(hf _ (.inl rfl)).trans h.hp,(hf _ (.inr (.inl rfl))).trans h.hR,(hf _ (.inr (.inr (.inl rfl)))).trans h.hG,(hf _ (.inr (.inr (.inr (.inl rfl))))).trans h.hO,(hf _ (.inr (.inr (.inr (.inr (.inl rfl)))))).trans h.hFr,
   (hf _ (.inr (.inr (.inr (.inr (.inr (.inl rfl))))))).trans h.hF,fun k hk=>(hf _ (.inr (.inr (.inr (.inr (.inr (.inr ⟨k,hk,rfl⟩))))))).trans (h.hA k hk)⟩
theorem Zgd.at{m:Mem}{I:Ids}{d:Dic}{src:Nat→Nat×Bool}(h:Zgd (tabL d.n fun j=>[dI (d.free j)]) m I d src):Zbi m I d src:=⟨h.hp,h.hR,h.hG,h.hO,h.hFr,h.hF,h.hA⟩
theorem Zkv(k:Nat)(c:Nat→List D):tabL (k+1) c=tabL k c++[c k]:=by unfold tabL;rw[List.range_succ,List.map_append];rfl
theorem Zgd.add{fr:List (List D)}{m m':Mem}{I:Ids}{d:Dic}{src:Nat→Nat×Bool}{nx x:Nat}(h:Zgd fr m I d src)(ap:ZhN I d.m)(lt:∀ id,inD I d.m id→id<nx)(w:RowD)(row:Nat)(turned:Bool){c:Nat→Rat}{Q:Rat}
 (h1:m' I.p=some ⟨252,0,6,[[dI d.n,.ls I.R (I.vR+1),.ls I.G 1,.ls I.O (I.vO+1),.ls I.Fr I.vFr,.ls I.F (I.vF+1)]],0,false⟩)
 (h2:m' I.R=some ⟨256,I.vR+1,5,Zjz I d.m d.v++[[dI (ofQ Q).p.s,Zab (ofQ Q).p.d,dI (ofQ Q).q.s,Zab (ofQ Q).q.d,.ls x 1]],0,false⟩)
 (h3:m' I.O=some ⟨3,I.vO+1,1,(tabL d.m fun i=>[dI (d.own i)])++[[dI ((d.n+d.m:Nat):Int)]],0,false⟩)
 (h4:m' I.F=some ⟨264,I.vF+1,2,(tabL d.m fun i=>[dI (src i).1,dB (src i).2])++[[dI (row:Int),dB turned]],0,false⟩)
 (h5:m' x=some (fB d.n c)) (hc:∀ j,j<d.n→c j=sgQ' turned (Za4 w.t j)) (hQ:Q=sgQ' turned (qOf w.v)) (hf:∀ id,id<nx→id≠I.p→id≠I.R→id≠I.O→id≠I.F→m' id=m id) :
 Zgd fr m' (ZhY I d.m x) (ZeQ d w turned) (fun k=>if k=d.m then(row,turned)else src k):=by
 refine⟨h1,h2.trans ?_,?_,h3.trans ?_,?_,h4.trans ?_,fun k hk=>?_⟩
 ·unfold rB Zjz
  show _=some (Blk.mk _ _ _ (tabL (d.m+1) _) _ _)
  rw[Zkv]
  refine congrArg (fun l=>some (Blk.mk _ _ _ l 0 false)) (_root_.congr (congrArg HAppend.hAppend (Zbr fun k hk=>?_)) (congrArg (fun x=>[x]) ?_))
  ·simp only[ZeQ,ZhY,if_neg (show ¬ k=d.m by omega)]
  ·simp only[ZeQ,ZhY,if_pos,← hQ];rfl
 ·exact(hf _ (lt _ (.inr (.inr (.inl rfl)))) ap.pG.symm ap.RG.symm ap.GO ap.GF).trans h.hG
 ·unfold iB
  show _=some (Blk.mk _ _ _ (tabL (d.m+1) _) _ _)
  rw[Zkv]
  refine congrArg (fun l=>some (Blk.mk _ _ _ l 0 false)) (_root_.congr (congrArg HAppend.hAppend (Zbr fun k hk=>?_)) (congrArg (fun x=>[x]) ?_))
  ·simp only[ZeQ,if_neg (show ¬ k=d.m by omega)]
  ·simp only[ZeQ,if_pos]
 ·exact(hf _ (lt _ (.inr (.inr (.inr (.inr (.inl rfl)))))) ap.pFr.symm ap.RFr.symm ap.OFr.symm ap.FrF).trans h.hFr
 ·unfold sB
  show _=some (Blk.mk _ _ _ (tabL (d.m+1) _) _ _)
  rw[Zkv]
  refine congrArg (fun l=>some (Blk.mk _ _ _ l 0 false)) (_root_.congr (congrArg HAppend.hAppend (Zbr fun k hk=>?_)) (congrArg (fun x=>[x]) ?_))
  ·simp only[if_neg (show ¬ k=d.m by omega)]
  ·simp only[if_pos]
 ·by_cases e:k=d.m
  ·subst e
   simp only[ZhY,ZeQ,if_pos]
   refine h5.trans ?_
   unfold fB
   rw[ZaY hc]
  ·have hk2:k<d.m:=by have:k<d.m+1:=hk;omega
   simp only[ZhY,ZeQ,if_neg e]
   exact(hf _ (lt _ (.inr (.inr (.inr (.inr (.inr (.inr ⟨k,hk2,rfl⟩))))))) (ap.Ap k hk2) (ap.AR k hk2) (ap.AO k hk2) (ap.AF k hk2)).trans (h.hA k hk2)
theorem put_a[Ifl]{fr:List (List D)}{I:Ids}{d:Dic}{src:Nat→Nat×Bool}{m:Mem}{nx:Nat}(h:Zgd fr m I d src)(ap:ZhN I d.m)(row:Nat)(w:RowD)(turned:Bool)(hm:(d.m:Int)≤4000)(hn:(d.n:Int)≤4000)(hrow:(row:Int)≤4096)
 (hr:Zai w.t d.n=true) (hv:okF w.v=true) (sw:smW w) :
 ZaM Tryz.prog 181 [.lp I.p 0 0 0,dI row,encW w,dB turned] m nx fun d' m' nx'=>d'=oneD []∧nx+1<nx'∧Zgd fr m' (ZhY I d.m (nx+1)) (ZeQ d w turned) (fun k=>if k=d.m then(row,turned)else src k)∧∀ id,id<nx→¬ inD I d.m id→m' id=m id:=by
 obtain⟨wt,wk,wv⟩:=w
 obtain⟨q,rfl⟩:∃ q,wv=ofQ q:=⟨qOf wv,ZcF hv⟩
 simp only at hr
 refine ZaM.cl ⟨_,_,Tryz.func181,rfl,by kernel_rfl⟩ fun hcl=>?_
 have Zr:=Tryz.results181
 refine inA Tryz.func181 rfl Tryz.ntmps181 ?_
 have lt:∀ id,inD I d.m id→id<nx:=fun id hi=>h.lt hcl hi
 have lp:I.p<nx:=lt _ (.inl rfl)
 have n1:I.p≠nx:=by omega
 refine aGoM (cj4 Zr ZaR h.hp n1) ?_
 repeat with_reducible intro K hK
 refine Zdj (Zva d.n _ _ (by omega) ((Zac _ _ (by omega)).trans (hcl.none (by omega)))) ?_
 have n2:I.p≠nx+1:=by omega
 refine aGoS (cj4 Zr ZaR h.hp (cj2 n1 n2)) ?_
 repeat with_reducible intro K hK
 have n3:I.p≠nx+2:=by omega
 with_reducible apply useE
 with_reducible assumption
 exact Zcg [I.p,nx,nx+1,nx+2] (by simp[n1,n2,n3]) [([],[]),([1],[]),([],[]),([],[]),([],[]),([0],[]),([2],[2]),([],[]),([3,3],[3]),([3,3],[3])] rfl rfl (by kernel_rfl)
 exact ZaC rfl
 have lw:(wt.length:Int)≤4096:=sw.1.1
 have n0:nx≠nx+1:=by omega
 have n4:nx≠nx+2:=by omega
 have n5:nx+1≠nx+2:=by omega
 refine aGoM (cj4 Zr ZaR h.hp (cj4 n1 n2 n0 n4)) ?_
 repeat with_reducible intro K hK
 have q0:ratL d.n (Za4 (wt.take 0))=ratL d.n (fun _=>0):=ZaY fun u _=>by simp only[List.take_zero,Za4,dotS]
 refine ZcT (fun(i:Nat)=>[(0,.lp I.p 0 0 0),(1,dI row),(3,dB turned),(6,.lp nx 0 0 0),(8,.lp (nx+2) 0 0 0),(22,Zbk wt),(23,dI wt.length),(24,dI i)]) nx
  (fun i m1 nx1=>i≤wt.length∧nx+2<nx1∧m1 nx=some ⟨153,0,6,[cW ⟨wt,wk,ofQ q⟩],0,false⟩∧m1 (nx+1)=some (fB d.n (Za4 (wt.take i)))∧m1 (nx+2)=some ⟨256,0,5,[[dI (ofQ q).p.s,Zab (ofQ q).p.d,dI (ofQ q).q.s,Zab (ofQ q).q.d,.ls (nx+1) 1]],0,false⟩∧∀ id,id<nx→m1 id=m id) (fun i=>wt.length-i) 0 ?_ ?_ ?_ ?_
 ·refine⟨Yb0 _,Nat.lt_succ_self _,?_,?_,?_,fun id h1=>?_⟩
  ·simp[ZaF]
  ·simp only[ZaF];simp;exact q0.symm
  ·simp[ZaF]
  ·simp only[ZaF];rw[if_neg (by omega),if_neg (by omega),if_neg (by omega),if_neg (by omega)]
 ·rfl
 ·simp[go_sem]
 ·rintro i m1 nx1 ⟨hi,hnx,eW,eA,eL,hfr⟩
  obtain⟨hw,i0⟩:=ZaO i
  by_cases h1:(i:Int)<wt.length
  ·obtain⟨t,ht⟩:=getE (l:=wt) (k:=i) (by omega)
   obtain⟨t0,t1,t2,t3⟩:=Za6 hr (ZaL ht)
   have es:=ZAG (n:=d.n) hr ht t0 t2
   have le:=Zck d.n (Za4 (wt.take i))
   have x1:nx≠nx1:=by omega
   have x2:nx+1≠nx1:=by omega
   have x3:nx+2≠nx1:=by omega
   have gi:=Zbc (n:=d.n) (k:=t.v.toNat) (Za4 (wt.take i)) (by omega)
   refine aGoM (cj4 Zr eW eA (cj4 eL h1 hw (cj4 i0 ht t0 (cj4 t1 es le (cj4 x1 x2 x3 (cj3 Yb0 n5 gi)))))) ?_
   repeat with_reducible intro K hK
   refine Zat (i+1) ?_ (by omega) rfl (by simp[go_sem])
   refine⟨by omega,Nat.lt_of_lt_of_le hnx (Nat.le_succ _),?_,?_,?_,fun id h=>?_⟩
   ·exact(Zac _ _ (by omega)).trans ((Zac _ _ (by omega)).trans ((Zac _ _ (by omega)).trans eW))
   ·exact Zae _ _ _
   ·exact(Zac _ _ (by omega)).trans ((Zac _ _ (by omega)).trans ((Zac _ _ (by omega)).trans eL))
   ·exact(Zac _ _ (by omega)).trans ((Zac _ _ (by omega)).trans ((Zac _ _ (by omega)).trans (hfr id h)))
  ·obtain rfl:i=wt.length:=by omega
   rw[Yc2]at eA
   have hD0:True:=trivial
   have hD:Zgd fr m1 I d src:=h.keep fun id hi=>hfr id (lt id hi)
   cases turned with
   | false =>
     have y1:I.O≠nx1:=by have:=lt _ (.inr (.inr (.inr (.inl rfl))));omega
     have y2:I.p≠nx1:=by omega
     have y9:I.R≠nx1:=by have:=lt _ (.inr (.inl rfl));omega
     have y10:I.F≠nx1:=by have:=lt _ (.inr (.inr (.inr (.inr (.inr (.inl rfl))))));omega
     have y11:I.F≠nx1+1:=by have:=lt _ (.inr (.inr (.inr (.inr (.inr (.inl rfl))))));omega
     have y12:I.F≠nx1+2:=by have:=lt _ (.inr (.inr (.inr (.inr (.inr (.inl rfl))))));omega
     have y13:I.R≠nx1+1:=by have:=lt _ (.inr (.inl rfl));omega
     have y14:I.R≠nx1+2:=by have:=lt _ (.inr (.inl rfl));omega
     have y15:I.p≠nx1+1:=by omega
     have y16:I.p≠nx1+2:=by omega
     have y17:nx+2≠I.p:=by omega
     have y18:nx+2≠I.O:=by have:=lt _ (.inr (.inr (.inr (.inl rfl))));omega
     have y19:nx+2≠nx1:=by omega
     have y20:I.R≠I.p:=ap.pR.symm
     have y21:I.R≠I.O:=ap.RO
     have y22:I.F≠I.p:=ap.pF.symm
     have y23:I.F≠I.O:=ap.OF.symm
     have y24:I.F≠I.R:=ap.RF.symm
     have y25:=ap.pR
     have y26:=ap.pF
     have y3:=ap.pO
     have y27:=ap.RF
     have y4:IntKind.i64.wrap ((d.n:Int)+d.m)=((d.n+d.m:Nat):Int):=(Zax (by omega) (by omega)).trans (by omega)
     have y5:=ZkA I d.m d.v
     have y6:=Zc0 d.m fun k=>[dI (d.own k)]
     have y60:=Zc0 d.m fun k=>[dI (src k).1,dB (src k).2]
     have y7:((d.m+1:Nat):Int)*8≤140737488355328:=by omega
     have y8:((d.m+1:Nat):Int)≤9007199254740992:=by omega
     have y70:((d.m+1:Nat):Int)*72≤140737488355328:=by omega
     have y80:((d.m+1:Nat):Int)*16≤140737488355328:=by omega
     refine aGoS (cj4 Zr eL h1 (cj4 hD.hp hD.hO hD.hR (cj4 hD.hF y1 y2 (cj4 y3 y4 y5 (cj4 y6 y7 y8 (cj3 eA trivial Yb0)))))) ?_
     repeat with_reducible intro K hK
     refine⟨by have:=lt _ (.inr (.inr (.inr (.inl rfl))));omega,by omega,?_⟩
     with_reducible apply useE
     with_reducible assumption
     exact Zcg [I.p,I.O,nx1,I.R] (by simp[y1,y2,y3,y25,y21,y9,y9.symm,y21.symm,y1.symm,y2.symm]) [([],[]),([],[]),([],[]),([],[]),([0],[]),([],[]),([],[]),([],[]),([0],[]),([],[]),([],[]),([],[]),([0],[]),([3],[]),([],[]),([2,2],[2]),([1,2,1],[1]),([],[]),([],[]),([0,0],[0])] rfl rfl (by kernel_rfl)
     exact ZaC rfl
     refine aGoS (cj4 Zr eL h1 (cj4 hD.hR hD.hF y2 (cj4 y9 y10 y11 (cj4 y12 y13 y14 (cj4 y15 y16 y17 (cj4 y18 y19 y20 (cj4 y21 y22 y23 (cj4 y24 y25 y26 (cj4 y5 y60 y70 (cj4 y80 y8 Yb0 y27)))))))))) ?_
     repeat with_reducible intro K hK
     refine⟨by have:=lt _ (.inr (.inl rfl));omega,by omega,by have:=lt _ (.inr (.inr (.inr (.inr (.inr (.inl rfl))))));omega,by omega,by omega,?_⟩
     with_reducible apply useE
     with_reducible assumption
     exact Zcg [I.p,nx+2,nx1+1,I.R,nx1+2,I.F] (by have lF:=lt _ (.inr (.inr (.inr (.inr (.inr (.inl rfl))))));have lR:=lt _ (.inr (.inl rfl));simp only[List.nodup_cons,List.mem_cons,List.not_mem_nil,not_or,or_false,List.nodup_nil,not_false_eq_true,and_true];omega) [([],[]),([],[]),([],[]),([],[]),([],[]),([0],[]),([1],[]),([2,2],[2]),([3,2,3],[3]),([],[]),([],[]),([],[]),([0],[]),([],[]),([],[]),([],[]),([4,4],[4]),([5,4,5],[5]),([],[]),([],[]),([0,0],[0]),([],[]),([],[]),([0,0],[0])] rfl rfl (by kernel_rfl)
     exact ZaC rfl
     have lO:=lt _ (.inr (.inr (.inr (.inl rfl))))
     have lF:=lt _ (.inr (.inr (.inr (.inr (.inr (.inl rfl))))))
     have lR:=lt _ (.inr (.inl rfl))
     refine aGoM (cj4 Zr y1 y2 (cj4 y9 y10 y11 (cj4 y12 y13 y14 (cj4 y15 y16 y20 (cj4 y21 y22 y23 (cj4 y24 y25 y26 (cj2 y3 y27))))))) ?_
     refine⟨h.add ap lt ⟨wt,wk,ofQ q⟩ row false (c:=Za4 wt) (Q:=(q)) ?_ ?_ ?_ ?_ ?_ (fun j _=>?_) ?_ (fun id g1 g2 g3 g4 g5=>?_),fun id g1 g2=>?_⟩
     ·simp only[ZaF];repeat(first|rfl|rw[if_pos True.intro]|rw[if_neg (by omega)])
     ·simp only[ZaF];repeat(first|rfl|rw[if_pos True.intro]|rw[if_neg (by omega)])
     ·simp only[ZaF];repeat(first|rfl|rw[if_pos True.intro]|rw[if_neg (by omega)])
     ·simp only[ZaF];repeat(first|rfl|rw[if_pos True.intro]|rw[if_neg (by omega)])
     ·simp only[ZaF];repeat(rw[if_neg (by omega)])
      exact eA
     ·rfl
     ·exact(Zay q).symm
     ·simp only[ZaF];repeat(rw[if_neg (by omega)])
      exact hfr id g1
     ·have u1:id≠I.p:=fun e=>g2 (.inl e)
      have u2:id≠I.R:=fun e=>g2 (.inr (.inl e))
      have u3:id≠I.O:=fun e=>g2 (.inr (.inr (.inr (.inl e))))
      have u4:id≠I.F:=fun e=>g2 (.inr (.inr (.inr (.inr (.inr (.inl e))))))
      try simp only[ZaF]
      repeat(rw[if_neg (by omega)])
      exact hfr id g1
   | true =>
     have zq:(szQ q:Int)≤4194304:=by have h2:(szF (ofQ q):Int)≤4194304:=sw.2;rw[← Zcl hv,Zay]at h2;exact h2
     have k1:=ZhS q (by omega)
     refine aGoM (cj4 Zr eW eA (cj4 eL h1 n5 (cj4 k1 n4 n0 Yb0))) ?_
     repeat with_reducible intro K hK
     have q1:ratL d.n (ZkW wt 0)=ratL d.n (Za4 wt):=ZaY fun u _=>by rw[ZtO]
     refine ZcT (fun(i:Nat)=>[(0,.lp I.p 0 0 0),(1,dI row),(3,dB true),(6,.lp nx 0 0 0),(8,.lp (nx+2) 0 0 0),(42,Zbk wt),(43,dI wt.length),(44,dI i)]) nx
      (fun i m1 nx1=>i≤wt.length∧nx+2<nx1∧m1 nx=some ⟨153,0,6,[cW ⟨wt,wk,ofQ q⟩],0,false⟩∧m1 (nx+1)=some (fB d.n (ZkW wt i))∧m1 (nx+2)=some ⟨256,0,5,[[dI (ofQ (-q)).p.s,Zab (ofQ (-q)).p.d,dI (ofQ (-q)).q.s,Zab (ofQ (-q)).q.d,.ls (nx+1) 1]],0,false⟩∧∀ id,id<nx→m1 id=m id) (fun i=>wt.length-i) 0 ?_ ?_ ?_ ?_
     ·refine⟨Yb0 _,hnx,?_,?_,?_,fun id h1=>?_⟩
      ·exact(Zac _ _ n4).trans eW
      ·exact(Zac _ _ n5).trans (by unfold fB;rw[q1];exact eA)
      ·exact Zae _ _ _
      ·exact(Zac _ _ (by omega)).trans (hfr id h1)
     ·rfl
     ·simp[go_sem]
     ·rintro i m2 nx2 ⟨hi2,hnx2,eW2,eA2,eL2,hfr2⟩
      obtain⟨hw,i0⟩:=ZaO i
      by_cases h2:(i:Int)<wt.length
      ·obtain⟨⟨tv,tf⟩,ht⟩:∃ e,wt[i]? =some e:=⟨_,Ya0 (by omega)⟩
       obtain⟨t0,t1,t2,t3⟩:=Za6 hr (ZaL ht)
       obtain⟨r,rfl⟩:∃ r,tf=ofQ r:=⟨qOf tf,ZcF t2⟩
       have zr:(szF (ofQ r):Int)≤4194304:=sw.1.2 _ (ZaL ht)
       rw[← Zcl t2,Zay]at zr
       have k2:=ZhS r (by omega)
       have es:=ZyR (n:=d.n) hr ht t0
       simp only[Zay]at es
       simp only at t0 t1
       have le:=Zck d.n (ZkW wt i)
       have x1:nx≠nx2:=by omega
       have x2:nx+1≠nx2:=by omega
       have x3:nx+2≠nx2:=by omega
       have gi:=Zbc (n:=d.n) (k:=tv.toNat) (ZkW wt i) (by omega)
       refine aGoM (cj4 Zr eW2 eA2 (cj4 eL2 h2 hw (cj4 i0 ht t0 (cj4 t1 es le (cj4 x1 x2 x3 (cj4 Yb0 n5 gi k2)))))) ?_
       repeat with_reducible intro K hK
       refine Zat (i+1) ?_ (by omega) rfl (by simp[go_sem])
       refine⟨by omega,Nat.lt_of_lt_of_le hnx2 (Nat.le_succ _),?_,?_,?_,fun id h=>?_⟩
       ·exact(Zac _ _ (by omega)).trans ((Zac _ _ (by omega)).trans ((Zac _ _ (by omega)).trans eW2))
       ·exact Zae _ _ _
       ·exact(Zac _ _ (by omega)).trans ((Zac _ _ (by omega)).trans ((Zac _ _ (by omega)).trans eL2))
       ·exact(Zac _ _ (by omega)).trans ((Zac _ _ (by omega)).trans ((Zac _ _ (by omega)).trans (hfr2 id h)))
      ·obtain rfl:i=wt.length:=by omega
       rw[Zvn]at eA2
       have hD:Zgd fr m2 I d src:=h.keep fun id hi=>hfr2 id (lt id hi)
       clear hfr hD0 eW eA eL
       have y1:I.O≠nx2:=by have:=lt _ (.inr (.inr (.inr (.inl rfl))));omega
       have y2:I.p≠nx2:=by omega
       have y9:I.R≠nx2:=by have:=lt _ (.inr (.inl rfl));omega
       have y10:I.F≠nx2:=by have:=lt _ (.inr (.inr (.inr (.inr (.inr (.inl rfl))))));omega
       have y11:I.F≠nx2+1:=by have:=lt _ (.inr (.inr (.inr (.inr (.inr (.inl rfl))))));omega
       have y12:I.F≠nx2+2:=by have:=lt _ (.inr (.inr (.inr (.inr (.inr (.inl rfl))))));omega
       have y13:I.R≠nx2+1:=by have:=lt _ (.inr (.inl rfl));omega
       have y14:I.R≠nx2+2:=by have:=lt _ (.inr (.inl rfl));omega
       have y15:I.p≠nx2+1:=by omega
       have y16:I.p≠nx2+2:=by omega
       have y17:nx+2≠I.p:=by omega
       have y18:nx+2≠I.O:=by have:=lt _ (.inr (.inr (.inr (.inl rfl))));omega
       have y19:nx+2≠nx2:=by omega
       have y20:I.R≠I.p:=ap.pR.symm
       have y21:I.R≠I.O:=ap.RO
       have y22:I.F≠I.p:=ap.pF.symm
       have y23:I.F≠I.O:=ap.OF.symm
       have y24:I.F≠I.R:=ap.RF.symm
       have y25:=ap.pR
       have y26:=ap.pF
       have y3:=ap.pO
       have y27:=ap.RF
       have y4:IntKind.i64.wrap ((d.n:Int)+d.m)=((d.n+d.m:Nat):Int):=(Zax (by omega) (by omega)).trans (by omega)
       have y5:=ZkA I d.m d.v
       have y6:=Zc0 d.m fun k=>[dI (d.own k)]
       have y60:=Zc0 d.m fun k=>[dI (src k).1,dB (src k).2]
       have y7:((d.m+1:Nat):Int)*8≤140737488355328:=by omega
       have y8:((d.m+1:Nat):Int)≤9007199254740992:=by omega
       have y70:((d.m+1:Nat):Int)*72≤140737488355328:=by omega
       have y80:((d.m+1:Nat):Int)*16≤140737488355328:=by omega
       refine aGoS (cj4 Zr eL2 h2 (cj4 hD.hp hD.hO hD.hR (cj4 hD.hF y1 y2 (cj4 y3 y4 y5 (cj4 y6 y7 y8 (cj3 eA2 trivial Yb0)))))) ?_
       repeat with_reducible intro K hK
       refine⟨by have:=lt _ (.inr (.inr (.inr (.inl rfl))));omega,by omega,?_⟩
       with_reducible apply useE
       with_reducible assumption
       exact Zcg [I.p,I.O,nx2,I.R] (by simp[y1,y2,y3,y25,y21,y9,y9.symm,y21.symm,y1.symm,y2.symm]) [([],[]),([],[]),([],[]),([],[]),([0],[]),([],[]),([],[]),([],[]),([0],[]),([],[]),([],[]),([],[]),([0],[]),([3],[]),([],[]),([2,2],[2]),([1,2,1],[1]),([],[]),([],[]),([0,0],[0])] rfl rfl (by kernel_rfl)
       exact ZaC rfl
       refine aGoS (cj4 Zr eL2 h2 (cj4 hD.hR hD.hF y2 (cj4 y9 y10 y11 (cj4 y12 y13 y14 (cj4 y15 y16 y17 (cj4 y18 y19 y20 (cj4 y21 y22 y23 (cj4 y24 y25 y26 (cj4 y5 y60 y70 (cj4 y80 y8 Yb0 y27)))))))))) ?_
       repeat with_reducible intro K hK
       refine⟨by have:=lt _ (.inr (.inl rfl));omega,by omega,by have:=lt _ (.inr (.inr (.inr (.inr (.inr (.inl rfl))))));omega,by omega,by omega,?_⟩
       with_reducible apply useE
       with_reducible assumption
       exact Zcg [I.p,nx+2,nx2+1,I.R,nx2+2,I.F] (by have lF:=lt _ (.inr (.inr (.inr (.inr (.inr (.inl rfl))))));have lR:=lt _ (.inr (.inl rfl));simp only[List.nodup_cons,List.mem_cons,List.not_mem_nil,not_or,or_false,List.nodup_nil,not_false_eq_true,and_true];omega) [([],[]),([],[]),([],[]),([],[]),([],[]),([0],[]),([1],[]),([2,2],[2]),([3,2,3],[3]),([],[]),([],[]),([],[]),([0],[]),([],[]),([],[]),([],[]),([4,4],[4]),([5,4,5],[5]),([],[]),([],[]),([0,0],[0]),([],[]),([],[]),([0,0],[0])] rfl rfl (by kernel_rfl)
       exact ZaC rfl
       have lO:=lt _ (.inr (.inr (.inr (.inl rfl))))
       have lF:=lt _ (.inr (.inr (.inr (.inr (.inr (.inl rfl))))))
       have lR:=lt _ (.inr (.inl rfl))
       refine aGoM (cj4 Zr y1 y2 (cj4 y9 y10 y11 (cj4 y12 y13 y14 (cj4 y15 y16 y20 (cj4 y21 y22 y23 (cj4 y24 y25 y26 (cj2 y3 y27))))))) ?_
       refine⟨h.add ap lt ⟨wt,wk,ofQ q⟩ row true (c:=fun u=> -Za4 wt u) (Q:=(-q)) ?_ ?_ ?_ ?_ ?_ (fun j _=>?_) ?_ (fun id g1 g2 g3 g4 g5=>?_),fun id g1 g2=>?_⟩
       ·simp only[ZaF];repeat(first|rfl|rw[if_pos True.intro]|rw[if_neg (by omega)])
       ·simp only[ZaF];repeat(first|rfl|rw[if_pos True.intro]|rw[if_neg (by omega)])
       ·simp only[ZaF];repeat(first|rfl|rw[if_pos True.intro]|rw[if_neg (by omega)])
       ·simp only[ZaF];repeat(first|rfl|rw[if_pos True.intro]|rw[if_neg (by omega)])
       ·simp only[ZaF];repeat(rw[if_neg (by omega)])
        exact eA2
       ·rfl
       ·show -q = -(qOf (ofQ q));rw[Zay]
       ·simp only[ZaF];repeat(rw[if_neg (by omega)])
        exact hfr2 id g1
       ·have u1:id≠I.p:=fun e=>g2 (.inl e)
        have u2:id≠I.R:=fun e=>g2 (.inr (.inl e))
        have u3:id≠I.O:=fun e=>g2 (.inr (.inr (.inr (.inl e))))
        have u4:id≠I.F:=fun e=>g2 (.inr (.inr (.inr (.inr (.inr (.inl e))))))
        try simp only[ZaF]
        repeat(rw[if_neg (by omega)])
        exact hfr2 id g1
end Go.Proofs.YtjeaacindikplaaGreat
