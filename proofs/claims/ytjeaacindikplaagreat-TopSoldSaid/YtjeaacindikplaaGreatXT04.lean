/-
  The walk over data: open.
-/
import Derived.Test.YtjeaacindikplaaGreatXLib
import Derived.Test.YtjeaacindikplaaGreatXT03
import Derived.Test.YtjeaacindikplaaGreatXT01
namespace Go.Proofs.YtjeaacindikplaaGreat
set_option linter.unusedVariables false
set_option linter.unusedSimpArgs false
set_option linter.unusedSectionVars false
open Go Go.RowKit
set_option maxRecDepth 100000
set_option maxHeartbeats 16000000
def dicZ(n:Nat)(g:Nat→Rat):Dic:={m:=0,n:=n,own:=fun _=>0,free:=fun j=>j,v:=fun _=>0,a:=fun _ _=>0,g:=g,z:=0}
def addP(w:RowD)(row:Nat)(turned:Bool)(x:Dic×(Nat→Nat×Bool)):Dic×(Nat→Nat×Bool):=(ZeQ x.1 w turned,fun k=>if k=x.1.m then(row,turned)else x.2 k)
def putP(x:Dic×(Nat→Nat×Bool))(row:Nat)(w:RowD):Dic×(Nat→Nat×Bool) :=
 let y:=if w.k=0 then x else addP w row false x
 if w.k=1 then y else addP w row true y
def ZbO(g:Nat→Rat)(s:SysD):Nat→Dic×(Nat→Nat×Bool)
 | 0=>(dicZ s.n.toNat g,fun _=>(0,false))
 | k+1=>match s.r[k]? with
   | some w=>putP (ZbO g s k) k w
   | none=>ZbO g s k
theorem add_m(d:Dic)(w:RowD)(b:Bool):(ZeQ d w b).m=d.m+1:=rfl
theorem ZEw(x:Dic×(Nat→Nat×Bool))(row:Nat)(w:RowD):(putP x row w).1.n=x.1.n:=by
 unfold putP addP
 simp only
 split<;>split<;>rfl
theorem ZEx(x:Dic×(Nat→Nat×Bool))(row:Nat)(w:RowD):(putP x row w).1.m≤x.1.m+2:=by
 unfold putP addP
 simp only
 split<;>split<;>simp[add_m]
theorem Zlv(g:Nat→Rat)(s:SysD):∀ k,(ZbO g s k).1.n=s.n.toNat
 | 0=>rfl
 | k+1=>by
   simp only[ZbO]
   split
   ·rw[ZEw,Zlv]
   ·exact Zlv g s k
theorem Zny(g:Nat→Rat)(s:SysD):∀ k,(ZbO g s k).1.m≤2*k
 | 0=>Ya4 _
 | k+1=>by
   have:=Zny g s k
   simp only[ZbO]
   split
   ·rename_i w _;have:=ZEx (ZbO g s k) k w;omega
   ·omega
def ZaZ(s:SysD)(goal:List Zaf):Dic×(Nat→Nat×Bool):=ZbO (fun j=> -Za4 goal j) s s.r.length
def ZhK(l:List Zaf)(i:Nat)(u:Nat):Rat:= -Za4 (l.take i) u
theorem ZAb{l:List Zaf}{n:Nat}{N:Int}(h:Zai l N=true){i:Nat}{t:Zaf}(ht:l[i]? =some t)(h0:0≤t.v) :
 (ratL n (ZhK l i)).set t.v.toNat (cF (ofQ (-qOf t.f)))=ratL n (ZhK l (i+1)):=by
 rw[ZdV]
 refine ZaY fun u _=>?_
 unfold ZhK
 rw[ZfG ht h0]
 by_cases e:u=t.v.toNat
 ·subst e;rw[if_pos rfl,if_pos rfl,ZeK h ht h0];grind
 ·rw[if_neg e,if_neg e];grind
theorem ZhN.add{I:Ids}{m x:Nat}(ap:ZhN I m)(hp:x≠I.p)(hR:x≠I.R)(hG:x≠I.G)(hO:x≠I.O)(hFr:x≠I.Fr)(hF:x≠I.F)(hA:∀ k,k<m→x≠I.A k):ZhN (ZhY I m x) (m+1):=by
 have key:∀ (y:Nat),x≠y→(∀ k,k<m→I.A k≠y)→∀ k,k<m+1→(ZhY I m x).A k≠y:=by
  intro y h1 h2 k hk
  simp only[ZhY]
  by_cases e:k=m
  ·rw[if_pos e];exact h1
  ·rw[if_neg e];exact h2 k (by omega)
 refine⟨ap.pR,ap.pG,ap.pO,ap.pFr,ap.pF,ap.RG,ap.RO,ap.RFr,ap.RF,ap.GO,ap.GFr,ap.GF,ap.OFr,ap.OF,ap.FrF,key _ hp ap.Ap,key _ hR ap.AR,key _ hG ap.AG,key _ hO ap.AO,key _ hFr ap.AFr,key _ hF ap.AF,?_⟩
 intro k l hk hl hkl
 simp only[ZhY]
 by_cases e:k=m
 ·rw[if_pos e,if_neg (by omega)];exact hA l (by omega)
 ·rw[if_neg e]
  by_cases e2:l=m
  ·rw[if_pos e2];exact(hA k (by omega)).symm
  ·rw[if_neg e2];exact ap.AA k l (by omega) (by omega) hkl
abbrev opI(nx:Nat)(A:Nat→Nat)(vR vO vFr vF:Nat):Ids:=⟨nx+2,nx+3,nx+1,nx+4,nx+5,nx+6,A,vR,vO,vFr,vF⟩
def Zgl(nx v:Nat)(fr:List (List D))(b:Nat)(m:Mem)(x:Dic×(Nat→Nat×Bool)):Prop :=
 ∃ A vR vO vF,Zgd fr m (opI nx A vR vO v vF) x.1 x.2∧ZhN (opI nx A vR vO v vF) x.1.m∧nx+6<b∧∀ k,k<x.1.m→nx+6<A k∧A k<b
theorem ZwF{nx:Nat}{A:Nat→Nat}{vR vO vFr vF b M:Nat}(hb:nx+6<b)(h:∀ k,k<M→nx+6<A k∧A k<b){id:Nat}(hi:inD (opI nx A vR vO vFr vF) M id):nx<id∧id<b:=by
 rcases hi with rfl|rfl|rfl|rfl|rfl|rfl|⟨k,hk,rfl⟩
 ·exact⟨by show nx<nx+2;omega,by show nx+2<b;omega⟩
 ·exact⟨by show nx<nx+3;omega,by show nx+3<b;omega⟩
 ·exact⟨by show nx<nx+1;omega,by show nx+1<b;omega⟩
 ·exact⟨by show nx<nx+4;omega,by show nx+4<b;omega⟩
 ·exact⟨by show nx<nx+5;omega,by show nx+5<b;omega⟩
 ·exact⟨by show nx<nx+6;omega,by show nx+6<b;omega⟩
 ·have:=h k hk;exact⟨by show nx<A k;omega,by show A k<b;omega⟩
theorem Zzr[Ifl]{nx v:Nat}{fr:List (List D)}{b:Nat}{m:Mem}{x:Dic×(Nat→Nat×Bool)}(h:Zgl nx v fr b m x){nc:Nat}(hb:b≤nc)(row:Nat)(w:RowD)(turned:Bool)(hm:(x.1.m:Int)≤4000)(hn:(x.1.n:Int)≤4000)(hrow:(row:Int)≤4096)
 (hr:Zai w.t x.1.n=true) (hv:okF w.v=true) (sw:smW w) :
 ZaM Tryz.prog 181 [.lp (nx+2) 0 0 0,dI row,encW w,dB turned] m nc fun d' m' nx'=>d'=oneD []∧nc≤nx'∧Zgl nx v fr nx' m' (addP w row turned x)∧∀ id,id<nc→(id≤nx∨b≤id)→m' id=m id:=by
 obtain⟨A,vR,vO,vF,h1,h2,h3,h4⟩:=h
 refine(put_a (nx:=nc) h1 h2 row w turned hm hn hrow hr hv sw).mono ?_
 rintro d' m' nx' ⟨rfl,g1,g2,g3⟩
 refine⟨rfl,by omega,⟨_,_,_,_,g2,?_,by omega,fun k hk=>?_⟩,fun id i1 i2=>g3 id i1 fun hi=>?_⟩
 ·refine h2.add ?_ ?_ ?_ ?_ ?_ ?_ fun k hk=>?_
  ·show nc+1≠nx+2;omega
  ·show nc+1≠nx+3;omega
  ·show nc+1≠nx+1;omega
  ·show nc+1≠nx+4;omega
  ·show nc+1≠nx+5;omega
  ·show nc+1≠nx+6;omega
  ·have:=h4 k hk;show nc+1≠A k;omega
 ·show nx+6<(if k=x.1.m then nc+1 else A k)∧(if k=x.1.m then nc+1 else A k)<nx'
  by_cases e:k=x.1.m
  ·rw[if_pos e];omega
  ·rw[if_neg e]
   have hk2:k<x.1.m+1:=hk
   have:=h4 k (by omega)
   omega
 ·have:=ZwF h3 h4 hi
  omega
theorem Zgl.keep{nx v:Nat}{fr:List (List D)}{b b':Nat}{m m':Mem}{x:Dic×(Nat→Nat×Bool)}(h:Zgl nx v fr b m x)(hb:b≤b')(hk:∀ id,nx<id→id<b→m' id=m id):Zgl nx v fr b' m' x:=by
 obtain⟨A,vR,vO,vF,h1,h2,h3,h4⟩:=h
 exact⟨A,vR,vO,vF,h1.keep fun id hi=>by have:=ZwF h3 h4 hi;exact hk id this.1 this.2,h2,by omega,fun k hk=>by have:=h4 k hk;omega⟩
def setG(x:Dic×(Nat→Nat×Bool))(g:Nat→Rat):Dic×(Nat→Nat×Bool):=({x.1 with g:=g},x.2)
theorem Zgl.g{nx v:Nat}{fr:List (List D)}{b:Nat}{m:Mem}{x:Dic×(Nat→Nat×Bool)}(h:Zgl nx v fr b m x){g:Nat→Rat}(hg:∀ j,j<x.1.n→g j=x.1.g j):Zgl nx v fr b m (setG x g):=by
 obtain⟨A,vR,vO,vF,h1,h2,h3,h4⟩:=h
 refine⟨A,vR,vO,vF,⟨h1.hp,h1.hR,?_,h1.hO,h1.hFr,h1.hF,h1.hA⟩,h2,h3,h4⟩
 have:=h1.hG
 unfold fB at this ⊢
 show _=some (Blk.mk _ _ _ (ratL x.1.n g) _ _)
 rw[ZaY hg];exact this
theorem Zgd.upto{fr fr':List (List D)}{m m':Mem}{nx:Nat}{A:Nat→Nat}{vR vO v v' vF b:Nat}{d:Dic}{src:Nat→Nat×Bool}(h:Zgd fr m (opI nx A vR vO v vF) d src){g:Nat→Rat}
 (hp:m' (nx+2)=some (pB (opI nx A vR vO v' vF) d.n)) (hG:m' (nx+1)=some (fB d.n g)) (hFr:m' (nx+5)=some ⟨3,v',1,fr',0,false⟩) (hk:∀ id,id<b→id≠nx+2→id≠nx+1→id≠nx+5→m' id=m id)
 (hb:nx+6<b) (hA:∀ k,k<d.m→nx+6<A k∧A k<b):Zgd fr' m' (opI nx A vR vO v' vF) {d with g:=g} src :=
 ⟨hp,(hk (nx+3) (by omega) (by omega) (by omega) (by omega)).trans h.hR,hG,(hk (nx+4) (by omega) (by omega) (by omega) (by omega)).trans h.hO,hFr,(hk (nx+6) (by omega) (by omega) (by omega) (by omega)).trans h.hF,
   fun k hk'=>(hk (A k) (hA k hk').2 (by have:=hA k hk';omega) (by have:=hA k hk';omega) (by have:=hA k hk';omega)).trans (h.hA k hk')⟩
theorem ZxC(j:Nat):(tabL j fun i=>[dI (i:Int)])++[[dI (j:Int)]]=tabL (j+1) fun i=>[dI (i:Int)]:=(Zkv j _).symm
theorem ZqP(g g':Nat→Rat)(s:SysD):∀ k,ZbO g s k=setG (ZbO g' s k) g
 | 0=>rfl
 | k+1=>by
   simp only[ZbO]
   split
   ·rename_i w _
    rw[ZqP g g' s k]
    unfold putP
    simp only
    split<;>split<;>rfl
   ·exact ZqP g g' s k
theorem Zhk(g:Nat→Rat)(s:SysD):∀ k,(ZbO g s k).1.free=fun j=>j
 | 0=>rfl
 | k+1=>by
   simp only[ZbO]
   split
   ·rename_i w _
    have:=Zhk g s k
    unfold putP
    simp only
    split<;>split<;>exact this
   ·exact Zhk g s k
theorem ZiL(g:Nat→Rat)(s:SysD):∀ k,(ZbO g s k).1.g=g
 | 0=>rfl
 | k+1=>by
   simp only[ZbO]
   split
   ·rename_i w _
    have:=ZiL g s k
    unfold putP
    simp only
    split<;>split<;>exact this
   ·exact ZiL g s k
theorem Zsw(s:SysD)(goal:List Zaf):ZaZ s goal=setG (ZbO (fun _=>0) s s.r.length) (ZhK goal goal.length):=by
 have e:ZhK goal goal.length=fun j=> -Za4 goal j:=by funext u;unfold ZhK;rw[Yc2]
 rw[e]
 exact ZqP _ _ _ _
theorem ZwD[Ifl](s:SysD)(goal:List Zaf)(m:Mem)(nx:Nat)(hr:ZaB s=true)(hg:Zai goal s.n=true)(hs:smS s)(hgs:smT goal)(hl:(s.r.length:Int)≤1900) :
 ZaM Tryz.prog 136 [encS s,Zbk goal] m nx fun d' m' nx'=>∃ I:Ids,d' = .lp I.p 0 0 0∧nx≤nx'∧Zbi m' I (ZaZ s goal).1 (ZaZ s goal).2∧ZhN I (ZaZ s goal).1.m∧(∀ id,inD I (ZaZ s goal).1.m id→nx≤id)∧∀ id,id<nx→m' id=m id:=by
 obtain⟨sn,sr⟩:=s
 obtain⟨n,rfl⟩:∃ n:Nat,sn=n:=⟨sn.toNat,by simp only[ZaB,Ya2,decide_eq_true_eq]at hr;have:=hr.1.1.1;omega⟩
 have hl':(sr.length:Int)≤1900:=hl
 have hn:(n:Int)≤1500:=by simp only[ZaB,Ya2,decide_eq_true_eq]at hr;exact hr.1.1.2
 refine ZaM.cl ⟨_,_,Tryz.func136,rfl,by kernel_rfl⟩ fun hcl=>?_
 have Zr:=Tryz.results136
 refine inA Tryz.func136 rfl Tryz.ntmps136 ?_
 refine aGoM (cj2 Zr ZaR) ?_
 repeat(first|(guard_target =~ ∀ _:St→Prop,_;intro KJ hJ)|(guard_target =~ ∀ _:List Ev→St→Prop,_;intro K hK))
 refine Zdj (Zva n _ _ (by omega) ((Zac _ _ (by omega)).trans (hcl.none (by omega)))) ?_
 refine aGoS (cj2 Zr ZaR) ?_
 repeat(first|(guard_target =~ ∀ _:St→Prop,_;intro KJ hJ)|(guard_target =~ ∀ _:List Ev→St→Prop,_;intro K hK))
 have n0:nx≠nx+1:=by omega
 have n4:nx≠nx+2:=by omega
 have n5:nx+1≠nx+2:=by omega
 with_reducible apply useE
 with_reducible assumption
 exact Zcg [nx,nx+1,nx+2] (by simp) [([],[]),([0],[]),([],[]),([0],[]),([1],[1]),([],[]),([2,2],[2]),([],[])] rfl rfl (by kernel_rfl)
 exact ZaC rfl
 refine hJ _ ?_
 refine aLe (ZdH (nx+2) 0 1 256 5 (Zae _ _ _) rfl rfl) ?_
 refine aLe (ZdH (nx+2) 0 3 3 1 (Zae _ _ _) rfl rfl) ?_
 refine aLe (ZdH (nx+2) 0 4 3 1 (Zae _ _ _) rfl rfl) ?_
 refine aLe (ZdH (nx+2) 0 5 264 2 (Zae _ _ _) rfl rfl) ?_
 have n6:nx≠nx+3:=by omega
 have n7:nx≠nx+4:=by omega
 have n8:nx≠nx+5:=by omega
 have n9:nx≠nx+6:=by omega
 refine aGoM (cj4 Zr ZaR n0 (cj4 n4 n5 n6 (cj3 n7 n8 n9))) ?_
 repeat(first|(guard_target =~ ∀ _:St→Prop,_;intro KJ hJ)|(guard_target =~ ∀ _:List Ev→St→Prop,_;intro K hK))
 refine ZcT (fun(i:Nat)=>[(1,Zbk goal),(2,.lp nx 0 0 0),(5,.lp (nx+2) 0 0 0),(19,ZAy sr),(20,dI sr.length),(21,dI i)]) nx
  (fun i m1 nx1=>i≤sr.length∧m1 nx=some ⟨99,0,2,[cS ⟨n,sr⟩],0,false⟩∧(∀ id,id<nx→m1 id=m id)∧Zgl nx 0 [] nx1 m1 (ZbO (fun _=>0) ⟨n,sr⟩ i)) (fun i=>sr.length-i) 0 ?_ ?_ ?_ ?_
 ·refine⟨Yb0 _,?_,fun id h1=>?_,⟨fun _=>0,0,0,0,⟨?_,?_,?_,?_,?_,?_,fun k hk=>absurd hk (Nat.not_lt_zero _)⟩,?_,?_,fun k hk=>absurd hk (Nat.not_lt_zero _)⟩⟩
  ·dsimp only
   simp only[ZaF]
   repeat(first|rw[if_pos trivial]|rw[if_neg (by omega)])
  ·dsimp only
   simp only[ZaF]
   repeat(rw[if_neg (by omega)])
  ·simp[ZaF,ZbO,dicZ]
  ·simp[ZaF,ZbO,dicZ,Zjz,tabL]
  ·simp[ZaF,ZbO,dicZ]
  ·simp[ZaF,ZbO,dicZ,tabL]
  ·simp[ZaF,ZbO,dicZ,tabL]
  ·simp[ZaF,ZbO,dicZ,tabL]
  ·constructor<;>first|(intro k hk;exact absurd hk (Nat.not_lt_zero _))|(intro k l hk;exact absurd hk (Nat.not_lt_zero _))|simp
  ·show nx+6<nx+7;omega
 ·rfl
 ·simp[go_sem]
 ·rintro i m1 nx1 ⟨hi,eS,hfr,hO⟩
  obtain⟨hw,i0⟩:=ZaO i
  by_cases h1:(i:Int)<sr.length
  ·obtain⟨w,hwi⟩:=getE (l:=sr) (k:=i) (by omega)
   have x1:nx≠nx1:=by obtain⟨_,_,_,_,_,_,h,_⟩:=hO;omega
   have hO1:Zgl nx 0 [] nx1 (upd (upd m1 nx1 (some ⟨153,0,6,[[.nil,dI 0,dI 0,.nil,dI 0,.nil]],0,false⟩)) nx1 (some ⟨153,0,6,[cW w],0,false⟩)) (ZbO (fun _=>0) ⟨n,sr⟩ i) :=
    hO.keep (Ya4 _) fun id g1 g2=>(Zac _ _ (by omega)).trans (Zac _ _ (by omega))
   have hK1:ZbO (fun _=>0) ⟨n,sr⟩ (i+1)=putP (ZbO (fun _=>0) ⟨n,sr⟩ i) i w:=by simp only[ZbO,hwi]
   have hx1:=Zlv (fun _=>0) ⟨n,sr⟩ i
   have hx2:=Zny (fun _=>0) ⟨n,sr⟩ i
   simp only[Int.toNat_natCast]at hx1
   have hrw:=Zcz hr (ZaL hwi)
   simp only[Int.toNat_natCast]at hrw
   have sw:=hs.2 w (ZaL hwi)
   have hrt:Zai w.t ((ZbO (fun _=>0) ⟨n,sr⟩ i).1.n:Nat)=true:=by rw[hx1];exact hrw.1
   have x0:nx<nx1:=by obtain⟨_,_,_,_,_,_,h,_⟩:=hO;omega
   by_cases k0:w.k=0
   ·have t1:(w.k !=0)=false:=by simp[k0]
    have t2:(w.k !=1)=true:=by simp[k0]
    refine aGoM (cj4 Zr eS hwi (cj4 h1 hw i0 (cj4 t1 t2 x1 trivial))) ?_
    repeat with_reducible intro K hK
    refine ZaQ (Zzr hO1 (Nat.le_succ _) i w true (by omega) (by omega) (by omega) hrt hrw.2.2.2 sw) ?_
    rintro _ m2 nx2 ⟨rfl,g1,g2,g3⟩
    refine aGoM (cj4 Zr hw i0 trivial) ?_
    repeat with_reducible intro K hK
    refine Zat (i+1) ⟨by omega,?_,fun id h=>?_,?_⟩ (by omega) rfl (by simp[go_sem])
    ·exact(g3 nx (by omega) (.inl (Ya4 _))).trans ((Zac _ _ x1).trans ((Zac _ _ x1).trans eS))
    ·exact(g3 id (by omega) (.inl (by omega))).trans ((Zac _ _ (by omega)).trans ((Zac _ _ (by omega)).trans (hfr id h)))
    ·rw[hK1];unfold putP;simp only[k0];exact g2
   ·have t1:(w.k !=0)=true:=by simp[k0]
    by_cases k1:w.k=1
    ·have t2:(w.k !=1)=false:=by simp[k1]
     refine aGoM (cj4 Zr eS hwi (cj4 h1 hw i0 (cj4 t1 t2 x1 trivial))) ?_
     repeat with_reducible intro K hK
     refine ZaQ (Zzr hO1 (Nat.le_succ _) i w false (by omega) (by omega) (by omega) hrt hrw.2.2.2 sw) ?_
     rintro _ m2 nx2 ⟨rfl,g1,g2,g3⟩
     have r1:m2 nx1=some ⟨153,0,6,[cW w],0,false⟩:=(g3 nx1 (Nat.lt_succ_self _) (.inr (Ya4 _))).trans (Zae _ _ _)
     refine aGoM (cj4 Zr hw i0 (cj3 r1 t2 trivial)) ?_
     repeat with_reducible intro K hK
     refine Zat (i+1) ⟨by omega,?_,fun id h=>?_,?_⟩ (by omega) rfl (by simp[go_sem])
     ·exact(g3 nx (by omega) (.inl (Ya4 _))).trans ((Zac _ _ x1).trans ((Zac _ _ x1).trans eS))
     ·exact(g3 id (by omega) (.inl (by omega))).trans ((Zac _ _ (by omega)).trans ((Zac _ _ (by omega)).trans (hfr id h)))
     ·rw[hK1];unfold putP;simp only[k1];rw[if_pos trivial,if_neg (by decide)];exact g2
    ·have t2:(w.k !=1)=true:=by simp[k1]
     refine aGoM (cj4 Zr eS hwi (cj4 h1 hw i0 (cj4 t1 t2 x1 trivial))) ?_
     repeat with_reducible intro K hK
     refine ZaQ (Zzr hO1 (Nat.le_succ _) i w false (by omega) (by omega) (by omega) hrt hrw.2.2.2 sw) ?_
     rintro _ m2 nx2 ⟨rfl,g1,g2,g3⟩
     have r1:m2 nx1=some ⟨153,0,6,[cW w],0,false⟩:=(g3 nx1 (Nat.lt_succ_self _) (.inr (Ya4 _))).trans (Zae _ _ _)
     refine aGoM (cj4 Zr hw i0 (cj3 r1 t2 trivial)) ?_
     repeat with_reducible intro K hK
     refine ZaQ (Zzr g2 (Ya4 _) i w true (by show(((ZbO (fun _=>0) ⟨n,sr⟩ i).1.m+1:Nat):Int)≤4000;omega) (by show(((ZbO (fun _=>0) ⟨n,sr⟩ i).1.n:Nat):Int)≤4000;omega) (by omega) hrt hrw.2.2.2 sw) ?_
     rintro _ m3 nx3 ⟨rfl,f1,f2,f3⟩
     refine aGoM (cj4 Zr hw i0 trivial) ?_
     repeat with_reducible intro K hK
     refine Zat (i+1) ⟨by omega,?_,fun id h=>?_,?_⟩ (by omega) rfl (by simp[go_sem])
     ·exact(f3 nx (by omega) (.inl (Ya4 _))).trans ((g3 nx (by omega) (.inl (Ya4 _))).trans ((Zac _ _ x1).trans ((Zac _ _ x1).trans eS)))
     ·exact(f3 id (by omega) (.inl (by omega))).trans ((g3 id (by omega) (.inl (by omega))).trans ((Zac _ _ (by omega)).trans ((Zac _ _ (by omega)).trans (hfr id h))))
     ·rw[hK1];unfold putP;simp only[if_neg k0,if_neg k1];exact f2
  ·obtain rfl:i=sr.length:=by omega
   have hx1:=Zlv (fun _=>0) ⟨n,sr⟩ sr.length
   have hx2:=Zny (fun _=>0) ⟨n,sr⟩ sr.length
   simp only[Int.toNat_natCast]at hx1
   have hfree:=Zhk (fun _=>0) ⟨n,sr⟩ sr.length
   have hgg:=ZiL (fun _=>0) ⟨n,sr⟩ sr.length
   have hoD:=Zsw ⟨n,sr⟩ goal
   simp only at hoD
   generalize hD0:ZbO (fun _=>0) ⟨n,sr⟩ sr.length=D0 at hO hx1 hx2 hfree hgg hoD
   have hg0:∀ j,j<D0.1.n→ZhK goal 0 j=D0.1.g j:=fun j _=>by rw[hgg];unfold ZhK;simp only[List.take_zero,Za4,dotS];grind
   have lg:(goal.length:Int)≤4096:=hgs.1
   refine aGoM (cj4 Zr hfr h1 trivial) ?_
   repeat with_reducible intro K hK
   refine ZcT (fun(i:Nat)=>[(2,.lp nx 0 0 0),(5,.lp (nx+2) 0 0 0),(41,Zbk goal),(42,dI goal.length),(43,dI i)]) nx
    (fun i m1 nx1=>i≤goal.length∧m1 nx=some ⟨99,0,2,[cS ⟨n,sr⟩],0,false⟩∧(∀ id,id<nx→m1 id=m id)∧Zgl nx 0 [] nx1 m1 (setG D0 (ZhK goal i))) (fun i=>goal.length-i) 0 ?_ ?_ ?_ ?_
   ·exact⟨Yb0 _,eS,hfr,hO.g hg0⟩
   ·rfl
   ·simp[go_sem]
   ·clear hO eS hfr hJ hi hw i0 h1
    rintro i m2 nx2 ⟨hi,eS,hfr,A,vR,vO,vF,h1,h2,h3,h4⟩
    obtain⟨hw,i0⟩:=ZaO i
    have hp:=h1.hp
    have hG:=h1.hG
    have hF:=h1.hFr
    simp only[setG,hx1]at hp hG hF
    by_cases g1:(i:Int)<goal.length
    ·obtain⟨⟨tv,tf⟩,ht⟩:∃ e,goal[i]? =some e:=⟨_,Ya0 (by omega)⟩
     obtain⟨t0,t1,t2,t3⟩:=Za6 hg (ZaL ht)
     obtain⟨r,rfl⟩:∃ r,tf=ofQ r:=⟨qOf tf,ZcF t2⟩
     have zr:(szF (ofQ r):Int)≤4194304:=hgs.2 _ (ZaL ht)
     rw[← Zcl t2,Zay]at zr
     have k2:=ZhS r (by omega)
     have es:=ZAb (n:=n) hg ht t0
     simp only[Zay]at es
     simp only at t0 t1
     have le:=Zck n (ZhK goal i)
     have x1:nx≠nx2:=by omega
     have x2:nx+1≠nx2:=by omega
     have x3:nx+2≠nx2:=by omega
     have gi:=Zbc (n:=n) (k:=tv.toNat) (ZhK goal i) (by omega)
     refine aGoM (cj4 Zr hp hG (cj4 ht g1 hw (cj4 i0 t0 t1 (cj4 es le gi (cj4 x1 x2 x3 (cj4 k2 ZaR n5 Yb0)))))) ?_
     repeat with_reducible intro K hK
     refine Zat (i+1) ⟨by omega,?_,fun id h=>?_,?_⟩ (by omega) rfl (by simp[go_sem])
     ·exact(Zac _ _ (by omega)).trans ((Zac _ _ x1).trans ((Zac _ _ x1).trans eS))
     ·exact(Zac _ _ (by omega)).trans ((Zac _ _ (by omega)).trans ((Zac _ _ (by omega)).trans (hfr id h)))
     ·refine⟨A,vR,vO,vF,h1.upto (b:=nx2) (g:=ZhK goal (i+1)) ?_ ?_ ?_ (fun id q1 q2 q3 q4=>?_) h3 h4,h2,Nat.lt_succ_of_lt h3,fun k hk=>⟨(h4 k hk).1,Nat.lt_succ_of_lt (h4 k hk).2⟩⟩
      ·exact(Zac _ _ (by omega)).trans ((Zac _ _ x3).trans ((Zac _ _ x3).trans h1.hp))
      ·refine(Zae _ _ _).trans ?_
       simp only[setG,hx1]
      ·exact(Zac _ _ (by omega)).trans ((Zac _ _ (by omega)).trans ((Zac _ _ (by omega)).trans h1.hFr))
      ·exact(Zac _ _ q3).trans ((Zac _ _ (by omega)).trans (Zac _ _ (by omega)))
    ·obtain rfl:i=goal.length:=by omega
     refine aGoM (cj4 Zr eS g1 trivial) ?_
     repeat with_reducible intro K hK
     refine ZcT (fun(i:Nat)=>[(5,.lp (nx+2) 0 0 0),(59,dI n),(60,dI i)]) nx
      (fun i m1 nx1=>i≤n∧(∀ id,id<nx→m1 id=m id)∧Zgl nx i (tabL i fun j=>[dI j]) nx1 m1 (setG D0 (ZhK goal goal.length))) (fun i=>n-i) 0 ?_ ?_ ?_ ?_
     ·exact⟨Yb0 _,hfr,A,vR,vO,vF,h1,h2,h3,h4⟩
     ·rfl
     ·simp[go_sem]
     ·clear hfr h1 h2 h3 h4 hp hG hF eS hw i0 g1
      rintro i m3 nx3 ⟨hi3,hfr,A,vR,vO,vF,h1,h2,h3,h4⟩
      obtain⟨hw,i0⟩:=ZaO i
      have hp:=h1.hp
      have hG:=h1.hG
      have hF:=h1.hFr
      simp only[setG,hx1]at hp hG hF
      by_cases g1:(i:Int)<n
      ·have fs:=ZxC i
       have x1:nx+5≠nx3:=by omega
       have x2:nx+2≠nx3:=by omega
       have x3:nx+2≠nx+5:=by omega
       have lf:=Zc0 i fun j=>[dI (j:Int)]
       have y7:((i+1:Nat):Int)*8≤140737488355328:=by omega
       have y8:((i+1:Nat):Int)≤9007199254740992:=by omega
       refine aGoM (cj4 Zr hp hF (cj4 g1 hw i0 (cj4 fs lf x1 (cj4 x2 x3 y7 (cj3 y8 ZaR Yb0))))) ?_
       repeat with_reducible intro K hK
       refine Zat (i+1) ⟨by omega,fun id h=>?_,A,vR,vO,vF,h1.upto (b:=nx3) (g:=ZhK goal goal.length) ?_ ?_ ?_ (fun id q1 q2 q3 q4=>?_) h3 h4,(by cases h2;constructor<;>assumption),Nat.lt_succ_of_lt h3,fun k hk=>⟨(h4 k hk).1,Nat.lt_succ_of_lt (h4 k hk).2⟩⟩ (by omega) rfl (by simp[go_sem])
       ·dsimp only
        simp only[ZaF]
        repeat(rw[if_neg (by omega)])
        exact hfr id h
       ·refine(Zae _ _ _).trans ?_
        simp only[setG,hx1]
       ·refine Eq.trans ?_ h1.hG
        dsimp only
        simp only[ZaF]
        repeat(rw[if_neg (by omega)])
       ·exact(Zac _ _ (by omega)).trans (Zae _ _ _)
       ·exact(Zac _ _ q2).trans ((Zac _ _ q4).trans (Zac _ _ (by omega)))
      ·obtain rfl:i=n:=by omega
       refine aGoM (cj4 Zr hp hF (cj2 g1 ZaR)) ?_
       repeat with_reducible intro K hK
       rw[hoD]
       refine⟨opI nx A vR vO i vF,rfl,by omega,Zgd.at ?_,h2,fun id hi=>Nat.le_of_lt (ZwF h3 h4 hi).1,hfr⟩
       have e:(tabL (setG D0 (ZhK goal goal.length)).1.n fun j=>[dI ((setG D0 (ZhK goal goal.length)).1.free j:Int)])=tabL i fun j=>[dI (j:Int)]:=by
        show(tabL D0.1.n fun j=>[dI (D0.1.free j:Int)])=_
        rw[hx1,hfree]
       rw[e];exact h1
def Zze(d:Dic):List (List D):=tabL d.m fun k=>cF (ofQ (d.v k))++[.sl (ratL d.n (d.a k))]
abbrev ZcG(d:Dic)(src:Nat→Nat×Bool):D :=
 .ep [[dI d.n,.sl (Zze d),.sl (ratL d.n d.g),.sl (tabL d.m fun i=>[dI (d.own i)]),.sl (tabL d.n fun j=>[dI (d.free j)]),.sl (tabL d.m fun i=>[dI (src i).1,dB (src i).2])]] 0 0
theorem ZiB(d:Dic){k:Nat}(h:k<d.m):(Zze d)[k]? =some [dI (ofQ (d.v k)).p.s,Zab (ofQ (d.v k)).p.d,dI (ofQ (d.v k)).q.s,Zab (ofQ (d.v k)).q.d,.sl (ratL d.n (d.a k))]:=ZbB _ h
theorem Zi4(all:Bool)(m:Mem)(k n:Nat)(c:Nat→Rat):(ratL n c).map (List.map (fzT all m (k+1)))=ratL n c:=by
 unfold ratL tabL
 rw[List.map_map]
 exact List.map_congr_left fun u _=>rfl
def Za3(d:Dic):Nat→Nat→Rat
 | 0=>fun _=>0
 | i+1=>fun u=>if d.own i<d.n∧u=d.own i then d.v i else Za3 d i u
theorem Zws(d:Dic){i:Nat}(h:d.own i<d.n):(ratL d.n (Za3 d i)).set (d.own i) (cF (ofQ (d.v i)))=ratL d.n (Za3 d (i+1)):=by
 rw[ZdV]
 refine ZaY fun u _=>?_
 simp only[Za3]
 by_cases e:u=d.own i
 ·rw[if_pos e,if_pos ⟨h,e⟩]
 ·rw[if_neg e,if_neg (fun h2=>e h2.2)]
theorem Zur(d:Dic){i:Nat}(h:¬ d.own i<d.n):Za3 d (i+1)=Za3 d i:=by
 funext u
 simp only[Za3]
 rw[if_neg (fun h2=>h h2.1)]
theorem Znu(d:Dic)(src:Nat→Nat×Bool)(hm:(d.m:Int)≤4096)(hn:(d.n:Int)≤4096):Zaa Tryz.prog 138 [ZcG d src] (.sl (ratL d.n (Za3 d d.m))):=by
 refine Zaa.ofA (fun I=>?_)
 have Zr:=Tryz.results138
 refine inA Tryz.func138 rfl Tryz.ntmps138 ?_
 refine aGoM (cj2 Zr ZaR) ?_
 repeat with_reducible intro K hK
 refine ZaQ (ZaM.made (Zpl d.n _) (ZkS d.n _ _ hn)) ?_
 rintro _ _ _ ⟨rfl,rfl,rfl⟩
 have lo:=Zc0 d.m fun i=>[dI (d.own i)]
 refine aGoM (cj3 Zr ZaR lo) ?_
 repeat with_reducible intro K hK
 refine ZcT (fun(i:Nat)=>[(0,ZcG d src),(3,.ls 0 1),(14,.sl (tabL d.m fun i=>[dI (d.own i)])),(15,dI d.m),(16,dI i)]) 0
  (fun i m1 nx1=>i≤d.m∧0<nx1∧m1 0=some (fB d.n (Za3 d i))) (fun i=>d.m-i) 0 ?_ ?_ ?_ ?_
 ·exact⟨Yb0 _,Nat.zero_lt_one,by dsimp only;rw[Zae];try rfl⟩
 ·rfl
 ·simp[go_sem]
 ·rintro i m1 nx1 ⟨hi,hnx,eX⟩
  obtain⟨hw,i0⟩:=ZaO i
  by_cases h1:(i:Int)<d.m
  ·have him:i<d.m:=by omega
   have go:=ZbB (fun i=>[dI (d.own i)]) him
   have gr:=ZiB d him
   by_cases h2:(d.own i:Int)<d.n
   ·have es:=Zws d (i:=i) (by omega)
    have o0:(0:Int)≤d.own i:=by omega
    have lx:=Zck d.n (Za3 d i)
    have gx:=Zbc (Za3 d i) (n:=d.n) (k:=d.own i) (by omega)
    refine aGoM (cj4 Zr ZaR eX (cj4 h1 hw i0 (cj4 go gr h2 (cj4 es o0 lx (cj2 gx Yb0))))) ?_
    repeat with_reducible intro K hK
    exact Zat (i+1) ⟨by omega,by show 0<nx1;omega,by dsimp only;rw[Zae]⟩ (by omega) rfl (by simp[go_sem])
   ·refine aGoM (cj4 Zr ZaR eX (cj4 h1 hw i0 (cj2 go h2))) ?_
    repeat with_reducible intro K hK
    refine Zat (i+1) ⟨by omega,by show 0<nx1;omega,?_⟩ (by omega) rfl (by simp[go_sem])
    rw[Zur d (by omega)];exact eX
  ·obtain rfl:i=d.m:=by omega
   refine aGoM (cj4 Zr ZaR eX h1) ?_
   repeat with_reducible intro K hK
   simp only[fzT,ZbL,eX,if_pos,Bool.true_or,Zi4]
def rayK(d:Dic)(s:Nat):Nat→Nat→Rat
 | 0=>fun u=>if d.free s<d.n∧u=d.free s then 1 else 0
 | i+1=>fun u=>if d.own i<d.n∧u=d.own i then -d.a i s else rayK d s i u
theorem Zwj(d:Dic)(s:Nat){i:Nat}(h:d.own i<d.n):(ratL d.n (rayK d s i)).set (d.own i) (cF (ofQ (-d.a i s)))=ratL d.n (rayK d s (i+1)):=by
 rw[ZdV]
 refine ZaY fun u _=>?_
 simp only[rayK]
 by_cases e:u=d.own i
 ·rw[if_pos e,if_pos ⟨h,e⟩]
 ·rw[if_neg e,if_neg (fun h2=>e h2.2)]
theorem Zsm(d:Dic)(s:Nat){i:Nat}(h:¬ d.own i<d.n):rayK d s (i+1)=rayK d s i:=by
 funext u
 simp only[rayK]
 rw[if_neg (fun h2=>h h2.1)]
theorem ZCm(d:Dic){s:Nat}(h:d.free s<d.n):(ratL d.n (fun _=>0)).set (d.free s) (cF (ofQ 1))=ratL d.n (rayK d s 0):=by
 rw[ZdV]
 refine ZaY fun u _=>?_
 simp only[rayK]
 by_cases e:u=d.free s
 ·rw[if_pos e,if_pos ⟨h,e⟩]
 ·rw[if_neg e,if_neg (fun h2=>e h2.2)]
theorem Zzo(d:Dic){s:Nat}(h:¬ d.free s<d.n):ratL d.n (fun _=>(0:Rat))=ratL d.n (rayK d s 0) :=
 ZaY fun u _=>by simp only[rayK];rw[if_neg (fun h2=>h h2.1)]
theorem ZEo(d:Dic)(src:Nat→Nat×Bool){s:Nat}(hs:s<d.n)(hm:(d.m:Int)≤4096)(hn:(d.n:Int)≤4096)(za:∀ i,i<d.m→(szQ (d.a i s):Int)≤536870912) :
 Zaa Tryz.prog 139 [ZcG d src,dI s] (.sl (ratL d.n (rayK d s d.m))):=by
 refine Zaa.ofA (fun I=>?_)
 have Zr:=Tryz.results139
 refine inA Tryz.func139 rfl Tryz.ntmps139 ?_
 have s0:(0:Int)≤s:=by omega
 refine aGoM (cj3 Zr ZaR s0) ?_
 repeat with_reducible intro K hK
 refine ZaQ (ZaM.made (Zpl d.n _) (ZkS d.n _ _ hn)) ?_
 rintro _ _ _ ⟨rfl,rfl,rfl⟩
 have lo:=Zc0 d.m fun i=>[dI (d.own i)]
 have gf:=ZbB (fun j=>[dI (d.free j)]) hs
 have k1:=nO_c
 by_cases h0:(d.free s:Int)<d.n
 ·have e1:=ZCm d (s:=s) (by omega)
  have f0:(0:Int)≤d.free s:=by omega
  have lz:=Zck d.n fun _=>0
  have gz:=Zbc (fun _=>0) (n:=d.n) (k:=d.free s) (by omega)
  refine aGoM (cj4 Zr ZaR lo (cj4 gf s0 h0 (cj4 e1 f0 lz (cj3 gz k1 Yb0)))) ?_
  repeat with_reducible intro K hK
  refine ZcT (fun(i:Nat)=>[(0,ZcG d src),(1,dI s),(5,.ls 0 1),(34,.sl (tabL d.m fun i=>[dI (d.own i)])),(35,dI d.m),(36,dI i)]) 0
   (fun i m1 nx1=>i≤d.m∧0<nx1∧m1 0=some (fB d.n (rayK d s i))) (fun i=>d.m-i) 0 ?_ ?_ ?_ ?_
  ·exact⟨Yb0 _,Nat.zero_lt_one,by dsimp only;rw[Zae];try rfl⟩
  ·rfl
  ·simp[go_sem]
  ·rintro i m1 nx1 ⟨hi,hnx,eX⟩
   obtain⟨hw,i0⟩:=ZaO i
   by_cases h1:(i:Int)<d.m
   ·have him:i<d.m:=by omega
    have go:=ZbB (fun i=>[dI (d.own i)]) him
    have gr:=ZiB d him
    by_cases h2:(d.own i:Int)<d.n
    ·have es:=Zwj d s (i:=i) (by omega)
     have o0:(0:Int)≤d.own i:=by omega
     have lx:=Zck d.n (rayK d s i)
     have gx:=Zbc (rayK d s i) (n:=d.n) (k:=d.own i) (by omega)
     have ga:=Zbc (d.a i) hs
     have zz:=za i him
     have k2:=ZhS (d.a i s) (by omega)
     refine aGoM (cj4 Zr ZaR eX (cj4 h1 hw i0 (cj4 go gr h2 (cj4 es o0 lx (cj4 gx ga k2 (cj2 s0 Yb0)))))) ?_
     repeat with_reducible intro K hK
     exact Zat (i+1) ⟨by omega,by show 0<nx1;omega,by dsimp only;rw[Zae]⟩ (by omega) rfl (by simp[go_sem])
    ·refine aGoM (cj4 Zr ZaR eX (cj4 h1 hw i0 (cj2 go h2))) ?_
     repeat with_reducible intro K hK
     refine Zat (i+1) ⟨by omega,by show 0<nx1;omega,?_⟩ (by omega) rfl (by simp[go_sem])
     rw[Zsm d s (by omega)];exact eX
   ·obtain rfl:i=d.m:=by omega
    refine aGoM (cj4 Zr ZaR eX h1) ?_
    repeat with_reducible intro K hK
    simp only[fzT,ZbL,eX,if_pos,Bool.true_or,Zi4]
 ·have e1:=Zzo d (s:=s) (by omega)
  refine aGoM (cj4 Zr ZaR lo (cj4 gf s0 h0 (cj2 k1 Yb0))) ?_
  repeat with_reducible intro K hK
  refine ZcT (fun(i:Nat)=>[(0,ZcG d src),(1,dI s),(5,.ls 0 1),(34,.sl (tabL d.m fun i=>[dI (d.own i)])),(35,dI d.m),(36,dI i)]) 0
   (fun i m1 nx1=>i≤d.m∧0<nx1∧m1 0=some (fB d.n (rayK d s i))) (fun i=>d.m-i) 0 ?_ ?_ ?_ ?_
  ·refine⟨Yb0 _,Nat.zero_lt_one,?_⟩
   dsimp only
   rw[Zae]
   unfold fB;rw[e1]
  ·rfl
  ·simp[go_sem]
  ·rintro i m1 nx1 ⟨hi,hnx,eX⟩
   obtain⟨hw,i0⟩:=ZaO i
   by_cases h1:(i:Int)<d.m
   ·have him:i<d.m:=by omega
    have go:=ZbB (fun i=>[dI (d.own i)]) him
    have gr:=ZiB d him
    by_cases h2:(d.own i:Int)<d.n
    ·have es:=Zwj d s (i:=i) (by omega)
     have o0:(0:Int)≤d.own i:=by omega
     have lx:=Zck d.n (rayK d s i)
     have gx:=Zbc (rayK d s i) (n:=d.n) (k:=d.own i) (by omega)
     have ga:=Zbc (d.a i) hs
     have zz:=za i him
     have k2:=ZhS (d.a i s) (by omega)
     refine aGoM (cj4 Zr ZaR eX (cj4 h1 hw i0 (cj4 go gr h2 (cj4 es o0 lx (cj4 gx ga k2 (cj2 s0 Yb0)))))) ?_
     repeat with_reducible intro K hK
     exact Zat (i+1) ⟨by omega,by show 0<nx1;omega,by dsimp only;rw[Zae]⟩ (by omega) rfl (by simp[go_sem])
    ·refine aGoM (cj4 Zr ZaR eX (cj4 h1 hw i0 (cj2 go h2))) ?_
     repeat with_reducible intro K hK
     refine Zat (i+1) ⟨by omega,by show 0<nx1;omega,?_⟩ (by omega) rfl (by simp[go_sem])
     rw[Zsm d s (by omega)];exact eX
   ·obtain rfl:i=d.m:=by omega
    refine aGoM (cj4 Zr ZaR eX h1) ?_
    repeat with_reducible intro K hK
    simp only[fzT,ZbL,eX,if_pos,Bool.true_or,Zi4]
theorem sz_0:szQ 0≤1:=by decide +kernel
theorem sz_1:szQ 1≤1:=by decide +kernel
def Zcx(src:Nat→Nat×Bool)(y:Nat→Rat)(k:Nat)(p:Rat):Nat→Rat:=fun u=>if u=(src k).1 then y u+(if (src k).2 then p else -p)else y u
theorem Zhy(src:Nat→Nat×Bool)(y:Nat→Rat)(k:Nat)(p:Rat)(M:Nat){q:Rat}(hq:q=if (src k).2 then p else -p):(ratL M y).set (src k).1 (cF (ofQ (y (src k).1+q)))=ratL M (Zcx src y k p):=by
 subst hq
 rw[ZdV]
 refine ZaY fun u _=>?_
 unfold Zcx
 by_cases e:u=(src k).1
 ·rw[if_pos e,if_pos e,e]
 ·rw[if_neg e,if_neg e]
theorem ZAL[Ifl](d:Dic)(src:Nat→Nat×Bool)(M Y k:Nat)(y:Nat→Rat)(p:Rat)(m:Mem)(nx:Nat)(hk:k<d.m)(hM:(src k).1<M)(hY:m Y=some (fB M y))(zy:(szQ (y (src k).1):Int)≤549755813888)(zp:(szQ p:Int)≤4294967296) :
 ZaM Tryz.prog 189 [ZcG d src,.ls Y 1,dI k,encF (ofQ p)] m nx fun d' m' nx'=>d'=oneD []∧nx≤nx'∧m' Y=some (fB M (Zcx src y k p))∧∀ id,id<nx→id≠Y→m' id=m id:=by
 refine ZaM.cl ⟨_,_,Tryz.func189,rfl,by kernel_rfl⟩ fun hcl=>?_
 have Zr:=Tryz.results189
 have lY:=(hcl Y _ hY).1
 refine inA Tryz.func189 rfl Tryz.ntmps189 ?_
 have gs:=ZbB (fun i=>[dI (src i).1,dB (src i).2]) hk
 have k0:(0:Int)≤k:=by omega
 have s0:(0:Int)≤(src k).1:=by omega
 have gy:=Zbc y hM
 have ly:=Zck M y
 have n1:Y≠nx:=by omega
 have n2:Y≠nx+1:=by omega
 have n3:nx≠nx+1:=by omega
 have n4:nx+1≠nx:=by omega
 have np:(szQ (-p):Int)≤4294967296:=by rw[Zdt];exact zp
 cases ht:(src k).2 with
 | true =>
   have k2:=ZhT (y (src k).1) p (by omega) (by omega)
   have es:=Zhy src y k p M (q:=p) (by rw[ht];rfl)
   rw[ht]at gs
   refine aGoS (cj4 Zr ZaR hY (cj4 gs k0 s0 (cj4 gy ly n1 (cj4 n2 n3 k2 (cj2 es Yb0))))) ?_
   repeat with_reducible intro K hK
   with_reducible apply useE
   with_reducible assumption
   exact Zcg [nx,nx+1,Y] (by simp[n1.symm,n2.symm]) [([],[]),([],[]),([1],[]),([],[]),([],[]),([1],[]),([2],[]),([2],[]),([0],[]),([],[]),([],[]),([],[]),([],[]),([2],[]),([2,2],[2])] rfl rfl (by kernel_rfl)
   exact ZaC rfl
   refine aGoM (cj3 Zr n1 n2) ?_
   exact fun id g1 g2=>by repeat(rw[if_neg (by omega)])
 | false =>
   have k1:=ZhS p (by omega)
   have k2:=ZhT (y (src k).1) (-p) (by omega) (by omega)
   have es:=Zhy src y k p M (q:= -p) (by rw[ht];rfl)
   rw[ht]at gs
   refine aGoS (cj4 Zr ZaR hY (cj4 gs k0 s0 (cj4 gy ly n1 (cj4 n2 n3 k2 (cj4 es k1 n4 Yb0))))) ?_
   repeat with_reducible intro K hK
   with_reducible apply useE
   with_reducible assumption
   exact Zcg [nx,nx+1,Y] (by simp[n1.symm,n2.symm]) [([],[]),([],[]),([1],[]),([],[]),([],[]),([1],[]),([2],[]),([2],[]),([0],[]),([],[]),([],[]),([],[]),([],[]),([2],[]),([2,2],[2])] rfl rfl (by kernel_rfl)
   exact ZaC rfl
   refine aGoM (cj3 Zr n1 n2) ?_
   exact fun id g1 g2=>by repeat(rw[if_neg (by omega)])
theorem ZkO[Ifl](d:Dic)(src:Nat→Nat×Bool)(M Y k:Nat)(y:Nat→Rat)(p:Rat)(m:Mem)(nx:Nat)(hk:k<d.m)(hM:(src k).1<M)(hY:m Y=some (fB M y))(hl:Y<nx)(zy:(szQ (y (src k).1):Int)≤549755813888)(zp:(szQ p:Int)≤4294967296) :
 EffC Tryz.prog 189 [ZcG d src,.ls Y 1,dI k,encF (ofQ p)] m nx ⟨oneD [],[Y],[(Y,fB M (Zcx src y k p))],false⟩ nx :=
 EffC.of ⟨_,_,Tryz.func189,rfl,by kernel_rfl⟩ (fun q hq=>by simp only[List.mem_singleton]at hq;subst hq;exact⟨by simp,hl⟩) fun m1 NX hN ht =>
  ZaM.kept ((ht Y (by simp)).trans hY) rfl (Zpl M _) (ZAL d src M Y k y p m1 NX hk hM ((ht Y (by simp)).trans hY) zy zp)
def Zbn(d:Dic)(src:Nat→Nat×Bool):Nat→Nat→Rat
 | 0=>fun _=>0
 | j+1=>if d.n≤d.free j then Zcx src (Zbn d src j) (d.free j-d.n) (-d.g j)else Zbn d src j
theorem ZlY(src:Nat→Nat×Bool)(y:Nat→Rat)(k:Nat)(p:Rat){Z B:Nat}(hy:∀ u,szQ (y u)≤Z)(hp:szQ p≤B)(u:Nat):szQ (Zcx src y k p u)≤Z+(B+1):=by
 unfold Zcx
 split
 ·have h1:=ZfP (y u) (if (src k).2 then p else -p)
  have h2:szQ (if (src k).2 then p else -p)=szQ p:=by split;rfl;exact Zdt p
  have:=hy u
  omega
 ·have:=hy u;omega
theorem ZiJ(d:Dic)(src:Nat→Nat×Bool){B:Nat}(hg:∀ j,j<d.n→szQ (d.g j)≤B):∀ j,j≤d.n→∀ u,szQ (Zbn d src j u)≤1+j*(B+1)
 | 0, _, u => by have : szQ 0 ≤ 1 := by decide +kernel
                 simp only[Zbn];omega
 | j+1,hj,u=>by
   have ih:=ZiJ d src hg j (by omega)
   rw[Nat.add_mul,Nat.one_mul,← Nat.add_assoc]
   simp only[Zbn]
   split
   ·exact ZlY src _ _ _ ih (by rw[Zdt];exact hg j (by omega)) u
   ·have:=ih u;omega
theorem Zzt(d:Dic)(src:Nat→Nat×Bool)(M:Nat)(hm:(d.m:Int)≤4096)(hn:(d.n:Int)≤1500)(hMl:(M:Int)≤4096)(hfree:∀ j,j<d.n→d.free j<d.n+d.m)(hsrc:∀ i,i<d.m→(src i).1<M)(zg:∀ j,j<d.n→szQ (d.g j)≤268435456) :
 Zaa Tryz.prog 141 [ZcG d src,dI M] (.sl (ratL M (Zbn d src d.n))):=by
 refine Zaa.ofA (fun I=>?_)
 have Zr:=Tryz.results141
 refine inA Tryz.func141 rfl Tryz.ntmps141 ?_
 refine aGoM (cj2 Zr ZaR) ?_
 repeat with_reducible intro K hK
 refine ZaQ (ZaM.made (Zpl M _) (ZkS M _ _ hMl)) ?_
 rintro _ _ _ ⟨rfl,rfl,rfl⟩
 have lf:=Zc0 d.n fun j=>[dI (d.free j)]
 refine aGoM (cj3 Zr ZaR lf) ?_
 repeat with_reducible intro K hK
 refine ZcT (fun(i:Nat)=>[(0,ZcG d src),(5,.ls 0 1),(13,.sl (tabL d.n fun j=>[dI (d.free j)])),(14,dI d.n),(15,dI i)]) 0
  (fun i m1 nx1=>i≤d.n∧0<nx1∧m1 0=some (fB M (Zbn d src i))) (fun i=>d.n-i) 0 ?_ ?_ ?_ ?_
 ·exact⟨Yb0 _,Nat.zero_lt_one,by dsimp only;rw[Zae];try rfl⟩
 ·rfl
 ·simp[go_sem]
 ·rintro i m1 nx1 ⟨hi,hnx,eX⟩
  obtain⟨hw,i0⟩:=ZaO i
  by_cases h1:(i:Int)<d.n
  ·have hin:i<d.n:=by omega
   have gf:=ZbB (fun j=>[dI (d.free j)]) hin
   have fl:=hfree i hin
   by_cases h2:(d.n:Int)≤d.free i
   ·have gg:=Zbc d.g hin
    have zi:=zg i hin
    have k1:=ZhS (d.g i) (by omega)
    have hs:IntKind.i64.wrap ((d.free i:Int)-d.n)=((d.free i-d.n:Nat):Int):=(Zax (by omega) (by omega)).trans (by omega)
    refine aGoM (cj4 Zr ZaR eX (cj4 h1 hw i0 (cj4 gf h2 gg (cj3 k1 hs Yb0)))) ?_
    repeat with_reducible intro K hK
    have zy:=ZiJ d src zg i hi (src (d.free i-d.n)).1
    have hmul:i*(268435456+1)≤1500*(268435456+1):=Nat.mul_le_mul_right _ (by omega)
    refine Zdj (ZkO d src M 0 (d.free i-d.n) (Zbn d src i) (-d.g i) _ _ (by omega) (hsrc _ (by omega)) eX hnx (by have:=Int.ofNat_le.2 (Yc7 zy (Nat.add_le_add_left hmul 1));omega) (by rw[Zdt];omega)) ?_
    refine aGoM (cj3 Zr ZaR hw) ?_
    repeat with_reducible intro K hK
    refine Zat (i+1) ⟨by omega,by show 0<nx1;omega,?_⟩ (by omega) rfl (by simp[go_sem])
    dsimp only
    rw[Zae]
    simp only[Zbn]
    rw[if_pos (by omega)]
   ·refine aGoM (cj4 Zr ZaR eX (cj4 h1 hw i0 (cj2 gf h2))) ?_
    repeat with_reducible intro K hK
    refine Zat (i+1) ⟨by omega,by show 0<nx1;omega,?_⟩ (by omega) rfl (by simp[go_sem])
    simp only[Zbn]
    rw[if_neg (by omega)];exact eX
  ·obtain rfl:i=d.n:=by omega
   refine aGoM (cj4 Zr ZaR eX h1) ?_
   repeat with_reducible intro K hK
   simp only[fzT,ZbL,eX,if_pos,Bool.true_or,Zi4]
def refK(d:Dic)(src:Nat→Nat×Bool)(r:Nat):Nat→Nat→Rat
 | 0=>if d.n≤d.own r then Zcx src (fun _=>0) (d.own r-d.n) 1 else fun _=>0
 | j+1=>if d.n≤d.free j then Zcx src (refK d src r j) (d.free j-d.n) (d.a r j)else refK d src r j
theorem Zsk(d:Dic)(src:Nat→Nat×Bool)(r:Nat){B:Nat}(hB:1≤B)(hg:∀ j,j<d.n→szQ (d.a r j)≤B):∀ j,j≤d.n→∀ u,szQ (refK d src r j u)≤1+(j+1)*(B+1)
 | 0,_,u=>by
   have h0:∀ u:Nat,szQ ((fun _=>0:Nat→Rat) u)≤1:=fun _=>sz_0
   have h1:szQ 1≤B:=Yc7 sz_1 hB
   simp only[refK]
   split
   ·have:=ZlY src (fun _=>0) (d.own r-d.n) 1 h0 h1 u;omega
   ·have:szQ ((fun _=>0:Nat→Rat) u)≤1:=sz_0
    omega
 | j+1,hj,u=>by
   have ih:=Zsk d src r hB hg j (by omega)
   rw[Nat.add_mul (j+1) 1,Nat.one_mul,← Nat.add_assoc]
   simp only[refK]
   split
   ·exact ZlY src _ _ _ ih (hg j (by omega)) u
   ·have:=ih u;omega
theorem Zj5(d:Dic)(src:Nat→Nat×Bool)(M r:Nat)(hr:r<d.m)(hm:(d.m:Int)≤4096)(hn:(d.n:Int)≤1500)(hMl:(M:Int)≤4096)(hown:d.own r<d.n+d.m)(hfree:∀ j,j<d.n→d.free j<d.n+d.m)(hsrc:∀ i,i<d.m→(src i).1<M)(zg:∀ j,j<d.n→szQ (d.a r j)≤268435456) :
 Zaa Tryz.prog 140 [ZcG d src,dI M,dI r] (.sl (ratL M (refK d src r d.n))):=by
 refine Zaa.ofA (fun I=>?_)
 have Zr:=Tryz.results140
 refine inA Tryz.func140 rfl Tryz.ntmps140 ?_
 have r0:(0:Int)≤r:=by omega
 have gr:=ZiB d hr
 have go:=ZbB (fun i=>[dI (d.own i)]) hr
 have lf:=Zc0 d.n fun j=>[dI (d.free j)]
 have k1:=nO_c
 refine aGoM (cj3 Zr ZaR r0) ?_
 repeat with_reducible intro K hK
 refine ZaQ (ZaM.made (Zpl M _) (ZkS M _ _ hMl)) ?_
 rintro _ _ _ ⟨rfl,rfl,rfl⟩
 by_cases h0:(d.n:Int)≤d.own r
 ·have hs:IntKind.i64.wrap ((d.own r:Int)-d.n)=((d.own r-d.n:Nat):Int):=(Zax (by omega) (by omega)).trans (by omega)
  refine aGoM (cj4 Zr ZaR lf (cj4 go r0 h0 (cj3 k1 hs Yb0))) ?_
  repeat with_reducible intro K hK
  have hY0:upd noM 0 (some (fB M fun _=>0)) 0=some (fB M fun _=>(0:Rat)):=by rw[Zae]
  have z0:=sz_0
  have z1:=sz_1
  refine Zdj (ZkO d src M 0 (d.own r-d.n) (fun _=>0) 1 _ _ (by omega) (hsrc _ (by omega)) hY0 Nat.zero_lt_one (by show(szQ 0:Int)≤_;omega) (by omega)) ?_
  refine aGoM (cj4 Zr ZaR lf (cj2 r0 Yb0)) ?_
  repeat with_reducible intro K hK
  have e0:Zcx src (fun _=>0) (d.own r-d.n) 1=refK d src r 0:=by simp only[refK];rw[if_pos (by omega)]
  refine ZcT (fun(i:Nat)=>[(0,ZcG d src),(2,dI r),(7,.ls 0 1),(39,.sl (tabL d.n fun j=>[dI (d.free j)])),(40,dI d.n),(41,dI i)]) 0
   (fun i m1 nx1=>i≤d.n∧0<nx1∧m1 0=some (fB M (refK d src r i))) (fun i=>d.n-i) 0 ?_ ?_ ?_ ?_
  ·exact⟨Yb0 _,Nat.zero_lt_one,by dsimp only;rw[Zae,e0]⟩
  ·rfl
  ·simp[go_sem]
  ·rintro i m1 nx1 ⟨hi,hnx,eX⟩
   obtain⟨hw,i0⟩:=ZaO i
   by_cases h1:(i:Int)<d.n
   ·have hin:i<d.n:=by omega
    have gf:=ZbB (fun j=>[dI (d.free j)]) hin
    have fl:=hfree i hin
    by_cases h2:(d.n:Int)≤d.free i
    ·have gg:=Zbc (d.a r) hin
     have zi:=zg i hin
     have hs:IntKind.i64.wrap ((d.free i:Int)-d.n)=((d.free i-d.n:Nat):Int):=(Zax (by omega) (by omega)).trans (by omega)
     refine aGoM (cj4 Zr ZaR eX (cj4 h1 hw i0 (cj4 gf h2 gg (cj4 hs gr r0 Yb0)))) ?_
     repeat with_reducible intro K hK
     have zy:=Zsk d src r (B:=268435456) (by decide) zg i hi (src (d.free i-d.n)).1
     have hmul:(i+1)*(268435456+1)≤1500*(268435456+1):=Nat.mul_le_mul_right _ (by omega)
     refine Zdj (ZkO d src M 0 (d.free i-d.n) (refK d src r i) (d.a r i) _ _ (by omega) (hsrc _ (by omega)) eX hnx (by have:=Int.ofNat_le.2 (Yc7 zy (Nat.add_le_add_left hmul 1));omega) (by omega)) ?_
     refine aGoM (cj3 Zr ZaR hw) ?_
     repeat with_reducible intro K hK
     refine Zat (i+1) ⟨by omega,by show 0<nx1;omega,?_⟩ (by omega) rfl (by simp[go_sem])
     dsimp only
     rw[Zae]
     simp only[refK]
     rw[if_pos (by omega)]
    ·refine aGoM (cj4 Zr ZaR eX (cj4 h1 hw i0 (cj2 gf h2))) ?_
     repeat with_reducible intro K hK
     refine Zat (i+1) ⟨by omega,by show 0<nx1;omega,?_⟩ (by omega) rfl (by simp[go_sem])
     simp only[refK]
     rw[if_neg (by omega)];exact eX
   ·obtain rfl:i=d.n:=by omega
    refine aGoM (cj4 Zr ZaR eX h1) ?_
    repeat with_reducible intro K hK
    simp only[fzT,ZbL,eX,if_pos,Bool.true_or,Zi4]
 ·refine aGoM (cj4 Zr ZaR lf (cj4 go r0 h0 (cj2 k1 Yb0))) ?_
  repeat with_reducible intro K hK
  have e0:(fun _=>0)=refK d src r 0:=by simp only[refK];rw[if_neg (by omega)]
  refine ZcT (fun(i:Nat)=>[(0,ZcG d src),(2,dI r),(7,.ls 0 1),(39,.sl (tabL d.n fun j=>[dI (d.free j)])),(40,dI d.n),(41,dI i)]) 0
   (fun i m1 nx1=>i≤d.n∧0<nx1∧m1 0=some (fB M (refK d src r i))) (fun i=>d.n-i) 0 ?_ ?_ ?_ ?_
  ·exact⟨Yb0 _,Nat.zero_lt_one,by dsimp only;rw[Zae,e0]⟩
  ·rfl
  ·simp[go_sem]
  ·rintro i m1 nx1 ⟨hi,hnx,eX⟩
   obtain⟨hw,i0⟩:=ZaO i
   by_cases h1:(i:Int)<d.n
   ·have hin:i<d.n:=by omega
    have gf:=ZbB (fun j=>[dI (d.free j)]) hin
    have fl:=hfree i hin
    by_cases h2:(d.n:Int)≤d.free i
    ·have gg:=Zbc (d.a r) hin
     have zi:=zg i hin
     have hs:IntKind.i64.wrap ((d.free i:Int)-d.n)=((d.free i-d.n:Nat):Int):=(Zax (by omega) (by omega)).trans (by omega)
     refine aGoM (cj4 Zr ZaR eX (cj4 h1 hw i0 (cj4 gf h2 gg (cj4 hs gr r0 Yb0)))) ?_
     repeat with_reducible intro K hK
     have zy:=Zsk d src r (B:=268435456) (by decide) zg i hi (src (d.free i-d.n)).1
     have hmul:(i+1)*(268435456+1)≤1500*(268435456+1):=Nat.mul_le_mul_right _ (by omega)
     refine Zdj (ZkO d src M 0 (d.free i-d.n) (refK d src r i) (d.a r i) _ _ (by omega) (hsrc _ (by omega)) eX hnx (by have:=Int.ofNat_le.2 (Yc7 zy (Nat.add_le_add_left hmul 1));omega) (by omega)) ?_
     refine aGoM (cj3 Zr ZaR hw) ?_
     repeat with_reducible intro K hK
     refine Zat (i+1) ⟨by omega,by show 0<nx1;omega,?_⟩ (by omega) rfl (by simp[go_sem])
     dsimp only
     rw[Zae]
     simp only[refK]
     rw[if_pos (by omega)]
    ·refine aGoM (cj4 Zr ZaR eX (cj4 h1 hw i0 (cj2 gf h2))) ?_
     repeat with_reducible intro K hK
     refine Zat (i+1) ⟨by omega,by show 0<nx1;omega,?_⟩ (by omega) rfl (by simp[go_sem])
     simp only[refK]
     rw[if_neg (by omega)];exact eX
   ·obtain rfl:i=d.n:=by omega
    refine aGoM (cj4 Zr ZaR eX h1) ?_
    repeat with_reducible intro K hK
    simp only[fzT,ZbL,eX,if_pos,Bool.true_or,Zi4]
theorem ZiZ:∀ (l:List Nat)(m:Mem)(id:Nat)(b:Blk),m id=some b→ov m (ZbZ l m) id=some (if id∈l then {b with dead:=true} else b)
 | [],m,id,b,h=>by simp only[ZbZ,ov,h,List.not_mem_nil,if_false]
 | x ::l,m,id,b,h=>by
   by_cases e:x=id
   ·subst e
    simp only[ZbZ,h,ov]
    rw[ZiZ l _ x {b with dead:=true} (Zae _ _ _)]
    simp only[List.mem_cons,true_or,if_true,ite_self]
   ·simp only[ZbZ]
    cases hx:m x with
    | none =>
      simp only
      rw[ZiZ l m id b h]
      simp only[List.mem_cons,Ne.symm e,false_or]
    | some c =>
      simp only[ov]
      rw[ZiZ l _ id b ((Zac _ _ (Ne.symm e)).trans h)]
      simp only[List.mem_cons,Ne.symm e,false_or]
def idsL(I:Ids)(m:Nat):List Nat:=[I.p,I.R,I.G,I.O,I.Fr,I.F]++(List.range m).map I.A
theorem ZsO{I:Ids}{m id:Nat}:id∈idsL I m↔inD I m id:=by
 unfold idsL inD
 simp only[Yd5,List.mem_cons,List.not_mem_nil,or_false,Yc6,Yd2]
 constructor
 ·rintro((h|h|h|h|h|h)|⟨k,hk,rfl⟩)
  ·exact .inl h
  ·exact .inr (.inl h)
  ·exact .inr (.inr (.inl h))
  ·exact .inr (.inr (.inr (.inl h)))
  ·exact .inr (.inr (.inr (.inr (.inl h))))
  ·exact .inr (.inr (.inr (.inr (.inr (.inl h)))))
  ·exact .inr (.inr (.inr (.inr (.inr (.inr ⟨k,hk,rfl⟩)))))
 ·rintro(h|h|h|h|h|h|⟨k,hk,rfl⟩)
  ·exact .inl (.inl h)
  ·exact .inl (.inr (.inl h))
  ·exact .inl (.inr (.inr (.inl h)))
  ·exact .inl (.inr (.inr (.inr (.inl h))))
  ·exact .inl (.inr (.inr (.inr (.inr (.inl h)))))
  ·exact .inl (.inr (.inr (.inr (.inr (.inr h)))))
  ·exact .inr ⟨k,hk,rfl⟩
theorem ZEY{m M:Mem}{I:Ids}{d:Dic}{src:Nat→Nat×Bool}(h:Zbi m I d src)(hd:∀ id,inD I d.m id→∀ b,m id=some b→M id=some {b with dead:=true}):fzT false M 7 (.lp I.p 0 0 0)=ZcG d src:=by
 have hp:=hd _ (.inl rfl) _ h.hp
 have hR:=hd _ (.inr (.inl rfl)) _ h.hR
 have hG:=hd _ (.inr (.inr (.inl rfl))) _ h.hG
 have hO:=hd _ (.inr (.inr (.inr (.inl rfl)))) _ h.hO
 have hFr:=hd _ (.inr (.inr (.inr (.inr (.inl rfl))))) _ h.hFr
 have hF:=hd _ (.inr (.inr (.inr (.inr (.inr (.inl rfl)))))) _ h.hF
 have hA:=fun k hk=>hd _ (.inr (.inr (.inr (.inr (.inr (.inr ⟨k,hk,rfl⟩)))))) _ (h.hA k hk)
 have er:(Zjz I d.m d.v).map (List.map (fzT false M 5))=Zze d:=by
  unfold Zjz Zze tabL
  rw[List.map_map]
  refine List.map_congr_left fun k hk=>?_
  have hk:=Yd2.1 hk
  simp only[Function.comp,List.map_append,List.map_cons,List.map_nil,fzT,ZbL,hA k hk,if_pos,Bool.false_or,Zi4]
 have eo:(tabL d.m fun i=>[dI (d.own i:Int)]).map (List.map (fzT false M 5))=tabL d.m fun i=>[dI (d.own i:Int)]:=by
  unfold tabL;rw[List.map_map];exact List.map_congr_left fun u _=>rfl
 have ef:(tabL d.n fun i=>[dI (d.free i:Int)]).map (List.map (fzT false M 5))=tabL d.n fun i=>[dI (d.free i:Int)]:=by
  unfold tabL;rw[List.map_map];exact List.map_congr_left fun u _=>rfl
 have es:(tabL d.m fun i=>[dI ((src i).1:Int),dB (src i).2]).map (List.map (fzT false M 5))=tabL d.m fun i=>[dI ((src i).1:Int),dB (src i).2]:=by
  unfold tabL;rw[List.map_map];exact List.map_congr_left fun u _=>rfl
 simp only[fzT,ZbL,hp,hR,hG,hO,hFr,hF,if_pos,Bool.false_or,List.map_cons,List.map_nil,Zi4,er,eo,ef,es]
theorem Zey[Ifl]{s:St}{I:Ids}{d:Dic}{src:Nat→Nat×Bool}(h:Zbi s.m I d src)(k:Nat)(hk:s.t k = .lp I.p 0 0 0)(l:List (Nat×D))(M:Mem)(n':Nat)(hM:∀ id b,M id=some b→s.m id=some b∧id<n'∧¬ inD I d.m id)
 (hc:∀ id b,M id=some b→Zav (fun i=>(M i).isSome) b) (ht:∀ p∈l,p.1≠k∧s.t p.1=p.2∧okD (fun i=>(M i).isSome) p.2=true) (hlo:s.lo=0):StLe s ⟨tabT ((k,ZcG d src) ::l),M,n',0⟩:=by
 refine(Zz5 (idsL I d.m)).trans ?_
 refine(ZlF k 7).trans ?_
 have e:fzT false (ov s.m (ZbZ (idsL I d.m) s.m)) 7 (s.t k)=ZcG d src:=by
  rw[hk]
  exact ZEY h fun id hi b hb=>by rw[ZiZ _ _ _ _ hb,if_pos (ZsO.2 hi)]
 rw[← hlo]
 refine ZEO _ M n' ⟨fun id b hb=>?_,hc⟩ (fun p hp=>?_) (fun p hp=>?_) (fun id hi=>?_)
 ·obtain⟨h1,h2,h3⟩:=hM id b hb
  refine⟨?_,h2⟩
  show ov s.m (ZbZ (idsL I d.m) s.m) id=some b
  rw[ZiZ _ _ _ _ h1,if_neg fun h4=>h3 (ZsO.1 h4)]
 ·rcases List.mem_cons.1 hp with rfl|hp
  ·exact(Zae _ _ _).trans e
  ·exact(Zac _ _ (ht p hp).1).trans (ht p hp).2.1
 ·rcases List.mem_cons.1 hp with rfl|hp
  ·rfl
  ·exact(ht p hp).2.2
 ·have:id<0:=hlo▸hi
  omega
def Zam(n:Nat)(c:Nat→Rat):List Zag:=(List.range n).map fun u=>ofQ (c u)
theorem Zta(n:Nat)(c:Nat→Rat):(Zam n c).map cF=ratL n c:=by unfold Zam ratL tabL;rw[List.map_map];rfl
theorem Zde(n:Nat)(c:Nat→Rat):D.sl (ratL n c)=Za0 (Zam n c):=by show _=D.sl ((Zam n c).map cF);rw[Zta]
theorem ZeE(n:Nat)(c:Nat→Rat):(Zam n c).length=n:=by simp[Zam]
theorem Zi5{n:Nat}{c:Nat→Rat}{f:Zag}(h:f∈Zam n c):∃ u,u<n∧f=ofQ (c u):=by
 obtain⟨u,hu,rfl⟩:=Yc6.1 h
 exact⟨u,Yd2.1 hu,rfl⟩
theorem Zcm(n:Nat)(c:Nat→Rat):okP (Zam n c)=true:=by
 refine Ya6.2 fun f hf=>?_
 obtain⟨u,_,rfl⟩:=Zi5 hf
 exact Zby _
noncomputable def fin (s:SysD) (goal:List Zaf):Dic:=ZfA (ZaZ s goal).1
abbrev ZbG(s:SysD)(goal:List Zaf):Nat→Nat×Bool:=(ZaZ s goal).2
noncomputable def ZaJ (s:SysD) (goal:List Zaf):OptD:=match next (fin s goal)with
 | .best=>⟨0,(ZbW goal (Zam s.n.toNat (Za3 (fin s goal) (fin s goal).m))).1,Zam s.n.toNat (Za3 (fin s goal) (fin s goal).m),Zam s.r.length (Zbn (fin s goal) (ZbG s goal) s.n.toNat),[]⟩
 | .row r=>⟨1,zF,[],Zam s.r.length (refK (fin s goal) (ZbG s goal) r s.n.toNat),[]⟩
 | .col c=>match next (fin s [])with
   | .row r=>⟨1,zF,[],Zam s.r.length (refK (fin s []) (ZbG s []) r s.n.toNat),[]⟩
   | _=>⟨2,zF,Zam s.n.toNat (Za3 (fin s []) (fin s []).m),[],Zam s.n.toNat (rayK (fin s goal) c (fin s goal).m)⟩
 | .ex _ _=>⟨0,zF,[],[],[]⟩
noncomputable def ZbU (s:SysD) (goal:List Zaf):OptD×Int:=if ZaB s&&Zai goal s.n then(ZaJ s goal,0)else(⟨0,zF,[],[],[]⟩,1)
structure Fit (s:SysD) (goal:List Zaf) (B:Nat:=2) (T:Nat:=6):Prop where
 l:s.r.length≤32
 n:ZaB s=true→s.n≤16
 t:ZaB s=true→s.n≤T∨(ZbO (fun _=>0) s s.r.length).1.m≤T
 w:∀ w∈s.r,w.t.length≤64∧szF w.v≤B∧∀ t∈w.t,szF t.f≤B
 g:goal.length≤16∧∀ t∈goal,szF t.f≤B
 b:1≤B
 gl:Dic.grow B T+B+1≤262144
theorem ZlL(B:Nat):∀ t,B≤Dic.grow B t
 | 0=>Ya4 _
 | t+1=>by have:=ZlL B t;simp only[Dic.grow];omega
section
variable {s:SysD} {goal:List Zaf} {B T:Nat}
theorem Fit.tn(h:Fit s goal B T):tnS s:=⟨by have:=h.l;omega,fun w hw=>⟨⟨by have:=(h.w w hw).1;omega,fun t ht=>by have:=(h.w w hw).2.2 t ht;have:=h.gl;unfold tnF;omega⟩,by have:=(h.w w hw).2.1;have:=h.gl;unfold tnF;omega⟩⟩
theorem Fit.gt(h:Fit s goal B T):tnT goal:=⟨by have:=h.g.1;omega,fun t ht=>by have:=h.g.2 t ht;have:=h.gl;unfold tnF;omega⟩
theorem Fit.nil(h:Fit s goal B T):Fit s [] B T:=⟨h.l,h.n,h.t,h.w,⟨by simp,fun t ht=>by cases ht⟩,h.b,h.gl⟩
end
theorem Zhj(P:Dic×(Nat→Nat×Bool)→Prop)(g:Nat→Rat)(s:SysD)(h0:P (dicZ s.n.toNat g,fun _=>(0,false)))(h:∀ x k w b,P x→s.r[k]? =some w→P (addP w k b x)):∀ k,P (ZbO g s k)
 | 0=>h0
 | k+1=>by
   have ih:=Zhj P g s h0 h k
   simp only[ZbO]
   split
   ·rename_i w hw
    unfold putP
    simp only
    split<;>split
    ·exact ih
    ·exact h _ _ _ _ ih hw
    ·exact h _ _ _ _ ih hw
    ·exact h _ _ _ _ (h _ _ _ _ ih hw) hw
   ·exact ih
theorem Zbg(s:SysD)(goal:List Zaf):(ZaZ s goal).1.First:=by
 refine⟨?_,fun j _=>by unfold ZaZ;rw[Zhk]⟩
 refine Zhj (fun x=>∀ i,i<x.1.m→x.1.own i=x.1.n+i) _ s (fun i hi=>absurd hi (Nat.not_lt_zero _)) (fun x k w b ih _ i hi=>?_) s.r.length
 simp only[addP,ZeQ]at hi ⊢
 by_cases e:i=x.1.m
 ·rw[if_pos e,e]
 ·rw[if_neg e];exact ih i (by omega)
theorem ZgH(s:SysD)(goal:List Zaf):∀ i,i<(ZaZ s goal).1.m→((ZaZ s goal).2 i).1<s.r.length:=by
 refine Zhj (fun x=>∀ i,i<x.1.m→(x.2 i).1<s.r.length) _ s (fun i hi=>absurd hi (Nat.not_lt_zero _)) (fun x k w b ih hw i hi=>?_) s.r.length
 simp only[addP,ZeQ]at hi ⊢
 by_cases e:i=x.1.m
 ·rw[if_pos e];exact(Ya3.1 hw).1
 ·rw[if_neg e];exact ih i (by omega)
theorem ZdW(s:SysD)(goal:List Zaf):(ZaZ s goal).1.n=s.n.toNat:=Zlv _ _ _
theorem ZnA(s:SysD)(goal:List Zaf):(ZaZ s goal).1.m=(ZbO (fun _=>0) s s.r.length).1.m:=by rw[Zsw];rfl
theorem Znz(s:SysD)(goal:List Zaf):(ZaZ s goal).1.m≤2*s.r.length:=Zny _ _ _
theorem Zyc{l:List Zaf}{n:Int}(h:Zai l n=true){B:Nat}(hB:1≤B)(hs:∀ t∈l,szF t.f≤B)(u:Nat):szQ (Za4 l u)≤B:=by
 by_cases he:∃ t∈l,t.v.toNat=u
 ·obtain⟨t,ht,rfl⟩:=he
  obtain⟨i,hi⟩:=List.getElem?_of_mem ht
  obtain⟨h0,h1,h2,h3⟩:=Za6 h ht
  rw[Zrq h hi h0,Zcl h2];exact hs t ht
 ·have h0:∀ k,k≤l.length→Za4 (l.take k) u=0:=by
   intro k
   induction k with
   | zero=>intro _;simp only[List.take_zero,Za4,dotS]
   | succ k ih =>
     intro hk
     obtain⟨t,ht⟩:=getE (l:=l) (k:=k) (by omega)
     have ht0:=(Za6 h (ZaL ht)).1
     rw[ZfG ht ht0,ih (by omega),if_neg (fun e=>he ⟨t,ZaL ht,e.symm⟩)];grind
  have:=h0 l.length (Ya4 _)
  rw[Yc2]at this
  rw[this];have:=sz_0;omega
theorem ZfX{s:SysD}{goal:List Zaf}{B T:Nat}(h:Fit s goal B T)(hr:ZaB s=true)(hg:Zai goal s.n=true):(ZaZ s goal).1.Sized szQ B:=by
 have hB:=h.b
 have key:(∀ i,i<(ZaZ s goal).1.m→szQ ((ZaZ s goal).1.v i)≤B)∧∀ i j,i<(ZaZ s goal).1.m→szQ ((ZaZ s goal).1.a i j)≤B:=by
  refine Zhj (fun x=>(∀ i,i<x.1.m→szQ (x.1.v i)≤B)∧∀ i j,i<x.1.m→szQ (x.1.a i j)≤B) _ s ⟨fun i hi=>absurd hi (Nat.not_lt_zero _),fun i j hi=>absurd hi (Nat.not_lt_zero _)⟩ (fun x k w b ih hw=>?_) s.r.length
  have hm:=ZaL hw
  have h1:=Zcz hr hm
  have h2:=h.w w hm
  refine⟨fun i hi=>?_,fun i j hi=>?_⟩
  ·simp only[addP,ZeQ]at hi ⊢
   by_cases e:i=x.1.m
   ·rw[if_pos e]
    have:szQ (qOf w.v)≤B:=by rw[Zcl h1.2.2.2];exact h2.2.1
    unfold sgQ';split
    ·rw[Zdt];exact this
    ·exact this
   ·rw[if_neg e];exact ih.1 i (by omega)
  ·simp only[addP,ZeQ]at hi ⊢
   by_cases e:i=x.1.m
   ·rw[if_pos e]
    have:=Zyc h1.1 (B:=B) hB h2.2.2 j
    unfold sgQ';split
    ·rw[Zdt];exact this
    ·exact this
   ·rw[if_neg e];exact ih.2 i j (by omega)
 refine⟨key.1,fun i j hi _=>key.2 i j hi,fun j _=>?_⟩
 unfold ZaZ
 rw[ZiL]
 rw[Zdt]
 exact Zyc hg hB h.g.2 j
theorem ZdY(s:SysD)(goal:List Zaf):(fin s goal).m=(ZaZ s goal).1.m:=(Zhp (Zbg s goal).part).m.symm
theorem ZcK(s:SysD)(goal:List Zaf):(fin s goal).n=s.n.toNat:=(Zhp (Zbg s goal).part).n.symm.trans (ZdW s goal)
theorem Zcn(s:SysD)(goal:List Zaf):(fin s goal).Part:=ZuS (Zbg s goal).part
theorem ZfB(s:SysD)(goal:List Zaf):ZhM (fin s goal):=Zil (Zbg s goal).part
theorem ZcR{s:SysD}{goal:List Zaf}{B T:Nat}(h:Fit s goal B T)(hr:ZaB s=true)(hg:Zai goal s.n=true):(fin s goal).Sized szQ (Dic.grow B T):=by
 have h0:=Zb7 hr
 exact Dic.small szFn (Zbg s goal) h.b (ZfX h hr hg) (Zcn s goal) (Zhp (Zbg s goal).part) (t:=T) (by
  rw[ZcK,ZdY,ZnA]
  rcases h.t hr with h1|h1
  ·exact .inl (by omega)
  ·exact .inr h1)
theorem Zhh{s:SysD}{goal:List Zaf}{B T:Nat}(h:Fit s goal B T)(hr:ZaB s=true)(hg:Zai goal s.n=true):∀ i,i≤(fin s goal).m→∀ u,szQ (Za3 (fin s goal) i u)≤Dic.grow B T
 | 0,_,u=>by have:=sz_0;have:=h.b;have:=ZlL B T;simp only[Za3];omega
 | i+1,hi,u=>by
   simp only[Za3]
   split
   ·exact(ZcR h hr hg).v i (by omega)
   ·exact Zhh h hr hg i (by omega) u
theorem ZA7{s:SysD}{goal:List Zaf}{B T:Nat}(h:Fit s goal B T)(hr:ZaB s=true)(hg:Zai goal s.n=true){c:Nat}(hc:c<(fin s goal).n):∀ i,i≤(fin s goal).m→∀ u,szQ (rayK (fin s goal) c i u)≤Dic.grow B T
 | 0,_,u=>by
   have:=h.b
   have:=ZlL B T
   have h0:=sz_0
   have h1:=sz_1
   simp only[rayK]
   split<;>omega
 | i+1,hi,u=>by
   simp only[rayK]
   split
   ·rw[Zdt];exact(ZcR h hr hg).a i c (by omega) hc
   ·exact ZA7 h hr hg hc i (by omega) u
theorem ZfO{n:Nat}{c:Nat→Rat}(hn:n≤64)(h:∀ u,szQ (c u)≤262144):tnFs (Zam n c):=by
 refine⟨by rw[ZeE];omega,fun f hf=>?_⟩
 obtain⟨u,_,rfl⟩:=Zi5 hf
 have:=h u
 unfold szQ at this
 unfold tnF;omega
theorem ZaM.nil2[Ifl]{P:Program}{f:FuncId}{a:D}{m:Mem}{nx:Nat}{K:D→Mem→Nat→Prop}(h:ZaM P f [a,.sl []] m nx K):ZaM P f [a,.nil] m nx K:=by
 refine⟨h.1,fun E β w vs hM hvs=>h.2 E β w vs hM ⟨hvs.1,fun i y d hy hd=>?_⟩⟩
 match i,hd with
 | 0,hd=>exact hvs.2 0 y d hy hd
 | 1,hd =>
   cases hd
   exact Zdw (hvs.2 1 y .nil hy rfl).inv_nil
 | i+2,hd=>cases hd
abbrev sysB(s:SysD):Blk:=⟨99,0,2,[cS s],0,false⟩
abbrev optB:Blk:=⟨157,0,8,[[dI 0,dI 0,.nil,dI 0,.nil,.nil,.nil,.nil]],0,false⟩
abbrev m0B(s:SysD):Mem:=upd (upd noM 0 (some (sysB s))) 1 (some optB)
theorem ZnU{s:SysD}{id:Nat}{b:Blk}(h:m0B s id=some b):(id=0∧b=sysB s)∨(id=1∧b=optB):=by
 simp only[m0B,ZaF]at h
 by_cases e1:id=1
 ·rw[if_pos e1]at h;cases h;exact .inr ⟨e1,rfl⟩
 ·rw[if_neg e1]at h
  by_cases e0:id=0
  ·rw[if_pos e0]at h;cases h;exact .inl ⟨e0,rfl⟩
  ·rw[if_neg e0]at h;cases h
theorem Zq6(s:SysD):∀ id b,m0B s id=some b→Zav (fun i=>(m0B s i).isSome) b:=by
 intro id b h
 rcases ZnU h with⟨_,rfl⟩|⟨_,rfl⟩
 ·intro e he;rw[List.mem_singleton.1 he];rfl
 ·intro e he;rw[List.mem_singleton.1 he];rfl
theorem Zlz{d:Dic}{r:Nat}(h:next d = .row r):r<d.m∧True:=by
 refine⟨?_,trivial⟩
 unfold next at h
 have key:∀ k,pick d.own (fun i=>neg' (d.v i)) d.m=some k→ZbJ d k = .row r→r<d.m:=by
  intro k hk hr
  unfold ZbJ at hr
  split at hr
  ·cases hr;exact(Zba hk).1
  ·cases hr
 have hc:∀ k,ZbK d k ≠ .row r:=by
  intro k hr
  unfold ZbK at hr
  split at hr<;>cases hr
 split at h
 ·cases h
 ·rename_i hr _;exact key _ hr h
 ·rename_i hr _
  split at h
  ·exact key _ hr h
  ·exact absurd h (hc _)
 ·exact absurd h (hc _)
theorem ZqZ{d:Dic}{c:Nat}(h:next d = .col c):c<d.n:=by
 unfold next at h
 have key:∀ k,pick d.free (fun j=>pos' (d.g j)) d.n=some k→ZbK d k = .col c→c<d.n:=by
  intro k hk hr
  unfold ZbK at hr
  split at hr
  ·cases hr;exact(Zba hk).1
  ·cases hr
 have hc:∀ k,ZbJ d k ≠ .col c:=by
  intro k hr
  unfold ZbJ at hr
  split at hr<;>cases hr
 split at h
 ·cases h
 ·exact absurd h (hc _)
 ·rename_i hs
  split at h
  ·exact absurd h (hc _)
  ·exact key _ hs h
 ·rename_i hs;exact key _ hs h
theorem ZnW(s:SysD)(goal:List Zaf){B T:Nat}(h:Fit s goal B T):Zah Tryz.prog 87 [encS s,Zbk goal] (.tup [encO (ZbU s goal).1,dI (ZbU s goal).2]):=by
 refine Zah.ofA ?_
 have hG:=h.gl
 have Zr:=Tryz.results87
 refine inA Tryz.func87 rfl Tryz.ntmps87 ?_
 have k1:=ZiX s h.tn.sm
 have k2:=Ze3 goal s.n h.gt.sm
 cases hr:ZaB s with
 | false =>
   have e1:ZbU s goal=(⟨0,zF,[],[],[]⟩,1):=by unfold ZbU;rw[hr];rfl
   rw[hr]at k1
   rw[e1]
   refine aGoM (cj2 Zr ZaR) ?_
   repeat with_reducible intro K hK
   rfl
 | true =>
   cases hg:Zai goal s.n with
   | false =>
     have e1:ZbU s goal=(⟨0,zF,[],[],[]⟩,1):=by unfold ZbU;rw[hr,hg];rfl
     rw[hr]at k1
     rw[hg]at k2
     rw[e1]
     refine aGoM (cj2 Zr ZaR) ?_
     repeat with_reducible intro K hK
     rfl
   | true =>
     have e1:ZbU s goal=(ZaJ s goal,0):=by unfold ZbU;rw[hr,hg];rfl
     rw[hr]at k1
     rw[hg]at k2
     rw[e1]
     refine aGoM (cj2 Zr ZaR) ?_
     repeat with_reducible intro K hK
     have hl1:=h.l
     have hn1:=h.n hr
     have hn0:=(Zb7 hr).1
     refine ZaQ (ZwD s goal _ _ hr hg h.tn.sm h.gt.sm (by omega)) ?_
     rintro _ m1 nx1 ⟨I,rfl,hnx1,hD1,ap1,hlo1,hfr1⟩
     refine aGoM (cj2 Zr ZaR) ?_
     repeat(first|(guard_target =~ ∀ _:St→Prop,_;intro KJ hJ)|(guard_target =~ ∀ _:List Ev→St→Prop,_;intro K hK))
     have dm:=Znz s goal
     have dn:=ZdW s goal
     have hsz:=ZfX h hr hg
     have ht:(ZaZ s goal).1.n≤T∨(ZaZ s goal).1.m≤T:=by rw[ZdW,ZnA];rcases h.t hr with h1|h1;exact .inl (by omega);exact .inr h1
     refine ZaQ (Znn hD1 ap1 (Zbg s goal) (by omega) (by omega) h.b (by omega:(Dic.grow B T:Int)≤536870912) ht hsz) ?_
     rintro _ m2 nx2 ⟨rfl,hnx2,hD2,hfr2⟩
     have hen:=ZfB s goal
     have hD3:Zbi m2 I (fin s goal) (ZbG s goal):=hD2
     rw[show ZfA (ZaZ s goal).1=fin s goal from rfl]
     have hM2:∀ id b,m0B s id=some b→m2 id=some b∧id<2∧¬ inD I (fin s goal).m id:=by
      intro id b hb
      have hid:id<2:=by rcases ZnU hb with⟨rfl,_⟩|⟨rfl,_⟩<;>decide
      have hnin:¬ inD I (ZaZ s goal).1.m id:=fun h=>by have:=hlo1 id h;omega
      refine⟨?_,hid,by rw[ZdY];exact hnin⟩
      rw[hfr2 id (by omega) hnin,hfr1 id hid];exact hb
     have tI0:(0:Int)≤s.r.length:=by omega
     cases hn:next (fin s goal)with
     | ex r c=>exact absurd hn (hen r c)
     | best =>
       simp only[Zkd]
       simp only[go_sem,↓reduceIte,Zr]
       refine hJ _ ?_
       refine aLe (Zey hD3 6 rfl [(1,Zbk goal),(2,.lp 0 0 0 0),(4,.lp 1 0 0 0),(5,dI 0),(7,dI (-1)),(8,dI (-1))] (m0B s) 2 hM2 (Zq6 s) (by simp[go_sem,okD]) rfl) ?_
       have kp:=Znu (fin s goal) (ZbG s goal) (by rw[ZdY];omega) (by rw[ZcK];omega)
       rw[ZcK,Zde]at kp
       have sX:smFs (Zam s.n.toNat (Za3 (fin s goal) (fin s goal).m)):=(ZfO (by omega) fun u=>by have:=Zhh h hr hg _ (Ya4 _) u;omega).sm
       have kv:=ZnY goal _ h.gt.sm sX
       have kq:=Zzt (fin s goal) (ZbG s goal) s.r.length (by rw[ZdY];omega) (by rw[ZcK];omega) (by omega) (fun j hj=>(Zcn s goal).free_lt j hj) (fun i hi=>ZgH s goal i (by rw[← ZdY];exact hi)) (fun j hj=>by have:=(ZcR h hr hg).g j hj;omega)
       rw[ZcK,Zde]at kq
       have e3:s.n=((fin s goal).n:Int):=by rw[ZcK];omega
       have eL:ZaJ s goal=⟨0,(ZbW goal (Zam s.n.toNat (Za3 (fin s goal) (fin s goal).m))).1,Zam s.n.toNat (Za3 (fin s goal) (fin s goal).m),Zam s.r.length (Zbn (fin s goal) (ZbG s goal) s.n.toNat),[]⟩:=by
        unfold ZaJ;rw[hn]
       rw[eL]
       clear eL e1 hn hen hD2 hD3 hfr2 hM2 hJ hK hsz ht
       generalize Zam s.n.toNat (Za3 (fin s goal) (fin s goal).m)=X at *
       generalize Zam s.r.length (Zbn (fin s goal) (ZbG s goal) s.n.toNat)=Y at *
       generalize fin s goal=F at *
       refine aGo (cj3 Zr ZaR tI0) ?_
       rfl
     | row r =>
       obtain⟨hrm,hrow⟩:=Zlz hn
       simp only[Zkd]
       simp only[go_sem,↓reduceIte,Zr]
       refine hJ _ ?_
       refine aLe (Zey hD3 6 rfl [(1,Zbk goal),(2,.lp 0 0 0 0),(4,.lp 1 0 0 0),(5,dI 0),(7,dI r),(8,dI (-1))] (m0B s) 2 hM2 (Zq6 s) (by simp[go_sem,okD]) rfl) ?_
       have kq:=Zj5 (fin s goal) (ZbG s goal) s.r.length r hrm (by rw[ZdY];omega) (by rw[ZcK];omega) (by omega) ((Zcn s goal).own_lt r hrm) (fun j hj=>(Zcn s goal).free_lt j hj) (fun i hi=>ZgH s goal i (by rw[← ZdY];exact hi)) (fun j hj=>by have:=(ZcR h hr hg).a r j hrm hj;omega)
       rw[ZcK,Zde]at kq
       have eL:ZaJ s goal=⟨1,zF,[],Zam s.r.length (refK (fin s goal) (ZbG s goal) r s.n.toNat),[]⟩:=by
        unfold ZaJ;rw[hn]
       rw[eL]
       clear eL e1 hn hen hD2 hD3 hfr2 hM2 hJ hK hsz ht
       generalize Zam s.r.length (refK (fin s goal) (ZbG s goal) r s.n.toNat)=Y at *
       generalize fin s goal=F at *
       have r0:(0:Int)≤r:=by omega
       refine aGo (cj4 Zr ZaR tI0 r0) ?_
       rfl
     | col c =>
       have hcn:=ZqZ hn
       simp only[Zkd]
       simp only[go_sem,↓reduceIte,Zr]
       refine hJ _ ?_
       refine aLe (Zey hD3 6 rfl [(2,.lp 0 0 0 0),(4,.lp 1 0 0 0),(5,dI 0),(8,dI c)] (m0B s) 2 hM2 (Zq6 s) (by simp[go_sem,okD]) rfl) ?_
       have c0:(0:Int)≤c:=by omega
       clear hD3 hfr2 hM2 hJ hK hsz ht hD1 ap1 hlo1 hfr1 hD2
       refine aGoM (cj3 Zr ZaR c0) ?_
       repeat with_reducible intro K hK
       have hf0:=h.nil
       have hg0:Zai [] s.n=true:=by simp only[Zai,Ya2,decide_eq_true_eq];exact⟨hn0,rfl⟩
       refine ZaQ (ZaM.nil2 (ZwD s [] _ _ hr hg0 h.tn.sm hf0.gt.sm (by omega))) ?_
       rintro _ m1 nx1 ⟨I,rfl,hnx1,hD1,ap1,hlo1,hfr1⟩
       refine aGoM (cj2 Zr ZaR) ?_
       repeat(first|(guard_target =~ ∀ _:St→Prop,_;intro KJ hJ)|(guard_target =~ ∀ _:List Ev→St→Prop,_;intro K hK))
       have dm2:=Znz s []
       have dn2:=ZdW s []
       have hsz:=ZfX hf0 hr hg0
       have ht:(ZaZ s []).1.n≤T∨(ZaZ s []).1.m≤T:=by rw[ZdW,ZnA];rcases h.t hr with h1|h1;exact .inl (by omega);exact .inr h1
       refine ZaQ (Znn hD1 ap1 (Zbg s []) (by omega) (by omega) h.b (by omega:(Dic.grow B T:Int)≤536870912) ht hsz) ?_
       rintro _ m2 nx2 ⟨rfl,hnx2,hD2,hfr2⟩
       have henE:=ZfB s []
       have hD3:Zbi m2 I (fin s []) (ZbG s []):=hD2
       rw[show ZfA (ZaZ s []).1=fin s []from rfl]
       have hM2:∀ id b,m0B s id=some b→m2 id=some b∧id<2∧¬ inD I (fin s []).m id:=by
        intro id b hb
        have hid:id<2:=by rcases ZnU hb with⟨rfl,_⟩|⟨rfl,_⟩<;>decide
        have hnin:¬ inD I (ZaZ s []).1.m id:=fun h=>by have:=hlo1 id h;omega
        refine⟨?_,hid,by rw[ZdY];exact hnin⟩
        rw[hfr2 id (by omega) hnin,hfr1 id hid];exact hb
       cases hnE:next (fin s [])with
       | ex r c=>exact absurd hnE (henE r c)
       | best =>
         simp only[Zkd]
         simp only[go_sem,↓reduceIte,Zr]
         refine hJ _ ?_
         refine aLe (Zey hD3 9 rfl [(2,.lp 0 0 0 0),(4,.lp 1 0 0 0),(5,dI 0),(6,ZcG (fin s goal) (ZbG s goal)),(8,dI c),(10,dI (-1)),(11,dI (-1))] (m0B s) 2 hM2 (Zq6 s) (by simp[go_sem,okD]) rfl) ?_
         have kp:=Znu (fin s []) (ZbG s []) (by rw[ZdY];omega) (by rw[ZcK];omega)
         rw[ZcK,Zde]at kp
         have kr:=ZEo (fin s goal) (ZbG s goal) hcn (by rw[ZdY];omega) (by rw[ZcK];omega) (fun i hi=>by have:=(ZcR h hr hg).a i c hi hcn;omega)
         rw[ZcK,Zde]at kr
         have eL:ZaJ s goal=⟨2,zF,Zam s.n.toNat (Za3 (fin s []) (fin s []).m),[],Zam s.n.toNat (rayK (fin s goal) c (fin s goal).m)⟩:=by
          unfold ZaJ;rw[hn];simp only[hnE]
         rw[eL]
         clear eL e1 hn hnE hen henE hD2 hD3 hfr2 hM2 hJ hK hsz ht
         generalize Zam s.n.toNat (Za3 (fin s []) (fin s []).m)=X at *
         generalize Zam s.n.toNat (rayK (fin s goal) c (fin s goal).m)=R at *
         generalize fin s goal=F at *
         generalize fin s []=G at *
         refine aGo (cj4 Zr ZaR tI0 c0) ?_
         rfl
       | col c2 =>
         have c20:(0:Int)≤c2:=by omega
         simp only[Zkd]
         simp only[go_sem,↓reduceIte,Zr]
         refine hJ _ ?_
         refine aLe (Zey hD3 9 rfl [(2,.lp 0 0 0 0),(4,.lp 1 0 0 0),(5,dI 0),(6,ZcG (fin s goal) (ZbG s goal)),(8,dI c),(10,dI (-1)),(11,dI c2)] (m0B s) 2 hM2 (Zq6 s) (by simp[go_sem,okD]) rfl) ?_
         have kp:=Znu (fin s []) (ZbG s []) (by rw[ZdY];omega) (by rw[ZcK];omega)
         rw[ZcK,Zde]at kp
         have kr:=ZEo (fin s goal) (ZbG s goal) hcn (by rw[ZdY];omega) (by rw[ZcK];omega) (fun i hi=>by have:=(ZcR h hr hg).a i c hi hcn;omega)
         rw[ZcK,Zde]at kr
         have eL:ZaJ s goal=⟨2,zF,Zam s.n.toNat (Za3 (fin s []) (fin s []).m),[],Zam s.n.toNat (rayK (fin s goal) c (fin s goal).m)⟩:=by
          unfold ZaJ;rw[hn];simp only[hnE]
         rw[eL]
         clear eL e1 hn hnE hen henE hD2 hD3 hfr2 hM2 hJ hK hsz ht
         generalize Zam s.n.toNat (Za3 (fin s []) (fin s []).m)=X at *
         generalize Zam s.n.toNat (rayK (fin s goal) c (fin s goal).m)=R at *
         generalize fin s goal=F at *
         generalize fin s []=G at *
         refine aGo (cj4 Zr ZaR tI0 c0) ?_
         rfl
       | row r =>
         obtain⟨hrm,hrow⟩:=Zlz hnE
         simp only[Zkd]
         simp only[go_sem,↓reduceIte,Zr]
         refine hJ _ ?_
         refine aLe (Zey hD3 9 rfl [(2,.lp 0 0 0 0),(4,.lp 1 0 0 0),(5,dI 0),(6,ZcG (fin s goal) (ZbG s goal)),(8,dI c),(10,dI r),(11,dI (-1))] (m0B s) 2 hM2 (Zq6 s) (by simp[go_sem,okD]) rfl) ?_
         have kq:=Zj5 (fin s []) (ZbG s []) s.r.length r hrm (by rw[ZdY];omega) (by rw[ZcK];omega) (by omega) ((Zcn s []).own_lt r hrm) (fun j hj=>(Zcn s []).free_lt j hj) (fun i hi=>ZgH s [] i (by rw[← ZdY];exact hi)) (fun j hj=>by have:=(ZcR hf0 hr hg0).a r j hrm hj;omega)
         rw[ZcK,Zde]at kq
         have eL:ZaJ s goal=⟨1,zF,[],Zam s.r.length (refK (fin s []) (ZbG s []) r s.n.toNat),[]⟩:=by
          unfold ZaJ;rw[hn];simp only[hnE]
         clear e1 hn hnE hen henE hD2 hD3 hfr2 hM2 hJ hK hsz ht
         generalize Zam s.r.length (refK (fin s []) (ZbG s []) r s.n.toNat)=Y at *
         generalize fin s goal=F at *
         generalize fin s []=G at *
         have r0:(0:Int)≤r:=by omega
         have r1:¬ (r:Int)<0:=by omega
         refine aGo (cj4 Zr ZaR tI0 (cj3 c0 r0 r1)) ?_
         rw[eL]
         rfl
theorem Zwp{x:Dic×(Nat→Nat×Bool)}{row:Nat}{w:RowD}(h:w.k=0):putP x row w=addP w row true x:=by unfold putP;simp[h]
theorem Zwo{x:Dic×(Nat→Nat×Bool)}{row:Nat}{w:RowD}(h:w.k=1):putP x row w=addP w row false x:=by unfold putP;simp[h]
theorem Zwn{x:Dic×(Nat→Nat×Bool)}{row:Nat}{w:RowD}(h0:w.k≠0)(h1:w.k≠1):putP x row w=addP w row true (addP w row false x):=by unfold putP;simp[h0,h1]
theorem Zh9(P:Dic×(Nat→Nat×Bool)→Prop)(g:Nat→Rat)(s:SysD)(h0:P (dicZ s.n.toNat g,fun _=>(0,false)))
 (h:∀ x k w b,P x→s.r[k]? =some w→(b=false→w.k≠0)→(b=true→w.k≠1)→P (addP w k b x)):∀ k,P (ZbO g s k)
 | 0=>h0
 | k+1=>by
   have ih:=Zh9 P g s h0 h k
   simp only[ZbO]
   split
   ·rename_i w hw
    by_cases e0:w.k=0
    ·rw[Zwp e0];exact h _ _ _ _ ih hw (fun e=>by cases e) (fun _=>by omega)
    ·by_cases e1:w.k=1
     ·rw[Zwo e1];exact h _ _ _ _ ih hw (fun _=>e0) (fun e=>by cases e)
     ·rw[Zwn e0 e1];exact h _ _ _ _ (h _ _ _ _ ih hw (fun _=>e0) (fun e=>by cases e)) hw (fun e=>by cases e) (fun _=>e1)
   ·exact ih
theorem ZiM(s:SysD)(goal:List Zaf):∀ k,k<(ZaZ s goal).1.m→∃ w,s.r[((ZaZ s goal).2 k).1]? =some w∧(ZaZ s goal).1.v k=sgQ' ((ZaZ s goal).2 k).2 (qOf w.v)∧((ZaZ s goal).1.a k=fun j=>sgQ' ((ZaZ s goal).2 k).2 (Za4 w.t j)) ∧
 (((ZaZ s goal).2 k).2=false→w.k≠0)∧(((ZaZ s goal).2 k).2=true→w.k≠1):=by
 refine Zh9 (fun x=>∀ k,k<x.1.m→∃ w,s.r[(x.2 k).1]? =some w∧x.1.v k=sgQ' (x.2 k).2 (qOf w.v)∧(x.1.a k=fun j=>sgQ' (x.2 k).2 (Za4 w.t j))∧((x.2 k).2=false→w.k≠0)∧((x.2 k).2=true→w.k≠1)) _ s
  (fun i hi=>absurd hi (Nat.not_lt_zero _)) (fun x k w b ih hw h1 h2 i hi=>?_) s.r.length
 simp only[addP,ZeQ]at hi ⊢
 by_cases e:i=x.1.m
 ·simp only[if_pos e];exact⟨w,hw,rfl,rfl,h1,h2⟩
 ·simp only[if_neg e];exact ih i (by omega)
theorem Zkk(x:Dic×(Nat→Nat×Bool))(row:Nat)(w:RowD)(b:Bool):(addP w row b x).1.m=x.1.m+1:=rfl
theorem Zjj{x:Dic×(Nat→Nat×Bool)}(row:Nat)(w:RowD)(b:Bool){k:Nat}(h:k<x.1.m):(addP w row b x).2 k=x.2 k:=by
 show(if k=x.1.m then(row,b)else x.2 k)=x.2 k
 rw[if_neg (by omega)]
theorem ZkQ(x:Dic×(Nat→Nat×Bool))(row:Nat)(w:RowD)(b:Bool):(addP w row b x).2 x.1.m=(row,b):=by
 show(if x.1.m=x.1.m then(row,b)else x.2 x.1.m)=(row,b)
 rw[if_pos rfl]
theorem Zwm(x:Dic×(Nat→Nat×Bool))(row:Nat)(w:RowD):x.1.m≤(putP x row w).1.m∧∀ k,k<x.1.m→(putP x row w).2 k=x.2 k:=by
 by_cases e0:w.k=0
 ·rw[Zwp e0];exact⟨Nat.le_succ _,fun k hk=>Zjj _ _ _ hk⟩
 ·by_cases e1:w.k=1
  ·rw[Zwo e1];exact⟨Nat.le_succ _,fun k hk=>Zjj _ _ _ hk⟩
  ·rw[Zwn e0 e1]
   exact⟨by rw[Zkk,Zkk];omega,fun k hk=>(Zjj _ _ _ (by rw[Zkk];omega)).trans (Zjj _ _ _ hk)⟩
theorem Zzs(x:Dic×(Nat→Nat×Bool))(row:Nat)(w:RowD):(w.k≠0→∃ k,k<(putP x row w).1.m∧(putP x row w).2 k=(row,false))∧(w.k≠1→∃ k,k<(putP x row w).1.m∧(putP x row w).2 k=(row,true)):=by
 by_cases e0:w.k=0
 ·rw[Zwp e0];exact⟨fun h=>absurd e0 h,fun _=>⟨x.1.m,Nat.lt_succ_self _,ZkQ _ _ _ _⟩⟩
 ·by_cases e1:w.k=1
  ·rw[Zwo e1];exact⟨fun _=>⟨x.1.m,Nat.lt_succ_self _,ZkQ _ _ _ _⟩,fun h=>absurd e1 h⟩
  ·rw[Zwn e0 e1]
   exact⟨fun _=>⟨x.1.m,by rw[Zkk,Zkk];omega,(Zjj _ _ _ (by rw[Zkk];omega)).trans (ZkQ _ _ _ _)⟩,fun _=>⟨x.1.m+1,by rw[Zkk,Zkk];omega,ZkQ _ _ _ _⟩⟩
theorem Zpi(g:Nat→Rat)(s:SysD):∀ K ρ w,ρ<K→s.r[ρ]? =some w→(w.k≠0→∃ k,k<(ZbO g s K).1.m∧(ZbO g s K).2 k=(ρ,false))∧(w.k≠1→∃ k,k<(ZbO g s K).1.m∧(ZbO g s K).2 k=(ρ,true))
 | 0,_,_,h,_=>absurd h (Nat.not_lt_zero _)
 | K+1,ρ,w,hρ,hw=>by
   simp only[ZbO]
   by_cases e:ρ=K
   ·subst e;rw[hw];exact Zzs _ _ _
   ·have ih:=Zpi g s K ρ w (by omega) hw
    split
    ·rename_i w' _
     obtain⟨k1,k2⟩:=Zwm (ZbO g s K) K w'
     refine⟨fun h=>?_,fun h=>?_⟩
     ·obtain⟨k,h1,h2⟩:=ih.1 h;exact⟨k,by omega,(k2 k h1).trans h2⟩
     ·obtain⟨k,h1,h2⟩:=ih.2 h;exact⟨k,by omega,(k2 k h1).trans h2⟩
    ·exact ih
theorem ZyA(n:Nat)(c:Nat→Rat)(v:Nat)(hv:v<n):atP (Zam n c) v=c v:=by
 unfold atP Zam
 rw[Int.toNat_natCast,Yb8,List.getElem?_range hv]
 exact Zay _
theorem ZpX{l:List Zaf}{n:Nat}(h:Zai l n=true)(c:Nat→Rat):dotD l (Zam n c)=sumN n fun v=>Za4 l v*c v:=by
 rw[Zcu,ZjV _ l (ZgD h)]
 exact Za5 n fun v hv=>by rw[ZyA n c v hv]
theorem Zuc{q:Rat}(h:0≤q):0≤sgnD (ofQ q):=by
 rw[ZbN]
 have:=@ZgA q
 have h2:¬ q<0:=by grind
 have h3:¬ sgQ q<0:=fun h=>h2 (this.1 h)
 omega
section
variable {s:SysD} {goal:List Zaf}
theorem Zr5(hr:ZaB s=true){κ:Rat}{x:Nat→Rat}(hx:(ZaZ s goal).1.Sol κ x)(h0:∀ u,u<s.n.toNat+(ZaZ s goal).1.m→0≤x u):∀ w∈s.r,ZjR w.k (sgQ (dotD w.t (Zam s.n.toNat x)-κ*qOf w.v))=true:=by
 intro w hw
 obtain⟨hwr,hk0,hk3,_⟩:=Zcz hr hw
 obtain⟨ρ,hρ⟩:=List.getElem?_of_mem hw
 have hall:=Zpi (fun j=> -Za4 goal j) s s.r.length ρ w (Ya3.1 hρ).1 hρ
 have hF:=Zbg s goal
 have hn:=ZdW s goal
 have key:∀ k b,k<(ZaZ s goal).1.m→(ZaZ s goal).2 k=(ρ,b)→0≤sgQ' b (qOf w.v)*κ-sgQ' b (dotD w.t (Zam s.n.toNat x)):=by
  intro k b hk hs
  obtain⟨w',hw',hv,ha,_⟩:=ZiM s goal k hk
  rw[hs]at hw' hv ha
  simp only at hw' hv ha
  rw[hρ]at hw'
  cases hw'
  have h1:=hx k hk
  unfold Dic.Row at h1
  rw[hF.own k hk,hn,hv,ha]at h1
  have h2:=h0 (s.n.toNat+k) (by omega)
  rw[h1]at h2
  have e:sumN s.n.toNat (fun j=>sgQ' b (Za4 w.t j)*x ((ZaZ s goal).1.free j))=sgQ' b (dotD w.t (Zam s.n.toNat x)):=by
   rw[ZpX hwr]
   unfold sgQ'
   split
   ·rw[show -sumN s.n.toNat (fun v=>Za4 w.t v*x v)=(-1)*sumN s.n.toNat (fun v=>Za4 w.t v*x v) by grind,← Zd4]
    exact Za5 _ fun j hj=>by rw[hF.free j (by omega)];grind
   ·exact Za5 _ fun j hj=>by rw[hF.free j (by omega)]
  rw[e]at h2
  exact h2
 rw[Zi6 hk0 hk3]
 have a1:w.k≠0→dotD w.t (Zam s.n.toNat x)-κ*qOf w.v≤0:=fun h=>by
  obtain⟨k,h1,h2⟩:=hall.1 h
  have:=key k false h1 h2
  simp only[sgQ']at this;grind
 have a2:w.k≠1→0≤dotD w.t (Zam s.n.toNat x)-κ*qOf w.v:=fun h=>by
  obtain⟨k,h1,h2⟩:=hall.2 h
  have:=key k true h1 h2
  simp only[sgQ']at this;grind
 refine⟨fun h=>a2 (by omega),fun h=>a1 (by omega),fun h=>?_⟩
 have:=a1 (by omega);have:=a2 (by omega);grind
theorem Zka{n:Nat}{x:Nat→Rat}(h:∀ u,u<n→0≤x u):ZhR (Zam n x)=true:=by
 refine Ya6.2 fun f hf=>?_
 obtain⟨u,hu,rfl⟩:=Zi5 hf
 exact decide_eq_true (Zuc (h u hu))
theorem ZvJ(hr:ZaB s=true){x:Nat→Rat}(hx:(ZaZ s goal).1.Sol 1 x)(h0:∀ u,u<s.n.toNat+(ZaZ s goal).1.m→0≤x u):Zap s (Zam s.n.toNat x)=true:=by
 have h1:=Zr5 hr hx h0
 have hn:=(Zb7 hr).1
 simp only[Zap,Ya2,decide_eq_true_eq]
 refine⟨⟨⟨⟨hr,by rw[ZeE];omega⟩,Zcm _ _⟩,Zka fun u hu=>h0 u (by omega)⟩,Ya6.2 fun w hw=>?_⟩
 have:=h1 w hw
 rwa [show(1:Rat)*qOf w.v=qOf w.v by grind]at this
end
theorem Zpf{d:Dic}(hP:d.Part){k:Nat}(hk:k<d.m)(hn:d.own k<d.n):∀ i,k<i→i≤d.m→Za3 d i (d.own k)=d.v k
 | 0,h,_=>absurd h (Nat.not_lt_zero _)
 | i+1,h,hi=>by
   simp only[Za3]
   by_cases e:k=i
   ·subst e;rw[if_pos ⟨hn,rfl⟩]
   ·rw[if_neg (fun h2=>e (hP.own_inj k i hk (by omega) h2.2))]
    exact Zpf hP hk hn i (by omega) (by omega)
theorem ZmE{d:Dic}{u:Nat}:∀ i,(∀ k,k<i→d.own k≠u)→Za3 d i u=0
 | 0,_=>rfl
 | i+1,h=>by
   simp only[Za3]
   rw[if_neg (fun h2=>h i (by omega) h2.2.symm)]
   exact ZmE i fun k hk=>h k (by omega)
theorem ZmF{d:Dic}(hP:d.Part){u:Nat}(hu:u<d.n):Za3 d d.m u=d.base u:=by
 rcases hP.all u (by omega)with⟨i,hi,rfl⟩|⟨j,hj,rfl⟩
 ·rw[Zpf hP hi hu d.m hi (Ya4 _),Dic.base_own hP hi]
 ·rw[ZmE d.m fun k hk=>hP.apart k j hk hj,Dic.base_free hP hj]
theorem Zwk{d:Dic}(hP:d.Part){s k:Nat}(hk:k<d.m)(hn:d.own k<d.n):∀ i,k<i→i≤d.m→rayK d s i (d.own k) = -d.a k s
 | 0,h,_=>absurd h (Nat.not_lt_zero _)
 | i+1,h,hi=>by
   simp only[rayK]
   by_cases e:k=i
   ·subst e;rw[if_pos ⟨hn,rfl⟩]
   ·rw[if_neg (fun h2=>e (hP.own_inj k i hk (by omega) h2.2))]
    exact Zwk hP hk hn i (by omega) (by omega)
theorem Zsn{d:Dic}{s u:Nat}:∀ i,(∀ k,k<i→d.own k≠u)→rayK d s i u=if d.free s<d.n∧u=d.free s then 1 else 0
 | 0,_=>rfl
 | i+1,h=>by
   simp only[rayK]
   rw[if_neg (fun h2=>h i (by omega) h2.2.symm)]
   exact Zsn i fun k hk=>h k (by omega)
theorem ZCo{d:Dic}(hP:d.Part){s u:Nat}(hs:s<d.n)(hu:u<d.n):rayK d s d.m u=d.dir s u:=by
 rcases hP.all u (by omega)with⟨i,hi,rfl⟩|⟨j,hj,rfl⟩
 ·rw[Zwk hP hi hu d.m hi (Ya4 _),Dic.dir_own hP hi hs]
 ·rw[Zsn d.m fun k hk=>hP.apart k j hk hj,Dic.dir_free hP hj]
  by_cases e:j=s
  ·subst e;rw[if_pos ⟨hu,rfl⟩,if_pos rfl]
  ·rw[if_neg (fun h=>e (hP.free_inj j s hj hs h.2)),if_neg e]
theorem Zij{n:Nat}{c e:Nat→Rat}(h:∀ u,u<n→c u=e u):Zam n c=Zam n e:=List.map_congr_left fun u hu=>by rw[h u (Yd2.1 hu)]
theorem ZjW(src:Nat→Nat×Bool)(y rd:Nat→Rat)(k:Nat)(p:Rat){M:Nat}(h:(src k).1<M):sumN M (fun i=>Zcx src y k p i*rd i)=sumN M (fun i=>y i*rd i)-p*sgQ' (src k).2 (rd (src k).1):=by
 have e:(fun i=>Zcx src y k p i*rd i)=fun i=>y i*rd i+(if i=(src k).1 then(if (src k).2 then p else -p)*rd (src k).1 else 0):=by
  funext i
  unfold Zcx
  by_cases e:i=(src k).1
  ·rw[if_pos e,if_pos e,e];grind
  ·rw[if_neg e,if_neg e];grind
 rw[e,ZfQ,Zg8,if_pos h]
 unfold sgQ'
 split<;>grind
section
variable {d:Dic} {src:Nat→Nat×Bool} {M:Nat} {rd A:Nat→Rat} (hP:d.Part) (hs:∀ k,k<d.m→(src k).1<M) (hA:∀ k,k<d.m→A k=sgQ' (src k).2 (rd (src k).1))
include hP hs hA
theorem ZjE:∀ j,j≤d.n→sumN M (fun i=>Zbn d src j i*rd i)=sumN j fun l=>if d.n≤d.free l then d.g l*A (d.free l-d.n)else 0
 | 0,_=>by
   simp only[Zbn,sumN]
   rw[show(fun i=>(0:Rat)*rd i)=fun _=>0 by funext i;grind,Zbs]
 | j+1,hj=>by
   have ih:=ZjE j (by omega)
   have fl:=hP.free_lt j (by omega)
   simp only[Zbn,sumN]
   by_cases e:d.n≤d.free j
   ·simp only[if_pos e]
    rw[ZjW src _ rd _ _ (hs _ (by omega)),ih,hA (d.free j-d.n) (by omega)];grind
   ·simp only[if_neg e]
    rw[ih];grind
theorem ZqJ{r:Nat}(hr:r<d.m):∀ j,j≤d.n→sumN M (fun i=>refK d src r j i*rd i)=(if d.n≤d.own r then -A (d.own r-d.n)else 0)-sumN j fun l=>if d.n≤d.free l then d.a r l*A (d.free l-d.n)else 0
 | 0,_=>by
   have ol:=hP.own_lt r hr
   have z:sumN M (fun i=>(0:Rat)*rd i)=0:=by rw[show(fun i=>(0:Rat)*rd i)=fun _=>0 by funext i;grind,Zbs]
   simp only[refK,sumN]
   by_cases e:d.n≤d.own r
   ·simp only[if_pos e]
    rw[ZjW src _ rd _ _ (hs _ (by omega)),z,hA _ (by omega)];grind
   ·simp only[if_neg e]
    rw[z];grind
 | j+1,hj=>by
   have ih:=ZqJ hr j (by omega)
   have fl:=hP.free_lt j (by omega)
   simp only[refK,sumN]
   by_cases e:d.n≤d.free j
   ·simp only[if_pos e]
    rw[ZjW src _ rd _ _ (hs _ (by omega)),ih,hA (d.free j-d.n) (by omega)];grind
   ·simp only[if_neg e]
    rw[ih];grind
end
def rdG(s:SysD)(g:Int→Rat)(i:Nat):Rat:=match s.r[i]? with
 | some w=>dotS g w.t
 | none=>0
def rdV(s:SysD)(i:Nat):Rat:=match s.r[i]? with
 | some w=>qOf w.v
 | none=>0
theorem ZlO{n k:Nat}(c:Nat→Rat)(h:k<n):(Zam n c)[k]? =some (ofQ (c k)):=by
 unfold Zam;rw[Yb8,List.getElem?_range h];rfl
theorem Zps(s:SysD)(g:Int→Rat)(y:Nat→Rat):mixG g s.r (Zam s.r.length y)=sumN s.r.length fun i=>y i*rdG s g i:=by
 have h:∀ k,k≤s.r.length→mixG g (s.r.take k) ((Zam s.r.length y).take k)=sumN k fun i=>y i*rdG s g i:=by
  intro k
  induction k with
  | zero=>intro _;rw[List.take_zero,ZiV];rfl
  | succ k ih =>
    intro hk
    obtain⟨w,hw⟩:=getE (l:=s.r) (k:=k) (by omega)
    rw[ZiW g _ _ k w _ hw (ZlO y (by omega)),ih (by omega),Zay]
    simp only[sumN,rdG,hw]
 have:=h s.r.length (Ya4 _)
 rwa [Yc2,Ya8 (by rw[ZeE];exact Ya4 _)]at this
theorem ZmO(s:SysD)(y:Nat→Rat):mixV s.r (Zam s.r.length y)=sumN s.r.length fun i=>y i*rdV s i:=by
 have h:∀ k,k≤s.r.length→mixV (s.r.take k) ((Zam s.r.length y).take k)=sumN k fun i=>y i*rdV s i:=by
  intro k
  induction k with
  | zero=>intro _;rw[List.take_zero,ZkF];rfl
  | succ k ih =>
    intro hk
    obtain⟨w,hw⟩:=getE (l:=s.r) (k:=k) (by omega)
    rw[ZkG _ _ k w _ hw (ZlO y (by omega)),ih (by omega),Zay]
    simp only[sumN,rdV,hw]
 have:=h s.r.length (Ya4 _)
 rwa [Yc2,Ya8 (by rw[ZeE];exact Ya4 _)]at this
def Zu7(s:SysD)(y:Nat→Rat):Prop:=∀ i w,s.r[i]? =some w→(w.k=0→0≤y i)∧(w.k=1→y i≤0)
theorem Zjv(s:SysD):Zu7 s fun _=>0:=fun _ _ _=>⟨fun _=>by grind,fun _=>by grind⟩
theorem Zgx{s:SysD}{goal:List Zaf}{y:Nat→Rat}(h:Zu7 s y){k:Nat}(hk:k<(ZaZ s goal).1.m){p:Rat}(hp:0≤p):Zu7 s (Zcx (ZbG s goal) y k p):=by
 intro i w hw
 unfold Zcx
 by_cases e:i=(ZbG s goal k).1
 ·rw[if_pos e]
  obtain⟨w',hw',_,_,h1,h2⟩:=ZiM s goal k hk
  have hi:s.r[i]? =some w':=by rw[e];exact hw'
  rw[hw]at hi
  cases hi
  have:=h i w hw
  cases hb:(ZaZ s goal).2 k with
  | mk a b =>
    rw[hb]at h1 h2
    cases b with
    | false =>
      simp only[ZbG,hb,Bool.false_eq_true,if_false]
      exact⟨fun h0=>absurd h0 (h1 rfl),fun h0=>by have:=this.2 h0;grind⟩
    | true =>
      simp only[ZbG,hb,if_true]
      exact⟨fun h0=>by have:=this.1 h0;grind,fun h0=>absurd h0 (h2 rfl)⟩
 ·rw[if_neg e];exact h i w hw
theorem Zj3{s:SysD}{goal:List Zaf}{d:Dic}(hP:d.Part)(hm:d.m=(ZaZ s goal).1.m)(hg:∀ j,j<d.n→d.g j≤0):∀ j,j≤d.n→Zu7 s (Zbn d (ZbG s goal) j)
 | 0,_=>Zjv s
 | j+1,hj=>by
   have ih:=Zj3 hP hm hg j (by omega)
   have fl:=hP.free_lt j (by omega)
   simp only[Zbn]
   split
   ·exact Zgx ih (by omega) (by have:=hg j (by omega);grind)
   ·exact ih
theorem ZoR{s:SysD}{goal:List Zaf}{d:Dic}(hP:d.Part)(hm:d.m=(ZaZ s goal).1.m){r:Nat}(hr:r<d.m)(hg:∀ j,j<d.n→0≤d.a r j):∀ j,j≤d.n→Zu7 s (refK d (ZbG s goal) r j)
 | 0,_=>by
   have ol:=hP.own_lt r hr
   simp only[refK]
   split
   ·exact Zgx (Zjv s) (by omega) (by decide +kernel)
   ·exact Zjv s
 | j+1,hj=>by
   have ih:=ZoR hP hm hr hg j (by omega)
   have fl:=hP.free_lt j (by omega)
   simp only[refK]
   split
   ·exact Zgx ih (by omega) (hg j (by omega))
   ·exact ih
theorem Zr6{s:SysD}(hr:ZaB s=true){y:Nat→Rat}(h:Zu7 s y):Zdb s (Zam s.r.length y)=true:=by
 simp only[Zdb,Ya2]
 refine⟨Zev.2 ⟨hr,ZeE _ _,Zcm _ _⟩,Ya6.2 fun p hp=>?_⟩
 obtain⟨i,hi⟩:=List.getElem?_of_mem hp
 rw[List.getElem?_zip_eq_some]at hi
 obtain⟨h1,h2⟩:=hi
 have hl:=(Ya3.1 h1).1
 rw[ZlO y hl]at h2
 cases p with
 | mk w f =>
   simp only[Ya1]at h1 h2
   subst h2
   have:=h i w h1
   simp only[ZdK,ZbN,Ya2,Bool.not_eq_true',Bool.and_eq_false_iff,beq_eq_false_iff_ne,decide_eq_false_iff_not]
   refine⟨?_,?_⟩
   ·by_cases e:w.k=0
    ·right;rw[ZgA];have:=this.1 e;grind
    ·exact .inl e
   ·by_cases e:w.k=1
    ·right;rw[gt_iff_lt,Zdp];have:=this.2 e;grind
    ·exact .inl e
section
variable {D:Dic} (hF:D.First)
include hF
theorem ZhX{κ:Rat}{c:Nat→Rat}{q:Nat}(hq:q<D.n):D.val κ c q=c q:=by
 have:=Dic.val_free (k:=κ) (c:=c) hF.part hq
 rwa [hF.free q hq]at this
theorem Zi7{κ:Rat}{c:Nat→Rat}{q:Nat}(h1:D.n≤q)(h2:q<D.n+D.m):D.val κ c q=D.v (q-D.n)*κ-sumN D.n fun j=>D.a (q-D.n) j*c j:=by
 have:=Dic.val_own (k:=κ) (c:=c) hF.part (i:=q-D.n) (by omega)
 rwa [hF.own (q-D.n) (by omega),show D.n+(q-D.n)=q by omega]at this
theorem ZjS{v:Nat}(hv:v<D.n){q:Nat}(hq:q<D.n+D.m):D.val 0 (fun l=>if l=v then 1 else 0) q=if q<D.n then(if q=v then 1 else 0)else -D.a (q-D.n) v:=by
 by_cases e:q<D.n
 ·rw[if_pos e,ZhX hF e]
 ·rw[if_neg e,Zi7 hF (by omega) hq,Dic.sumN_at _ hv];grind
theorem Zik{q:Nat}(hq:q<D.n+D.m):D.val 1 (fun _=>0) q=if q<D.n then 0 else D.v (q-D.n):=by
 by_cases e:q<D.n
 ·rw[if_pos e,ZhX hF e]
 ·rw[if_neg e,Zi7 hF (by omega) hq,show(fun j=>D.a (q-D.n) j*(0:Rat))=fun _=>0 by funext j;grind,Zbs];grind
theorem Zpe{F:Dic}(hS:Dic.Same D F)(hP:F.Part)(hg:∀ j,j<F.n→F.g j≤0){v:Nat}(hv:v<D.n) :
 (sumN F.n fun l=>if F.n≤F.free l then F.g l*D.a (F.free l-F.n) v else 0) ≤ -D.g v:=by
 have hn:=hS.n
 have hm:=hS.m
 have h1:=hS.obj 0 (D.val 0 fun l=>if l=v then 1 else 0) (Dic.val_sol hF.part)
 rw[Dic.val_obj hF.part,Dic.sumN_at _ hv]at h1
 unfold Dic.obj at h1
 have e:(fun l=>if F.n≤F.free l then F.g l*D.a (F.free l-F.n) v else 0)=fun l=>(if F.n≤F.free l then F.g l*D.a (F.free l-F.n) v else 0):=rfl
 have h2:(sumN F.n fun l=>if F.n≤F.free l then F.g l*D.a (F.free l-F.n) v else 0)+(sumN F.n fun j=>F.g j*D.val 0 (fun l=>if l=v then 1 else 0) (F.free j))≤0:=by
  rw[← ZfQ]
  refine Dic.sumN_nonpos fun j hj=>?_
  have fl:=hP.free_lt j hj
  rw[ZjS hF hv (by omega)]
  have:=hg j hj
  by_cases e:F.n≤F.free j
  ·rw[if_pos e,if_neg (by omega),hn];grind
  ·rw[if_neg e,if_pos (by omega)]
   split<;>grind
 grind
theorem Zpc{F:Dic}(hS:Dic.Same D F)(hP:F.Part)(hz:D.z=0):(sumN F.n fun l=>if F.n≤F.free l then F.g l*D.v (F.free l-F.n)else 0) = -F.z:=by
 have hn:=hS.n
 have hm:=hS.m
 have h1:=hS.obj 1 (D.val 1 fun _=>0) (Dic.val_sol hF.part)
 rw[Dic.val_obj hF.part,show(fun j=>D.g j*(0:Rat))=fun _=>0 by funext j;grind,Zbs,hz]at h1
 unfold Dic.obj at h1
 have h2:(sumN F.n fun l=>if F.n≤F.free l then F.g l*D.v (F.free l-F.n)else 0)=sumN F.n fun j=>F.g j*D.val 1 (fun _=>0) (F.free j):=by
  refine Za5 _ fun j hj=>?_
  have fl:=hP.free_lt j hj
  rw[Zik hF (by omega)]
  by_cases e:F.n≤F.free j
  ·rw[if_pos e,if_neg (by omega),hn]
  ·rw[if_neg e,if_pos (by omega)];grind
 grind
theorem Zwg{F:Dic}(hS:Dic.Same D F)(hP:F.Part){r:Nat}(hr:r<F.m)(ha:∀ j,j<F.n→0≤F.a r j){v:Nat}(hv:v<D.n) :
 (if F.n≤F.own r then -D.a (F.own r-F.n) v else 0)-(sumN F.n fun l=>if F.n≤F.free l then F.a r l*D.a (F.free l-F.n) v else 0)≤0:=by
 have hn:=hS.n
 have hm:=hS.m
 have h1:=(hS.sol 0 (D.val 0 fun l=>if l=v then 1 else 0)).1 (Dic.val_sol hF.part) r hr
 unfold Dic.Row at h1
 have ol:=hP.own_lt r hr
 rw[ZjS hF hv (by omega)]at h1
 have h2:0≤(sumN F.n fun l=>if F.n≤F.free l then F.a r l*D.a (F.free l-F.n) v else 0)+(sumN F.n fun j=>F.a r j*D.val 0 (fun l=>if l=v then 1 else 0) (F.free j)):=by
  rw[← ZfQ]
  refine Zqn fun j hj=>?_
  have fl:=hP.free_lt j hj
  rw[ZjS hF hv (by omega)]
  have:=ha j hj
  by_cases e:F.n≤F.free j
  ·rw[if_pos e,if_neg (by omega),hn];grind
  ·rw[if_neg e,if_pos (by omega)]
   split<;>grind
 by_cases e:F.n≤F.own r
 ·rw[if_pos e]
  rw[if_neg (by omega),← hn]at h1
  grind
 ·rw[if_neg e]
  rw[if_pos (by omega)]at h1
  split at h1<;>grind
theorem Zwf{F:Dic}(hS:Dic.Same D F)(hP:F.Part){r:Nat}(hr:r<F.m) :
 (if F.n≤F.own r then -D.v (F.own r-F.n)else 0)-(sumN F.n fun l=>if F.n≤F.free l then F.a r l*D.v (F.free l-F.n)else 0) = -F.v r:=by
 have hn:=hS.n
 have hm:=hS.m
 have h1:=(hS.sol 1 (D.val 1 fun _=>0)).1 (Dic.val_sol hF.part) r hr
 unfold Dic.Row at h1
 have ol:=hP.own_lt r hr
 rw[Zik hF (by omega)]at h1
 have h2:(sumN F.n fun l=>if F.n≤F.free l then F.a r l*D.v (F.free l-F.n)else 0)=sumN F.n fun j=>F.a r j*D.val 1 (fun _=>0) (F.free j):=by
  refine Za5 _ fun j hj=>?_
  have fl:=hP.free_lt j hj
  rw[Zik hF (by omega)]
  by_cases e:F.n≤F.free j
  ·rw[if_pos e,if_neg (by omega),hn]
  ·rw[if_neg e,if_pos (by omega)];grind
 by_cases e:F.n≤F.own r
 ·rw[if_pos e]
  rw[if_neg (by omega),← hn]at h1
  grind
 ·rw[if_neg e]
  rw[if_pos (by omega)]at h1
  grind
end
theorem ZwO{q:Rat}(h:neg' q=false):0≤q:=by
 have:=ZnH ZgJ h;grind
theorem Zsz{q:Rat}(h:pos' q=false):q≤0:=by
 have:=ZnH ZgG h;grind
theorem Zyv{d:Dic}(h:next d = .best):(∀ i,i<d.m→0≤d.v i)∧∀ j,j<d.n→d.g j≤0:=by
 have hr:∀ k,ZbJ d k ≠ .best:=fun k hk=>by unfold ZbJ at hk;split at hk<;>cases hk
 have hc:∀ k,ZbK d k ≠ .best:=fun k hk=>by unfold ZbK at hk;split at hk<;>cases hk
 unfold next at h
 split at h
 ·rename_i h1 h2
  exact⟨fun i hi=>ZwO (ZdM h1 i hi),fun j hj=>Zsz (ZdM h2 j hj)⟩
 ·exact absurd h (hr _)
 ·split at h
  ·exact absurd h (hr _)
  ·exact absurd h (hc _)
 ·exact absurd h (hc _)
theorem ZfU{d:Dic}{r:Nat}(h:next d = .row r):r<d.m∧d.v r<0∧∀ j,j<d.n→0≤d.a r j:=by
 have hc:∀ k,ZbK d k ≠ .row r:=fun k hk=>by unfold ZbK at hk;split at hk<;>cases hk
 have key:∀ k,pick d.own (fun i=>neg' (d.v i)) d.m=some k→ZbJ d k = .row r→r<d.m∧d.v r<0∧∀ j,j<d.n→0≤d.a r j:=by
  intro k hk hr
  unfold ZbJ at hr
  split at hr
  ·rename_i hp
   cases hr
   obtain⟨p1,p2,_⟩:=Zba hk
   exact⟨p1,(ZgJ _).1 p2,fun j hj=>ZwO (ZdM hp j hj)⟩
  ·cases hr
 unfold next at h
 split at h
 ·cases h
 ·rename_i hr _;exact key _ hr h
 ·rename_i hr _
  split at h
  ·exact key _ hr h
  ·exact absurd h (hc _)
 ·exact absurd h (hc _)
theorem Zir{d:Dic}{c:Nat}(h:next d = .col c):c<d.n∧0<d.g c∧∀ i,i<d.m→d.a i c≤0:=by
 have hr:∀ k,ZbJ d k ≠ .col c:=fun k hk=>by unfold ZbJ at hk;split at hk<;>cases hk
 have key:∀ k,pick d.free (fun j=>pos' (d.g j)) d.n=some k→ZbK d k = .col c→c<d.n∧0<d.g c∧∀ i,i<d.m→d.a i c≤0:=by
  intro k hk hr
  unfold ZbK at hr
  split at hr
  ·rename_i hp
   cases hr
   obtain⟨p1,p2,_⟩:=Zba hk
   exact⟨p1,(ZgG _).1 p2,fun j hj=>Zsz (ZdM hp j hj)⟩
  ·cases hr
 unfold next at h
 split at h
 ·cases h
 ·exact absurd h (hr _)
 ·rename_i hs
  split at h
  ·exact absurd h (hr _)
  ·exact key _ hs h
 ·rename_i hs;exact key _ hs h
theorem ZwE(g:Nat→Rat)(s:SysD)(k:Nat):(ZbO g s k).1.z=0:=Zh9 (fun x=>x.1.z=0) g s rfl (fun _ _ _ _ h _ _ _=>h) k
theorem ZqQ(s:SysD)(goal:List Zaf):(ZaZ s goal).1.g=fun j=> -Za4 goal j:=ZiL _ _ _
section
variable {s:SysD} {goal:List Zaf}
theorem Zdf(s:SysD)(goal:List Zaf):Dic.Same (ZaZ s goal).1 (fin s goal):=Zhp (Zbg s goal).part
theorem Zrx(h:∀ i,i<(fin s goal).m→0≤(fin s goal).v i):∀ u,u<s.n.toNat+(ZaZ s goal).1.m→0≤(fin s goal).base u:=by
 intro u hu
 have hP:=Zcn s goal
 rcases hP.all u (by rw[ZcK,ZdY];exact hu)with⟨i,hi,rfl⟩|⟨j,hj,rfl⟩
 ·rw[Dic.base_own hP hi];exact h i hi
 ·rw[Dic.base_free hP hj];grind
theorem Zlp(hr:ZaB s=true)(h:∀ i,i<(fin s goal).m→0≤(fin s goal).v i):Zap s (Zam s.n.toNat (Za3 (fin s goal) (fin s goal).m))=true:=by
 have hP:=Zcn s goal
 have e:Zam s.n.toNat (Za3 (fin s goal) (fin s goal).m)=Zam s.n.toNat (fin s goal).base:=Zij fun u hu=>ZmF hP (by rw[ZcK];exact hu)
 rw[e]
 exact ZvJ hr (((Zdf s goal).sol 1 _).2 (Dic.val_sol hP)) (Zrx h)
theorem Zts(hr:ZaB s=true)(hg:Zai goal s.n=true)(x:Nat→Rat):dotD goal (Zam s.n.toNat x) = -(sumN s.n.toNat fun j=>(ZaZ s goal).1.g j*x j):=by
 rw[ZpX (Zeo hg),ZqQ]
 have:(fun j=> -Za4 goal j*x j)=fun j=>(-1)*(Za4 goal j*x j):=by funext j;grind
 rw[this,Zd4];grind
theorem Zlx(κ:Rat)(x:Nat→Rat):(ZaZ s goal).1.obj κ x=sumN s.n.toNat fun j=>(ZaZ s goal).1.g j*x j:=by
 unfold Dic.obj
 rw[show(ZaZ s goal).1.z=0 from ZwE _ _ _,ZdW]
 rw[show(0:Rat)*κ+sumN s.n.toNat (fun j=>(ZaZ s goal).1.g j*x ((ZaZ s goal).1.free j))=sumN s.n.toNat (fun j=>(ZaZ s goal).1.g j*x ((ZaZ s goal).1.free j)) by grind]
 exact Za5 _ fun j hj=>by rw[(Zbg s goal).free j (by rw[ZdW];exact hj)]
theorem ZqK(hr:ZaB s=true)(hg:Zai goal s.n=true):dotD goal (Zam s.n.toNat (Za3 (fin s goal) (fin s goal).m)) = -(fin s goal).z:=by
 have hP:=Zcn s goal
 have e:Zam s.n.toNat (Za3 (fin s goal) (fin s goal).m)=Zam s.n.toNat (fin s goal).base:=Zij fun u hu=>ZmF hP (by rw[ZcK];exact hu)
 have hx:(ZaZ s goal).1.Sol 1 (fin s goal).base:=((Zdf s goal).sol 1 _).2 (Dic.val_sol hP)
 rw[e,Zts hr hg,← Zlx 1,(Zdf s goal).obj 1 _ hx,Dic.base_obj hP]
theorem Zr2(s:SysD)(goal:List Zaf):∀ k,k<(fin s goal).m→(ZbG s goal k).1<s.r.length:=fun k hk=>ZgH s goal k (by rw[← ZdY];exact hk)
theorem Zwi(s:SysD)(goal:List Zaf)(v:Nat):∀ k,k<(fin s goal).m→(fun k=>(ZaZ s goal).1.a k v) k=sgQ' (ZbG s goal k).2 (rdG s (indI v) (ZbG s goal k).1):=by
 intro k hk
 obtain⟨w,h1,_,h2,_⟩:=ZiM s goal k (by rw[← ZdY];exact hk)
 simp only[rdG,ZbG,h1,h2];rfl
theorem ZA6(s:SysD)(goal:List Zaf):∀ k,k<(fin s goal).m→(ZaZ s goal).1.v k=sgQ' (ZbG s goal k).2 (rdV s (ZbG s goal k).1):=by
 intro k hk
 obtain⟨w,h1,h2,_⟩:=ZiM s goal k (by rw[← ZdY];exact hk)
 simp only[rdV,ZbG,h1,h2]
theorem Zpd(hr:ZaB s=true)(hg:Zai goal s.n=true)(h:∀ j,j<(fin s goal).n→(fin s goal).g j≤0) :
 (Zb5 s goal (Zam s.r.length (Zbn (fin s goal) (ZbG s goal) s.n.toNat))).2=true∧mixV s.r (Zam s.r.length (Zbn (fin s goal) (ZbG s goal) s.n.toNat)) = -(fin s goal).z:=by
 have hP:=Zcn s goal
 have hn:=ZcK s goal
 have hD:=Zbg s goal
 rw[← hn]
 refine⟨ZjJ.2 ⟨Zr6 hr (Zj3 hP (ZdY s goal) h _ (Ya4 _)),hg,?_⟩,?_⟩
 ·unfold Zjg
  refine Ya6.2 fun v hv=>decide_eq_true ?_
  have hv:=Yd2.1 hv
  unfold mixT
  rw[ZeY,if_pos hv,Zps,ZjE hP (Zr2 s goal) (Zwi s goal v) _ (Ya4 _)]
  have:=Zpe hD (Zdf s goal) hP h (v:=v) (by rw[ZdW];exact hv)
  rw[ZqQ]at this
  grind
 ·rw[ZmO,ZjE hP (Zr2 s goal) (ZA6 s goal) _ (Ya4 _)]
  exact Zpc hD (Zdf s goal) hP (ZwE _ _ _)
theorem Zlk(hr:ZaB s=true){r:Nat}(h1:r<(fin s goal).m)(h2:(fin s goal).v r<0)(h3:∀ j,j<(fin s goal).n→0≤(fin s goal).a r j) :
 Zhe s (Zam s.r.length (refK (fin s goal) (ZbG s goal) r s.n.toNat))=true:=by
 have hP:=Zcn s goal
 have hn:=ZcK s goal
 have hD:=Zbg s goal
 have hn0:=(Zb7 hr).1
 rw[← hn]
 have hl:(Zb5 s [] (Zam s.r.length (refK (fin s goal) (ZbG s goal) r (fin s goal).n))).2=true:=by
  refine ZjJ.2 ⟨Zr6 hr (ZoR hP (ZdY s goal) h1 h3 _ (Ya4 _)),?_,?_⟩
  ·simp only[Zai,Ya2,decide_eq_true_eq];exact⟨hn0,rfl⟩
  ·unfold Zjg
   refine Ya6.2 fun v hv=>decide_eq_true ?_
   have hv:=Yd2.1 hv
   unfold mixT
   rw[ZeY,if_pos hv,Zps,ZqJ hP (Zr2 s goal) (Zwi s goal v) h1 _ (Ya4 _)]
   exact Zwg hD (Zdf s goal) hP h1 h3 (by rw[ZdW];exact hv)
 simp only[Zhe,Ya2,decide_eq_true_eq]
 refine⟨hl,?_⟩
 rw[Zef hl,ZbN,gt_iff_lt,Zdp,ZmO,ZqJ hP (Zr2 s goal) (ZA6 s goal) h1 _ (Ya4 _),Zwf hD (Zdf s goal) hP h1]
 grind
theorem ZEn(hr:ZaB s=true)(hg:Zai goal s.n=true){c:Nat}(h1:c<(fin s goal).n)(h2:0<(fin s goal).g c)(h3:∀ i,i<(fin s goal).m→(fin s goal).a i c≤0):rayD s goal (Zam s.n.toNat (rayK (fin s goal) c (fin s goal).m))=true:=by
 have hP:=Zcn s goal
 have hn:=ZcK s goal
 have hn0:=(Zb7 hr).1
 have e:Zam s.n.toNat (rayK (fin s goal) c (fin s goal).m)=Zam s.n.toNat ((fin s goal).dir c):=Zij fun u hu=>ZCo hP h1 (by rw[ZcK];exact hu)
 rw[e]
 have hx:(ZaZ s goal).1.Sol 0 ((fin s goal).dir c):=((Zdf s goal).sol 0 _).2 (Dic.val_sol hP)
 have h0:∀ u,u<s.n.toNat+(ZaZ s goal).1.m→0≤(fin s goal).dir c u:=by
  intro u hu
  rcases hP.all u (by rw[ZcK,ZdY];exact hu)with⟨i,hi,rfl⟩|⟨j,hj,rfl⟩
  ·rw[Dic.dir_own hP hi h1];have:=h3 i hi;grind
  ·rw[Dic.dir_free hP hj];split<;>decide +kernel
 simp only[rayD,Ya2,decide_eq_true_eq]
 refine⟨⟨⟨⟨⟨⟨hr,hg⟩,by rw[ZeE];omega⟩,Zcm _ _⟩,Zka fun u hu=>h0 u (by omega)⟩,Ya6.2 fun w hw=>?_⟩,?_⟩
 ·have:=Zr5 hr hx h0 w hw
  rwa [show dotD w.t (Zam s.n.toNat ((fin s goal).dir c))-0*qOf w.v=dotD w.t (Zam s.n.toNat ((fin s goal).dir c)) by grind]at this
 ·rw[ZgA,Zts hr hg,← Zlx 0,(Zdf s goal).obj 0 _ hx,Dic.dir_obj hP h1]
  grind
theorem ZEF(s:SysD)(c:Nat):next (fin s []) ≠ .col c:=by
 intro h
 obtain⟨h1,h2,h3⟩:=Zir h
 have hP:=Zcn s []
 have hx:(ZaZ s []).1.Sol 0 ((fin s []).dir c):=((Zdf s []).sol 0 _).2 (Dic.val_sol hP)
 have:=(Zdf s []).obj 0 _ hx
 rw[Dic.dir_obj hP h1,Zlx,ZqQ]at this
 have e:(fun j=> -Za4 [] j*(fin s []).dir c j)=fun _=>0:=by funext j;simp only[Za4,dotS];grind
 rw[e,Zbs]at this
 grind
theorem Zdy(hr:ZaB s=true)(hg:Zai goal s.n=true):Zp1 s goal (ZaJ s goal)=true:=by
 have hn0:=(Zb7 hr).1
 unfold Zp1
 simp only[hr,hg,Bool.and_self,Bool.true_and]
 unfold ZaJ
 cases hn:next (fin s goal)with
 | ex r c=>exact absurd hn (ZfB s goal r c)
 | best =>
   obtain⟨h1,h2⟩:=Zyv hn
   obtain⟨h3,h4⟩:=Zpd hr hg h2
   have h5:=Zlp hr h1
   simp only[if_pos]
   rw[h3,h5,Zfm,Zef h3,h4]
   have hv:(ZbW goal (Zam s.n.toNat (Za3 (fin s goal) (fin s goal).m))).1=ofQ (-(fin s goal).z):=by
    unfold ZbW
    rw[ZeE,show Zai goal (s.n.toNat:Nat)=true from Zeo hg,Zcm]
    simp only[Bool.and_self,if_true]
    rw[ZqK hr hg]
   rw[hv,Zfm];rfl
 | row r =>
   obtain⟨h1,h2,h3⟩:=ZfU hn
   have:=Zlk hr h1 h2 h3
   simp only
   rw[if_neg (by decide),if_pos trivial,this,Zfm];rfl
 | col c =>
   obtain⟨h1,h2,h3⟩:=Zir hn
   have hray:=ZEn hr hg h1 h2 h3
   simp only
   cases hnE:next (fin s [])with
   | ex r c=>exact absurd hnE (ZfB s [] r c)
   | col c2=>exact absurd hnE (ZEF s c2)
   | best =>
     obtain⟨b1,b2⟩:=Zyv hnE
     have hp:=Zlp hr b1
     simp only
     rw[if_neg (by decide),if_neg (by decide),if_pos trivial,hp,hray,Zfm];rfl
   | row r =>
     obtain⟨h1,h2,h3⟩:=ZfU hnE
     have:=Zlk hr h1 h2 h3
     simp only
     rw[if_neg (by decide),if_pos trivial,this,Zfm];rfl
end
set_option maxHeartbeats 8000000
theorem ZBz(g:Int→Rat){B C:Nat}(hg:∀ v,szQ (g v)≤B):∀ l:List Zaf,(∀ t∈l,okF t.f=true∧szF t.f≤C)→szQ (dotS g l)≤1+l.length*(B+C+1)
 | [],_=>by have:=sz_0;simp only[dotS,List.length_nil];omega
 | t ::l,h=>by
   have ih:=ZBz g hg l fun u hu=>h u (Yb6 _ hu)
   obtain⟨h1,h2⟩:=h t Yb7
   simp only[dotS,List.length_cons]
   have a:=Zgv (qOf t.f) (g t.v)
   rw[Zcl h1]at a
   have b:=ZfP (qOf t.f*g t.v) (dotS g l)
   have c:=hg t.v
   rw[Nat.add_mul,Nat.one_mul]
   omega
section
variable {s:SysD} {goal:List Zaf} {B T:Nat}
theorem ZyQ(h:Fit s goal B T)(hr:ZaB s=true)(hg:Zai goal s.n=true):szF (ZbW goal (Zam s.n.toNat (Za3 (fin s goal) (fin s goal).m))).1≤1+goal.length*(Dic.grow B T+B+1):=by
 unfold ZbW
 split
 ·have hb:∀ v,szQ (atP (Zam s.n.toNat (Za3 (fin s goal) (fin s goal).m)) v)≤Dic.grow B T:=by
   intro v
   unfold atP
   cases hx:(Zam s.n.toNat (Za3 (fin s goal) (fin s goal).m))[v.toNat]? with
   | none =>
     have h1:szQ (qOf zF)≤1:=by decide +kernel
     have h2:=h.b
     have h3:=ZlL B T
     simp only[Option.getD_none];omega
   | some f =>
     obtain⟨u,_,rfl⟩:=Zi5 (ZaL hx)
     simp only[Option.getD_some,Zay]
     exact Zhh h hr hg _ (Ya4 _) u
  have:=ZBz _ hb goal fun t ht=>⟨(Za6 hg ht).2.2.1,h.g.2 t ht⟩
  rw[← Zcu]at this
  simp only[Ze8]
  exact this
 ·exact Yb0 _
theorem fin_g(h:Fit s goal B T)(hr:ZaB s=true)(hg:Zai goal s.n=true):∀ j,j<(fin s goal).n→szQ ((fin s goal).g j)≤Dic.grow B T:=(ZcR h hr hg).g
theorem Zxe(h:Fit s goal B T)(hN:(s.n.toNat+1)*(Dic.grow B T+B+1)≤262144)(hL:(goal.length+1)*(Dic.grow B T+B+1)≤262144)(hr:ZaB s=true)(hg:Zai goal s.n=true):tnO (ZaJ s goal):=by
 have hn:=h.n hr
 have hn0:=(Zb7 hr).1
 have hl:=h.l
 have hG:=h.gl
 have nil:tnFs []:=⟨by decide,fun t ht=>by cases ht⟩
 have z:tnF zF:=by show(szF zF:Int)≤262144;decide
 have hf0:=h.nil
 have hg0:Zai [] s.n=true:=by simp only[Zai,Ya2,decide_eq_true_eq];exact⟨hn0,rfl⟩
 unfold ZaJ
 have ref:∀ g,Fit s g B T→Zai g s.n=true→∀ r,r<(fin s g).m→tnFs (Zam s.r.length (refK (fin s g) (ZbG s g) r s.n.toNat)):=by
  intro g hg1 hg2 r hrm
  refine ZfO (by omega) fun u=>?_
  have:=Zsk (fin s g) (ZbG s g) r (B:=Dic.grow B T) (by have:=h.b;have:=ZlL B T;omega) (fun j hj=>(ZcR hg1 hr hg2).a r j hrm hj) s.n.toNat (by rw[ZcK];exact Ya4 _) u
  have hm:=Nat.mul_le_mul_left (s.n.toNat+1) (show Dic.grow B T+1+1≤Dic.grow B T+B+1 by have:=h.b;omega)
  rw[Nat.mul_succ]at hm
  omega
 cases hnx:next (fin s goal)with
 | ex r c=>exact⟨z,nil,nil,nil⟩
 | best =>
   have hv:(szF (ZbW goal (Zam s.n.toNat (Za3 (fin s goal) (fin s goal).m))).1:Int)≤262144:=by have:=ZyQ h hr hg;rw[Nat.add_mul]at hL;omega
   refine⟨hv,ZfO (by omega) fun u=>by have:=Zhh h hr hg _ (Ya4 _) u;omega,ZfO (by omega) fun u=>?_,nil⟩
   have:=ZiJ (fin s goal) (ZbG s goal) (B:=Dic.grow B T) (fin_g h hr hg) s.n.toNat (by rw[ZcK];exact Ya4 _) u
   have hm:=Nat.mul_le_mul_left (s.n.toNat+1) (show Dic.grow B T+1+1≤Dic.grow B T+B+1 by have:=h.b;omega)
   rw[Nat.mul_succ,Nat.add_mul,Nat.one_mul]at hm
   omega
 | row r=>exact⟨z,nil,ref goal h hg r (ZfU hnx).1,nil⟩
 | col c =>
   have hc:=(Zir hnx).1
   have hray:tnFs (Zam s.n.toNat (rayK (fin s goal) c (fin s goal).m)):=ZfO (by omega) fun u=>by have:=ZA7 h hr hg hc _ (Ya4 _) u;omega
   have hpt:tnFs (Zam s.n.toNat (Za3 (fin s []) (fin s []).m)):=ZfO (by omega) fun u=>by have:=Zhh hf0 hr hg0 _ (Ya4 _) u;omega
   simp only
   cases hnE:next (fin s [])with
   | ex r c=>exact⟨z,hpt,nil,hray⟩
   | best=>exact⟨z,hpt,nil,hray⟩
   | col c=>exact⟨z,hpt,nil,hray⟩
   | row r=>exact⟨z,nil,ref [] hf0 hg0 r (ZfU hnE).1,nil⟩
end
end Go.Proofs.YtjeaacindikplaaGreat
