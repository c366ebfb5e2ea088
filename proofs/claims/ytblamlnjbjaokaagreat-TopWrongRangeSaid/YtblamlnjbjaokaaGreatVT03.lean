/-
  The walk over data: search.
-/
import Derived.Test.YtblamlnjbjaokaaGreatVLib
import Derived.Test.YtblamlnjbjaokaaGreatVT02
import Derived.Test.YtblamlnjbjaokaaGreatVT01
namespace Go.Proofs.YtblamlnjbjaokaaGreat
set_option linter.unusedVariables false
set_option linter.unusedSimpArgs false
set_option linter.unusedSectionVars false
open Go Go.RowKit
set_option maxRecDepth 100000
set_option maxHeartbeats 32000000
set_option maxHeartbeats 16000000
section
variable [Ifl]
theorem Zp1{E:Env}{β:Bet}{m:Mem}{nx:Nat}{w:World}(hM:Zay E β m nx w){id:Nat}{b:Blk}{es':List (List D)}(hb:m id=some b)(hl:es'.length=b.es.length)
 (hw:∀ (i:Nat)(e':List D),es'[i]? =some e'→∃ e,b.es[i]? =some e∧e'.length=e.length)
 (hc:∀ (i j:Nat)(d':D),cellAt es' i j=some d'→∃ d,cellAt b.es i j=some d∧∀ u,Rep β m (safe E β m) w u d→Rep β m (safe E β m) w u d') :
 Zay E β (upd m id (some {b with es:=es'})) nx w∧ZaD β m w β (upd m id (some {b with es:=es'})) w∧Zao (safe E β m) w (safe E β (upd m id (some {b with es:=es'}))) w:=by
 have hm:ZaD β m w β (upd m id (some {b with es:=es'})) w:=by
  refine⟨fun x y hx=>?_,fun _ _ h=>h⟩
  by_cases e:x=id
  ·subst e
   rw[hb]at hx;cases hx
   exact⟨_,Zab _ _ _,Ya4 _,fun _=>⟨rfl,hl,rfl⟩⟩
  ·exact⟨y,by rw[Zad _ _ e];exact hx,Ya4 _,fun _=>⟨rfl,rfl,rfl⟩⟩
 have hget:∀ x y,upd m id (some {b with es:=es'}) x=some y→∃ z,m x=some z∧y.T=z.T∧y.k=z.k∧y.es.length=z.es.length∧y.fz=z.fz∧y.dead=z.dead∧(y.es=z.es∨(z=b∧y.es=es')):=by
  intro x y hx
  by_cases e:x=id
  ·subst e;rw[Zab]at hx;cases hx;exact⟨b,hb,rfl,rfl,hl,rfl,rfl,.inr ⟨rfl,rfl⟩⟩
  ·rw[Zad _ _ e]at hx;exact⟨y,hx,rfl,rfl,rfl,rfl,rfl,.inl rfl⟩
 have hs:Zao (safe E β m) w (safe E β (upd m id (some {b with es:=es'}))) w:=by
  intro c o u h1 h2
  refine⟨⟨h1.1,fun x y hx hy=>?_⟩,h2⟩
  obtain⟨z,hz,e1,e2,e3,e4,e5,_⟩:=hget x y hx
  rw[e4,e2,e5]
  exact h1.2 x z hz hy
 refine⟨⟨hM.below,?_,?_,?_,?_,?_,?_⟩,hm,hs⟩
 ·intro x y hx
  obtain⟨z,hz,_⟩:=hget x y hx
  exact hM.lt x z hz
 ·intro x y hx
  obtain⟨z,hz,e1,e2,e3,e4,_⟩:=hget x y hx
  rw[e3,e4];exact hM.fz x z hz
 ·intro x y hx i e he
  obtain⟨z,hz,e1,e2,e3,e4,e5,e6⟩:=hget x y hx
  rw[e2]
  rcases e6 with e6|⟨rfl,e6⟩
  ·rw[e6]at he;exact hM.wid x z hz i e he
  ·rw[e6]at he
   obtain⟨e0,h0,hlen⟩:=hw i e he
   rw[hlen];exact hM.wid x z hz i e0 h0
 ·intro x y hx hbx
  obtain⟨z,hz,e1,e2,e3,_⟩:=hget x y hx
  have:=hM.non x z hz hbx
  rw[this]at e3
  exact Ya9 e3
 ·intro x y c hx hbx
  obtain⟨z,hz,e1,e2,e3,e4,e5,e6⟩:=hget x y hx
  obtain⟨h3,cs',h4,h5,h6⟩:=hM.row x z c hz hbx
  rw[e1,e2,e3,e4]
  refine⟨h3,cs',h4,h5,fun i j d hd=>?_⟩
  rcases e6 with e6|⟨rfl,e6⟩
  ·rw[e6]at hd
   obtain⟨u,h7,h8⟩:=h6 i j d hd
   exact⟨u,h7,h8.mono hm hs⟩
  ·rw[e6]at hd
   obtain⟨d0,h7,h70⟩:=hc i j d hd
   obtain⟨u,h8,h9⟩:=h6 i j d0 h7
   exact⟨u,h8,(h70 u h9).mono hm hs⟩
 ·intro x1 x2 y1 y2 c h1 h2 h3 h4
  obtain⟨z1,hz1,_⟩:=hget x1 y1 h1
  obtain⟨z2,hz2,_⟩:=hget x2 y2 h2
  exact hM.inj x1 x2 z1 z2 c hz1 hz2 h3 h4
theorem Zku{s:St}(id i j T kk:Nat){b:Blk}{e:List D}(hb:s.m id=some b)(he:b.es[i]? =some e)(hj:e[j]? =some .nil) :
 StLe s ⟨s.t,upd (upd s.m s.nx (some ⟨T,0,kk,[],0,false⟩)) id (some {b with es:=b.es.set i (e.set j (.ls s.nx 0))}),s.nx+1,s.lo⟩:=by
 intro E B nn β a w h
 obtain⟨h1,h2,h3⟩:=ZfM (id:=s.nx) (h.mem.mono_nx (Nat.le_succ _)) (Nat.lt_succ_self _) ⟨T,0,kk,[],0,false⟩ rfl rfl (.inl h.mem.none)
 have hne:id≠s.nx:=by have:=h.mem.lt id b hb;omega
 obtain⟨g1,g2,g3⟩:=Zp1 (id:=id) (b:=b) (es':=b.es.set i (e.set j (.ls s.nx 0))) h1 (by rw[Zad _ _ hne];exact hb) (by simp) (fun i' e' hi'=>by
  rw[List.getElem?_set]at hi'
  split at hi'
  ·rename_i hii
   subst hii
   split at hi'
   ·cases hi';exact⟨e,he,by simp⟩
   ·cases hi'
  ·exact⟨e',hi',rfl⟩) (fun i' j' d' hd'=>by
  obtain⟨e',he',hj'⟩:=Zaf.1 hd'
  rw[List.getElem?_set]at he'
  split at he'
  ·rename_i hii
   subst hii
   split at he'
   ·cases he'
    rw[List.getElem?_set]at hj'
    split at hj'
    ·rename_i hjj
     subst hjj
     split at hj'
     ·cases hj'
      refine⟨.nil,Zaf.2 ⟨e,he,hj⟩,fun u hu=>?_⟩
      rw[hu.inv_nil]
      exact .ls _ _ _ _ _ ⟨T,0,kk,[],0,false⟩ (Zab _ _ _) (Ya4 _) (fun _ _=>rfl) fun _=>⟨rfl,Ya4 _,Yb0 _,.inl ⟨Zab _ _ _,rfl,rfl⟩⟩
     ·cases hj'
    ·exact⟨d',Zaf.2 ⟨e,he,hj'⟩,fun _ hu=>hu⟩
   ·cases he'
  ·exact⟨d',Zaf.2 ⟨e',he',hj'⟩,fun _ hu=>hu⟩)
 exact⟨_,g1,fun k hk=>((h.tmp k hk).mono h2 h3).mono g2 g3,h.width,h.defers,(h.le.trans h2).trans g2,(h.sle.trans h3).trans g3,h.lo⟩
end
theorem Cl.none{m:Mem}{nx id:Nat}(h:Cl m nx)(hi:nx≤id):m id=none:=by
 cases hm:m id with
 | none=>rfl
 | some b=>have:=(h id b hm).1;omega
def Zpd(I:Ids)(m x:Nat):Ids:={I with A:=fun k=>if k=m then x else I.A k,vR:=I.vR+1,vO:=I.vO+1,vF:=I.vF+1}
def sgQ'(turned:Bool)(q:Rat):Rat:=if turned then -q else q
def ZzL(d:Dic)(w:RowD)(turned:Bool):Dic :=
 {d with m:=d.m+1,own:=fun k=>if k=d.m then d.n+d.m else d.own k,v:=fun k=>if k=d.m then sgQ' turned (qOf w.v)else d.v k,a:=fun k=>if k=d.m then(fun j=>sgQ' turned (Zds w.t j))else d.a k}
def dicZ(n:Nat)(g:Nat→Rat):Dic:={m:=0,n:=n,own:=fun _=>0,free:=fun j=>j,v:=fun _=>0,a:=fun _ _=>0,g:=g,z:=0}
def addP(w:RowD)(row:Nat)(turned:Bool)(x:Dic×(Nat→Nat×Bool)):Dic×(Nat→Nat×Bool):=(ZzL x.1 w turned,fun k=>if k=x.1.m then(row,turned)else x.2 k)
def putP(x:Dic×(Nat→Nat×Bool))(row:Nat)(w:RowD):Dic×(Nat→Nat×Bool) :=
 let y:=if w.k=0 then x else addP w row false x
 if w.k=1 then y else addP w row true y
def Zuf(g:Nat→Rat)(s:SysD):Nat→Dic×(Nat→Nat×Bool)
 | 0=>(dicZ s.n.toNat g,fun _=>(0,false))
 | k+1=>match s.r[k]? with
   | some w=>putP (Zuf g s k) k w
   | none=>Zuf g s k
def openD(s:SysD)(goal:List Zaj):Dic×(Nat→Nat×Bool):=Zuf (fun j=> -Zds goal j) s s.r.length
theorem Zyb.add{I:Ids}{m x:Nat}(ap:Zyb I m)(hp:x≠I.p)(hR:x≠I.R)(hG:x≠I.G)(hO:x≠I.O)(hFr:x≠I.Fr)(hF:x≠I.F)(hA:∀ k,k<m→x≠I.A k):Zyb (Zpd I m x) (m+1):=by
 have key:∀ (y:Nat),x≠y→(∀ k,k<m→I.A k≠y)→∀ k,k<m+1→(Zpd I m x).A k≠y:=by
  intro y h1 h2 k hk
  simp only[Zpd]
  by_cases e:k=m
  ·rw[if_pos e];exact h1
  ·rw[if_neg e];exact h2 k (by omega)
 refine⟨ap.pR,ap.pG,ap.pO,ap.pFr,ap.pF,ap.RG,ap.RO,ap.RFr,ap.RF,ap.GO,ap.GFr,ap.GF,ap.OFr,ap.OF,ap.FrF,key _ hp ap.Ap,key _ hR ap.AR,key _ hG ap.AG,key _ hO ap.AO,key _ hFr ap.AFr,key _ hF ap.AF,?_⟩
 intro k l hk hl hkl
 simp only[Zpd]
 by_cases e:k=m
 ·rw[if_pos e,if_neg (by omega)];exact hA l (by omega)
 ·rw[if_neg e]
  by_cases e2:l=m
  ·rw[if_pos e2];exact(hA k (by omega)).symm
  ·rw[if_neg e2];exact ap.AA k l (by omega) (by omega) hkl
theorem sz_0:szQ 0≤1:=by decide +kernel
noncomputable def fin (s:SysD) (goal:List Zaj):Dic:=final (openD s goal).1
structure Fit (s:SysD) (goal:List Zaj) (B:Nat:=2) (T:Nat:=6):Prop where
 l:s.r.length≤32
 n:ZaF s=true→s.n≤16
 t:ZaF s=true→s.n≤T∨(Zuf (fun _=>0) s s.r.length).1.m≤T
 w:∀ w∈s.r,w.t.length≤64∧szF w.v≤B∧∀ t∈w.t,szF t.f≤B
 g:goal.length≤16∧∀ t∈goal,szF t.f≤B
 b:1≤B
 gl:Dic.grow B T+B+1≤262144
section
variable {s:SysD} {goal:List Zaj} {B T:Nat}
theorem Fit.nil(h:Fit s goal B T):Fit s [] B T:=⟨h.l,h.n,h.t,h.w,⟨by simp,fun t ht=>by cases ht⟩,h.b,h.gl⟩
end
section
variable {s:SysD} {goal:List Zaj}
end
section
variable {d:Dic} {src:Nat→Nat×Bool} {M:Nat} {rd A:Nat→Rat} (hP:d.Part) (hs:∀ k,k<d.m→(src k).1<M) (hA:∀ k,k<d.m→A k=sgQ' (src k).2 (rd (src k).1))
include hP hs hA
end
section
variable {D:Dic} (hF:D.First)
include hF
end
section
variable {s:SysD} {goal:List Zaj}
end
set_option maxHeartbeats 8000000
section
variable {s:SysD} {goal:List Zaj} {B T:Nat}
end
abbrev encR(a b:OptD):D:=.agg (cO a++cO b)
def oppT(goal:List Zaj):List Zaj:=Zfq goal (ofQ ((-1:Int):Rat))
structure BdD where
 l:Zac
 h:Zac
 lo:Bool
 hi:Bool
theorem Zkb:szF (ofQ ((-1:Int):Rat))≤1∧okF (ofQ ((-1:Int):Rat))=true∧(sgnD (ofQ ((-1:Int):Rat)) !=0)=true∧qOf (ofQ ((-1:Int):Rat)) = -1 :=
 ⟨by decide +kernel,by decide +kernel,by decide +kernel,by rw[Zbc];rfl⟩
theorem ZwL{goal:List Zaj}{n:Int}(h:Zat goal n=true)(hn:n≤1500)(g:Int→Rat):dotS g (oppT goal) = -(dotS g goal):=by
 unfold oppT
 rw[Zpm (Zm8 (n':=1500) hn h) Zkb.2.1,Zkb.2.2.2];grind
theorem ZyX(goal:List Zaj){B:Nat}(hz:∀ t∈goal,szF t.f≤B):(oppT goal).length≤goal.length∧∀ t∈oppT goal,szF t.f≤B:=by
 unfold oppT Zfq
 split
 ·rename_i h
  simp only[Ya2]at h
  refine⟨by simp,fun t ht=>?_⟩
  obtain⟨u,hu,rfl⟩:=Yc6.1 ht
  show szF (ofQ _)≤_
  rw[Zkb.2.2.2,show qOf u.f * -1 = -(qOf u.f) by grind,Zfz,Zh0,ZbO (ZbW h.1 hu).2.2.1]
  exact hz u hu
 ·exact⟨by simp,fun t ht=>by simp at ht⟩
structure BdOk (s:SysD) (goal:List Zaj) (b:BdD):Prop where
 lo:b.lo=true→∃ q x,b.l=ofQ q∧Zba s x=true∧dotD goal x=q∧∀ z,Zba s z=true→q≤dotD goal z
 nl:b.lo=false→b.l=zF∧∀ q:Rat,∃ x,Zba s x=true∧dotD goal x≤q
 hi:b.hi=true→∃ q x,b.h=ofQ q∧Zba s x=true∧dotD goal x=q∧∀ z,Zba s z=true→dotD goal z≤q
 nh:b.hi=false→b.h=zF∧∀ q:Rat,∃ x,Zba s x=true∧q≤dotD goal x
theorem Zue{s:SysD}{goal:List Zaj}(hs:ZaF s=true)(hg:Zat goal s.n=true)(x:List Zac):dotD (oppT goal) x = -(dotD goal x):=by
 rw[ZgW,ZgW,ZwL hg (Zhz hs).2]
section
variable {s:SysD} {goal:List Zaj} (hs:ZaF s=true) (hg:Zat goal s.n=true)
include hs hg
end
theorem Zqe{s:SysD}{w:RowD}(hw:Zcv s.n w=true)(x:List Zac):Zgm w x=true↔(w.k≠1→qOf w.v≤dotD w.t x)∧(w.k≠0→dotD w.t x≤qOf w.v):=by
 simp only[Zcv,Ya2,decide_eq_true_eq]at hw
 unfold Zgm
 rw[Zl9 hw.1.1.2 hw.1.2]
 have hk:w.k=0∨w.k=1∨w.k=2:=by omega
 rcases hk with e|e|e
 ·constructor
  ·intro h;refine⟨fun _=>?_,fun h2=>absurd e h2⟩;have:=h.1 e;grind
  ·intro h;refine⟨fun _=>?_,fun _=>by omega,fun _=>by omega⟩;have:=h.1 (by omega);grind
 ·constructor
  ·intro h;refine⟨fun h2=>absurd e h2,fun _=>?_⟩;have:=h.2.1 e;grind
  ·intro h;refine⟨fun _=>by omega,fun _=>?_,fun _=>by omega⟩;have:=h.2 (by omega);grind
 ·constructor
  ·intro h;have:=h.2.2 e;exact⟨fun _=>by grind,fun _=>by grind⟩
  ·intro h;refine⟨fun _=>by omega,fun _=>by omega,fun _=>?_⟩;have:=h.1 (by omega);have:=h.2 (by omega);grind
end Go.Proofs.YtblamlnjbjaokaaGreat
