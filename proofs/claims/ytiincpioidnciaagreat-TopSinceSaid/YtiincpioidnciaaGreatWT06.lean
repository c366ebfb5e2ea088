/-
  What Least returns is a certificate that Check accepts (plain).
-/
import Derived.Test.YtiincpioidnciaaGreatWLib
import Derived.Test.YtiincpioidnciaaGreatWT05
import Derived.Test.YtiincpioidnciaaGreatWT03
import Derived.Test.YtiincpioidnciaaGreatWT04
import Derived.Test.YtiincpioidnciaaGreatWT01
namespace Go.Proofs.YtiincpioidnciaaGreat
set_option linter.unusedVariables false
set_option linter.unusedSimpArgs false
set_option linter.unusedSectionVars false
open Go Go.RowKit
set_option maxRecDepth 100000
theorem Zt0{q:Rat}(h:neg' q=false):0≤q:=by
 have:=ZlV ZfL h;grind
theorem Zqk{q:Rat}(h:pos' q=false):q≤0:=by
 have:=ZlV ZfH h;grind
theorem Zvj{d:Dic}(h:next d = .best):(∀ i,i<d.m→0≤d.v i)∧∀ j,j<d.n→d.g j≤0:=by
 have hr:∀ k,Zbp d k ≠ .best:=fun k hk=>by unfold Zbp at hk;split at hk<;>cases hk
 have hc:∀ k,Zbs d k ≠ .best:=fun k hk=>by unfold Zbs at hk;split at hk<;>cases hk
 unfold next at h
 split at h
 ·rename_i h1 h2
  exact⟨fun i hi=>Zt0 (Zdi h1 i hi),fun j hj=>Zqk (Zdi h2 j hj)⟩
 ·exact absurd h (hr _)
 ·split at h
  ·exact absurd h (hr _)
  ·exact absurd h (hc _)
 ·exact absurd h (hc _)
theorem ZdN{d:Dic}{r:Nat}(h:next d = .row r):r<d.m∧d.v r<0∧∀ j,j<d.n→0≤d.a r j:=by
 have hc:∀ k,Zbs d k ≠ .row r:=fun k hk=>by unfold Zbs at hk;split at hk<;>cases hk
 have key:∀ k,pick d.own (fun i=>neg' (d.v i)) d.m=some k→Zbp d k = .row r→r<d.m∧d.v r<0∧∀ j,j<d.n→0≤d.a r j:=by
  intro k hk hr
  unfold Zbp at hr
  split at hr
  ·rename_i hp
   cases hr
   obtain⟨p1,p2,_⟩:=ZaT hk
   exact⟨p1,(ZfL _).1 p2,fun j hj=>Zt0 (Zdi hp j hj)⟩
  ·cases hr
 unfold next at h
 split at h
 ·cases h
 ·rename_i hr _;exact key _ hr h
 ·rename_i hr _
  split at h
  ·exact key _ hr h
  ·exact absurd h (hc _)
 ·exact absurd h (hc _)
theorem ZgX{d:Dic}{c:Nat}(h:next d = .col c):c<d.n∧0<d.g c∧∀ i,i<d.m→d.a i c≤0:=by
 have hr:∀ k,Zbp d k ≠ .col c:=fun k hk=>by unfold Zbp at hk;split at hk<;>cases hk
 have key:∀ k,pick d.free (fun j=>pos' (d.g j)) d.n=some k→Zbs d k = .col c→c<d.n∧0<d.g c∧∀ i,i<d.m→d.a i c≤0:=by
  intro k hk hr
  unfold Zbs at hr
  split at hr
  ·rename_i hp
   cases hr
   obtain⟨p1,p2,_⟩:=ZaT hk
   exact⟨p1,(ZfH _).1 p2,fun j hj=>Zqk (Zdi hp j hj)⟩
  ·cases hr
 unfold next at h
 split at h
 ·cases h
 ·exact absurd h (hr _)
 ·rename_i hs
  split at h
  ·exact absurd h (hr _)
  ·exact key _ hs h
 ·rename_i hs;exact key _ hs h
theorem ZtP(g:Nat→Rat)(s:SysD)(k:Nat):(Zbu g s k).1.z=0:=ZgM (fun x=>x.1.z=0) g s rfl (fun _ _ _ _ h _ _ _=>h) k
theorem Zo0(s:SysD)(goal:List Zag):(ZaR s goal).1.g=fun j=> -ZaU goal j:=Zhj _ _ _
section
variable {s:SysD} {goal:List Zag}
theorem ZcQ(s:SysD)(goal:List Zag):Dic.Same (ZaR s goal).1 (fin s goal):=Zgh (Za5 s goal).part
theorem Zpt(h:∀ i,i<(fin s goal).m→0≤(fin s goal).v i):∀ u,u<s.n.toNat+(ZaR s goal).1.m→0≤(fin s goal).base u:=by
 intro u hu
 have hP:=Zcm s goal
 rcases hP.all u (by rw[ZcK,Zeo];exact hu)with⟨i,hi,rfl⟩|⟨j,hj,rfl⟩
 ·rw[Dic.base_own hP hi];exact h i hi
 ·rw[Dic.base_free hP hj];grind
theorem ZjK(hr:Zao s=true)(h:∀ i,i<(fin s goal).m→0≤(fin s goal).v i):ZaA s (Zal s.n.toNat (ZaV (fin s goal) (fin s goal).m))=true:=by
 have hP:=Zcm s goal
 have e:Zal s.n.toNat (ZaV (fin s goal) (fin s goal).m)=Zal s.n.toNat (fin s goal).base:=ZgT fun u hu=>ZkY hP (by rw[ZcK];exact hu)
 rw[e]
 exact Zs7 hr (((ZcQ s goal).sol 1 _).2 (Dic.val_sol hP)) (Zpt h)
theorem ZqW(hr:Zao s=true)(hg:Zai goal s.n=true)(x:Nat→Rat):dotD goal (Zal s.n.toNat x) = -(sumN s.n.toNat fun j=>(ZaR s goal).1.g j*x j):=by
 rw[ZnX (Zb6 hg),Zo0]
 have:(fun j=> -ZaU goal j*x j)=fun j=>(-1)*(ZaU goal j*x j):=by funext j;grind
 rw[this,Zdw];grind
theorem ZjS(κ:Rat)(x:Nat→Rat):(ZaR s goal).1.obj κ x=sumN s.n.toNat fun j=>(ZaR s goal).1.g j*x j:=by
 unfold Dic.obj
 rw[show(ZaR s goal).1.z=0 from ZtP _ _ _,Zel]
 rw[show(0:Rat)*κ+sumN s.n.toNat (fun j=>(ZaR s goal).1.g j*x ((ZaR s goal).1.free j))=sumN s.n.toNat (fun j=>(ZaR s goal).1.g j*x ((ZaR s goal).1.free j)) by grind]
 exact ZaX _ fun j hj=>by rw[(Za5 s goal).free j (by rw[Zel];exact hj)]
theorem ZoS(hr:Zao s=true)(hg:Zai goal s.n=true):dotD goal (Zal s.n.toNat (ZaV (fin s goal) (fin s goal).m)) = -(fin s goal).z:=by
 have hP:=Zcm s goal
 have e:Zal s.n.toNat (ZaV (fin s goal) (fin s goal).m)=Zal s.n.toNat (fin s goal).base:=ZgT fun u hu=>ZkY hP (by rw[ZcK];exact hu)
 have hx:(ZaR s goal).1.Sol 1 (fin s goal).base:=((ZcQ s goal).sol 1 _).2 (Dic.val_sol hP)
 rw[e,ZqW hr hg,← ZjS 1,(ZcQ s goal).obj 1 _ hx,Dic.base_obj hP]
theorem ZpT(s:SysD)(goal:List Zag):∀ k,k<(fin s goal).m→(Zbo s goal k).1<s.r.length:=fun k hk=>Zhk s goal k (by rw[← Zeo];exact hk)
theorem Zty(s:SysD)(goal:List Zag)(v:Nat):∀ k,k<(fin s goal).m→(fun k=>(ZaR s goal).1.a k v) k=sgQ' (Zbo s goal k).2 (rdG s (indI v) (Zbo s goal k).1):=by
 intro k hk
 obtain⟨w,h1,_,h2,_⟩:=Zhl s goal k (by rw[← Zeo];exact hk)
 simp only[rdG,Zbo,h1,h2];rfl
theorem ZxV(s:SysD)(goal:List Zag):∀ k,k<(fin s goal).m→(ZaR s goal).1.v k=sgQ' (Zbo s goal k).2 (rdV s (Zbo s goal k).1):=by
 intro k hk
 obtain⟨w,h1,h2,_⟩:=Zhl s goal k (by rw[← Zeo];exact hk)
 simp only[rdV,Zbo,h1,h2]
theorem Zne(hr:Zao s=true)(hg:Zai goal s.n=true)(h:∀ j,j<(fin s goal).n→(fin s goal).g j≤0) :
 (Zbe s goal (Zal s.r.length (ZbD (fin s goal) (Zbo s goal) s.n.toNat))).2=true∧mixV s.r (Zal s.r.length (ZbD (fin s goal) (Zbo s goal) s.n.toNat)) = -(fin s goal).z:=by
 have hP:=Zcm s goal
 have hn:=ZcK s goal
 have hD:=Za5 s goal
 rw[← hn]
 refine⟨ZeK.2 ⟨ZpV hr (Zir hP (Zeo s goal) h _ (Ya4 _)),hg,?_⟩,?_⟩
 ·unfold ZhM
  refine Ya6.2 fun v hv=>decide_eq_true ?_
  have hv:=Yd2.1 hv
  unfold mixT
  rw[Zfz,if_pos hv,Znr,Zh6 hP (ZpT s goal) (Zty s goal v) _ (Ya4 _)]
  have:=Znf hD (ZcQ s goal) hP h (v:=v) (by rw[Zel];exact hv)
  rw[Zo0]at this
  grind
 ·rw[Zk6,Zh6 hP (ZpT s goal) (ZxV s goal) _ (Ya4 _)]
  exact Znd hD (ZcQ s goal) hP (ZtP _ _ _)
theorem ZjI(hr:Zao s=true){r:Nat}(h1:r<(fin s goal).m)(h2:(fin s goal).v r<0)(h3:∀ j,j<(fin s goal).n→0≤(fin s goal).a r j) :
 ZbM s (Zal s.r.length (refK (fin s goal) (Zbo s goal) r s.n.toNat))=true:=by
 have hP:=Zcm s goal
 have hn:=ZcK s goal
 have hD:=Za5 s goal
 have hn0:=(ZbL hr).1
 rw[← hn]
 have hl:(Zbe s [] (Zal s.r.length (refK (fin s goal) (Zbo s goal) r (fin s goal).n))).2=true:=by
  refine ZeK.2 ⟨ZpV hr (ZmT hP (Zeo s goal) h1 h3 _ (Ya4 _)),?_,?_⟩
  ·simp only[Zai,Ya2,decide_eq_true_eq];exact⟨hn0,rfl⟩
  ·unfold ZhM
   refine Ya6.2 fun v hv=>decide_eq_true ?_
   have hv:=Yd2.1 hv
   unfold mixT
   rw[Zfz,if_pos hv,Znr,ZoR hP (ZpT s goal) (Zty s goal v) h1 _ (Ya4 _)]
   exact Ztv hD (ZcQ s goal) hP h1 h3 (by rw[Zel];exact hv)
 simp only[ZbM,Ya2,decide_eq_true_eq]
 refine⟨hl,?_⟩
 rw[ZeJ hl,Zcw,gt_iff_lt,Zds,Zk6,ZoR hP (ZpT s goal) (ZxV s goal) h1 _ (Ya4 _),Ztu hD (ZcQ s goal) hP h1]
 grind
theorem ZAL(hr:Zao s=true)(hg:Zai goal s.n=true){c:Nat}(h1:c<(fin s goal).n)(h2:0<(fin s goal).g c)(h3:∀ i,i<(fin s goal).m→(fin s goal).a i c≤0):rayD s goal (Zal s.n.toNat (rayK (fin s goal) c (fin s goal).m))=true:=by
 have hP:=Zcm s goal
 have hn:=ZcK s goal
 have hn0:=(ZbL hr).1
 have e:Zal s.n.toNat (rayK (fin s goal) c (fin s goal).m)=Zal s.n.toNat ((fin s goal).dir c):=ZgT fun u hu=>ZyZ hP h1 (by rw[ZcK];exact hu)
 rw[e]
 have hx:(ZaR s goal).1.Sol 0 ((fin s goal).dir c):=((ZcQ s goal).sol 0 _).2 (Dic.val_sol hP)
 have h0:∀ u,u<s.n.toNat+(ZaR s goal).1.m→0≤(fin s goal).dir c u:=by
  intro u hu
  rcases hP.all u (by rw[ZcK,Zeo];exact hu)with⟨i,hi,rfl⟩|⟨j,hj,rfl⟩
  ·rw[Dic.dir_own hP hi h1];have:=h3 i hi;grind
  ·rw[Dic.dir_free hP hj];split<;>decide +kernel
 simp only[rayD,Ya2,decide_eq_true_eq]
 refine⟨⟨⟨⟨⟨⟨hr,hg⟩,by rw[ZdU];omega⟩,Zjb _ _⟩,ZiF fun u hu=>h0 u (by omega)⟩,Ya6.2 fun w hw=>?_⟩,?_⟩
 ·have:=ZpU hr hx h0 w hw
  rwa [show dotD w.t (Zal s.n.toNat ((fin s goal).dir c))-0*qOf w.v=dotD w.t (Zal s.n.toNat ((fin s goal).dir c)) by grind]at this
 ·rw[Zjx,ZqW hr hg,← ZjS 0,(ZcQ s goal).obj 0 _ hx,Dic.dir_obj hP h1]
  grind
theorem ZBc(s:SysD)(c:Nat):next (fin s []) ≠ .col c:=by
 intro h
 obtain⟨h1,h2,h3⟩:=ZgX h
 have hP:=Zcm s []
 have hx:(ZaR s []).1.Sol 0 ((fin s []).dir c):=((ZcQ s []).sol 0 _).2 (Dic.val_sol hP)
 have:=(ZcQ s []).obj 0 _ hx
 rw[Dic.dir_obj hP h1,ZjS,Zo0]at this
 have e:(fun j=> -ZaU [] j*(fin s []).dir c j)=fun _=>0:=by funext j;simp only[ZaU,dotS];grind
 rw[e,Zbd]at this
 grind
theorem Zca(hr:Zao s=true)(hg:Zai goal s.n=true):Zcf s goal (Zax s goal)=true:=by
 have hn0:=(ZbL hr).1
 unfold Zcf
 simp only[hr,hg,Bool.and_self,Bool.true_and]
 unfold Zax
 cases hn:next (fin s goal)with
 | ex r c=>exact absurd hn (ZhD s goal r c)
 | best =>
   obtain⟨h1,h2⟩:=Zvj hn
   obtain⟨h3,h4⟩:=Zne hr hg h2
   have h5:=ZjK hr h1
   simp only[if_pos]
   rw[h3,h5,Zc9,ZeJ h3,h4]
   have hv:(Zcn goal (Zal s.n.toNat (ZaV (fin s goal) (fin s goal).m))).1=ofQ (-(fin s goal).z):=by
    unfold Zcn
    rw[ZdU,show Zai goal (s.n.toNat:Nat)=true from Zb6 hg,Zjb]
    simp only[Bool.and_self,if_true]
    rw[ZoS hr hg]
   rw[hv,Zc9];rfl
 | row r =>
   obtain⟨h1,h2,h3⟩:=ZdN hn
   have:=ZjI hr h1 h2 h3
   simp only
   rw[if_neg (by decide),if_pos trivial,this,Zc9];rfl
 | col c =>
   obtain⟨h1,h2,h3⟩:=ZgX hn
   have hray:=ZAL hr hg h1 h2 h3
   simp only
   cases hnE:next (fin s [])with
   | ex r c=>exact absurd hnE (ZhD s [] r c)
   | col c2=>exact absurd hnE (ZBc s c2)
   | best =>
     obtain⟨b1,b2⟩:=Zvj hnE
     have hp:=ZjK hr b1
     simp only
     rw[if_neg (by decide),if_neg (by decide),if_pos trivial,hp,hray,Zc9];rfl
   | row r =>
     obtain⟨h1,h2,h3⟩:=ZdN hnE
     have:=ZjI hr h1 h2 h3
     simp only
     rw[if_neg (by decide),if_pos trivial,this,Zc9];rfl
end
set_option maxHeartbeats 8000000
theorem Zyk(g:Int→Rat){B C:Nat}(hg:∀ v,szQ (g v)≤B):∀ l:List Zag,(∀ t∈l,okF t.f=true∧szF t.f≤C)→szQ (dotS g l)≤1+l.length*(B+C+1)
 | [],_=>by have:=sz_0;simp only[dotS,List.length_nil];omega
 | t ::l,h=>by
   have ih:=Zyk g hg l fun u hu=>h u (Yb6 _ hu)
   obtain⟨h1,h2⟩:=h t Yb7
   simp only[dotS,List.length_cons]
   have a:=ZfA (qOf t.f) (g t.v)
   rw[ZcY h1]at a
   have b:=ZhY (qOf t.f*g t.v) (dotS g l)
   have c:=hg t.v
   rw[Nat.add_mul,Nat.one_mul]
   omega
section
variable {s:SysD} {goal:List Zag} {B T:Nat}
theorem ZpB(h:Fit s goal B T)(hr:Zao s=true)(hg:Zai goal s.n=true):szF (Zcn goal (Zal s.n.toNat (ZaV (fin s goal) (fin s goal).m))).1≤1+goal.length*(Dic.grow B T+B+1):=by
 unfold Zcn
 split
 ·have hb:∀ v,szQ (atP (Zal s.n.toNat (ZaV (fin s goal) (fin s goal).m)) v)≤Dic.grow B T:=by
   intro v
   unfold atP
   cases hx:(Zal s.n.toNat (ZaV (fin s goal) (fin s goal).m))[v.toNat]? with
   | none =>
     have h1:szQ (qOf zF)≤1:=by decide +kernel
     have h2:=h.b
     have h3:=Zkf B T
     simp only[Option.getD_none];omega
   | some f =>
     obtain⟨u,_,rfl⟩:=ZeP (ZaJ hx)
     simp only[Option.getD_some,ZaM]
     exact Zhh h hr hg _ (Ya4 _) u
  have:=Zyk _ hb goal fun t ht=>⟨(ZaY hg ht).2.2.1,h.g.2 t ht⟩
  rw[← Zdr]at this
  simp only[Ze3]
  exact this
 ·exact Yb0 _
theorem Zuj(h:Fit s goal B T)(hr:Zao s=true)(hg:Zai goal s.n=true):(szF (Zax s goal).v:Int)≤4456448:=by
 have z:(szF zF:Int)≤4456448:=by decide
 unfold Zax
 cases hnx:next (fin s goal)with
 | ex r c=>exact z
 | best =>
   have h1:=ZpB h hr hg
   have h2:=h.gl
   have h3:=Nat.mul_le_mul h.g.1 h2
   simp only
   omega
 | row r=>exact z
 | col c =>
   simp only
   cases hnE:next (fin s [])<;>exact z
theorem ZBy(h:Fit s goal B T)(hr:Zao s=true)(hg:Zai goal s.n=true):∀ j,j<(fin s goal).n→szQ ((fin s goal).g j)≤Dic.grow B T:=(Zcv h hr hg).g
theorem Znw(h:Fit s goal B T)(hN:(s.n.toNat+1)*(Dic.grow B T+B+1)≤262144)(hL:(goal.length+1)*(Dic.grow B T+B+1)≤262144)(hr:Zao s=true)(hg:Zai goal s.n=true):tnO (Zax s goal):=by
 have hn:=h.n hr
 have hn0:=(ZbL hr).1
 have hl:=h.l
 have hG:=h.gl
 have nil:tnFs []:=⟨by decide,fun t ht=>by cases ht⟩
 have z:tnF zF:=by show(szF zF:Int)≤262144;decide
 have hf0:=h.nil
 have hg0:Zai [] s.n=true:=by simp only[Zai,Ya2,decide_eq_true_eq];exact⟨hn0,rfl⟩
 unfold Zax
 have ref:∀ g,Fit s g B T→Zai g s.n=true→∀ r,r<(fin s g).m→tnFs (Zal s.r.length (refK (fin s g) (Zbo s g) r s.n.toNat)):=by
  intro g hg1 hg2 r hrm
  refine Zf0 (by omega) fun u=>?_
  have:=Zm9 (fin s g) (Zbo s g) r (B:=Dic.grow B T) (by have:=h.b;have:=Zkf B T;omega) (fun j hj=>(Zcv hg1 hr hg2).a r j hrm hj) s.n.toNat (by rw[ZcK];exact Ya4 _) u
  have hm:=Nat.mul_le_mul_left (s.n.toNat+1) (show Dic.grow B T+1+1≤Dic.grow B T+B+1 by have:=h.b;omega)
  rw[Nat.mul_succ]at hm
  omega
 cases hnx:next (fin s goal)with
 | ex r c=>exact⟨z,nil,nil,nil⟩
 | best =>
   have hv:(szF (Zcn goal (Zal s.n.toNat (ZaV (fin s goal) (fin s goal).m))).1:Int)≤262144:=by have:=ZpB h hr hg;rw[Nat.add_mul]at hL;omega
   refine⟨hv,Zf0 (by omega) fun u=>by have:=Zhh h hr hg _ (Ya4 _) u;omega,Zf0 (by omega) fun u=>?_,nil⟩
   have:=Zhg (fin s goal) (Zbo s goal) (B:=Dic.grow B T) (ZBy h hr hg) s.n.toNat (by rw[ZcK];exact Ya4 _) u
   have hm:=Nat.mul_le_mul_left (s.n.toNat+1) (show Dic.grow B T+1+1≤Dic.grow B T+B+1 by have:=h.b;omega)
   rw[Nat.mul_succ,Nat.add_mul,Nat.one_mul]at hm
   omega
 | row r=>exact⟨z,nil,ref goal h hg r (ZdN hnx).1,nil⟩
 | col c =>
   have hc:=(ZgX hnx).1
   have hray:tnFs (Zal s.n.toNat (rayK (fin s goal) c (fin s goal).m)):=Zf0 (by omega) fun u=>by have:=ZxW h hr hg hc _ (Ya4 _) u;omega
   have hpt:tnFs (Zal s.n.toNat (ZaV (fin s []) (fin s []).m)):=Zf0 (by omega) fun u=>by have:=Zhh hf0 hr hg0 _ (Ya4 _) u;omega
   simp only
   cases hnE:next (fin s [])with
   | ex r c=>exact⟨z,hpt,nil,hray⟩
   | best=>exact⟨z,hpt,nil,hray⟩
   | col c=>exact⟨z,hpt,nil,hray⟩
   | row r=>exact⟨z,nil,ref [] hf0 hg0 r (ZdN hnE).1,nil⟩
end
abbrev zO:OptD:=⟨0,zF,[],[],[]⟩
abbrev encR(a b:OptD):D:=.agg (cO a++cO b)
def oppT(goal:List Zag):List Zag:=Zfo goal (ofQ ((-1:Int):Rat))
noncomputable def Zbl (s:SysD) (goal:List Zag):(OptD×OptD)×Int :=
 if Zao s&&Zai goal s.n then(if (Zax s goal).k=1 then((zO,zO),15)else((Zax s goal,Zax s (oppT goal)),0))else((zO,zO),1)
structure BdD where
 l:Zaf
 h:Zaf
 lo:Bool
 hi:Bool
abbrev cBd(b:BdD):List D:=[dI b.l.p.s,Zad b.l.p.d,dI b.l.q.s,Zad b.l.q.d,dI b.h.p.s,Zad b.h.p.d,dI b.h.q.s,Zad b.h.q.d,dB b.lo,dB b.hi]
abbrev Zii(b:BdD):D:=.agg (cBd b)
def ZcW(a b:OptD):BdD:=⟨if a.k=0 then a.v else zF,if b.k=0 then negD b.v else zF,decide (a.k=0),decide (b.k=0)⟩
theorem ZjP:szF (ofQ ((-1:Int):Rat))≤1∧okF (ofQ ((-1:Int):Rat))=true∧(sgnD (ofQ ((-1:Int):Rat)) !=0)=true∧qOf (ofQ ((-1:Int):Rat)) = -1 :=
 ⟨by decide +kernel,by decide +kernel,by decide +kernel,by rw[ZaM];rfl⟩
theorem ZfI{goal:List Zag}{n:Int}(h:Zai goal n=true):Zai (oppT goal) n=true:=Zm3 h
theorem Zy6{goal:List Zag}{n:Int}(h:Zai goal n=true)(hn:n≤1500)(g:Int→Rat):dotS g (oppT goal) = -(dotS g goal):=by
 unfold oppT
 rw[Zrk (ZoM (n':=1500) hn h) ZjP.2.1,ZjP.2.2.2];grind
theorem ZxY(goal:List Zag){B:Nat}(hz:∀ t∈goal,szF t.f≤B):(oppT goal).length≤goal.length∧∀ t∈oppT goal,szF t.f≤B:=by
 unfold oppT Zfo
 split
 ·rename_i h
  simp only[Ya2]at h
  refine⟨by simp,fun t ht=>?_⟩
  obtain⟨u,hu,rfl⟩:=Yc6.1 ht
  show szF (ofQ _)≤_
  rw[ZjP.2.2.2,show qOf u.f * -1 = -(qOf u.f) by grind,Ze3,ZdL,ZcY (ZaY h.1 hu).2.2.1]
  exact hz u hu
 ·exact⟨by simp,fun t ht=>by simp at ht⟩
theorem Fit.opp{s:SysD}{goal:List Zag}{B T:Nat}(h:Fit s goal B T):Fit s (oppT goal) B T:=by
 obtain⟨z1,z2⟩:=ZxY goal h.g.2
 exact⟨h.l,h.n,h.t,h.w,⟨by have:=h.g.1;omega,z2⟩,h.b,h.gl⟩
theorem opp_c(goal:List Zag)(hs:smT goal):Zae Tryz.prog 75 [Zbr goal] (Zbr (oppT goal)):=by
 have Zr:=Tryz.results75
 have k1:=ZfP (-1) (by decide) (by decide)
 have k2:=Zqy goal (ofQ ((-1:Int):Rat)) hs (by have:=ZjP.1;unfold smF;omega)
 refine inC Tryz.func75 rfl Tryz.ntmps75 ?_
 refine aGo Zr ?_
 repeat with_reducible intro K hK
 rfl
theorem Zx2(s:SysD)(goal:List Zag){B T:Nat}(h:Fit s goal B T):Zae Tryz.prog 37 [encS s,Zbr goal] (.tup [encR (Zbl s goal).1.1 (Zbl s goal).1.2,dI (Zbl s goal).2]):=by
 have Zr:=Tryz.results37
 have kl:=Zpb s goal h
 have km:=Zpb s _ h.opp
 have ko:=opp_c goal h.gt.sm
 have b10:((1:Int) !=0)=true:=rfl
 have b00:((0:Int) !=0)=false:=rfl
 cases hr:(Zao s&&Zai goal s.n)
 ·have e1:Zbl s goal=((zO,zO),1):=by unfold Zbl;rw[hr];rfl
  rw[show Zc0 s goal=(⟨0,zF,[],[],[]⟩,1) by unfold Zc0;rw[hr];rfl]at kl
  rw[e1]
  refine inC Tryz.func37 rfl Tryz.ntmps37 ?_
  refine aGo (cj3 Zr b10 b00) ?_
  repeat with_reducible intro K hK
  rfl
 simp only[Ya2]at hr
 rw[show Zc0 s goal=(Zax s goal,0) by unfold Zc0;rw[hr.1,hr.2];rfl]at kl
 rw[show Zc0 s (oppT goal)=(Zax s (oppT goal),0) by unfold Zc0;rw[hr.1,ZfI hr.2];rfl]at km
 by_cases hk:(Zax s goal).k=1
 ·have e1:Zbl s goal=((zO,zO),15):=by unfold Zbl;rw[hr.1,hr.2,if_pos (by rfl),if_pos hk]
  rw[e1]
  generalize Zax s goal=L at *
  obtain⟨lk,lv,lx,ly,ld⟩:=L
  simp only at hk
  subst hk
  refine inC Tryz.func37 rfl Tryz.ntmps37 ?_
  refine aGo (cj3 Zr b10 b00) ?_
  repeat with_reducible intro K hK
  rfl
 ·have e1:Zbl s goal=((Zax s goal,Zax s (oppT goal)),0):=by unfold Zbl;rw[hr.1,hr.2,if_pos (by rfl),if_neg hk]
  rw[e1]
  generalize Zax s goal=L at *
  generalize Zax s (oppT goal)=M at *
  generalize oppT goal=O at *
  obtain⟨lk,lv,lx,ly,ld⟩:=L
  have e2:(lk==1)=false:=by simpa using hk
  refine inC Tryz.func37 rfl Tryz.ntmps37 ?_
  refine aGo (cj3 Zr e2 b00) ?_
  repeat with_reducible intro K hK
  rfl
theorem ZuE(f:Zaf)(hz:(szF f:Int)≤549755813888):Zae Tryz.prog 45 [encF f] (encF f):=by
 have Zr:=Tryz.results45
 have hp:(f.p.d.length:Int)≤549755813888:=by have:f.p.d.length≤szF f:=Nat.le_max_left _ _;omega
 have hq:(f.q.d.length:Int)≤549755813888:=by have:f.q.d.length≤szF f:=Nat.le_max_right _ _;omega
 have y1:(f.p.d.length:Int)*8≤140737488355328:=by omega
 have y2:(f.q.d.length:Int)*8≤140737488355328:=by omega
 have y3:(f.p.d.length:Int)≤9007199254740992:=by omega
 have y4:(f.q.d.length:Int)≤9007199254740992:=by omega
 refine inC Tryz.func45 rfl Tryz.ntmps45 ?_
 refine aGo (cj4 Zr y1 y2 (cj2 y3 y4)) ?_
 repeat with_reducible intro K hK
 rw[ZaF (fun _=>rfl),ZaF (fun _=>rfl)]
theorem Zsw(a b:OptD)(za:(szF a.v:Int)≤549755813888)(zb:(szF b.v:Int)≤549755813888):Zae Tryz.prog 16 [encR a b] (Zii (ZcW a b)):=by
 have Zr:=Tryz.results16
 obtain⟨ak,av,ax,ay,ad⟩:=a
 obtain⟨bk,bv,bx,by',bd⟩:=b
 have k1:=ZuE av za
 have k2:=ZnK bv zb
 by_cases h1:ak=0
 ·have g1:(ak==0)=true:=by simpa using h1
  by_cases h2:bk=0
  ·have g2:(bk==0)=true:=by simpa using h2
   simp only[ZcW,if_pos h1,if_pos h2,decide_eq_true h1,decide_eq_true h2]
   refine inC Tryz.func16 rfl Tryz.ntmps16 ?_
   exact aGo (cj3 Zr g1 g2) trivial
  ·have g2:(bk==0)=false:=by simpa using h2
   simp only[ZcW,if_pos h1,if_neg h2,decide_eq_true h1,decide_eq_false h2]
   refine inC Tryz.func16 rfl Tryz.ntmps16 ?_
   refine aGo (cj3 Zr g1 g2) ?_
   repeat with_reducible intro K hK
   rfl
 ·have g1:(ak==0)=false:=by simpa using h1
  by_cases h2:bk=0
  ·have g2:(bk==0)=true:=by simpa using h2
   simp only[ZcW,if_neg h1,if_pos h2,decide_eq_false h1,decide_eq_true h2]
   refine inC Tryz.func16 rfl Tryz.ntmps16 ?_
   refine aGo (cj3 Zr g1 g2) ?_
   repeat with_reducible intro K hK
   rfl
  ·have g2:(bk==0)=false:=by simpa using h2
   simp only[ZcW,if_neg h1,if_neg h2,decide_eq_false h1,decide_eq_false h2]
   refine inC Tryz.func16 rfl Tryz.ntmps16 ?_
   refine aGo (cj3 Zr g1 g2) ?_
   repeat with_reducible intro K hK
   rfl
noncomputable def bdsD (s:SysD) (goal:List Zag):BdD×Bool:=(ZcW (Zbl s goal).1.1 (Zbl s goal).1.2,(Zbl s goal).2==0)
theorem Zor(f:Zaf):szF (negD f)≤szF f:=by
 unfold negD
 split
 ·rename_i h
  show szF (ofQ _)≤_
  rw[Ze3,ZdL,ZcY h];exact Ya4 _
 ·exact Yb0 _
theorem Zwd{s:SysD}{goal:List Zag}{B T:Nat}(h:Fit s goal B T):(szF (Zbl s goal).1.1.v:Int)≤4456448∧(szF (Zbl s goal).1.2.v:Int)≤4456448:=by
 have z:(szF zF:Int)≤4456448:=by decide
 unfold Zbl
 split
 ·rename_i hr
  simp only[Ya2]at hr
  split
  ·exact⟨z,z⟩
  ·exact⟨Zuj h hr.1 hr.2,Zuj h.opp hr.1 (ZfI hr.2)⟩
 ·exact⟨z,z⟩
structure BdOk (s:SysD) (goal:List Zag) (b:BdD):Prop where
 lo:b.lo=true→∃ q x,b.l=ofQ q∧ZaA s x=true∧dotD goal x=q∧∀ z,ZaA s z=true→q≤dotD goal z
 nl:b.lo=false→b.l=zF∧∀ q:Rat,∃ x,ZaA s x=true∧dotD goal x≤q
 hi:b.hi=true→∃ q x,b.h=ofQ q∧ZaA s x=true∧dotD goal x=q∧∀ z,ZaA s z=true→dotD goal z≤q
 nh:b.hi=false→b.h=zF∧∀ q:Rat,∃ x,ZaA s x=true∧q≤dotD goal x
theorem ZyY{s:SysD}{goal:List Zag}{x d:List Zaf}(hx:ZaA s x=true)(hd:rayD s goal d=true)(q:Rat):∃ z,ZaA s z=true∧dotD goal z≤q:=by
 have hneg:=(ZlJ.1 hd).2.2.2.2.2.2
 rw[Zjx]at hneg
 by_cases hq:dotD goal x≤q
 ·exact⟨x,hx,hq⟩
 ·obtain⟨_,ln,_,_,_⟩:=ZcH.1 hx
  obtain⟨_,_,ld,_⟩:=ZlJ.1 hd
  have hp:0 < -dotD goal d:=by grind
  have hk:0≤(dotD goal x-q) / (-dotD goal d):=by
   rw[Rat.div_def]
   exact Rat.mul_nonneg (by grind) (Rat.le_of_lt (Rat.inv_pos.2 hp))
  refine⟨_,Zw0 hx hd hk,?_⟩
  rw[Zyl (by omega)]
  have h2:(dotD goal x-q) / (-dotD goal d)*dotD goal d = -(dotD goal x-q):=by
   rw[Rat.div_def]
   have:(-dotD goal d)*(-dotD goal d)⁻¹=1:=Rat.mul_inv_cancel _ (by grind)
   grind
  rw[h2]
  grind
theorem Zgb{s:SysD}{goal:List Zag}{A:OptD}(h:Zcf s goal A=true) :
 (A.k=0∧∃ q x,A.v=ofQ q∧ZaA s x=true∧dotD goal x=q∧∀ z,ZaA s z=true→q≤dotD goal z)∨(A.k=1∧∀ x,ZaA s x=false)∨(A.k=2∧∀ q:Rat,∃ x,ZaA s x=true∧dotD goal x≤q):=by
 rcases ZgY h with⟨a0,a1,a2,a3,a4,_⟩|⟨a0,a1,_⟩|⟨a0,a1,a2,_⟩
 ·exact .inl ⟨a0,_,_,a3,a2,rfl,fun z hz=>by have:=Zyo a1 hz;grind⟩
 ·exact .inr (.inl ⟨a0,fun x=>ZrR a1⟩)
 ·exact .inr (.inr ⟨a0,fun q=>ZyY a1 a2 q⟩)
theorem ZlO{s:SysD}{goal:List Zag}(hs:Zao s=true)(hg:Zai goal s.n=true)(x:List Zaf):dotD (oppT goal) x = -(dotD goal x):=by
 rw[Zdr,Zdr,Zy6 hg (ZbL hs).2]
section
variable {s:SysD} {goal:List Zag} (hs:Zao s=true) (hg:Zai goal s.n=true)
include hs hg
theorem ZBK:((bdsD s goal).2=false∧∀ x,ZaA s x=false)∨((bdsD s goal).2=true∧(∃ x,ZaA s x=true)∧BdOk s goal (bdsD s goal).1):=by
 have hA:=Zgb (Zca hs hg)
 have hB:=Zgb (Zca hs (ZfI hg))
 have er:Zbl s goal=if (Zax s goal).k=1 then((zO,zO),15)else((Zax s goal,Zax s (oppT goal)),0):=by unfold Zbl;rw[hs,hg];rfl
 by_cases hk:(Zax s goal).k=1
 ·left
  rw[if_pos hk]at er
  unfold bdsD
  rw[er]
  rcases hA with⟨h,_⟩|⟨_,h⟩|⟨h,_⟩
  ·omega
  ·exact⟨rfl,h⟩
  ·omega
 right
 rw[if_neg hk]at er
 have hex:∃ x,ZaA s x=true:=by
  rcases hA with⟨_,q,x,_,h,_⟩|⟨h,_⟩|⟨_,h⟩
  ·exact⟨x,h⟩
  ·omega
  ·obtain⟨x,h,_⟩:=h 0;exact⟨x,h⟩
 have hk2:(Zax s (oppT goal)).k≠1:=by
  rcases hB with⟨h,_⟩|⟨_,h⟩|⟨h,_⟩
  ·omega
  ·obtain⟨x,hx⟩:=hex;rw[h x]at hx;cases hx
  ·omega
 unfold bdsD
 rw[er]
 refine⟨rfl,hex,?_⟩
 simp only
 generalize Zax s goal=A at *
 generalize Zax s (oppT goal)=B at *
 refine⟨fun h=>?_,fun h=>?_,fun h=>?_,fun h=>?_⟩
 ·have h0:A.k=0:=of_decide_eq_true h
  rcases hA with⟨_,h⟩|⟨h,_⟩|⟨h,_⟩
  ·obtain⟨q,x,h1,h2⟩:=h
   exact⟨q,x,by simp only[ZcW,if_pos h0];exact h1,h2⟩
  ·omega
  ·omega
 ·have h0:¬ A.k=0:=of_decide_eq_false h
  rcases hA with⟨h,_⟩|⟨h,_⟩|⟨_,h⟩
  ·omega
  ·omega
  ·exact⟨by simp only[ZcW,if_neg h0],h⟩
 ·have h0:B.k=0:=of_decide_eq_true h
  rcases hB with⟨_,h⟩|⟨h,_⟩|⟨h,_⟩
  ·obtain⟨q,x,h1,h2,h3,h4⟩:=h
   rw[ZlO hs hg]at h3
   refine⟨-q,x,by simp only[ZcW,if_pos h0];rw[h1];simp[negD,Zbm,ZaM],h2,by grind,fun z hz=>?_⟩
   have:=h4 z hz
   rw[ZlO hs hg]at this
   grind
  ·omega
  ·omega
 ·have h0:¬ B.k=0:=of_decide_eq_false h
  rcases hB with⟨h,_⟩|⟨h,_⟩|⟨_,h⟩
  ·omega
  ·omega
  ·refine⟨by simp only[ZcW,if_neg h0],fun q=>?_⟩
   obtain⟨x,h1,h2⟩:=h (-q)
   rw[ZlO hs hg]at h2
   exact⟨x,h1,by grind⟩
end
theorem Zz2{s t:SysD}{g k:List Zag}{b c:BdD}(hb:BdOk s g b)(hc:BdOk t k c)(h1:∀ x,ZaA s x=true→∃ z,ZaA t z=true∧dotD k z=dotD g x)(h2:∀ x,ZaA t x=true→∃ z,ZaA s z=true∧dotD g z=dotD k x):b=c:=by
 obtain⟨bl,bh,blo,bhi⟩:=b
 obtain⟨cl,ch,clo,chi⟩:=c
 have lo:blo=clo∧bl=cl:=by
  cases blo<;>cases clo
  ·exact⟨rfl,(hb.nl rfl).1.trans (hc.nl rfl).1.symm⟩
  ·obtain⟨q,x,_,_,_,h⟩:=hc.lo rfl
   obtain⟨y,y1,y2⟩:=(hb.nl rfl).2 (q-1)
   obtain⟨z,z1,z2⟩:=h1 y y1
   have:=h z z1
   grind
  ·obtain⟨q,x,_,_,_,h⟩:=hb.lo rfl
   obtain⟨y,y1,y2⟩:=(hc.nl rfl).2 (q-1)
   obtain⟨z,z1,z2⟩:=h2 y y1
   have:=h z z1
   grind
  ·obtain⟨q,x,e1,x1,x2,h⟩:=hb.lo rfl
   obtain⟨r,y,e2,y1,y2,h'⟩:=hc.lo rfl
   obtain⟨z,z1,z2⟩:=h1 x x1
   obtain⟨u,u1,u2⟩:=h2 y y1
   have a:=h' z z1
   have b:=h u u1
   have:q=r:=by grind
   exact⟨rfl,by simp only at e1 e2;rw[e1,e2,this]⟩
 have hi:bhi=chi∧bh=ch:=by
  cases bhi<;>cases chi
  ·exact⟨rfl,(hb.nh rfl).1.trans (hc.nh rfl).1.symm⟩
  ·obtain⟨q,x,_,_,_,h⟩:=hc.hi rfl
   obtain⟨y,y1,y2⟩:=(hb.nh rfl).2 (q+1)
   obtain⟨z,z1,z2⟩:=h1 y y1
   have:=h z z1
   grind
  ·obtain⟨q,x,_,_,_,h⟩:=hb.hi rfl
   obtain⟨y,y1,y2⟩:=(hc.nh rfl).2 (q+1)
   obtain⟨z,z1,z2⟩:=h2 y y1
   have:=h z z1
   grind
  ·obtain⟨q,x,e1,x1,x2,h⟩:=hb.hi rfl
   obtain⟨r,y,e2,y1,y2,h'⟩:=hc.hi rfl
   obtain⟨z,z1,z2⟩:=h1 x x1
   obtain⟨u,u1,u2⟩:=h2 y y1
   have a:=h' z z1
   have b:=h u u1
   have:q=r:=by grind
   exact⟨rfl,by simp only at e1 e2;rw[e1,e2,this]⟩
 rw[lo.1,lo.2,hi.1,hi.2]
theorem Zif{s:SysD}{w:RowD}(hw:Zct s.n w=true)(x:List Zaf):Zcc w x=true↔(w.k≠1→qOf w.v≤dotD w.t x)∧(w.k≠0→dotD w.t x≤qOf w.v):=by
 simp only[Zct,Ya2,decide_eq_true_eq]at hw
 unfold Zcc
 rw[ZhB hw.1.1.2 hw.1.2]
 have hk:w.k=0∨w.k=1∨w.k=2:=by omega
 rcases hk with e|e|e
 ·constructor
  ·intro h;refine⟨fun _=>?_,fun h2=>absurd e h2⟩;have:=h.1 e;grind
  ·intro h;refine⟨fun _=>?_,fun _=>by omega,fun _=>by omega⟩;have:=h.1 (by omega);grind
 ·constructor
  ·intro h;refine⟨fun h2=>absurd e h2,fun _=>?_⟩;have:=h.2.1 e;grind
  ·intro h;refine⟨fun _=>by omega,fun _=>?_,fun _=>by omega⟩;have:=h.2 (by omega);grind
 ·constructor
  ·intro h;have:=h.2.2 e;exact⟨fun _=>by grind,fun _=>by grind⟩
  ·intro h;refine⟨fun _=>by omega,fun _=>by omega,fun _=>?_⟩;have:=h.1 (by omega);have:=h.2 (by omega);grind
noncomputable def solD (s:SysD):List Zaf×List Zaf×Bool:=if Zao s then(if (Zax s []).k=1 then([],(Zax s []).y,false)else((Zax s []).x,[],true))else([],[],false)
theorem Zez{s:SysD}(hr:Zao s=true):Zai [] s.n=true:=by
 have:=(ZbL hr).1
 simp only[Zai,Ya2,decide_eq_true_eq];exact⟨this,rfl⟩
theorem ZrA(s:SysD){B T:Nat}(h:Fit s [] B T):Zae Tryz.prog 102 [encS s] (.tup [ZbX (solD s).1,ZbX (solD s).2.1,dB (solD s).2.2]):=by
 have Zr:=Tryz.results102
 have kl:=Zpb s [] h
 cases hr:Zao s
 ·rw[show Zc0 s []=(⟨0,zF,[],[],[]⟩,1) by unfold Zc0;rw[hr];rfl]at kl
  have e1:solD s=([],[],false):=by unfold solD;rw[hr];rfl
  rw[e1]
  refine inC Tryz.func102 rfl Tryz.ntmps102 ?_
  have b1:((1:Int) !=0)=true:=rfl
  refine aGo (cj2 Zr b1) ?_
  repeat with_reducible intro K hK
  rfl
 rw[show Zc0 s []=(Zax s [],0) by unfold Zc0;rw[hr,Zez hr];rfl]at kl
 by_cases h1:(Zax s []).k=1
 ·have e1:solD s=([],(Zax s []).y,false):=by unfold solD;rw[hr,if_pos h1];rfl
  rw[e1]
  have e2:((Zax s []).k==1)=true:=by rw[h1];rfl
  refine inC Tryz.func102 rfl Tryz.ntmps102 ?_
  refine aGo (cj2 Zr e2) ?_
  repeat with_reducible intro K hK
  rfl
 ·have e1:solD s=((Zax s []).x,[],true):=by unfold solD;rw[hr,if_neg h1];rfl
  rw[e1]
  have e2:((Zax s []).k==1)=false:=by simp[h1]
  refine inC Tryz.func102 rfl Tryz.ntmps102 ?_
  refine aGo (cj2 Zr e2) ?_
  repeat with_reducible intro K hK
  rfl
structure OutOk (s:SysD) (l:List (List Zag)) (out:List Bool):Prop where
 len:out.length=l.length
 ok:∀ (i:Nat)(g:List Zag),l[i]? =some g→out[i]? =some true→∃ x,ZaA s x=true∧0<atG x g
section
variable {s:SysD} {l:List (List Zag)} (hs:Zao s=true) (hl:∀ g∈l,Zai g s.n=true) (hp:∀ x,ZaA s x=true→∀ g∈l,0≤atG x g)
include hs hl hp
omit hs hl hp in
end
structure ResD where
 l:Nat
 is:List Bool
 z:List Zaf
section
variable {t:TrD} (R:ZAb t)
include R
end
structure OriD where
 k:Int
 v:Int
 m:Int
 i:Int
def sgnE(e:EvD)(i j:Nat):Int:=if (mvAt e j).f=(mvAt e i).f then -1 else if (mvAt e j).t=(mvAt e i).f then 1 else 0
def stkE(e:EvD)(i m:Nat):Nat→List Zag
 | 0=>[]
 | k+1=>stkE e i m k++(if sgnE e i k=0 then []else [⟨(k:Int)*e.m+m,ofQ (sgnE e i k:Rat)⟩])
def cofE(b own more:Int)(k:Nat):Int:=if (k:Int)=own then b+more else b
def sumE(M:Int)(i:Nat)(b own more:Int):Nat→List Zag
 | 0=>[]
 | k+1=>sumE M i b own more k++(if cofE b own more k=0 then []else [⟨(i:Int)*M+k,ofQ (cofE b own more k:Rat)⟩])
abbrev RoO:Type:=RowD×OriD
def ZcZ(e:EvD)(i m:Nat):RoO:=(⟨stkE e i m (i+1),if (mvAt e i).a then 2 else 0,ofQ 0⟩,⟨0,i,m,-1⟩)
def Zcp(e:EvD)(iv:IntD)(i:Nat):List RoO :=
 if iv.ok then [(⟨sumE e.m i 1 (-1) 0 e.m.toNat,0,iv.lo⟩,⟨1,i,-1,-1⟩),(⟨sumE e.m i 1 (-1) 0 e.m.toNat,1,iv.hi⟩,⟨2,i,-1,-1⟩)]else []
def ZiT(e:EvD)(i:Nat)(n:Nat)(p:PuD):List RoO :=
 if p.v=i then [(⟨sumE e.m i (-p.lo) p.m 1000 e.m.toNat,0,ofQ 0⟩,⟨3,i,-1,n⟩),(⟨sumE e.m i p.hi p.m (-1000) e.m.toNat,0,ofQ 0⟩,⟨4,i,-1,n⟩)]else []
def ZcO(e:EvD)(i:Nat):Nat→List RoO
 | 0=>[]
 | n+1=>ZcO e i n++(match e.pu[n]? with|some p=>ZiT e i n p|none=>[])
def ivE(e:EvD)(x:MvD):IntD:=if x.s = -1 then noI else intD e.ce e.re x.s x.r x.d
def Zeg(e:EvD)(i:Nat):List RoO:=if ZkF e i then []else(List.range e.m.toNat).map (ZcZ e i)
def ZjY(e:EvD)(iv:Nat→IntD)(i:Nat):List RoO:=Zeg e i++(Zcp e (iv i) i++ZcO e i e.pu.length)
def Zdx(e:EvD)(iv:Nat→IntD):Nat→List RoO
 | 0=>[]
 | i+1=>Zdx e iv i++ZjY e iv i
def ivF(e:EvD)(i:Nat):IntD:=ivE e (mvAt e i)
def Zia(e:EvD):List RoO:=Zdx e (ivF e) e.mv.length
def sysE(e:EvD):SysD:=⟨e.mv.length*e.m,(Zia e).map (·.1)⟩
structure Zdo (e u:EvD):Prop where
 m:e.m=u.m
 pl:e.pl=u.pl
 pu:e.pu=u.pu
 n:e.mv.length=u.mv.length
 f:∀ i,(mvAt e i).f=(mvAt u i).f
 t:∀ i,(mvAt e i).t=(mvAt u i).t
 a:∀ i,(mvAt e i).a=(mvAt u i).a
section
variable {e u:EvD} (h:Zdo e u)
include h
theorem Zdo.bin(i:Nat):ZkF e i=ZkF u i:=by unfold ZkF Zfp;rw[h.pl,h.f]
theorem Zdo.sgn(i j:Nat):sgnE e i j=sgnE u i j:=by unfold sgnE;rw[h.f,h.f,h.t]
theorem Zdo.stk(i m:Nat):∀ k,stkE e i m k=stkE u i m k
 | 0=>rfl
 | k+1=>by simp only[stkE,Zdo.stk i m k,h.sgn,h.m]
theorem Zdo.stock(i m:Nat):ZcZ e i m=ZcZ u i m:=by unfold ZcZ;rw[h.stk,h.a]
theorem Zdo.stocks(i:Nat):Zeg e i=Zeg u i:=by
 unfold Zeg
 rw[h.bin,h.m,show ZcZ e i=ZcZ u i from funext (h.stock i)]
theorem Zdo.weight(iv:IntD)(i:Nat):Zcp e iv i=Zcp u iv i:=by unfold Zcp;rw[h.m]
theorem Zdo.pures(i:Nat):∀ n,ZcO e i n=ZcO u i n
 | 0=>rfl
 | n+1=>by
   unfold ZcO
   rw[Zdo.pures i n,h.pu]
   cases u.pu[n]? with
   | none=>rfl
   | some p=>simp only[ZiT,h.m]
theorem Zdo.move{iv iw:Nat→IntD}{i:Nat}(hi:iv i=iw i):ZjY e iv i=ZjY u iw i:=by unfold ZjY;rw[h.stocks,h.weight,h.pures,h.pu,hi]
theorem Zdo.rows{iv iw:Nat→IntD}:∀ n,(∀ i,i<n→iv i=iw i)→Zdx e iv n=Zdx u iw n
 | 0,_=>rfl
 | n+1,hi=>by simp only[Zdx];rw[Zdo.rows n fun i hn=>hi i (by omega),h.move (hi n (by omega))]
theorem Zdo.sys(hi:∀ i,i<e.mv.length→ivF e i=ivF u i):sysE e=sysE u:=by
 unfold sysE Zia
 rw[h.rows e.mv.length hi,h.n,h.m]
theorem Zdo.less{iv iw:Nat→IntD}:∀ n,(∀ i,i<n→(iv i).ok=true→iv i=iw i)→∀ r∈Zdx e iv n,r∈Zdx u iw n
 | 0,_,r,hr=>by cases hr
 | n+1,hi,r,hr=>by
   simp only[Zdx,Yd5]at hr ⊢
   rcases hr with hr|hr
   ·exact .inl (Zdo.less n (fun i hn=>hi i (by omega)) r hr)
   ·right
    unfold ZjY at hr ⊢
    simp only[Yd5]at hr ⊢
    rw[h.stocks,h.pures,h.pu,h.weight]at hr
    rcases hr with hr|hr|hr
    ·exact .inl hr
    ·right;left
     unfold Zcp at hr ⊢
     split at hr
     ·rename_i ho
      rw[← hi n (by omega) ho,if_pos ho];exact hr
     ·cases hr
    ·exact .inr (.inr hr)
end
set_option maxHeartbeats 16000000
abbrev cOri(o:OriD):List D:=[dI o.k,dI o.v,dI o.m,dI o.i]
abbrev mkB(e:EvD)(R vR O vO:Nat):Blk:=⟨135,0,10,[[dI e.m,dI e.h,dI e.s,ZhG e.pl,ZdY e.mv,Zih e.ce,Zfr e.re,ZgE e.pu,.ls R vR,.ls O vO]],0,false⟩
abbrev rwB(vR:Nat)(rows:List RowD):Blk:=⟨175,vR,6,rows.map cW,0,false⟩
abbrev orB(vO:Nat)(os:List OriD):Blk:=⟨52,vO,4,os.map cOri,0,false⟩
theorem ZBJ{m:Mem}{nx id n':Nat}{blk:Blk}(h:Cl m nx)(hb:Zb8 (fun i=>(upd m id (some blk) i).isSome) blk)(hid:id<n')(hn:nx≤n'):Cl (upd m id (some blk)) n':=by
 intro i b hi
 by_cases e:i=id
 ·subst e;rw[Zac]at hi;cases hi;exact⟨hid,hb⟩
 ·rw[Zab _ _ e]at hi
  refine⟨by have:=(h i b hi).1;omega,fun x hx=>ZdP (fun j hj=>?_) x ((h i b hi).2 x hx)⟩
  by_cases e2:j=id
  ·subst e2;rw[Zac];rfl
  ·rw[Zab _ _ e2];exact hj
section
variable [Ifl] {P:Program} {f:FuncId} {ds:List D} {m:Mem} {nx:Nat}
theorem Zar.kept0{d0:D}(hd:okD (fun _=>false) d0=true)(h:Zar P f ds m nx fun d m' nx'=>d=d0∧nx≤nx'∧∀ id,id<nx→m' id=m id):Zar P f ds m nx fun d m' nx'=>d=d0∧m'=m∧nx'=nx:=by
 refine Zar.cl h.1 fun hcl=>Zar.sub (h.mono ?_)
 rintro d m' nx' ⟨rfl,h1,h3⟩
 refine⟨_,_,hcl.sub fun id b hi=>?_,Zi4 (fun _ h=>by cases h) d hd,fun id hi=>?_,rfl,rfl,rfl⟩
 ·rw[h3 id (hcl id b hi).1];exact hi
 ·cases hm:m id with
  | none=>rw[hm]at hi;cases hi
  | some b=>rw[h3 id (hcl id b hm).1,hm]
theorem Zar.kept3{d0:D}{a b c:Nat}{a0 b0 c0 x y z:Blk}(hA:m a=some a0)(hB:m b=some b0)(hC:m c=some c0)(ab:a≠b)(ac:a≠c)(bc:b≠c)(hd:okD (fun _=>false) d0=true)
 (hx:Zb8 (fun i=>(upd (upd (upd m c (some z)) b (some y)) a (some x) i).isSome) x) (hy:Zb8 (fun _=>false) y) (hz:Zb8 (fun _=>false) z)
 (h:Zar P f ds m nx fun d m' nx'=>d=d0∧nx≤nx'∧m' a=some x∧m' b=some y∧m' c=some z∧∀ id,id<nx→id≠a→id≠b→id≠c→m' id=m id) :
 Zar P f ds m nx fun d m' nx'=>d=d0∧m'=upd (upd (upd m c (some z)) b (some y)) a (some x)∧nx'=nx:=by
 refine Zar.cl h.1 fun hcl=>Zar.sub (h.mono ?_)
 rintro d m' nx' ⟨rfl,h0,h1,h2,h3,h4⟩
 have key:∀ id,id<nx→m' id=upd (upd (upd m c (some z)) b (some y)) a (some x) id:=fun id hi=>by
  by_cases e1:id=a
  ·subst e1;rw[Zac,h1]
  by_cases e2:id=b
  ·subst e2;rw[Zab _ _ e1,Zac,h2]
  by_cases e3:id=c
  ·subst e3;rw[Zab _ _ e1,Zab _ _ e2,Zac,h3]
  rw[Zab _ _ e1,Zab _ _ e2,Zab _ _ e3,h4 id hi e1 e2 e3]
 have hC2:=(((hcl.upd hz (hcl c c0 hC).1 (Ya4 nx)).upd hy (hcl b b0 hB).1 (Ya4 nx)) |> fun h=>ZBJ h hx (hcl a a0 hA).1 (Ya4 nx))
 refine⟨_,_,hC2.sub fun id b hi=>?_,Zi4 (fun _ h=>by cases h) d hd,fun id hi=>?_,rfl,rfl,rfl⟩
 ·rw[key id (hC2 id b hi).1];exact hi
 ·cases hm:m id with
  | none=>rw[hm]at hi;cases hi
  | some b'=>rw[key id (hcl id b' hm).1]
end
theorem ZBN[Ifl]{e:EvD}{mk R O vR vO:Nat}{rows:List RowD}{os:List OriD}{m:Mem}{nx:Nat}(h1:m mk=some (mkB e R vR O vO))(h2:m R=some (rwB vR rows))(h3:m O=some (orB vO os))(n1:mk≠R)(n2:mk≠O)(n3:R≠O)
 (hl:(rows.length:Int)≤100000) (ho:(os.length:Int)≤100000) (w:RowD) (o:OriD) :
 Zar Tryz.prog 140 [.lp mk 0 0 0,Zbr w.t,dI w.k,encF w.v,.agg (cOri o)] m nx fun d m' nx'=>d=oneD []∧nx≤nx'∧m' mk=some (mkB e R (vR+1) O (vO+1))∧m' R=some (rwB (vR+1) (rows++[w]))∧m' O=some (orB (vO+1) (os++[o]))∧∀ id,id<nx→id≠mk→id≠R→id≠O→m' id=m id:=by
 obtain⟨wt,wk,wv⟩:=w
 obtain⟨ok,ov,om,oi⟩:=o
 refine Zar.cl ⟨_,_,Tryz.func140,rfl,by kernel_rfl⟩ fun hcl=>?_
 have Zr:=Tryz.results140
 refine inA Tryz.func140 rfl Tryz.ntmps140 ?_
 have lm:=(hcl _ _ h1).1
 have lR:=(hcl _ _ h2).1
 have lO:=(hcl _ _ h3).1
 have a1:mk≠nx:=by omega
 have a2:mk≠nx+1:=by omega
 have a3:mk≠nx+2:=by omega
 have b1:R≠nx:=by omega
 have b2:R≠nx+1:=by omega
 have b3:R≠nx+2:=by omega
 have b0:R≠mk:=fun e=>n1 e.symm
 have c0:nx≠nx+1:=by omega
 have r1:(rows.map cW).length=rows.length:=Yc0 ..
 have r2:((rows.length+1:Nat):Int)*72≤140737488355328:=by omega
 have r3:((rows.length+1:Nat):Int)≤9007199254740992:=by omega
 refine aGoS (cj4 Zr h1 h2 (cj4 h3 a1 a2 (cj4 a3 b1 b2 (cj4 b3 b0 c0 (cj4 r1 r2 r3 n1))))) ?_
 repeat with_reducible intro K hK
 with_reducible apply useE
 with_reducible assumption
 exact Zcu [mk,nx,nx+2,R] (by simp[a1,a3,n1,b1.symm,b3.symm]) [([],[]),([],[]),([],[]),([],[]),([0],[]),([],[]),([],[]),([1],[]),([],[]),([2,2],[2]),([3,2,3],[3]),([],[]),([],[]),([0,0],[0])] rfl rfl (by kernel_rfl)
 exact Zaz rfl
 have a4:mk≠nx+3:=by omega
 have d1:O≠nx:=by omega
 have d2:O≠nx+1:=by omega
 have d3:O≠nx+2:=by omega
 have d4:O≠nx+3:=by omega
 have d0:O≠mk:=fun e=>n2 e.symm
 have dR:O≠R:=fun e=>n3 e.symm
 have c2:nx+1≠nx+2:=by omega
 have c3:nx+1≠R:=fun e=>b2 e.symm
 have c4:nx+1≠mk:=fun e=>a2 e.symm
 have s1:(os.map cOri).length=os.length:=Yc0 ..
 have s2:((os.length+1:Nat):Int)*72≤140737488355328:=by omega
 have s3:((os.length+1:Nat):Int)≤9007199254740992:=by omega
 refine aGoS (cj4 Zr h3 a1 (cj4 a2 a3 a4 (cj4 d1 d2 d3 (cj4 d4 d0 dR (cj4 c2 c3 c4 (cj4 s1 s2 s3 n2)))))) ?_
 repeat with_reducible intro K hK
 with_reducible apply useE
 with_reducible assumption
 exact Zcu [mk,nx+1,nx+3,O] (by simp[a2,a4,n2,d2.symm,d4.symm]) [([],[]),([],[]),([],[]),([],[]),([0],[]),([1],[]),([2,2],[2]),([3,2,3],[3]),([],[]),([],[]),([0,0],[0])] rfl rfl (by kernel_rfl)
 exact Zaz rfl
 refine aGoM (cj4 Zr n1 n2 n3) ?_
 have rR:R≠nx+3:=by omega
 refine⟨?_,?_,fun id g1 g2 g3 g4=>?_⟩
 ·repeat(first|rw[if_pos rfl]|rw[if_neg (by assumption)])
  unfold rwB;rw[List.map_append];rfl
 ·repeat(first|rw[if_pos rfl]|rw[if_neg (by assumption)])
  unfold orB;rw[List.map_append];rfl
 ·repeat(rw[if_neg (by omega)])
theorem ZxG[Ifl]{e:EvD}{mk R O vR vO:Nat}{rows:List RowD}{os:List OriD}{m:Mem}{nx:Nat}(h1:m mk=some (mkB e R vR O vO))(h2:m R=some (rwB vR rows))(h3:m O=some (orB vO os))(n1:mk≠R)(n2:mk≠O)(n3:R≠O)
 (l1:mk<nx) (l2:R<nx) (l3:O<nx) (hl:(rows.length:Int)≤100000) (ho:(os.length:Int)≤100000) (w:RowD) (o:OriD) :
 EffC Tryz.prog 140 [.lp mk 0 0 0,Zbr w.t,dI w.k,encF w.v,.agg (cOri o)] m nx ⟨oneD [],[mk,R,O],[(O,orB (vO+1) (os++[o])),(R,rwB (vR+1) (rows++[w])),(mk,mkB e R (vR+1) O (vO+1))],false⟩ nx:=by
 refine EffC.of ⟨_,_,Tryz.func140,rfl,by kernel_rfl⟩ (fun p hp=>?_) fun m1 NX hN ht=>?_
 ·simp only[List.mem_cons,List.not_mem_nil,or_false]at hp
  rcases hp with rfl|rfl|rfl
  ·exact⟨by simp,l3⟩
  ·exact⟨by simp,l2⟩
  ·exact⟨by simp,l1⟩
 have g1:=(ht mk (by simp)).trans h1
 have g2:=(ht R (by simp)).trans h2
 have g3:=(ht O (by simp)).trans h3
 refine Zar.kept3 g1 g2 g3 n1 n2 n3 rfl ?_ ?_ ?_ (ZBN g1 g2 g3 n1 n2 n3 hl ho w o)
 ·intro x hx
  obtain rfl:=List.mem_singleton.1 hx
  have e1:(upd (upd (upd m1 O (some (orB (vO+1) (os++[o])))) R (some (rwB (vR+1) (rows++[w])))) mk (some (mkB e R (vR+1) O (vO+1))) R).isSome=true:=by
   rw[Zab _ _ (fun h=>n1 h.symm),Zac];rfl
  have e2:(upd (upd (upd m1 O (some (orB (vO+1) (os++[o])))) R (some (rwB (vR+1) (rows++[w])))) mk (some (mkB e R (vR+1) O (vO+1))) O).isSome=true:=by
   rw[Zab _ _ (fun h=>n2 h.symm),Zab _ _ (fun h=>n3 h.symm),Zac];rfl
  simp only[okDs,okD,e1,e2,Bool.and_self]
 ·intro x hx
  obtain⟨u,_,rfl⟩:=Yc6.1 hx
  rfl
 ·intro x hx
  obtain⟨u,_,rfl⟩:=Yc6.1 hx
  rfl
theorem ZpQ(M:Int)(i:Nat)(b own more:Int):∀ k,(sumE M i b own more k).length≤k
 | 0=>Ya4 _
 | k+1=>by
   have:=ZpQ M i b own more k
   unfold sumE
   rw[Yb9]
   split
   ·simp;omega
   ·simp;omega
theorem sum_a[Ifl]{e:EvD}(Ri:Zfu e){mk R O vR vO:Nat}{m:Mem}{nx:Nat}(h1:m mk=some (mkB e R vR O vO)){i:Nat}(hi:(i:Int)<e.mv.length){b own more:Int}(hb : -1000≤b∧b≤1000)(hm : -1000≤more∧more≤1000) :
 Zar Tryz.prog 142 [.lp mk 0 0 0,dI i,dI b,dI own,dI more] m nx fun d m' nx'=>d=Zbr (sumE e.m i b own more e.m.toNat)∧nx≤nx'∧∀ id,id<nx→m' id=m id:=by
 refine Zar.cl ⟨_,_,Tryz.func142,rfl,by kernel_rfl⟩ fun hcl=>?_
 have Zr:=Tryz.results142
 have hresV:=Tryz.results139
 have hM:=Ri.m
 have hL:=Ri.lm
 have lm:=(hcl _ _ h1).1
 have a1:mk≠nx:=by omega
 have mul1:(i:Int)*e.m≤1200:=by
  have:=Int.mul_le_mul (a:=(i:Int)) (b:=e.m) (c:=200) (d:=6) (by omega) (by omega) (by omega) (by omega)
  omega
 have mul0:0≤(i:Int)*e.m:=Int.mul_nonneg (by omega) (by omega)
 have wm:IntKind.i64.wrap ((i:Int)*e.m)=(i:Int)*e.m:=ZaQ (by omega) (by omega)
 have eM:((e.m.toNat:Nat):Int)=e.m:=Int.toNat_of_nonneg (by omega)
 refine inA Tryz.func142 rfl Tryz.ntmps142 ?_
 refine aGoM (cj3 Zr h1 a1) ?_
 repeat with_reducible intro K hK
 refine aLe (Zd9 11 144 5 rfl) ?_
 refine ZcJ (fun(k:Nat)=>[(0,.lp mk 0 0 0),(1,dI i),(2,dI b),(3,dI own),(4,dI more),(11,.ls nx (sumE e.m i b own more k).length),(18,dI e.m),(19,dI k)]) nx
  (fun k m1 nx1=>(k:Int)≤e.m∧nx<nx1∧m1 mk=some (mkB e R vR O vO)∧m1 nx=some ⟨144,(sumE e.m i b own more k).length,5,(sumE e.m i b own more k).map cT,0,false⟩∧∀ id,id<nx→m1 id=m id) (fun k=>e.m.toNat-k) 0 ?_ ?_ ?_ ?_
 ·refine⟨by show((0:Nat):Int)≤e.m;omega,Nat.lt_succ_self _,?_,?_,fun id h=>?_⟩
  ·exact(Zab _ _ a1).trans h1
  ·exact Zac _ _ _
  ·exact Zab _ _ (show id≠nx by omega)
 ·rfl
 ·simp[go_sem,sumE]
 ·rintro k m1 nx1 ⟨hk,hnx,eB,eT,hfr⟩
  obtain⟨hw,k0⟩:=ZaS k
  have wa:IntKind.i64.wrap ((i:Int)*e.m+k)=(i:Int)*e.m+k:=ZaQ (by omega) (by omega)
  have wb:IntKind.i64.wrap (b+more)=b+more:=ZaQ (by omega) (by omega)
  have ln:=ZpQ e.m i b own more k
  have es:sumE e.m i b own more (k+1)=sumE e.m i b own more k++(if cofE b own more k=0 then []else [⟨(i:Int)*e.m+k,ofQ (cofE b own more k:Rat)⟩]):=rfl
  have lml:((sumE e.m i b own more k).map cT).length=(sumE e.m i b own more k).length:=Yc0 ..
  generalize eL:sumE e.m i b own more k=L at eT ln es lml ⊢
  have x1:nx≠nx1:=by omega
  have x2:mk≠nx1:=by omega
  by_cases h2:(k:Int)<e.m
  ·by_cases ho:(k:Int)=own
   ·have hc:cofE b own more k=b+more:=if_pos ho
    rw[hc]at es
    have t1:((k:Int)==own)=true:=by simp[ho]
    by_cases hz:b+more=0
    ·rw[if_pos hz,List.append_nil]at es
     have t2:(b+more !=0)=false:=by simp[hz]
     refine aGoM (cj4 Zr eB t1 (cj4 wb h2 hw t2)) ?_
     repeat with_reducible intro K hK
     refine Zam (k+1) ⟨by omega,hnx,eB,(by show _=some (Blk.mk _ (sumE e.m i b own more (k+1)).length _ ((sumE e.m i b own more (k+1)).map cT) _ _);rw[es];exact eT),hfr⟩ (by omega) rfl (by simp[go_sem,es,eL])
    ·rw[if_neg hz]at es
     have t2:(b+more !=0)=true:=by simp[hz]
     have kI:=Ziz (b+more) (by omega) (by omega)
     refine aGoM (cj4 Zr eB t1 (cj4 wb h2 hw t2)) ?_
     repeat with_reducible intro K hK
     refine ZcV Tryz.func139 rfl (by kernel_rfl) (by kernel_rfl) (by kernel_rfl) ?_
     rw[Tryz.ntmps139]
     refine aGoM (cj4 hresV eB wm wa) ?_
     repeat with_reducible intro K hK
     have q1:((L.length+1:Nat):Int)*72≤140737488355328:=by omega
     have q2:((L.length+1:Nat):Int)≤9007199254740992:=by omega
     refine aGoM (cj4 Zr eT x1 (cj4 lml hw q1 q2)) ?_
     repeat with_reducible intro K hK
     refine Zam (k+1) ⟨by show((k+1:Nat):Int)≤e.m;omega,Nat.lt_succ_of_lt hnx,(Zab _ _ a1).trans ((Zab _ _ x2).trans eB),?_,fun id h=>(Zab _ _ (show id≠nx by omega)).trans ((Zab _ _ (show id≠nx1 by omega)).trans (hfr id h))⟩ (by omega) rfl (by simp[go_sem,es,eL])
     show _=some (Blk.mk _ (sumE e.m i b own more (k+1)).length _ ((sumE e.m i b own more (k+1)).map cT) _ _)
     rw[es,List.map_append,Yb9]
     exact Zac _ _ _
   ·have hc:cofE b own more k=b:=if_neg ho
    rw[hc]at es
    have t1:((k:Int)==own)=false:=by simp[ho]
    by_cases hz:b=0
    ·rw[if_pos hz,List.append_nil]at es
     have t2:(b !=0)=false:=by simp[hz]
     refine aGoM (cj4 Zr eB t1 (cj4 wb h2 hw t2)) ?_
     repeat with_reducible intro K hK
     refine Zam (k+1) ⟨by omega,hnx,eB,(by show _=some (Blk.mk _ (sumE e.m i b own more (k+1)).length _ ((sumE e.m i b own more (k+1)).map cT) _ _);rw[es];exact eT),hfr⟩ (by omega) rfl (by simp[go_sem,es,eL])
    ·rw[if_neg hz]at es
     have t2:(b !=0)=true:=by simp[hz]
     have kI:=Ziz (b) (by omega) (by omega)
     refine aGoM (cj4 Zr eB t1 (cj4 wb h2 hw t2)) ?_
     repeat with_reducible intro K hK
     refine ZcV Tryz.func139 rfl (by kernel_rfl) (by kernel_rfl) (by kernel_rfl) ?_
     rw[Tryz.ntmps139]
     refine aGoM (cj4 hresV eB wm wa) ?_
     repeat with_reducible intro K hK
     have q1:((L.length+1:Nat):Int)*72≤140737488355328:=by omega
     have q2:((L.length+1:Nat):Int)≤9007199254740992:=by omega
     refine aGoM (cj4 Zr eT x1 (cj4 lml hw q1 q2)) ?_
     repeat with_reducible intro K hK
     refine Zam (k+1) ⟨by show((k+1:Nat):Int)≤e.m;omega,Nat.lt_succ_of_lt hnx,(Zab _ _ a1).trans ((Zab _ _ x2).trans eB),?_,fun id h=>(Zab _ _ (show id≠nx by omega)).trans ((Zab _ _ (show id≠nx1 by omega)).trans (hfr id h))⟩ (by omega) rfl (by simp[go_sem,es,eL])
     show _=some (Blk.mk _ (sumE e.m i b own more (k+1)).length _ ((sumE e.m i b own more (k+1)).map cT) _ _)
     rw[es,List.map_append,Yb9]
     exact Zac _ _ _
  ·have ek:e.m.toNat=k:=by omega
   have ez:∀ M:Mem,List.map (List.map (fzT false M 4)) (L.map cT)=L.map cT:=fun M=>ZaF (fun _=>rfl) _
   refine aLe ((ZgQ nx eT).trans (Zie 11 5)) ?_
   simp only[go_sem,fzT]
   refine aGoM (cj4 Zr h2 ez lml) ?_
   exact⟨by rw[ek,eL],by omega,fun id h=>by rw[if_neg (by omega)];exact hfr id h⟩
theorem ZvT[Ifl]{e:EvD}(Ri:Zfu e){mk R O vR vO:Nat}{m:Mem}{nx:Nat}(h1:m mk=some (mkB e R vR O vO))(l1:mk<nx){i:Nat}(hi:(i:Int)<e.mv.length){b own more:Int}(hb : -1000≤b∧b≤1000)(hm : -1000≤more∧more≤1000) :
 EffC Tryz.prog 142 [.lp mk 0 0 0,dI i,dI b,dI own,dI more] m nx ⟨Zbr (sumE e.m i b own more e.m.toNat),[mk],[],false⟩ nx :=
 EffC.of ⟨_,_,Tryz.func142,rfl,by kernel_rfl⟩ (fun p hp=>by cases hp) fun m1 NX hN ht=>Zar.kept0 rfl (sum_a Ri ((ht mk (by simp)).trans h1) hi hb hm)
structure ZsD (e:EvD) (mk R O:Nat) (A:List RowD) (B:List OriD) (m:Mem) (nx:Nat) (l:List RoO) (m':Mem) (nx':Nat):Prop where
 n:nx≤nx'
 b:∃ VR VO,m' mk=some (mkB e R VR O VO)∧m' R=some (rwB VR (A++l.map (·.1)))∧m' O=some (orB VO (B++l.map (·.2)))
 f:∀ id,id<nx→id≠mk→id≠R→id≠O→m' id=m id
theorem Zi5{e:EvD}{i:Nat}(h:i<e.mv.length):e.mv[i]? =some (mvAt e i):=by unfold mvAt;rw[Ya0 h];rfl
theorem ZpS(e:EvD)(i m:Nat):∀ k,(stkE e i m k).length≤k
 | 0=>Ya4 _
 | k+1=>by
   have:=ZpS e i m k
   unfold stkE
   rw[Yb9]
   split
   ·simp;omega
   ·simp;omega
theorem ZyK[Ifl]{e:EvD}(Ri:Zfu e){mk R O VR VO:Nat}{A:List RowD}{B:List OriD}{m:Mem}{nx:Nat}(h1:m mk=some (mkB e R VR O VO))(h2:m R=some (rwB VR A))(h3:m O=some (orB VO B))(n1:mk≠R)(n2:mk≠O)(n3:R≠O)
 {i:Nat} (hi:(i:Int)<e.mv.length) (hA:(A.length:Int)≤99990) (hB:(B.length:Int)≤99990) :
 Zar Tryz.prog 99 [.lp mk 0 0 0,dI i] m nx fun d m' nx'=>d=oneD []∧ZsD e mk R O A B m nx ((List.range e.m.toNat).map (ZcZ e i)) m' nx':=by
 refine Zar.cl ⟨_,_,Tryz.func99,rfl,by kernel_rfl⟩ fun hcl=>?_
 have Zr:=Tryz.results99
 have hresV:=Tryz.results139
 have hM:=Ri.m
 have hL:=Ri.lm
 have lm:=(hcl _ _ h1).1
 have lR:=(hcl _ _ h2).1
 have lO:=(hcl _ _ h3).1
 have a1:mk≠nx:=by omega
 have a2:R≠nx:=by omega
 have a3:O≠nx:=by omega
 have i0:(0:Int)≤i:=by omega
 have eM:((e.m.toNat:Nat):Int)=e.m:=Int.toNat_of_nonneg (by omega)
 have hx:=Zi5 (e:=e) (i:=i) (by omega)
 have wi:=ZsK i
 have i1:(0:Int)≤(i:Int)+1:=by omega
 have i2:(i:Int)+1≤e.mv.length:=by omega
 have it:((i:Int)+1).toNat=i+1:=by omega
 obtain⟨x,ex⟩:∃ x,mvAt e i=x:=⟨_,rfl⟩
 rw[ex]at hx
 obtain⟨kd,hkd⟩:∃ kd:Int,(if x.a then(2:Int)else 0)=kd:=⟨_,rfl⟩
 have hS:∀ k,ZcZ e i k=(⟨stkE e i k (i+1),kd,ofQ 0⟩,⟨0,i,k,-1⟩):=fun k=>by unfold ZcZ;rw[ex,hkd]
 refine inA Tryz.func99 rfl Tryz.ntmps99 ?_
 have body:∀ st:St,(∀ p∈[((0:Nat),D.lp mk 0 0 0),(1,dI i),(4,.lp nx 0 0 0),(5,dI kd),(25,dI e.m),(26,dI 0)],st.t p.1=p.2)→True:=fun _ _=>trivial
 cases ha:x.a
 all_goals
  rw[ha]at hkd
  simp at hkd
  refine aGoM (cj4 Zr h1 hx (cj4 i0 hi ha a1)) ?_
  repeat with_reducible intro K hK
  refine ZcJ (fun(k:Nat)=>[(0,.lp mk 0 0 0),(1,dI i),(4,.lp nx 0 0 0),(5,dI kd),(25,dI e.m),(26,dI k)]) nx
   (fun k m1 nx1=>(k:Int)≤e.m∧nx<nx1∧(∃ VR VO,m1 mk=some (mkB e R VR O VO)∧m1 R=some (rwB VR (A++((List.range k).map (ZcZ e i)).map (·.1)))∧m1 O=some (orB VO (B++((List.range k).map (ZcZ e i)).map (·.2))))∧m1 nx=some ⟨55,0,6,[cMv x],0,false⟩∧∀ id,id<nx→id≠mk→id≠R→id≠O→m1 id=m id) (fun k=>e.m.toNat-k) 0 ?_ ?_ ?_ ?_
  ·refine⟨by omega,Nat.lt_succ_self _,⟨VR,VO,?_,?_,?_⟩,?_,fun id g _ _ _=>?_⟩
   ·exact(Zab _ _ a1).trans ((Zab _ _ a1).trans h1)
   ·simp only[List.range_zero,List.map_nil,List.append_nil];exact(Zab _ _ a2).trans ((Zab _ _ a2).trans h2)
   ·simp only[List.range_zero,List.map_nil,List.append_nil];exact(Zab _ _ a3).trans ((Zab _ _ a3).trans h3)
   ·show upd _ _ _ nx=some (Blk.mk _ _ _ [[dI x.d,dI x.f,dI x.t,dI x.s,dI x.r,dB x.a]] _ _)
    rw[ha];exact Zac _ _ _
   ·exact(Zab _ _ (show id≠nx by omega)).trans (Zab _ _ (show id≠nx by omega))
  ·rfl
  ·simp[go_sem,hkd]
  rintro k m1 nx1 ⟨hk,hnx,⟨VR1,VO1,g1,g2,g3⟩,g4,hfr⟩
  obtain⟨hw,k0⟩:=ZaS k
  by_cases h5:(k:Int)<e.m
  rotate_left
  ·have ek:e.m.toNat=k:=by omega
   rw[ek]
   refine aGoM (cj2 Zr h5) ?_
   exact⟨by omega,⟨VR1,VO1,g1,g2,g3⟩,hfr⟩
  have eE:ZdY e.mv = .sl (e.mv.map cMv):=rfl
  refine aGoM (cj4 Zr g1 h5 (cj4 wi i1 i2 it)) ?_
  repeat with_reducible intro K hK
  refine aLe (Zd9 7 144 5 rfl) ?_
  have hlT:(List.take (i+1) (List.map cMv e.mv)).length=i+1:=by rw[Yc1,Yc0];omega
  have hmin:min (i+1) e.mv.length=i+1:=by omega
  have b1:mk≠nx1:=by omega
  have b2:R≠nx1:=by omega
  have b3:O≠nx1:=by omega
  have b4:nx≠nx1:=by omega
  refine ZcJ (fun(j:Nat)=>[(0,.lp mk 0 0 0),(1,dI i),(4,.lp nx 0 0 0),(5,dI kd),(6,dI k),(7,.ls nx1 (stkE e i k j).length),(25,dI e.m),(26,dI k),(36,.sl (List.take (i+1) (List.map cMv e.mv))),(37,dI ((i:Int)+1)),(38,dI j)]) nx
   (fun j m2 nx2=>j≤i+1∧nx1<nx2∧m2 mk=some (mkB e R VR1 O VO1)∧m2 R=m1 R∧m2 O=m1 O∧m2 nx=some ⟨55,0,6,[cMv x],0,false⟩∧m2 nx1=some ⟨144,(stkE e i k j).length,5,(stkE e i k j).map cT,0,false⟩∧∀ id,id<nx1→m2 id=m1 id) (fun j=>i+1-j) 0 ?_ ?_ ?_ ?_
  ·refine⟨by omega,Nat.lt_succ_self _,(Zab _ _ b1).trans g1,Zab _ _ b2,Zab _ _ b3,(Zab _ _ b4).trans g4,Zac _ _ _,fun id g=>Zab _ _ (show id≠nx1 by omega)⟩
  ·rfl
  ·simp[go_sem,stkE,hmin]
  ·rintro j m2 nx2 ⟨hj,hnx2,q1,q2,q3,q4,qT,qf⟩
   obtain⟨hwj,j0⟩:=ZaS j
   have p3:((List.take (i+1) (List.map cMv e.mv)).length:Int)=(i:Int)+1:=by rw[hlT];omega
   by_cases p2:(j:Int)<(i:Int)+1
   ·have hyt:(List.take (i+1) (List.map cMv e.mv))[j]? =some (cMv (mvAt e j)):=by
     rw[List.getElem?_take,if_pos (by omega),Yb8,Zi5 (by omega)];rfl
    have mul1:(j:Int)*e.m≤1200:=by
     have:=Int.mul_le_mul (a:=(j:Int)) (b:=e.m) (c:=200) (d:=6) (by omega) (by omega) (by omega) (by omega)
     omega
    have mul0:0≤(j:Int)*e.m:=Int.mul_nonneg (by omega) (by omega)
    have wm:IntKind.i64.wrap ((j:Int)*e.m)=(j:Int)*e.m:=ZaQ (by omega) (by omega)
    have wa:IntKind.i64.wrap ((j:Int)*e.m+k)=(j:Int)*e.m+k:=ZaQ (by omega) (by omega)
    have ln:=ZpS e i k j
    have es:stkE e i k (j+1)=stkE e i k j++(if sgnE e i j=0 then []else [⟨(j:Int)*e.m+k,ofQ (sgnE e i j:Rat)⟩]):=rfl
    have lml:((stkE e i k j).map cT).length=(stkE e i k j).length:=Yc0 ..
    generalize eL:stkE e i k j=L at qT ln es lml ⊢
    have x1:mk≠nx2:=by omega
    have x2:nx≠nx2:=by omega
    have x3:nx1≠nx2:=by omega
    have x4:nx1≠nx2+1:=by omega
    have x5:nx2≠nx:=by omega
    have r1:((L.length+1:Nat):Int)*72≤140737488355328:=by omega
    have r2:((L.length+1:Nat):Int)≤9007199254740992:=by omega
    have sg:sgnE e i j=if (mvAt e j).f=x.f then -1 else if (mvAt e j).t=x.f then 1 else 0:=by unfold sgnE;rw[ex]
    generalize mvAt e j=y at hyt sg
    cases t1:(y.f==x.f)
    rotate_left
    ·have es0:sgnE e i j = -1:=by rw[sg,if_pos (by simpa using t1)]
     rw[es0,if_neg (by decide)]at es
     have kI:=Ziz (-1) (by decide) (by decide)
     have z1:((-1:Int) !=0)=true:=by decide
     refine aGoM (cj4 Zr q4 hyt (cj4 j0 p2 p3 (cj4 hwj x1 x2 (cj4 x3 x5 t1 z1)))) ?_
     repeat with_reducible intro K hK
     refine ZcV Tryz.func139 rfl (by kernel_rfl) (by kernel_rfl) (by kernel_rfl) ?_
     rw[Tryz.ntmps139]
     refine aGoM (cj4 hresV q1 wm (cj2 wa x1)) ?_
     repeat with_reducible intro K hK
     refine aGoM (cj4 Zr qT x4 (cj4 lml hwj r1 (cj2 r2 x3))) ?_
     repeat with_reducible intro K hK
     refine Zam (j+1) ⟨by omega,(by show nx1<nx2+2;omega),?_,?_,?_,?_,?_,fun id h=>?_⟩ (by omega) rfl (by simp[go_sem,es,eL])
     ·show upd _ _ _ _=_;simp only[Zau];repeat(rw[if_neg (by omega)])
      exact q1
     ·show upd _ _ _ _=_;simp only[Zau];repeat(rw[if_neg (by omega)])
      exact q2
     ·show upd _ _ _ _=_;simp only[Zau];repeat(rw[if_neg (by omega)])
      exact q3
     ·show upd _ _ _ _=_;simp only[Zau];repeat(rw[if_neg (by omega)])
      exact q4
     ·show _=some (Blk.mk _ (stkE e i k (j+1)).length _ ((stkE e i k (j+1)).map cT) _ _)
      rw[es,List.map_append,Yb9]
      exact Zac _ _ _
     ·show upd _ _ _ _=_;simp only[Zau];repeat(rw[if_neg (by omega)])
      exact qf id h
    cases t2:(y.t==x.f)
    rotate_left
    ·have es0:sgnE e i j=1:=by rw[sg,if_neg (by simpa using t1),if_pos (by simpa using t2)]
     rw[es0,if_neg (by decide)]at es
     have kI:=Ziz (1) (by decide) (by decide)
     have z1:((1:Int) !=0)=true:=by decide
     refine aGoM (cj4 Zr q4 hyt (cj4 j0 p2 p3 (cj4 hwj x1 x2 (cj4 x3 x5 t1 (cj2 t2 z1))))) ?_
     repeat with_reducible intro K hK
     refine ZcV Tryz.func139 rfl (by kernel_rfl) (by kernel_rfl) (by kernel_rfl) ?_
     rw[Tryz.ntmps139]
     refine aGoM (cj4 hresV q1 wm (cj2 wa x1)) ?_
     repeat with_reducible intro K hK
     refine aGoM (cj4 Zr qT x4 (cj4 lml hwj r1 (cj2 r2 x3))) ?_
     repeat with_reducible intro K hK
     refine Zam (j+1) ⟨by omega,(by show nx1<nx2+2;omega),?_,?_,?_,?_,?_,fun id h=>?_⟩ (by omega) rfl (by simp[go_sem,es,eL])
     ·show upd _ _ _ _=_;simp only[Zau];repeat(rw[if_neg (by omega)])
      exact q1
     ·show upd _ _ _ _=_;simp only[Zau];repeat(rw[if_neg (by omega)])
      exact q2
     ·show upd _ _ _ _=_;simp only[Zau];repeat(rw[if_neg (by omega)])
      exact q3
     ·show upd _ _ _ _=_;simp only[Zau];repeat(rw[if_neg (by omega)])
      exact q4
     ·show _=some (Blk.mk _ (stkE e i k (j+1)).length _ ((stkE e i k (j+1)).map cT) _ _)
      rw[es,List.map_append,Yb9]
      exact Zac _ _ _
     ·show upd _ _ _ _=_;simp only[Zau];repeat(rw[if_neg (by omega)])
      exact qf id h
    have es0:sgnE e i j=0:=by rw[sg,if_neg (by simpa using t1),if_neg (by simpa using t2)]
    rw[es0,if_pos rfl,List.append_nil]at es
    have z1:((0:Int) !=0)=false:=by decide
    refine aGoM (cj4 Zr q4 hyt (cj4 j0 p2 p3 (cj4 hwj x1 x2 (cj4 x3 x5 t1 (cj2 t2 z1))))) ?_
    repeat with_reducible intro K hK
    refine Zam (j+1) ⟨by omega,(by show nx1<nx2+1;omega),?_,?_,?_,?_,?_,fun id h=>?_⟩ (by omega) rfl (by simp[go_sem,es,eL])
    ·show upd _ _ _ _=_;simp only[Zau];repeat(rw[if_neg (by omega)])
     exact q1
    ·show upd _ _ _ _=_;simp only[Zau];repeat(rw[if_neg (by omega)])
     exact q2
    ·show upd _ _ _ _=_;simp only[Zau];repeat(rw[if_neg (by omega)])
     exact q3
    ·show upd _ _ _ _=_;simp only[Zau];repeat(rw[if_neg (by omega)])
     exact q4
    ·show upd _ _ _ _=some (Blk.mk _ (stkE e i k (j+1)).length _ ((stkE e i k (j+1)).map cT) _ _)
     rw[es];simp only[Zau];repeat(rw[if_neg (by omega)])
     exact qT
    ·show upd _ _ _ _=_;simp only[Zau];repeat(rw[if_neg (by omega)])
     exact qf id h
   ·have ej:j=i+1:=by omega
    have g2':=q2.trans g2
    have g3':=q3.trans g3
    have hS':=hS k
    rw[ej]at qT
    have ez:∀ M:Mem,List.map (List.map (fzT false M 4)) ((stkE e i k (i+1)).map cT)=(stkE e i k (i+1)).map cT:=fun M=>ZaF (fun _=>rfl) _
    have kI:=Ziz 0 (by decide) (by decide)
    subst ej
    refine aLe ((ZgQ nx1 qT).trans (Zie 7 5)) ?_
    simp only[go_sem,fzT]
    refine aGoM (cj4 Zr ez p2 kI) ?_
    repeat with_reducible intro K hK
    have hLk:(((List.range k).map (ZcZ e i)).map (·.1)).length=k:=by simp
    have hLk2:(((List.range k).map (ZcZ e i)).map (·.2)).length=k:=by simp
    refine ZaD (ZBN (mk:=mk) (R:=R) (O:=O) ((Zab _ _ b1).trans q1) ((Zab _ _ b2).trans g2') ((Zab _ _ b3).trans g3') n1 n2 n3 (by rw[Yb9,hLk];omega) (by rw[Yb9,hLk2];omega) ⟨stkE e i k (i+1),kd,ofQ ((0:Int):Rat)⟩ ⟨0,i,k,-1⟩) ?_
    rintro d m3 nx3 ⟨rfl,hn3,c1,c2,c3,cf⟩
    refine aGoM (cj2 Zr hw) ?_
    repeat with_reducible intro K hK
    have hr1:((List.range (k+1)).map (ZcZ e i)).map (·.1)=((List.range k).map (ZcZ e i)).map (·.1)++[⟨stkE e i k (i+1),kd,ofQ ((0:Int):Rat)⟩]:=by
     rw[List.range_succ,List.map_append,List.map_append,List.map_cons,List.map_cons,hS'];rfl
    have hr2:((List.range (k+1)).map (ZcZ e i)).map (·.2)=((List.range k).map (ZcZ e i)).map (·.2)++[⟨0,i,k,-1⟩]:=by
     rw[List.range_succ,List.map_append,List.map_append,List.map_cons,List.map_cons,hS'];rfl
    refine Zam (k+1) ⟨by show((k+1:Nat):Int)≤e.m;omega,Nat.lt_of_lt_of_le (Nat.lt_trans hnx hnx2) hn3,⟨VR1+1,VO1+1,c1,?_,?_⟩,?_,fun id u1 u2 u3 u4=>?_⟩ (by omega) rfl (by simp[go_sem])
    ·rw[hr1,← Yd3];exact c2
    ·rw[hr2,← Yd3];exact c3
    ·exact(cf nx (by omega) a1.symm a2.symm a3.symm).trans ((Zab _ _ b4).trans q4)
    ·exact(cf id (by omega) u2 u3 u4).trans ((Zab _ _ (by omega)).trans ((qf id (by omega)).trans (hfr id u1 u2 u3 u4)))
theorem ZAh{M:Int}{a b:Nat}{m m':Int}(h:a<b)(hm:m<M)(h0:0≤m')(hM:0≤M):(a:Int)*M+m<(b:Int)*M+m':=by
 have h1:((a:Int)+1)*M≤(b:Int)*M:=Int.mul_le_mul_of_nonneg_right (by omega) hM
 rw[Int.add_mul,Int.one_mul]at h1
 omega
theorem ZxL{M:Int}{a n:Nat}{m:Int}(h:a<n)(hm:m<M)(h0:0≤m)(hM:0≤M):0≤(a:Int)*M+m∧(a:Int)*M+m<(n:Int)*M:=by
 have h1:=ZAh (m':=0) h hm (Int.le_refl _) hM
 have h2:0≤(a:Int)*M:=Int.mul_nonneg (by omega) hM
 omega
section
variable {e:EvD} {i m:Nat} (hm:(m:Int)<e.m)
include hm
theorem ZmP(n:Nat):∀ k,k≤n→goR ((n:Int)*e.m) (-1) (stkE e i m k)=true∧∀ t∈stkE e i m k,t.v<(k:Int)*e.m
 | 0,_=>⟨rfl,fun t ht=>by cases ht⟩
 | k+1,hk=>by
   obtain⟨a,b⟩:=ZmP n k (by omega)
   have hM:0≤e.m:=by omega
   have hv:=ZxL (a:=k) (n:=n) (m:=m) (by omega) hm (by omega) hM
   have h1:((k+1:Nat):Int)*e.m=(k:Int)*e.m+e.m:=by rw[Int.natCast_add,Int.add_mul];simp
   unfold stkE
   by_cases h:sgnE e i k=0
   ·rw[if_pos h,List.append_nil]
    exact⟨a,fun t ht=>by have:=b t ht;omega⟩
   ·rw[if_neg h]
    have hs:((sgnE e i k:Int):Rat)≠0:=fun x=>h (Rat.intCast_inj.1 (x.trans rfl))
    refine⟨Zja hv.2 (Ze5 hs) _ _ a (by show(-1:Int)<(k:Int)*e.m+m;omega) fun u hu=>?_,fun t ht=>?_⟩
    ·have:=b u hu
     show u.v<(k:Int)*e.m+m
     omega
    ·rcases Yd5.1 ht with ht|ht
     ·have:=b t ht;omega
     ·rw[List.mem_singleton.1 ht,h1]
      show(k:Int)*e.m+m<_
      omega
end
theorem ZmM{M:Int}{i n:Nat}{b own more:Int}(hi:i<n):∀ k:Nat,(k:Int)≤M→goR ((n:Int)*M) (-1) (sumE M i b own more k)=true∧∀ t∈sumE M i b own more k,t.v<(i:Int)*M+k
 | 0,_=>⟨rfl,fun t ht=>by cases ht⟩
 | k+1,hk=>by
   obtain⟨a,c⟩:=ZmM (M:=M) (b:=b) (own:=own) (more:=more) hi k (by omega)
   have hkM:(k:Int)<M:=by omega
   have hv:0≤(i:Int)*M+(k:Int)∧(i:Int)*M+(k:Int)<(n:Int)*M:=ZxL hi hkM (by omega) (by omega)
   unfold sumE
   by_cases h:cofE b own more k=0
   ·rw[if_pos h,List.append_nil]
    exact⟨a,fun t ht=>by have:=c t ht;omega⟩
   ·rw[if_neg h]
    have hs:((cofE b own more k:Int):Rat)≠0:=fun x=>h (Rat.intCast_inj.1 (x.trans rfl))
    refine⟨Zja hv.2 (Ze5 hs) _ _ a (by show(-1:Int)<(i:Int)*M+k;omega) fun u hu=>c u hu,fun t ht=>?_⟩
    ·rcases Yd5.1 ht with ht|ht
     ·have:=c t ht;omega
     ·rw[List.mem_singleton.1 ht]
      show(i:Int)*M+k<_
      omega
theorem iv_ok(e:EvD)(x:MvD)(h:(ivE e x).ok=true):okF (ivE e x).lo=true∧okF (ivE e x).hi=true:=by
 unfold ivE at h ⊢
 split at h
 ·cases h
 ·rename_i h1
  rw[if_neg h1]
  unfold intD at h ⊢
  revert h
  cases ZnO e.ce x.s x.d with
  | none=>intro h;cases h
  | some b =>
    simp only
    cases e.ce[b]? with
    | none=>intro h;cases h
    | some c =>
      simp only
      split
      ·intro h;cases h
      ·intro _;exact⟨Zbm _,Zbm _⟩
theorem ZjZ{e:EvD}{iv:Nat→IntD}{r:RoO}:∀ n,r∈Zdx e iv n↔∃ i,i<n∧r∈ZjY e iv i
 | 0=>⟨fun h=>(by cases h),fun⟨i,h,_⟩=>(by omega)⟩
 | n+1=>by
   simp only[Zdx,Yd5,ZjZ n]
   constructor
   ·rintro(⟨i,h,hw⟩|h)
    ·exact⟨i,by omega,hw⟩
    ·exact⟨n,by omega,h⟩
   ·rintro⟨i,h,hw⟩
    by_cases e:i=n
    ·subst e;exact .inr hw
    ·exact .inl ⟨i,by omega,hw⟩
theorem Zj0{e:EvD}{i:Nat}{r:RoO}:∀ n,r∈ZcO e i n→∃ (k:Nat)(p:PuD),e.pu[k]? =some p∧r∈ZiT e i k p
 | 0,h=>by cases h
 | n+1,h=>by
   unfold ZcO at h
   rcases Yd5.1 h with h|h
   ·exact Zj0 n h
   ·cases hp:e.pu[n]? with
    | none=>rw[hp]at h;cases h
    | some p=>rw[hp]at h;exact⟨n,p,hp,h⟩
theorem ZfF{n k:Int}{l:List Zag}{v:Zaf}(hg:goR n (-1) l=true)(hn:0≤n)(h0:0≤k)(h3:k<3)(ho:okF v=true):Zct n ⟨l,k,v⟩=true:=by
 simp only[Zct,Zai,hg,ho,hn,h0,h3,decide_true,Bool.and_self]
theorem Zr5{e:EvD}(hM:1≤e.m){iv:Nat→IntD}(hiv:∀ i,(iv i).ok=true→okF (iv i).lo=true∧okF (iv i).hi=true){i n:Nat}(hi:i<n){r:RoO}(hr:r∈ZjY e iv i):Zct ((n:Int)*e.m) r.1=true:=by
 have hn:0≤(n:Int)*e.m:=Int.mul_nonneg (by omega) (by omega)
 have sr:∀ b own more,goR ((n:Int)*e.m) (-1) (sumE e.m i b own more e.m.toNat)=true:=fun b own more=>(ZmM hi e.m.toNat (by omega)).1
 unfold ZjY at hr
 simp only[Yd5]at hr
 rcases hr with hr|hr|hr
 ·unfold Zeg at hr
  split at hr
  ·cases hr
  ·obtain⟨m,hm,rfl⟩:=Yc6.1 hr
   have hm:=Yd2.1 hm
   refine ZfF (ZmP (by omega) n (i+1) (by omega)).1 hn ?_ ?_ (Zbm 0)
   ·cases(mvAt e i).a<;>decide
   ·cases(mvAt e i).a<;>decide
 ·unfold Zcp at hr
  split at hr
  ·rename_i ho
   obtain⟨o1,o2⟩:=hiv i ho
   simp only[List.mem_cons,List.not_mem_nil,or_false]at hr
   rcases hr with rfl|rfl
   ·exact ZfF (sr _ _ _) hn (by decide) (by decide) o1
   ·exact ZfF (sr _ _ _) hn (by decide) (by decide) o2
  ·cases hr
 ·obtain⟨k,p,_,hr⟩:=Zj0 _ hr
  unfold ZiT at hr
  split at hr
  ·simp only[List.mem_cons,List.not_mem_nil,or_false]at hr
   rcases hr with rfl|rfl
   ·exact ZfF (sr _ _ _) hn (by decide) (by decide) (Zbm 0)
   ·exact ZfF (sr _ _ _) hn (by decide) (by decide) (Zbm 0)
  ·cases hr
theorem ZjJ(e:EvD)(i:Nat):∀ n,(ZcO e i n).length≤2*n
 | 0=>Ya4 _
 | n+1=>by
   have ih:=ZjJ e i n
   unfold ZcO
   rw[Yb9]
   cases e.pu[n]? with
   | none=>simp only[List.length_nil];omega
   | some p =>
     have:(ZiT e i n p).length≤2:=by unfold ZiT;split<;>simp
     simp only
     omega
theorem ZwL(e:EvD)(iv:Nat→IntD)(i:Nat):(ZjY e iv i).length≤e.m.toNat+2+2*e.pu.length:=by
 have h1:(Zeg e i).length≤e.m.toNat:=by unfold Zeg;split<;>simp
 have h2:(Zcp e (iv i) i).length≤2:=by unfold Zcp;split<;>simp
 have h3:=ZjJ e i e.pu.length
 unfold ZjY
 rw[Yb9,Yb9]
 omega
theorem Zha(e:EvD)(iv:Nat→IntD):∀ n,(Zdx e iv n).length≤n*(e.m.toNat+2+2*e.pu.length)
 | 0=>by simp[Zdx]
 | n+1=>by
   have ih:=Zha e iv n
   have:=ZwL e iv n
   simp only[Zdx,Yb9,Nat.add_mul,Nat.one_mul]at *
   omega
theorem Zro{e:EvD}(R:Zfu e)(hn:e.mv.length≤12)(hp:e.pu.length≤12):Zao (sysE e)=true:=by
 have hM:=R.m
 have hl:=Zha e (ivF e) e.mv.length
 have h1:e.mv.length*(e.m.toNat+2+2*e.pu.length)≤12*(6+2+2*12):=Nat.mul_le_mul hn (by omega)
 have h2:(e.mv.length:Int)*e.m≤12*6:=by
  have a:=Int.mul_le_mul_of_nonneg_right (a:=(e.mv.length:Int)) (b:=12) (c:=e.m) (by omega) (by omega)
  omega
 have h0:0≤(e.mv.length:Int)*e.m:=Int.mul_nonneg (by omega) (by omega)
 have hn0:(sysE e).n=(e.mv.length:Int)*e.m:=rfl
 have hr:(sysE e).r.length≤6000:=by
  show((Zia e).map (·.1)).length≤6000
  rw[Yc0]
  unfold Zia
  omega
 unfold Zao
 rw[decide_eq_true (show 0≤(sysE e).n by omega),decide_eq_true (show(sysE e).n≤1500 by omega),decide_eq_true (show((sysE e).r.length:Int)≤6000 by omega),Bool.true_and,Bool.true_and,Bool.true_and,Ya6]
 intro w hw
 obtain⟨r,hr,rfl⟩:=Yc6.1 hw
 obtain⟨i,hi,hr⟩:=(ZjZ _).1 hr
 exact Zr5 hM.1 (fun i h=>iv_ok e _ h) hi hr
def Zkc(a b:BdD):Bool:=(!b.lo||(a.lo&&decide (cmpD b.l a.l≤0)))&&(!b.hi||(a.hi&&decide (cmpD a.h b.h≤0)))
theorem Zyn{q r:Rat}(h:q≤r):cmpD (ofQ q) (ofQ r)≤0:=by
 rw[Zq8]
 rcases Zev (q-r)with⟨_,e⟩|⟨_,e⟩|⟨a,e⟩
 ·omega
 ·omega
 ·exfalso;grind
theorem Zvm{s u:SysD}{g:List Zag}{a b:BdD}(h:∀ x,ZaA s x=true→ZaA u x=true)(ha:BdOk s g a)(hb:BdOk u g b):Zkc a b=true:=by
 unfold Zkc
 have h1:(!b.lo||(a.lo&&decide (cmpD b.l a.l≤0)))=true:=by
  cases hl:b.lo
  ·rfl
  ·obtain⟨q,x,e,hx,hq,hm⟩:=hb.lo hl
   cases hal:a.lo
   ·obtain⟨_,f⟩:=ha.nl hal
    obtain⟨y,hy,hlt⟩:=f (q-1)
    have:=hm y (h y hy)
    exfalso;grind
   ·obtain⟨q',x',e',hx',hq',hm'⟩:=ha.lo hal
    have:=hm x' (h x' hx')
    rw[e,e',decide_eq_true (Zyn (by grind))];rfl
 have h2:(!b.hi||(a.hi&&decide (cmpD a.h b.h≤0)))=true:=by
  cases hl:b.hi
  ·rfl
  ·obtain⟨q,x,e,hx,hq,hm⟩:=hb.hi hl
   cases hal:a.hi
   ·obtain⟨_,f⟩:=ha.nh hal
    obtain⟨y,hy,hlt⟩:=f (q+1)
    have:=hm y (h y hy)
    exfalso;grind
   ·obtain⟨q',x',e',hx',hq',hm'⟩:=ha.hi hal
    have:=hm x' (h x' hx')
    rw[e,e',decide_eq_true (Zyn (by grind))];rfl
 rw[h1,h2];rfl
def Zb9(e:EvD)(x:RecD):EvD:={e with re:=e.re++[x]}
def ZeT(l:List Int)(x:MvD):MvD:=if x.s ≠ -1∧l.contains x.s=true then {x with s:= -1,r:=0} else x
def Zan(e:EvD)(l:List Int):EvD:={e with mv:=e.mv.map (ZeT l)}
theorem ZiA(e:EvD)(l:List Int)(i:Nat):mvAt (Zan e l) i=ZeT l (mvAt e i)∨(mvAt (Zan e l) i=mvAt e i∧e.mv.length≤i):=by
 unfold mvAt Zan
 simp only[Yb8]
 cases h:e.mv[i]? with
 | none=>right;exact⟨rfl,List.getElem?_eq_none_iff.1 h⟩
 | some x=>left;rfl
theorem ZhH(l:List Int)(x:MvD):(ZeT l x).f=x.f∧(ZeT l x).t=x.t∧(ZeT l x).a=x.a∧(ZeT l x).d=x.d:=by
 unfold ZeT
 split<;>exact⟨rfl,rfl,rfl,rfl⟩
theorem Zis(e:EvD)(l:List Int):Zdo e (Zan e l):=by
 have h:∀ i,(mvAt (Zan e l) i).f=(mvAt e i).f∧(mvAt (Zan e l) i).t=(mvAt e i).t∧(mvAt (Zan e l) i).a=(mvAt e i).a:=fun i=>by
  rcases ZiA e l i with h|⟨h,_⟩
  ·rw[h];exact⟨(ZhH l _).1,(ZhH l _).2.1,(ZhH l _).2.2.1⟩
  ·rw[h];exact⟨rfl,rfl,rfl⟩
 exact⟨rfl,rfl,rfl,by simp[Zan],fun i=>(h i).1.symm,fun i=>(h i).2.1.symm,fun i=>(h i).2.2.symm⟩
theorem Zg6(e:EvD)(x:RecD):Zdo e (Zb9 e x):=⟨rfl,rfl,rfl,rfl,fun _=>rfl,fun _=>rfl,fun _=>rfl⟩
theorem Zwa(l:List RecD)(x:RecD)(s d:Int):recC (l++[x]) s d=(recC l s d||hitR s d x):=by
 unfold recC
 rw[List.any_append]
 simp
theorem Zl8(e:EvD)(x:RecD)(v:MvD):ivE (Zb9 e x) v=if v.s ≠ -1∧hitR v.s v.d x=true then noI else ivE e v:=by
 unfold ivE
 by_cases hs:v.s = -1
 ·rw[if_pos hs,if_pos hs,if_neg (fun h=>h.1 hs)]
 ·rw[if_neg hs,if_neg hs]
  show intD e.ce (e.re++[x]) v.s v.r v.d=_
  unfold intD
  rw[Zwa]
  cases hh:hitR v.s v.d x
  ·rw[Bool.or_false,if_neg (fun h=>Yc5 h.2)]
  ·rw[Bool.or_true,Bool.true_or,if_pos ⟨hs,rfl⟩]
   cases ZnO e.ce v.s v.d with
   | none=>rfl
   | some b =>
     simp only
     cases e.ce[b]? with
     | none=>rfl
     | some c=>rfl
theorem Zsc(e:EvD)(l:List Int)(v:MvD):ivE (Zan e l) (ZeT l v)=if v.s ≠ -1∧l.contains v.s=true then noI else ivE e v:=by
 unfold ZeT
 by_cases h:v.s ≠ -1∧l.contains v.s=true
 ·rw[if_pos h,if_pos h];rfl
 ·rw[if_neg h,if_neg h];rfl
end Go.Proofs.YtiincpioidnciaaGreat
