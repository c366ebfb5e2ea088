/-
  The law TopWrongRange, walked over data; what its head says comes in.
-/
import Derived.Test.YtblamlnjbjaokaaGreatVT06
import Derived.Test.YtblamlnjbjaokaaGreatVConv
import Derived.Test.YtblamlnjbjaokaaGreatVT00
import Derived.Test.YtblamlnjbjaokaaGreatVT04
import Derived.Laws.CopyOwn
import Derived.Deep.RegionLaw
import Derived.Deep.OwnRows
import Derived.Test.YtblamlnjbjaokaaGreatVT05
import Derived.Test.YtblamlnjbjaokaaGreatRows
import Derived.Test.YtblamlnjbjaokaaGreatVLib
import Derived.BigRegion
import Derived.Deep.RegionHeld3
import Derived.Deep.AppendLies
import Derived.WalkSpells
import Derived.Outline
namespace Go.Proofs.YtblamlnjbjaokaaGreat
set_option linter.unusedVariables false
set_option linter.unusedSimpArgs false
set_option linter.unusedSectionVars false
open Go Go.RowKit
set_option maxRecDepth 100000
set_option maxHeartbeats 16000000
theorem Zsa(h:List (List Zac)):Zaa Tryz.prog 8 [encH h] (dB (Zg9 h)):=by
 refine⟨⟨_,_,Tryz.func8,rfl,by kernel_rfl⟩,fun S w vs hf hvs=>?_⟩
 have hx:=hvs
 match vs,hvs.1 with
 | [x],_ =>
   obtain⟨a,cap,_,h1,h2,_⟩:=(hvs.2 0 x _ rfl rfl).inv_sl
   rw[Yc0]at h2
   have:(maxLen:Int)≤9223372036854775807:=by decide
   exact(Zxh h (by omega)).2 S w [x] hf hx
theorem ZtB(kL:Zag Tryz.prog 4 [] (dB true))(e:EvD)(ps:List PkD)(a b:OptD)(y:List Zac)(h:List (List Zac)):Zag Tryz.prog 3 [Zej e,Zfu ps,encR a b,ZaM y,encH h] (dB true):=by
 have Zr:=Tryz.results3
 have k1:=Zrj e 6 2
 cases h1:ZcD e 6 2
 ·rw[h1]at k1
  refine inC Tryz.func3 rfl Tryz.ntmps3 ?_
  exact aGo Zr trivial
 rw[h1]at k1
 by_cases h2:(ps.length:Int)>12
 ·refine inC Tryz.func3 rfl Tryz.ntmps3 ?_
  exact aGo (cj2 Zr h2) trivial
 have k3:=ZxO a b
 cases h3:Zft a&&Zft b
 ·rw[h3]at k3
  refine inC Tryz.func3 rfl Tryz.ntmps3 ?_
  exact aGo (cj2 Zr h2) trivial
 rw[h3]at k3
 have k4:=Zme y 60 8 (by decide)
 cases h4:fewP y 60 8
 ·rw[h4]at k4
  refine inC Tryz.func3 rfl Tryz.ntmps3 ?_
  exact aGo (cj2 Zr h2) trivial
 rw[h4]at k4
 have k5:=Zsa h
 cases h5:Zg9 h
 ·rw[h5]at k5
  refine inC Tryz.func3 rfl Tryz.ntmps3 ?_
  exact aGo (cj2 Zr h2) trivial
 rw[h5]at k5
 simp only[ZcD,Ya2,Bool.not_eq_true',Bool.or_eq_false_iff,decide_eq_true_eq,decide_eq_false_iff_not]at h1
 obtain⟨⟨m2,_,_,p12⟩,n6,c10,r4,u6⟩:=h1
 have L:LenE e:=⟨by omega,by omega,by omega,by omega,by omega⟩
 have hL5:=h5
 simp only[Zg9,Ya2,decide_eq_true_eq,Ya6]at hL5
 have hl:∀ l∈h,l.length≤4096:=fun l hl=>by have:=(ZgV (hL5.1 l hl)).1;omega
 have hz:∀ l∈h,∀ f∈l,szF f≤4:=fun l hl f hf=>by have:=(ZgV (hL5.1 l hl)).2 f hf;omega
 have k6:=ZuU e h L (by omega) (by omega) hl hz
 by_cases h6:ZgU e h=0
 rotate_left
 ·have h6b:(ZgU e h !=0)=true:=by simpa using h6
  refine inC Tryz.func3 rfl Tryz.ntmps3 ?_
  exact aGo (cj3 Zr h2 h6b) trivial
 obtain⟨hf,hn,hrow,_⟩:=Znt h6
 have Ri:=ZfP hf
 rw[h6]at k6
 have hsys:=Zpo Ri (by omega) (by omega)
 have hx:=ZuS h6 hsys
 have tS:=ZyE Ri (by omega) (by omega) (by omega)
 have tY:tnFs y:=⟨by have:=(ZgV h4).1;omega,fun f hf=>by have:=(ZgV h4).2 f hf;unfold tnF;omega⟩
 have k7:=Zxr hf L (by omega) (by omega) y tS tY
 have h7:Zb1 (sysE e) y=false:=by
  cases hr:Zb1 (sysE e) y
  ·rfl
  ·rw[ZpM hr]at hx;cases hx
 rw[h7]at k7
 rw[Ya2]at h3
 have tA:=ZoS h3.1
 have tB:=ZoS h3.2
 have k8:=Zt5 hf L (by omega) (by omega) ps (by omega) a b tS tA tB
 cases h8:Zdo e ps a b
 ·rw[h8]at k8
  refine inC Tryz.func3 rfl Tryz.ntmps3 ?_
  exact aGo (cj2 Zr h2) trivial
 rw[h8]at k8
 unfold Zdo at h8
 simp only[Ya2]at h8
 obtain⟨_,_,hpk,hca,hcb⟩:=h8
 have hok:∀ p∈ps,okPk e p=true:=fun p hp=>ZlG _ hpk p (by rw[Yc2];exact hp)
 have hg:Zat ((Zf1 e ps).map oneT) (sysE e).n=true:=by
  unfold Zb7 at hca
  simp only[Ya2]at hca
  exact hca.1.2
 have hdot:=Zvd h6 hok
 have hopp:=Zue hsys hg h.flatten
 rw[hdot]at hopp
 have hokL:∀ l∈h,l.all okF=true:=fun l hl=>(hrow l hl).2
 have hszA:=ZvT hokL hz
 have zm:=Zkl hszA ps
 have k9:=Zxv h ps (by omega) hszA fun p hp=>by
  have hk:=hok p hp
  unfold okPk at hk
  simp only[Ya2,decide_eq_true_eq]at hk
  obtain⟨l,hr⟩:∃ l,h[p.v.toNat]? =some l:=⟨_,Ya0 (by omega)⟩
  have hlm:=Ya7 hr
  have hll:=(hrow l hlm).1
  obtain⟨f,hfm⟩:∃ f,l[p.m.toNat]? =some f:=⟨_,Ya0 (by omega)⟩
  exact⟨l,f,hr,hfm,Ya6.1 (hokL l hlm) f (Ya7 hfm),hk.1,hk.2.2.1⟩
 -- what the Ztg say
 have A0:a.k=0→∃ q,a.v=ofQ q∧(szQ q:Int)≤262144∧q≤Zed h ps:=fun h0=>by
  obtain⟨o,le⟩:=Zl6 hca h0 hx
  rw[hdot]at le
  exact⟨_,Zc1 o,(by rw[ZbO o];exact tA.1),le⟩
 have B0:b.k=0→∃ q,b.v=ofQ q∧(szQ q:Int)≤262144∧q ≤ -(Zed h ps):=fun h0=>by
  obtain⟨o,le⟩:=Zl6 hcb h0 hx
  rw[hopp]at le
  exact⟨_,Zc1 o,(by rw[ZbO o];exact tB.1),le⟩
 generalize Zed h ps=Q at A0 B0 zm k9
 clear hopp hdot hg hok hpk hca hcb hx hsys tS tY h7 Ri hrow hn hf hokL hszA
 by_cases a0:a.k=0
 ·obtain⟨qa,ea,za,la⟩:=A0 a0
  have a0b:(a.k==0)=true:=by simpa using a0
  have ca:=Zhe qa Q (by omega) (by omega)
  have na:¬ sgQ (qa-Q)>0:=fun hc=>by have:=ZnM.1 hc;grind
  generalize sgQ (qa-Q)=XA at ca na
  obtain⟨ak,av,ax,ay,ad⟩:=a
  simp only at ea
  subst ea
  by_cases b0:b.k=0
  ·obtain⟨qb,eb,zb,lb⟩:=B0 b0
   have b0b:(b.k !=0)=false:=by simpa using b0
   have kn:=ZvO qb (by omega)
   have cb:=Zhe (-qb) Q (by rw[Zh0];omega) (by omega)
   have nb:sgQ (-qb-Q)≥0:=by
    have:¬ sgQ (-qb-Q)<0:=fun hc=>by have:=ZkQ.1 hc;grind
    omega
   generalize sgQ (-qb-Q)=XB at cb nb
   obtain⟨bk,bv,bx,b_y,bd⟩:=b
   simp only at eb
   subst eb
   refine inC Tryz.func3 rfl Tryz.ntmps3 ?_
   exact aGo (cj4 Zr h2 a0b (cj3 b0b na nb)) trivial
  ·have b0b:(b.k !=0)=true:=by simpa using b0
   refine inC Tryz.func3 rfl Tryz.ntmps3 ?_
   exact aGo (cj4 Zr h2 a0b (cj2 b0b na)) trivial
 ·have a0b:(a.k==0)=false:=by simpa using a0
  by_cases b0:b.k=0
  ·obtain⟨qb,eb,zb,lb⟩:=B0 b0
   have b0b:(b.k !=0)=false:=by simpa using b0
   have kn:=ZvO qb (by omega)
   have cb:=Zhe (-qb) Q (by rw[Zh0];omega) (by omega)
   have nb:sgQ (-qb-Q)≥0:=by
    have:¬ sgQ (-qb-Q)<0:=fun hc=>by have:=ZkQ.1 hc;grind
    omega
   generalize sgQ (-qb-Q)=XB at cb nb
   obtain⟨bk,bv,bx,b_y,bd⟩:=b
   simp only at eb
   subst eb
   refine inC Tryz.func3 rfl Tryz.ntmps3 ?_
   exact aGo (cj4 Zr h2 a0b (cj2 b0b nb)) trivial
  ·have b0b:(b.k !=0)=true:=by simpa using b0
   refine inC Tryz.func3 rfl Tryz.ntmps3 ?_
   exact aGo (cj4 Zr h2 a0b b0b) trivial
section ifl
variable [Ifl]
structure Stop (n:Nat):Prop where
theorem aHere{rid:Nat}(_:Stop rid){P:Program}{n:Nat}{l:Array Oper}{b:Bool}{Q:Exit→St→Prop}{s:St}(h:AWP P n (.region rid l b) Q s):AWP P n (.region rid l b) Q s:=h
theorem ZnQ{n:Nat}{F Y X:Prop}(st:Stop n)(f:F)(y:Y)(h:Stop n→F→Keep Y→X:=by
 intro hst hf y
 repeat((fail_if_success refine aHere hst ?_);first
  | (refine hI _ ?_;clear hI;clear KI)
  | (refine hK _ ?_;try clear hK;try clear K)
  | ((with_reducible apply useK);(with_reducible assumption))
  | (refine aSeq fun KI hI=>?_)
  | (refine Zd1 ?_)
  | (refine Zg0 ?_)
  | (refine Zg2 ?_)
  | (refine aRet ?_)
  | (refine aOps _ rfl (by kernel_rfl) ?_)
  | (refine Zg1 _ rfl mixed (by kernel_rfl) (by kernel_rfl) fun KE hE=>?_)
  | (refine hE _ _ (by kernel_rfl) (ZaG rfl) ?_;clear hE;clear KE)
  | (refine hE _ _ (by kernel_rfl) (ZjB (by(first|((repeat(refine Zal rfl ?_));exact Zar)|(refine Zcm ?_;(repeat(refine Zbp rfl ?_));exact Zbq _))) rfl) ?_;clear hE;clear KE)
  | (refine hE _ _ (by kernel_rfl) (ZjA (by(first|((repeat(refine Zal rfl ?_));exact Zar)|(refine Zcm ?_;(repeat(refine Zbp rfl ?_));exact Zbq _))) (by kernel_rfl) rfl) ?_;clear hE;clear KE)
  | (refine ZdZ rfl ?hc ?_;case hc=>simp only[go_sem,↓reduceIte,beq_self_eq_true,bne_self_eq_false,hf])
  | (refine Zd0 rfl ?hc ?_;case hc=>simp only[go_sem,↓reduceIte,beq_self_eq_true,bne_self_eq_false,hf])
  | ((with_reducible apply Zb9);(first|with_reducible assumption|assumption);rotate_left;(first|((repeat(refine Zal rfl ?_));exact Zar)|(refine Zcm ?_;(repeat(refine Zbp rfl ?_));exact Zbq _)))
  | ((with_reducible apply Zbl);(first|with_reducible assumption|assumption))
  | ((with_reducible apply Zcr);(first|with_reducible assumption|assumption);rfl)
  | ((with_reducible apply Zbv);(first|with_reducible assumption|assumption);rfl)
  | (simp only[go_sem,↓reduceIte,beq_self_eq_true,bne_self_eq_false,hf])
  | (refine And.intro ?ho ?_;(case ho=>omega))
  | (clear hI;clear KI))
 repeat(first|(revert hE;revert KE)|(revert hI;revert KI))
 first|done|exact y.out):X:=h st f ⟨y⟩
end ifl
def putL{α:Type}(k:Nat)(x:α):List (Nat×α)→List (Nat×α)
 | []=>[(k,x)]
 | p ::l=>cond (Nat.beq p.1 k) ((k,x) ::l) (p ::putL k x l)
def tabU:List (Nat×D)→Nat→D
 | []=>fun _=>.v undef
 | p ::l=>upd (tabU l) p.1 p.2
theorem ZqW{α:Type}(f:Nat→α)(k:Nat)(x y:α):upd (upd f k x) k y=upd f k y:=by
 funext j;unfold upd;split<;>rfl
theorem Zn1{α:Type}(f:Nat→α){k j:Nat}(h:j≠k)(x y:α):upd (upd f k x) j y=upd (upd f j y) k x:=by
 funext i;unfold upd;split<;>split<;>simp_all
theorem ZlE(k:Nat)(x:D):∀ l,tabU (putL k x l)=upd (tabU l) k x
 | []=>rfl
 | p ::l=>by
   unfold putL
   cases h:Nat.beq p.1 k
   ·have hne:p.1≠k:=fun e=>by rw[e,Nat.beq_refl]at h;cases h
    simp only[cond_false,tabU,ZlE k x l]
    exact Zn1 _ hne _ _
   ·have:p.1=k:=Nat.eq_of_beq_eq_true h
    subst this
    simp only[cond_true,tabU,ZqW]
theorem Zie(k:Nat)(x:Blk):∀ l,tabM (putL k x l)=upd (tabM l) k (some x)
 | []=>rfl
 | p ::l=>by
   unfold putL
   cases h:Nat.beq p.1 k
   ·have hne:p.1≠k:=fun e=>by rw[e,Nat.beq_refl]at h;cases h
    simp only[cond_false,tabM,Zie k x l]
    exact Zn1 _ hne _ _
   ·have:p.1=k:=Nat.eq_of_beq_eq_true h
    subst this
    simp only[cond_true,tabM,ZqW]
def ovL:List (Nat×Blk)→List (Nat×Blk)→List (Nat×Blk)
 | m,[]=>m
 | m,p ::l=>ovL (putL p.1 p.2 m) l
theorem Zeb:∀ (l m:List (Nat×Blk)),tabM (ovL m l)=ov (tabM m) l
 | [],_=>rfl
 | p ::l,m=>by unfold ovL ov;rw[Zeb l,Zie]
def ZnH:Nat→List D→List (Nat×D)
 | _,[]=>[]
 | i,d ::l=>(i,d) ::ZnH (i+1) l
theorem Zmh:∀ (l:List D)(i k:Nat),tabU (ZnH i l) k=if k<i then .v undef else(l[k-i]?).getD (.v undef)
 | [],i,k=>by unfold ZnH tabU;split<;>simp
 | d ::l,i,k=>by
   simp only[ZnH,tabU,upd,Zmh l]
   by_cases h:k=i
   ·subst h;simp
   ·by_cases h2:k<i
    ·rw[if_neg h,if_pos h2,if_pos (by omega)]
    ·rw[if_neg h,if_neg h2,if_neg (by omega),show k-i=(k-(i+1))+1 by omega,List.getElem?_cons_succ]
theorem Zqo(l:List D):tabU (ZnH 0 l)=Zht l:=by
 funext k
 rw[Zmh]
 simp[Zht]
structure CS where
 t:List (Nat×D)
 m:List (Nat×Blk)
 nx:Nat
def putC(t:List (Nat×D))(dst:Option Tmp)(d:D):List (Nat×D) :=
 match dst with
 | none=>t
 | some k=>putL k d t
theorem Zb3(t:List (Nat×D))(dst:Option Tmp)(d:D):tabU (putC t dst d)=putT (tabU t) dst d:=by
 cases dst with
 | none=>rfl
 | some k=>exact ZlE k d t
def CS.den(c:CS)(lo:Nat):St:=⟨tabU c.t,tabM c.m,c.nx,lo⟩
def ZpX(op:BinOp)(x y:D):Bool :=
 match op with
 | .shr | .shl=>match y with
   | .v (.int _ b)=>decide (0≤b)
   | _=>true
 | .quo | .rem=>match y with
   | .v (.int _ b)=>b !=0
   | _=>true
 | .add=>match x,y with
   | .v (.string a),.v (.string b)=>decide (((a.size+b.size:Nat):Int)≤9223372036854775807)
   | _,_=>true
 | _=>true
theorem Zun{op:BinOp}{x y:D}{q:Prop}{d:D}(h:binD op x y=some (q,d))(ho:ZpX op x y=true):q:=by
 unfold binD at h
 split at h
 ·cases h;simpa[ZpX]using ho
 ·cases h;simpa[ZpX]using ho
 ·split at h
  ·split at h<;>cases h<;>first|trivial|(simpa[ZpX]using ho)
  ·cases h
 ·split at h<;>cases h<;>first|trivial|(simpa[ZpX]using ho)
 ·cases h
def ZwT(et:TyI)(s x:D)(m:Mem):Bool :=
 match ZeK m x with
 | some (es,_)=>es.all (fun e=>e.length==et.size&&e.all D.isCell)&&(match s with
   | .nil=>decide ((es.length:Int)*et.bytes≤140737488355328)&&decide ((es.length:Int)≤9007199254740992)
   | .ls id ver=>match ZbN m id ver with
     | some b=>decide (((b.es.length+es.length:Nat):Int)*et.bytes≤140737488355328)&&(decide (((b.es.length+es.length:Nat):Int)≤9007199254740992)&&(!b.dead||decide (0<es.length)))
     | none=>false
   | .cl es0=>es.isEmpty||es0.all (fun e=>e.length==et.size&&e.all D.isCell)&&(decide (((es0.length+es.length:Nat):Int)*et.bytes≤140737488355328)&&(decide (((es0.length+es.length:Nat):Int)≤9007199254740992)&&decide (0<es.length)))
   | _=>false)
 | none=>false
theorem ZmA{es:List (List D)}{k:Nat}(h:es.all (fun e=>e.length==k&&e.all D.isCell)=true):∀ e∈es,e.length=k∧e.all D.isCell=true:=by
 intro e he
 have:=Ya6.1 h e he
 simpa using this
theorem Zup{ty et:TyI}{s x:D}{m:Mem}{nx:Nat}{r:Res}(h:Zen ty et s x m nx=some r)(ho:ZwT et s x m=true):r.ok:=by
 unfold Zen at h
 unfold ZwT at ho
 split at h
 ·split at h
  ·rename_i es rr he
   rw[he]at ho
   simp only[Ya2]at ho
   obtain⟨h1,h2⟩:=ho
   have h1:=ZmA h1
   split at h
   ·cases h
    simp only[Ya2,decide_eq_true_eq]at h2
    exact⟨h1,h2.1,h2.2⟩
   ·split at h
    ·cases h;trivial
    cases h
    rename_i hem
    simp only[Bool.or_eq_true,Ya2,decide_eq_true_eq]at h2
    have h2:=h2.resolve_left hem
    exact⟨ZmA h2.1,h1,h2.2.1,h2.2.2.1,h2.2.2.2⟩
   ·split at h
    ·rename_i b hb
     simp only[hb,Ya2,decide_eq_true_eq,Bool.or_eq_true,Bool.not_eq_true']at h2
     split at h
     ·cases h;exact⟨h1,h2.1,h2.2.1⟩
     ·split at h
      ·rename_i hd
       cases h
       refine⟨h1,h2.1,h2.2.1,?_⟩
       rcases h2.2.2 with hf|hf
       ·rw[hd.1]at hf;cases hf
       ·exact hf
      ·cases h
    ·cases h
   ·cases h
  ·cases h
 ·cases h
def okSl(et:TyI)(x:D)(lo hi:Option D)(m:Mem):Bool :=
 match Zhv m x with
 | some (es,_)=>match ZgC lo 0,ZgC hi es.length with
   | some l,some h=>es.all (fun e=>e.length==et.size)&&(decide (0≤l)&&(decide (l≤h)&&decide (h≤es.length)))
   | _,_=>false
 | none=>false
theorem ZwO{et:TyI}{x:D}{lo hi:Option D}{m:Mem}{r:Res}(h:Zf2 et x lo hi m=some r)(ho:okSl et x lo hi m=true):r.ok:=by
 unfold Zf2 at h
 unfold okSl at ho
 split at h
 ·rename_i es rr hd
  split at h
  ·rename_i l hh h1 h2
   cases h
   simp only[hd,h1,h2,Ya2,decide_eq_true_eq,Ya6,beq_iff_eq]at ho
   exact ho
  ·cases h
 ·cases h
def ZwP(et:TyI)(x:D)(lo:Option D)(hi mx:D)(m:Mem):Bool :=
 match ZgC lo 0,hi,mx with
 | some l,.v (.int _ h),.v (.int _ k)=>(l==0)&&((h==k)&&(match Zhv m x with
   | some (es,_)=>es.all (fun e=>e.length==et.size)&&(decide (0≤h)&&decide (h≤es.length))
   | none=>h==0))
 | _,_,_=>false
theorem Zuk{et:TyI}{x:D}{lo:Option D}{hi mx:D}{m:Mem}{r:Res}(h:Zd6 et x lo hi mx m=some r)(ho:ZwP et x lo hi mx m=true):r.ok:=by
 unfold Zd6 at h
 unfold ZwP at ho
 split at h
 ·rename_i l k2 hh k3 kk hl
  simp only[hl,Ya2,beq_iff_eq]at ho
  obtain⟨h1,h2,h3⟩:=ho
  split at h
  ·rename_i es rr hd
   cases h
   simp only[hd,Ya2,decide_eq_true_eq,Ya6,beq_iff_eq]at h3
   exact⟨h3.1,h1,h2,h3.2.1,h3.2.2⟩
  ·rename_i hd
   split at h
   ·cases h
    simp only[hd,beq_iff_eq]at h3
    exact⟨h1,h2,h3⟩
   ·cases h
 ·cases h
def ZwN(x:D)(lo hi:Option D):Bool :=
 match x with
 | .v (.string s)=>match ZgC lo 0,ZgC hi s.size with
   | some l,some h=>decide (0≤l)&&(decide (l≤h)&&decide (h≤s.size))
   | _,_=>false
 | _=>false
theorem Zuj{x:D}{lo hi:Option D}{r:Res}(h:ZdA x lo hi=some r)(ho:ZwN x lo hi=true):r.ok:=by
 unfold ZdA at h
 unfold ZwN at ho
 split at h
 ·split at h
  ·rename_i l hh h1 h2
   cases h
   simp only[h1,h2,Ya2,decide_eq_true_eq]at ho
   exact ho
  ·cases h
 ·cases h
def okMk(et:TyI)(l c:D):Bool :=
 match l,c with
 | .v (.int _ l),.v (.int _ c)=>decide (0≤l)&&(decide (l≤c)&&(decide ((et.bytes:Int)*c≤140737488355328)&&decide (c≤9007199254740992)))
 | _,_=>false
theorem ZwQ{ty et:TyI}{l c:D}{nx:Nat}{r:Res}(h:Zck ty et l c nx=some r)(ho:okMk et l c=true):r.ok:=by
 unfold Zck at h
 unfold okMk at ho
 split at h
 ·split at h
  ·split at h
   ·cases h
    simpa only[Ya2,decide_eq_true_eq]using ho
   ·cases h
  ·cases h
 ·cases h
def okIx(d:D):Bool :=
 match d with
 | .v (.int _ n)=>decide (0≤n)
 | _=>false
def ZwR(ty:TyI)(d:D):Bool :=
 if ty.kind=3 then(match ty.fields,d with
  | [(len,_,_)],.v (.int _ n)=>decide (n<(len:Int))
  | _,_=>false)else true
def okOp(P:Program)(o:Op)(t:Nat→D)(m:Mem):Bool :=
 match o with
 | .indexAddr T _ i=>okIx (rd t i)&&(match tyOf P T with
   | some ty=>ZwR ty (rd t i)
   | none=>false)
 | .index _ _ i=>okIx (rd t i)
 | .slice T x lo hi none=>match tyOf P T with
   | some ty => if ty.kind = 2 then (match tyOf P ty.elem with
       | some et=>okSl et (rd t x) (lo.map (rd t)) (hi.map (rd t)) m
       | none=>false)
     else ZwN (rd t x) (lo.map (rd t)) (hi.map (rd t))
   | none=>false
 | .slice T x lo (some hi) (some mx)=>match tyOf P T with
   | some ty=>match tyOf P ty.elem with
     | some et=>ZwP et (rd t x) (lo.map (rd t)) (rd t hi) (rd t mx) m
     | none=>false
   | none=>false
 | .makeSlice T l c=>match tyOf P T with
   | some ty=>match tyOf P ty.elem with
     | some et=>okMk et (rd t l) (rd t c)
     | none=>false
   | none=>false
 | .binOp op _ x y _=>ZpX op (rd t x) (rd t y)
 | .call {callee:=.builtin .append,args,argTypes}=>match args.toList,argTypes.toList with
   | [x,y],[T,_]=>match tyOf P T with
     | some ty=>match tyOf P ty.elem with
       | some et=>ZwT et (rd t x) (rd t y) m
       | none=>false
     | none=>false
   | _,_=>false
 | _=>true
theorem Zee{x:Option D}{r:Res}(h:x.map Res.pure=some r):r.ok:=by
 cases x with
 | none=>cases h
 | some d=>cases h;trivial
theorem ZlH{ty et:TyI}{x ix:D}{m:Mem}{r:Res}(h:ZbK ty et x ix m=some r)(ho:okIx ix=true)(hl:ZwR ty ix=true):r.ok:=by
 unfold ZbK at h
 split at h
 ·split at h
  ·rename_i n
   have hn:0≤n:=by simpa[okIx]using ho
   split at h
   ·split at h
    ·split at h
     ·cases h;exact hn
     ·cases h
    ·cases h
   ·split at h
    ·split at h
     ·split at h
      ·cases h;exact hn
      ·cases h
     ·cases h
    ·cases h
   ·cases h
  ·cases h
 ·split at h
  ·rename_i hk
   unfold ZwR at hl
   rw[if_pos hk]at hl
   split at h
   ·rename_i n
    have hn:0≤n:=by simpa[okIx]using ho
    split at h
    ·split at h
     ·rename_i hf
      cases h
      simp only[hf,decide_eq_true_eq]at hl
      exact⟨hn,hl⟩
     ·cases h
    ·cases h
   ·cases h
  ·cases h
theorem ZwS{ty:TyI}{x ix:D}{r:Res}(h:ZjC ty x ix=some r)(ho:okIx ix=true):r.ok:=by
 unfold ZjC at h
 split at h
 ·split at h
  ·rename_i s _ n
   have hn:0≤n:=by simpa[okIx]using ho
   split at h
   ·cases h;exact hn
   ·cases h
  ·cases h
 ·cases h
theorem ZuH{ty:TyI}{x:D}{m:Mem}{r:Res}(h:ZgR ty x m=some r):r.ok:=by
 unfold ZgR at h
 split at h
 ·exact Zee h
 ·split at h
  ·rename_i b hb
   cases hq:ldE b.es _ _ ty with
   | none=>rw[hq]at h;cases h
   | some d=>rw[hq]at h;cases h;trivial
  ·cases h
 ·cases h
theorem Zrc{ty:TyI}{x y:D}{m:Mem}{r:Res}(h:Zf0 ty x y m=some r):r.ok:=by
 unfold Zf0 at h
 split at h
 ·split at h
  ·split at h
   ·split at h
    ·cases h;trivial
    ·cases h
   ·cases h
  ·cases h
 ·cases h
theorem ZkF{ty:TyI}{x:D}{f:Nat}{r:Res}(h:ZcQ ty x f=some r):r.ok:=by
 unfold ZcQ at h
 split at h
 ·split at h
  ·cases h
  ·split at h
   ·cases h;trivial
   ·cases h;trivial
   ·cases h
 ·cases h
theorem ZsI{ty:TyI}{x:D}{f:Nat}{r:Res}(h:ZjI ty x f=some r):r.ok:=by
 unfold ZjI at h
 split at h
 ·split at h
  ·cases h
  ·exact Zee h
 ·cases h
theorem Ztf{ty:TyI}{ps:List (Nat×D)}{r:Res}(h:ZjQ ty ps=some r):r.ok:=by
 unfold ZjQ at h
 split at h
 ·split at h
  ·cases hq:Zgq (fun i=>(ty.fields[i]?).map fun f=>(f.1,f.2.1)) _ ps with
   | none=>rw[hq]at h;cases h
   | some d=>rw[hq]at h;cases h;trivial
  ·cases h
 ·cases h
theorem ZnO{ty et:TyI}{n:Nat}{ps:List (Nat×D)}{nx:Nat}{r:Res}(h:ZbV ty et n ps nx=some r):r.ok:=by
 unfold ZbV at h
 split at h
 ·split at h
  ·cases h;trivial
  ·cases h
 ·cases h
theorem Zxj{ty:TyI}{x:D}{m:Mem}{r:Res}(h:lenF ty x m=some r):r.ok:=by
 unfold lenF at h
 split at h
 ·split at h<;>cases h;trivial
 ·split at h<;>cases h;trivial
 ·split at h
  ·split at h<;>cases h;trivial
  ·cases h
 ·split at h<;>cases h;trivial
 ·cases h
theorem Zzd{b:Bool}{l:List D}{r:Res}(h:ZfL b l=some r):r.ok:=by
 unfold ZfL at h
 split at h
 ·split at h<;>cases h;trivial
 ·cases h
theorem Zvk{a b:TyI}{x:D}{r:Res}(h:Zfe a b x=some r):r.ok:=by
 unfold Zfe at h
 split at h
 ·split at h<;>cases h;trivial
 ·cases h
theorem Ztr{T:TypeId}{ty:TyI}{nx:Nat}{r:Res}(h:ZiS T ty nx=some r):r.ok:=by
 unfold ZiS at h
 split at h<;>cases h;trivial
theorem ZxV{T:TypeId}{x:D}{nx:Nat}{r:Res}(h:boxF T x nx=some r):r.ok:=by
 unfold boxF at h
 split at h<;>cases h;trivial
theorem Zmw{ty et:TyI}{ps:List (Nat×D)}{r:Res}(h:ZdU ty et ps=some r):r.ok:=by
 unfold ZdU at h
 split at h
 ·exact Zee (x:=(Zgq _ _ ps).map D.agg) (by rw[Option.map_map];exact h)
 ·cases h
theorem Znm{P:Program}{T:TypeId}{nx:Nat}{r:Res}(h:Ze6 P T nx=some r):r.ok:=by
 unfold Ze6 at h
 split at h<;>cases h;trivial
theorem Zp8{P:Program}{T:TypeId}{x i:D}{c:Bool}{m:Mem}{r:Res}(h:ZeG P T x i c m=some r):r.ok:=by
 unfold ZeG at h
 repeat' (split at h)
 all_goals (first|(cases h;done)|(cases h;trivial))
theorem Zkp{P:Program}{T:TypeId}{x i y:D}{m:Mem}{r:Res}(h:ZbY P T x i y m=some r):r.ok:=by
 unfold ZbY at h
 repeat' (split at h)
 all_goals (first|(cases h;done)|(cases h;trivial))
theorem ZrM{P:Program}{o:Op}{t:Nat→D}{m:Mem}{nx:Nat}{r:Res}(h:opF P o t m nx=some r)(ho:okOp P o t m=true):r.ok:=by
 unfold opF at h
 unfold okOp at ho
 split at h
 all_goals (try (cases h;trivial))
 all_goals (try simp only at ho)
 all_goals (repeat' (split at h))
 all_goals (try (cases h;done))
 all_goals (try (cases h;trivial))
 all_goals (first
  | exact Zee h
  | exact ZuH h
  | exact Zrc h
  | exact ZkF h
  | exact ZsI h
  | exact Ztf h
  | exact ZnO h
  | exact Zxj h
  | exact Zzd h
  | exact Zvk h
  | exact Ztr h
  | exact ZxV h
  | exact Zmw h
  | exact Znm h
  | exact Zp8 h
  | exact Zkp h
  | (rename_i h1 _ _ _ _;simp only[h1,Ya2]at ho;exact ZlH h ho.1 ho.2)
  | (rename_i h1 _ _ _;simp only[h1,Ya2]at ho;exact ZlH h ho.1 ho.2)
  | exact ZwS h ho
  | skip)
 ·rename_i h1 h2 _ _ h3
  simp only[h1,h2,h3,if_true]at ho;exact ZwO h ho
 ·rename_i h1 h2 _
  simp only[h1,if_neg h2]at ho;exact Zuj h ho
 ·rename_i h1 _ _ _ h2
  simp only[h1,h2]at ho;exact Zuk h ho
 ·rename_i h1 _ _ h2
  simp only[h1,h2]at ho;exact ZwQ h ho
 ·rename_i h1
  cases h
  exact Zun h1 ho
 ·rename_i e1 e2 e3 _ _ h1 _ _ h2
  subst e3
  simp only[e1,e2,h1,h2]at ho
  exact Zup h ho
mutual
def eqD:D→D→Bool
 | .v (.int k a),.v (.int l b)=>decide (k=l)&&decide (a=b)
 | .v (.bool a),.v (.bool b)=>a==b
 | .nil,.nil=>true
 | .agg l,.agg m=>eqDs l m
 | .tup l,.tup m=>eqDs l m
 | .sl l,.sl m=>ZnG l m
 | .cl l,.cl m=>ZnG l m
 | .ep l i o,.ep m j u=>Nat.beq i j&&(Nat.beq o u&&ZnG l m)
 | .ls a b,.ls c d=>Nat.beq a c&&Nat.beq b d
 | .lp a b i o,.lp c d j u=>(Nat.beq a c&&Nat.beq b d)&&(Nat.beq i j&&Nat.beq o u)
 | .mp a b,.mp c d=>Nat.beq a c&&Nat.beq b d
 | .junk,.junk=>true
 | _,_=>false
def eqDs:List D→List D→Bool
 | [],[]=>true
 | x ::l,y ::m=>eqD x y&&eqDs l m
 | _,_=>false
def ZnG:List (List D)→List (List D)→Bool
 | [],[]=>true
 | x ::l,y ::m=>eqDs x y&&ZnG l m
 | _,_=>false
end
mutual
theorem Zzz:∀ x y:D,eqD x y=true→x=y
 | .v (.int k a),.v (.int l b),h=>by simp only[eqD,Ya2,decide_eq_true_eq]at h;rw[h.1,h.2]
 | .v (.bool a),.v (.bool b),h=>by simp only[eqD,beq_iff_eq]at h;rw[h]
 | .nil,.nil,_=>rfl
 | .agg l,.agg m,h=>by simp only[eqD]at h;rw[Ziz l m h]
 | .tup l,.tup m,h=>by simp only[eqD]at h;rw[Ziz l m h]
 | .sl l,.sl m,h=>by simp only[eqD]at h;rw[Zgs l m h]
 | .cl l,.cl m,h=>by simp only[eqD]at h;rw[Zgs l m h]
 | .ep l i o,.ep m j u,h=>by simp only[eqD,Ya2]at h;rw[Zgs l m h.2.2,Nat.eq_of_beq_eq_true h.1,Nat.eq_of_beq_eq_true h.2.1]
 | .ls a b,.ls c d,h=>by simp only[eqD,Ya2]at h;rw[Nat.eq_of_beq_eq_true h.1,Nat.eq_of_beq_eq_true h.2]
 | .lp a b i o,.lp c d j u,h=>by simp only[eqD,Ya2]at h;rw[Nat.eq_of_beq_eq_true h.1.1,Nat.eq_of_beq_eq_true h.1.2,Nat.eq_of_beq_eq_true h.2.1,Nat.eq_of_beq_eq_true h.2.2]
 | .mp a b,.mp c d,h=>by simp only[eqD,Ya2]at h;rw[Nat.eq_of_beq_eq_true h.1,Nat.eq_of_beq_eq_true h.2]
 | .junk,.junk,_=>rfl
theorem Ziz:∀ l m:List D,eqDs l m=true→l=m
 | [],[],_=>rfl
 | x ::l,y ::m,h=>by simp only[eqDs,Ya2]at h;rw[Zzz x y h.1,Ziz l m h.2]
theorem Zgs:∀ l m:List (List D),ZnG l m=true→l=m
 | [],[],_=>rfl
 | x ::l,y ::m,h=>by simp only[ZnG,Ya2]at h;rw[Ziz x y h.1,Zgs l m h.2]
end
def eqBk(a b:Blk):Bool:=Nat.beq a.T b.T&&(Nat.beq a.ver b.ver&&(Nat.beq a.k b.k&&(Nat.beq a.fz b.fz&&(a.dead==b.dead&&ZnG a.es b.es))))
theorem ZsO{a b:Blk}(h:eqBk a b=true):a=b:=by
 obtain⟨T,v,k,es,fz,dd⟩:=a
 obtain⟨T',v',k',es',fz',dd'⟩:=b
 simp only[eqBk,Ya2,beq_iff_eq]at h
 obtain⟨h1,h2,h3,h4,h5,h6⟩:=h
 cases Nat.eq_of_beq_eq_true h1;cases Nat.eq_of_beq_eq_true h2;cases Nat.eq_of_beq_eq_true h3;cases Nat.eq_of_beq_eq_true h4;cases h5;cases Zgs _ _ h6
 rfl
def Zdr(m:Mem):List (Nat×Blk)→List (Nat×Blk)
 | []=>[]
 | p ::l=>match m p.1 with
   | some b=>cond (eqBk b p.2) (Zdr m l) (p ::Zdr m l)
   | none=>p ::Zdr m l
def ZrL:List Nat→Bool
 | []=>true
 | x ::l=> !l.any (Nat.beq x)&&ZrL l
theorem Zgx{m:Mem}{id:Nat}:∀ l:List (Nat×Blk),id∈(Zdr m l).map (·.1)→id∈l.map (·.1)
 | [],h=>h
 | p ::l,h=>by
   have keep:id∈(p ::Zdr m l).map (·.1)→id∈(p ::l).map (·.1):=fun h=>by
    rw[List.map_cons,List.mem_cons]at h ⊢
    exact h.imp_right (Zgx l)
   have skip:id∈(Zdr m l).map (·.1)→id∈(p ::l).map (·.1):=fun h=>by
    rw[List.map_cons];exact Yb6 _ (Zgx l h)
   unfold Zdr at h
   split at h
   ·cases hb:eqBk _ p.2<;>rw[hb]at h
    ·exact keep h
    ·exact skip h
   ·exact keep h
theorem Zle{id:Nat}:∀ l:List (Nat×Blk),id∉l.map (·.1)→tabM l id=none
 | [],_=>rfl
 | p ::l,h=>by
   simp only[List.map_cons,List.mem_cons,not_or]at h
   show upd (tabM l) p.1 (some p.2) id=none
   rw[Zad _ _ h.1,Zle l h.2]
theorem ZkO{id:Nat}:∀ (l:List (Nat×Blk)) (m m0:Mem),ZrL (l.map (·.1))=true→(id∉l.map (·.1)→m id=none)→m0 id=m id→ov m0 (Zdr m l) id=(if id∈l.map (·.1)then tabM l id else m id)
 | [],m,m0,_,_,he=>by simpa[Zdr,ov]using he
 | p ::l,m,m0,ho,hn,he=>by
   simp only[List.map_cons,ZrL,Ya2,Bool.not_eq_true']at ho
   have hp:p.1∉l.map (·.1):=fun hc=>by
    have:=List.any_eq_false.1 ho.1 p.1 hc
    rw[Nat.beq_refl]at this;exact this rfl
   by_cases e:id=p.1
   ·subst e
    rw[if_pos (by simp)]
    have ht:tabM (p ::l) p.1=some p.2:=Zab _ _ _
    rw[ht]
    have hd:∀ m1:Mem,ov m1 (Zdr m l) p.1=m1 p.1:=fun m1=>Zih fun h=>hp (Zgx l h)
    have keep:ov m0 (p ::Zdr m l) p.1=some p.2:=by
     show ov (upd m0 p.1 (some p.2)) (Zdr m l) p.1=_
     rw[hd,Zab]
    unfold Zdr
    split
    ·rename_i b hb
     cases hq:eqBk b p.2
     ·exact keep
     ·show ov m0 (Zdr m l) p.1=_
      rw[hd,he,hb,ZsO hq]
    ·exact keep
   ·have ht:tabM (p ::l) id=tabM l id:=Zad _ _ e
    have hmem:(id∈(p ::l).map (·.1))↔id∈l.map (·.1):=by rw[List.map_cons,List.mem_cons];exact⟨fun h=>h.resolve_left e,.inr⟩
    simp only[hmem,ht]
    have hn':id∉l.map (·.1)→m id=none:=fun h=>hn fun h2=>h (hmem.1 h2)
    have ih0:=ZkO l m m0 ho.2 hn' he
    have ih1:=ZkO l m (upd m0 p.1 (some p.2)) ho.2 hn' ((Zad _ _ e).trans he)
    unfold Zdr
    split
    ·rename_i b hb
     cases hq:eqBk b p.2
     ·exact ih1
     ·exact ih0
    ·exact ih1
theorem Zs4{m:Mem}{l:List (Nat×Blk)}(ho:ZrL (l.map (·.1))=true)(hn:∀ id,id∉l.map (·.1)→m id=none):ov m (Zdr m l)=tabM l:=by
 funext id
 rw[ZkO l m m ho (hn id) rfl]
 split
 ·rfl
 ·rename_i h;rw[hn id h,Zle l h]
def exOk(m m':List (Nat×Blk))(nx nx':Nat):Bool :=
 m.all (fun p=>Nat.blt p.1 nx)&&(Nat.ble nx nx'&&(Nat.ble nx' 1024&&(ZrL (m'.map (·.1))&&((m'.all fun p=>Nat.blt p.1 nx')&&m.all fun p=>(m'.map (·.1)).any (Nat.beq p.1)))))
theorem Znk{x:Nat}{l:List Nat}(h:l.any (Nat.beq x)=true):x∈l:=by
 obtain⟨y,hy,e⟩:=List.any_eq_true.1 h
 rw[Nat.eq_of_beq_eq_true e];exact hy
theorem Zj0{id:Nat}{b:Blk}:∀ {l:List (Nat×Blk)},tabM l id=some b→id∈l.map (·.1)
 | [],h=>by cases h
 | p ::l,h=>by
   by_cases e:id=p.1
   ·rw[e];simp
   ·have:tabM (p ::l) id=tabM l id:=Zad _ _ e
    rw[this]at h
    rw[List.map_cons];exact Yb6 _ (Zj0 h)
section
variable [Ifl]
theorem ZxG{m:Mem}{l:List (Nat×Blk)}{n:Nat}(h:(l.all fun p=>Nat.blt p.1 n)=true):∀ p∈Zdr m l,p.1<n:=by
 intro p hp
 have:=Zgx l (Yc6.2 ⟨p,hp,rfl⟩)
 obtain⟨q,hq,e⟩:=Yc6.1 this
 rw[← e]
 exact Nat.le_of_ble_eq_true (Ya6.1 h q hq)
theorem EffC.exact{P:Program}{f:FuncId}{ds:List D}{m m':List (Nat×Blk)}{nx nx':Nat}{d:D}(he:exOk m m' nx nx'=true)
 (h:Zas P f ds (tabM m) nx fun d1 m1 n1=>d1=d∧m1=tabM m'∧n1=nx'):EffC P f ds (tabM m) nx ⟨d,List.range 1024,Zdr (tabM m) m',false⟩ nx':=by
 unfold exOk at he
 simp only[Ya2]at he
 obtain⟨e1,e2,e3,e4,e5,e6⟩:=he
 have e2:=Nat.le_of_ble_eq_true e2
 have e3:=Nat.le_of_ble_eq_true e3
 have lt:∀ id b,tabM m id=some b→id<nx:=fun id b hb=>by
  obtain⟨p,hp,e⟩:=Yc6.1 (Zj0 hb)
  rw[← e]
  exact Nat.le_of_ble_eq_true (Ya6.1 e1 p hp)
 have lt':=ZxG (m:=tabM m) e5
 refine⟨h.1,rfl,e2,fun p hp=>?_,fun E β m1 NX w vs hN hM ht hvs=>?_⟩
 ·have:=lt' p hp
  exact⟨Yd2.2 (by omega),this⟩
 have em:m1=tabM m:=by
  funext id
  by_cases hid:id<1024
  ·exact ht.1 id (Yd2.2 hid)
  ·rw[ht.2 (by show 1024≤(List.range 1024).length;rw[List.length_range];exact Ya4 _) e3 id (by omega)]
   cases hb:tabM m id with
   | none=>rfl
   | some b=>have:=lt id b hb;omega
 subst em
 have hM':Zay E β (tabM m) nx w:=⟨hM.below,lt,hM.fz,hM.wid,hM.non,hM.row,hM.inj⟩
 refine(h.2 E β w vs hM' hvs).mono ?_
 rintro e w' ⟨v,d1,m1,n1,rfl,⟨β',h1,h2,h3,h4⟩,rfl,rfl,rfl⟩
 have ed:ov (tabM m) (Zdr (tabM m) m')=tabM m':=Zs4 e4 fun id hid=>by
  cases hb:tabM m id with
  | none=>rfl
  | some b =>
    obtain⟨p,hp,e⟩:=Yc6.1 (Zj0 hb)
    exact absurd (e▸Znk (Ya6.1 e6 p hp)) hid
 refine⟨v,rfl,β',?_⟩
 rw[ed]
 exact⟨h1.mono_nx hN,h2,h3,h4⟩
def ZxH(l:List Nat)(m:Mem):Bool:=l.all fun id=>match m id with
 | some b=>b.dead
 | none=>false
theorem ZgS:∀ (l:List Nat)(m:Mem),(∀ id∈l,∃ b,m id=some b∧b.dead=true)→ov m (Zbm l m)=m
 | [],m,_=>rfl
 | id ::l,m,h=>by
   obtain⟨b,hb,hd⟩:=h id (by simp)
   have e0:({b with dead:=true}:Blk)=b:=by obtain⟨T,v,k,es,fz,dd⟩:=b;simp only at hd;subst hd;rfl
   have e1:upd m id (some {b with dead:=true})=m:=by
    rw[e0];funext j
    by_cases e:j=id
    ·subst e;rw[Zab,hb]
    ·rw[Zad _ _ e]
   unfold Zbm
   rw[hb]
   simp only[ov,e1]
   exact ZgS l m fun j hj=>h j (Yb6 _ hj)
theorem EffC.seen{P:Program}{f:FuncId}{ds:List D}{m:Mem}{nx:Nat}{d:D}(hd:ZxH (Za5 ds) m=true)(hC:Zaa P f (ZcB (Zcc m ds) ds) d):EffC P f ds m nx ⟨d,Za5 ds,[],false⟩ nx:=by
 have hd1:∀ id∈Za5 ds,∃ b,m id=some b∧b.dead=true:=fun id hid=>by
  have:=Ya6.1 hd id hid
  cases hb:m id with
  | none=>rw[hb]at this;cases this
  | some b=>rw[hb]at this;exact⟨b,rfl,this⟩
 refine⟨hC.1,rfl,Ya4 _,(fun p hp=>by cases hp),fun E β m1 NX w vs hN hM ht hvs=>?_⟩
 have k0:Zcc m ds=m:=ZgS _ _ hd1
 have k1:Zcc m1 ds=m1:=ZgS _ _ fun id hid=>by
  obtain⟨b,h1,h2⟩:=hd1 id hid
  exact⟨b,(ht.1 id hid).trans h1,h2⟩
 have hargs:ZcB (Zcc m1 ds) ds=ZcB (Zcc m ds) ds:=Zco ds fun id hid=>by rw[k0,k1];exact ht.1 id hid
 rw[← hargs]at hC
 refine(hC.after hM hvs).mono ?_
 rintro e w' ⟨v,rfl,ha⟩
 rw[k1]at ha
 exact⟨v,rfl,ha⟩
end
section
variable (P:Program) (call:FuncId→List D→Option D) (inl inE:FuncId→List D→List (Nat×Blk)→Nat→Option (D×List (Nat×Blk)×Nat)) (kt:TypeId→Bool)
def newB(l:List Nat)(nx:Nat):Bool :=
 match l with
 | []=>true
 | [k]=>Nat.beq k nx
 | _=>false
theorem ZrS{l:List Nat}{nx:Nat}(h:newB l nx=true):l=[]∨l=[nx]:=by
 unfold newB at h
 split at h
 ·exact .inl rfl
 ·exact .inr (by rw[Nat.eq_of_beq_eq_true h])
 ·cases h
def ZoX(f:FuncId)(ds:List D)(c:CS):Option (D×List (Nat×Blk)) :=
 match call f (ZcB (tabM (ovL c.m (Zbm (Za5 ds) (tabM c.m)))) ds)with
 | some d=>some (d,ovL c.m (Zbm (Za5 ds) (tabM c.m)))
 | none=>none
def evOp(o:SOp)(c:CS):Option CS :=
 match opF P o.op (tabU c.t) (tabM c.m) c.nx with
 | some r=>cond (okOp P o.op (tabU c.t) (tabM c.m)&&newB r.new c.nx) (some ⟨putC c.t o.dst r.d,ovL c.m r.wr,c.nx+r.new.length⟩) none
 | none=>match Zfo o.op (tabU c.t)with
   | some (f,ds)=>match inl f ds c.m c.nx with
     | some (d,m',nx')=>some ⟨putC c.t o.dst d,m',nx'⟩
     | none=>match ZoX call f ds c with
       | some (d,m')=>some ⟨putC c.t o.dst d,m',c.nx⟩
       | none=>none
   | none=>none
def ZkI(ds:List (Option Tmp)):List SOp→CS→Option CS
 | [],c=>some c
 | o ::rest,c=>match o.guard with
   | none=>match evOp P call inl o c with
     | some c'=>ZkI ds rest c'
     | none=>none
   | some g=>match ZdM ds g (tabU c.t)with
     | some p => cond (p.2 == g.2) (match evOp P call inl o c with
         | some c'=>ZkI ds rest c'
         | none=>none) (ZkI ds rest ⟨putC c.t o.dst (.v undef),c.m,c.nx⟩)
     | none=>none
def ZsN(o:SOp)(c:CS):Option (Ev×CS) :=
 match opF P o.op (tabU c.t) (tabM c.m) c.nx with
 | some r => cond (okOp P o.op (tabU c.t) (tabM c.m) && (newB r.new c.nx && r.wr.all (fun p => decide (p.1 < c.nx + r.new.length))))
     (some (⟨r.d,r.rd++r.new++r.wr.map (·.1),r.wr,false⟩,⟨putC c.t o.dst r.d,ovL c.m r.wr,c.nx+r.new.length⟩)) none
 | none=>match Zfo o.op (tabU c.t)with
   | some (f,ds)=>match inE f ds c.m c.nx with
     | some (d,m',nx')=>cond (exOk c.m m' c.nx nx') (some (⟨d,List.range 1024,Zdr (tabM c.m) m',false⟩,⟨putC c.t o.dst d,ovL c.m (Zdr (tabM c.m) m'),nx'⟩)) none
     | none=>match ZoX call f ds c with
       | some (d, m') => cond (ZxH (Za5 ds) (tabM c.m)) (some (⟨d, Za5 ds, [], false⟩, ⟨putC c.t o.dst d, c.m, c.nx⟩))
           (cond ((Zbm (Za5 ds) (tabM c.m)).all (fun p=>decide (p.1<c.nx)))
             (some (⟨d,Za5 ds++(Zbm (Za5 ds) (tabM c.m)).map (·.1),Zbm (Za5 ds) (tabM c.m),false⟩,⟨putC c.t o.dst d,m',c.nx⟩)) none)
       | none=>none
   | none=>none
def ZkH(ds:List (Option Tmp)):List SOp→CS→List Ev→Option (List Ev×CS)
 | [],c,tr=>some (tr,c)
 | o ::rest,c,tr=>match o.guard with
   | none=>match ZsN P call inE o c with
     | some (ev,c')=>ZkH ds rest c' (tr++[ev])
     | none=>none
   | some g=>match ZdM ds g (tabU c.t)with
     | some p => cond (p.2 == g.2) (match ZsN P call inE o c with
         | some (ev,c')=>ZkH ds rest c' (tr++[ev])
         | none=>none) (ZkH ds rest ⟨putC c.t o.dst (.v undef),c.m,c.nx⟩ (tr++[⟨.v undef,[],[],false⟩]))
     | none=>none
def ZoV(body:CS→Option (Exit×CS)):Nat→CS→Option (Exit×CS)
 | 0,_=>none
 | k+1,c=>match body c with
   | some (.normal,c')=>ZoV body k c'
   | r=>r
def Zt2(ops:Array Oper)(tr:List Ev):Bool:=tr.all (fun e=>e.wr.isEmpty)||Zf9 ops (tr.map fun e=>(e.touch,ids e.wr))
def preK(c:CS):CS:=⟨c.t,ovL c.m (Zbm ((c.m.filter fun p=>kt p.2.T && !p.2.dead).map (·.1)) (tabM c.m)),c.nx⟩
def evC(L:Nat):Code→CS→Option (Exit×CS)
 | .skip,c=>some (.normal,c)
 | .exit id,c=>some (.exit id,c)
 | .ret,c=>some (.ret,c)
 | .seq x y,c=>match evC L x c with
   | some (.normal,c')=>evC L y c'
   | r=>r
 | .block id x,c=>match evC L x c with
   | some (.exit id',c')=>if id'=id then some (.normal,c')else some (.exit id',c')
   | r=>r
 | .cond o x y,c=>match rd (tabU c.t) o with
   | .v (.bool true)=>evC L x c
   | .v (.bool false)=>evC L y c
   | _=>none
 | .loop x,c=>ZoV (evC L x) L c
 | .region _ l false,c=>match ZkI P call inl (l.toList.map (·.dst)) (l.toList.map ZfB) c with
   | some c'=>some (.normal,c')
   | none=>none
 | .region _ l true,c=>match ZkH P call inE (l.toList.map (·.dst)) (l.toList.map ZfB) (preK kt c) []with
   | some (tr,c')=>cond (Zt2 l tr) (some (.normal,c')) none
   | none=>none
 | _,_=>none
def Zgp(n:Nat):Code→Bool
 | .skip | .exit _ | .ret=>true
 | .seq x y=>Zgp n x&&Zgp n y
 | .block _ x=>Zgp n x
 | .cond o x y=>Zc5 n o&&(Zgp n x&&Zgp n y)
 | .loop x=>Zgp n x
 | .region _ l false=>l.all (ZaY n)
 | .region _ l true=>l.all (ZaY n)&&Zqq l
 | _=>true
end
section ifl
variable [Ifl]
section
variable {P:Program} {call:FuncId→List D→Option D} {inl inE:FuncId→List D→List (Nat×Blk)→Nat→Option (D×List (Nat×Blk)×Nat)} {kt:TypeId→Bool}
 (hc:∀ f ds d,call f ds=some d→Zaa P f ds d)
include hc
theorem Zmg{f:FuncId}{ds:List D}{c:CS}{d:D}{m':List (Nat×Blk)}(h:ZoX call f ds c=some (d,m')):Zaa P f (ZcB (Zcc (tabM c.m) ds) ds) d∧tabM m'=Zcc (tabM c.m) ds∧m'=ovL c.m (Zbm (Za5 ds) (tabM c.m)):=by
 unfold ZoX at h
 split at h
 ·rename_i d' hd
  cases h
  have h1:=hc _ _ _ hd
  rw[Zeb]at h1
  exact⟨h1,Zeb _ _,rfl⟩
 ·cases h
variable (hi:∀ f ds m nx d m' nx',inl f ds m nx=some (d,m',nx')→∀ K:D→Mem→Nat→Prop,K d (tabM m') nx'→Zas P f ds (tabM m) nx K)
include hi
theorem ZsM{o:SOp}{c c':CS}{lo:Nat}{K:St→Prop}(h:evOp P call inl o c=some c')(k:K (c'.den lo)):opS P o (c.den lo) K:=by
 unfold evOp at h
 unfold opS CS.den
 simp only
 split at h
 ·rename_i r hr
  rw[hr]
  cases hb:(okOp P o.op (tabU c.t) (tabM c.m)&&newB r.new c.nx)
  ·rw[hb]at h;cases h
  ·rw[hb]at h
   simp only[cond_true,Ya1]at h
   subst h
   rw[Ya2]at hb
   refine⟨ZrM hr hb.1,ZrS hb.2,?_⟩
   simp only[CS.den,Zb3,Zeb]at k
   exact k
 ·rename_i hr
  rw[hr]
  split at h
  ·rename_i f ds hd
   rw[hd]
   simp only
   split at h
   ·rename_i d m' nx' hin
    cases h
    refine hi _ _ _ _ _ _ _ hin _ ?_
    simp only[CS.den,Zb3]at k
    exact k
   ·split at h
    ·rename_i d m' hq
     cases h
     obtain⟨h1,h2,_⟩:=Zmg hc hq
     refine Zas.ofN h1 ?_
     simp only[CS.den,Zb3,h2]at k
     exact k
    ·cases h
  ·cases h
theorem ZhL{ds:List (Option Tmp)}{lo:Nat}{K:St→Prop}:∀ (l:List SOp)(c c':CS),ZkI P call inl ds l c=some c'→K (c'.den lo)→opsL P ds l (c.den lo) K
 | [],c,c',h,k=>by unfold ZkI at h;cases h;exact k
 | o ::rest,c,c',h,k=>by
   unfold ZkI at h
   unfold opsL
   split at h
   ·rename_i hg
    rw[hg]
    simp only
    split at h
    ·rename_i c1 h1
     exact ZsM hc hi h1 (ZhL rest c1 c' h k)
    ·cases h
   ·rename_i g hg
    rw[hg]
    simp only
    split at h
    ·rename_i p hp
     rw[show ZdM ds g (c.den lo).t=some p from hp]
     obtain⟨k1,b⟩:=p
     obtain⟨j,want⟩:=g
     simp only
     have go:∀ {c1},evOp P call inl o c=some c1→ZkI P call inl ds rest c1=some c'→opS P o (c.den lo) fun s'=>opsL P ds rest s' K:=fun h1 h2=>ZsM hc hi h1 (ZhL rest _ c' h2 k)
     have no:ZkI P call inl ds rest ⟨putC c.t o.dst (.v undef),c.m,c.nx⟩=some c'→opsL P ds rest {(c.den lo)with t:=putT (c.den lo).t o.dst (.v undef)} K:=fun h2=>by
      have:=ZhL rest _ c' h2 k
      simp only[CS.den,Zb3]at this
      exact this
     cases b<;>cases want<;>simp only[beq_self_eq_true,cond_true]at h ⊢
     ·split at h
      ·rename_i c1 h1;exact go h1 h
      ·cases h
     ·exact no h
     ·exact no h
     ·split at h
      ·rename_i c1 h1;exact go h1 h
      ·cases h
    ·cases h
omit hi in
theorem ZoU(hE:∀ f ds m nx d m' nx',inE f ds m nx=some (d,m',nx')→∀ K:D→Mem→Nat→Prop,K d (tabM m') nx'→Zas P f ds (tabM m) nx K){o:SOp}{c c':CS}{ev:Ev}{lo:Nat}{K:Ev→St→Prop}(h:ZsN P call inE o c=some (ev,c'))(k:K ev (c'.den lo)):opE P o (c.den lo) K∧ev.ints=false:=by
 unfold ZsN at h
 unfold opE CS.den
 simp only
 split at h
 ·rename_i r hr
  rw[hr]
  cases hb:(okOp P o.op (tabU c.t) (tabM c.m)&&(newB r.new c.nx&&r.wr.all (fun p=>decide (p.1<c.nx+r.new.length))))
  ·rw[hb]at h;cases h
  ·rw[hb]at h
   simp only[cond_true,Ya1,Prod.mk.injEq]at h
   obtain⟨rfl,rfl⟩:=h
   rw[Ya2,Ya2]at hb
   refine⟨⟨ZrM hr hb.1,ZrS hb.2.1,hb.2.2,?_⟩,rfl⟩
   simp only[CS.den,Zb3,Zeb]at k
   exact k
 ·rename_i hr
  rw[hr]
  split at h
  ·rename_i f ds hd
   rw[hd]
   simp only
   split at h
   ·rename_i d m' nx' hq
    cases hb:exOk c.m m' c.nx nx'
    ·rw[hb]at h;cases h
    ·rw[hb]at h
     simp only[cond_true,Ya1,Prod.mk.injEq]at h
     obtain⟨rfl,rfl⟩:=h
     refine⟨.inr ⟨_,nx',EffC.exact hb (hE _ _ _ _ _ _ _ hq _ ⟨rfl,rfl,rfl⟩),?_⟩,rfl⟩
     simp only[CS.den,Zb3,Zeb]at k
     exact k
   split at h
   ·rename_i d m' hq
    obtain⟨h1,h2,h3⟩:=Zmg hc hq
    cases hb0:ZxH (Za5 ds) (tabM c.m)
    rotate_left
    ·rw[hb0]at h
     simp only[cond_true,Ya1,Prod.mk.injEq]at h
     obtain⟨rfl,rfl⟩:=h
     refine⟨.inr ⟨_,c.nx,EffC.seen hb0 h1,?_⟩,rfl⟩
     simp only[CS.den,Zb3]at k
     exact k
    rw[hb0]at h
    simp only[cond_false]at h
    cases hb:(Zbm (Za5 ds) (tabM c.m)).all (fun p=>decide (p.1<c.nx))
    ·rw[hb]at h;cases h
    ·rw[hb]at h
     simp only[cond_true,Ya1,Prod.mk.injEq]at h
     obtain⟨rfl,rfl⟩:=h
     refine⟨.inl ⟨d,false,.inr h1,hb,?_⟩,rfl⟩
     simp only[CS.den,Zb3,h2]at k
     exact k
   ·cases h
  ·cases h
omit hi in
theorem ZkG(hE:∀ f ds m nx d m' nx',inE f ds m nx=some (d,m',nx')→∀ K:D→Mem→Nat→Prop,K d (tabM m') nx'→Zas P f ds (tabM m) nx K){ds:List (Option Tmp)}{lo:Nat}{K:List Ev→St→Prop}:∀ (l:List SOp)(c c':CS)(tr tr':List Ev),ZkH P call inE ds l c tr=some (tr',c')→(tr.any (·.ints)=false→tr'.any (·.ints)=false→K tr' (c'.den lo))→tr.any (·.ints)=false→runL P ds l (c.den lo) tr K∧tr'.any (·.ints)=false
 | [],c,c',tr,tr',h,k,hn=>by unfold ZkH at h;cases h;exact⟨k hn hn,hn⟩
 | o ::rest,c,c',tr,tr',h,k,hn=>by
   unfold ZkH at h
   unfold runL
   have hn1:∀ ev:Ev,ev.ints=false→(tr++[ev]).any (·.ints)=false:=fun ev he=>by rw[List.any_append,hn];simp[he]
   have go:∀ {ev c1},ZsN P call inE o c=some (ev,c1)→ZkH P call inE ds rest c1 (tr++[ev])=some (tr',c')→(opE P o (c.den lo) fun ev s'=>runL P ds rest s' (tr++[ev]) K)∧tr'.any (·.ints)=false:=fun {ev c1} h1 h2=>by
    have e0:=(ZoU (lo:=lo) (K:=fun _ _=>True) hc hE h1 trivial).2
    obtain⟨a,b⟩:=ZkG hE rest c1 c' _ tr' h2 (fun _=>k hn) (hn1 ev e0)
    exact⟨(ZoU (K:=fun ev s'=>runL P ds rest s' (tr++[ev]) K) hc hE h1 a).1,b⟩
   split at h
   ·rename_i hg
    rw[hg]
    simp only
    split at h
    ·rename_i ev c1 h1
     exact go h1 h
    ·cases h
   ·rename_i g hg
    rw[hg]
    simp only
    split at h
    ·rename_i p hp
     rw[show ZdM ds g (c.den lo).t=some p from hp]
     obtain⟨k1,b⟩:=p
     obtain⟨j,want⟩:=g
     simp only
     have no:ZkH P call inE ds rest ⟨putC c.t o.dst (.v undef),c.m,c.nx⟩ (tr++[⟨.v undef,[],[],false⟩])=some (tr',c')→runL P ds rest {(c.den lo)with t:=putT (c.den lo).t o.dst (.v undef)} (tr++[⟨.v undef,[],[],false⟩]) K∧tr'.any (·.ints)=false:=fun h2=>by
      have:=ZkG hE rest _ c' _ tr' h2 (fun _=>k hn) (hn1 _ rfl)
      simp only[CS.den,Zb3]at this
      exact this
     cases b<;>cases want<;>simp only[beq_self_eq_true,cond_true]at h ⊢
     ·split at h
      ·rename_i ev c1 h1;exact go h1 h
      ·cases h
     ·exact no h
     ·exact no h
     ·split at h
      ·rename_i ev c1 h1;exact go h1 h
      ·cases h
    ·cases h
omit hc hi in
theorem Zt1{ops:Array Oper}{tr:List Ev}(h:Zt2 ops tr=true):Zf9 ops (tr.map fun e=>(e.touch,ids e.wr))=true:=by
 unfold Zt2 at h
 rw[Bool.or_eq_true]at h
 rcases h with h|h
 ·unfold Zf9
  rw[Ya2]
  refine⟨?_,by
   unfold lenB
   rw[Bool.or_eq_true,List.all_map]
   right
   rw[List.all_map]
   refine Ya6.2 fun e he=>?_
   have:=Ya6.1 h e he
   simp only[List.isEmpty_iff]at this
   simp[ids,this]⟩
  unfold ZpP
  rw[Ya6]
  intro j _
  rw[Ya6]
  intro i _
  have hw:∀ (k:Nat) x,(tr.map fun e=>(e.touch,ids e.wr))[k]? =some x→x.2=[]:=fun k x hx=>by
   rw[Yb8]at hx
   cases he:tr[k]? with
   | none=>rw[he]at hx;cases hx
   | some e =>
     rw[he]at hx
     cases hx
     have:=Ya6.1 h e (Ya7 he)
     simp only[List.isEmpty_iff]at this
     simp[ids,this]
  split
  ·rename_i x y hx hy
   rw[hw _ _ hx,hw _ _ hy]
   simp[Zio]
  ·rfl
 ·exact h
theorem ZeJ(hX:∀ f ds m nx d m' nx',inE f ds m nx=some (d,m',nx')→∀ K:D→Mem→Nat→Prop,K d (tabM m') nx'→Zas P f ds (tabM m) nx K)(hm:P.follows .mixedOrders=true){L n lo:Nat}:∀ (x:Code)(c c':CS)(e:Exit)(Q:Exit→St→Prop),Zgp n x=true→evC P call inl inE kt L x c=some (e,c')→Q e (c'.den lo)→AWP P n x Q (c.den lo)
 | .skip,c,c',e,Q,_,h,k=>by unfold evC at h;cases h;exact Zg0 k
 | .exit id,c,c',e,Q,_,h,k=>by unfold evC at h;cases h;exact Zg2 k
 | .ret,c,c',e,Q,_,h,k=>by unfold evC at h;cases h;exact aRet k
 | .seq x y,c,c',e,Q,g,h,k=>by
   unfold evC at h
   unfold Zgp at g
   rw[Ya2]at g
   refine aSeq fun K hK=>?_
   split at h
   ·rename_i c1 h1
    exact ZeJ hX hm x c c1 .normal _ g.1 h1 (hK _ (ZeJ hX hm y c1 c' e Q g.2 h k))
   ·rename_i r hne
    refine ZeJ hX hm x c c' e _ g.1 h ?_
    cases e with
    | normal=>exact absurd h (hne c')
    | _=>exact k
 | .block id x,c,c',e,Q,g,h,k=>by
   unfold evC at h
   unfold Zgp at g
   refine Zd1 ?_
   split at h
   ·rename_i id' c1 h1
    refine ZeJ hX hm x c c1 (.exit id') _ g h1 ?_
    unfold Ze8
    simp only
    split at h
    ·rename_i hid;cases h;rw[if_pos hid];exact k
    ·rename_i hid;cases h;rw[if_neg hid];exact k
   ·rename_i r hne
    refine ZeJ hX hm x c c' e _ g h ?_
    cases e with
    | exit id'=>exact absurd h (hne id' c')
    | _=>exact k
 | .cond o x y,c,c',e,Q,g,h,k=>by
   unfold evC at h
   unfold Zgp at g
   rw[Ya2,Ya2]at g
   split at h
   ·rename_i hr;exact ZdZ g.1 hr (ZeJ hX hm x c c' e Q g.2.1 h k)
   ·rename_i hr;exact Zd0 g.1 hr (ZeJ hX hm y c c' e Q g.2.2 h k)
   ·cases h
 | .loop x,c,c',e,Q,g,h,k=>by
   unfold evC at h
   unfold Zgp at g
   refine Zx2 (X:={p:Nat×CS // ZoV (evC P call inl inE kt L x) p.1 p.2=some (e,c')}) (fun p=>p.1.2.den lo) (fun _=>True) (fun p=>p.1.1) ⟨⟨(L,c),h⟩,trivial,fun E B n β a w hr=>⟨β,hr⟩⟩ ?_
   rintro⟨⟨f,c1⟩,h1⟩ _
   simp only at h1 ⊢
   cases f with
   | zero=>cases h1
   | succ f =>
     unfold ZoV at h1
     split at h1
     ·rename_i c2 h2
      refine ZeJ hX hm x c1 c2 .normal _ g h2 ?_
      exact⟨⟨(f,c2),h1⟩,trivial,Nat.lt_succ_self _,fun E B n β a w hr=>⟨β,hr⟩⟩
     ·rename_i hne
      refine ZeJ hX hm x c1 c' e _ g h1 ?_
      cases e with
      | normal=>exact absurd h1 (hne c')
      | _=>exact k
 | .region id l false,c,c',e,Q,g,h,k=>by
   unfold evC at h
   unfold Zgp at g
   split at h
   ·rename_i c1 h1
    cases h
    have:l=l.toList.toArray:=by simp
    rw[this]
    exact aOps (l:=l.toList) _ rfl (by simpa using g) (ZhL hc hi _ _ _ h1 k)
   ·cases h
 | .region id l true,c,c',e,Q,g,h,k=>by
   unfold evC at h
   unfold Zgp at g
   rw[Ya2]at g
   split at h
   ·rename_i tr c1 h1
    cases hb:Zt2 l tr
    ·rw[hb]at h;cases h
    ·rw[hb]at h
     simp only[cond_true,Ya1,Prod.mk.injEq]at h
     obtain⟨rfl,rfl⟩:=h
     have el:l=l.toList.toArray:=by simp
     rw[el]
     refine aLe (ZuK ((c.m.filter fun p=>kt p.2.T && !p.2.dead).map (·.1))) ?_
     have epre:(⟨(c.den lo).t,ov (c.den lo).m (Zbm ((c.m.filter fun p=>kt p.2.T && !p.2.dead).map (·.1)) (c.den lo).m),(c.den lo).nx,(c.den lo).lo⟩:St)=(preK kt c).den lo:=by
      simp only[preK,CS.den,Zeb]
     rw[show({(c.den lo)with m:=ov (c.den lo).m (Zbm ((c.m.filter fun p=>kt p.2.T && !p.2.dead).map (·.1)) (c.den lo).m)}:St)=(preK kt c).den lo from epre]
     refine Zg1 (l:=l.toList) _ rfl hm (by simpa using g.2) (by simpa using g.1) fun KE hE=>?_
     refine(ZkG hc hX _ _ _ _ _ h1 (fun _ h2=>hE tr _ ?_ (ZaG h2) k) rfl).1
     simpa using Zt1 hb
   ·cases h
 | .rangeFunc ..,_,_,_,_,_,h,_=>by unfold evC at h;cases h
 | .scope _,_,_,_,_,_,h,_=>by unfold evC at h;cases h
 | .label _,_,_,_,_,_,h,_=>by unfold evC at h;cases h
 | .goto _,_,_,_,_,_,h,_=>by unfold evC at h;cases h
 | .refuse _,_,_,_,_,_,h,_=>by unfold evC at h;cases h
end
end ifl
def Zqj(P:Program)(p:FuncId×Func):Bool :=
 match p.2.body with
 | some c => Zgp p.2.ntmps c && (!(p.2.name == "runtime.NumGoroutine") && p.2.results.toList.all (Zhu p.2.ntmps))
 | none=>false
def Zu3(f:FuncId):List (FuncId×Func)→Option Func
 | []=>none
 | p ::l=>cond (Nat.beq p.1 f) (some p.2) (Zu3 f l)
theorem Zmb{f:FuncId}{fn:Func}:∀ {l:List (FuncId×Func)},Zu3 f l=some fn→(f,fn)∈l
 | [],h=>by cases h
 | p ::l,h=>by
   unfold Zu3 at h
   cases hb:Nat.beq p.1 f
   ·rw[hb]at h;exact Yb6 _ (Zmb h)
   ·rw[hb]at h
    have:=Nat.eq_of_beq_eq_true hb
    subst this
    simp only[cond_true,Ya1]at h
    subst h
    exact Yb7
section
variable (P:Program) (fs:List (FuncId×Func)) (ora:FuncId→List D→Option D) (mk:FuncId→List D→List (Nat×Blk)→Nat→Option (D×List (Nat×Blk)×Nat)) (inB inX:FuncId→Bool) (kt:TypeId→Bool) (L:Nat)
def evB(call:FuncId→List D→Option D)(inl inE:FuncId→List D→List (Nat×Blk)→Nat→Option (D×List (Nat×Blk)×Nat))(f:FuncId)(ds:List D)(m:List (Nat×Blk))(nx:Nat):Option (D×List (Nat×Blk)×Nat) :=
 match Zu3 f fs with
 | none=>none
 | some fn=>match fn.body with
   | none=>none
   | some c=>cond (Nat.ble ds.length fn.ntmps) (match evC P call inl inE kt L c ⟨ZnH 0 ds,m,nx⟩with
     | some (.normal,s)=>match Zfk P (s.den nx) fn.results.toList with
       | some r=>some (oneD r,s.m,s.nx)
       | none=>none
     | some (.ret,s)=>match Zfk P (s.den nx) fn.results.toList with
       | some r=>some (oneD r,s.m,s.nx)
       | none=>none
     | _=>none) none
def evN(inl:FuncId→List D→List (Nat×Blk)→Nat→Option (D×List (Nat×Blk)×Nat))(f:FuncId)(ds:List D):Option D :=
 match ora f ds with
 | some d=>some d
 | none=>match inl f ds [] 0 with
   | some (d,m,_)=>some (fzT true (tabM m) 8 d)
   | none=>none
def evF:Nat→FuncId→List D→List (Nat×Blk)→Nat→Option (D×List (Nat×Blk)×Nat)
 | 0,_,_,_,_=>none
 | k+1,f,ds,m,nx=>evB P fs kt L (evN ora (evF k)) (fun g es m' nx'=>match mk g es m' nx' with|some r=>some r|none=>cond (inB g) (evF k g es m' nx') none) (fun g es m' nx'=>cond (inX g) (evF k g es m' nx') none) f ds m nx
variable {P fs ora mk inB inX kt L}
theorem Zzy[Ifl](hm:P.follows .mixedOrders=true)(hfs:∀ p∈fs,P.funcs[p.1]? =some p.2∧Zqj P p=true){call:FuncId→List D→Option D}{inl inE:FuncId→List D→List (Nat×Blk)→Nat→Option (D×List (Nat×Blk)×Nat)}
 (hX:∀ f ds m nx d m' nx',inE f ds m nx=some (d,m',nx')→∀ K:D→Mem→Nat→Prop,K d (tabM m') nx'→Zas P f ds (tabM m) nx K)
 (hc:∀ f ds d,call f ds=some d→Zaa P f ds d) (hi:∀ f ds m nx d m' nx',inl f ds m nx=some (d,m',nx')→∀ K:D→Mem→Nat→Prop,K d (tabM m') nx'→Zas P f ds (tabM m) nx K)
 {f:FuncId} {ds:List D} {m m':List (Nat×Blk)} {nx nx':Nat} {d:D} (h:evB P fs kt L call inl inE f ds m nx=some (d,m',nx')) {K:D→Mem→Nat→Prop} (k:K d (tabM m') nx'):Zas P f ds (tabM m) nx K:=by
 unfold evB at h
 split at h
 ·cases h
 ·rename_i fn hfn
  obtain⟨h1,h2⟩:=hfs _ (Zmb hfn)
  split at h
  ·cases h
  ·rename_i c hb
   unfold Zqj at h2
   simp only[hb,Ya2,Bool.not_eq_true']at h2
   obtain⟨g1,g2,g3⟩:=h2
   cases hl:Nat.ble ds.length fn.ntmps
   ·rw[hl]at h;cases h
   ·rw[hl]at h
    simp only[cond_true]at h
    have e0:(⟨Zht ds,tabM m,nx,nx⟩:St)=(⟨ZnH 0 ds,m,nx⟩:CS).den nx:=by unfold CS.den;simp only[Zqo]
    have fin : ∀ {s : CS}, (match Zfk P (s.den nx) fn.results.toList with
        | some r=>some (oneD r,s.m,s.nx)
        | none=>none)=some (d,m',nx')→∃ r,Zfk P (s.den nx) fn.results.toList=some r∧K (oneD r) (s.den nx).m (s.den nx).nx:=fun {s} h=>by
     split at h
     ·rename_i r hr;cases h;exact⟨r,hr,k⟩
     ·cases h
    refine Zas.inline h1 hb g2 (decide_eq_true (Nat.le_of_ble_eq_true hl)) g3 ?_
    rw[e0]
    split at h
    ·rename_i s hs;exact ZeJ hc hi hX hm c _ s .normal _ g1 hs (fin h)
    ·rename_i s hs;exact ZeJ hc hi hX hm c _ s .ret _ g1 hs (fin h)
    ·cases h
theorem ZoW(hm:P.follows .mixedOrders=true)(hfs:∀ p∈fs,P.funcs[p.1]? =some p.2∧Zqj P p=true)(ho:∀ f ds d,ora f ds=some d→Zaa P f ds d)(hMk:∀ f ds m nx d m' nx',mk f ds m nx=some (d,m',nx')→∀ (I:Ifl)(K:D→Mem→Nat→Prop),K d (tabM m') nx'→@Zas I P f ds (tabM m) nx K):∀ (k:Nat)(f:FuncId)(ds:List D) (m m':List (Nat×Blk)) (nx nx':Nat) (d:D),evF P fs ora mk inB inX kt L k f ds m nx=some (d,m',nx')→∀ (I:Ifl)(K:D→Mem→Nat→Prop),K d (tabM m') nx'→@Zas I P f ds (tabM m) nx K
 | 0,_,_,_,_,_,_,_,h,_,_,_=>by cases h
 | k+1,f,ds,m,m',nx,nx',d,h,I,K,hk=>by
   unfold evF at h
   refine Zzy hm hfs (fun g es m1 n1 d1 m2 n2 hg K1 k1=>?_) (fun g es d hg=>?_) (fun g es m1 n1 d1 m2 n2 hg K1 k1=>?_) h hk
   ·cases hb:inX g
    ·simp only[hb,cond_false]at hg;cases hg
    ·simp only[hb,cond_true]at hg
     exact ZoW hm hfs ho hMk k g es m1 m2 n1 n2 d1 hg I K1 k1
   ·unfold evN at hg
    split at hg
    ·rename_i d' hd;cases hg;exact ho _ _ _ hd
    ·split at hg
     ·rename_i d' m1 n1 hd
      cases hg
      exact Zaa.ofA fun I=>ZoW hm hfs ho hMk k g es [] m1 0 n1 d' hd I _ rfl
     ·cases hg
   ·split at hg
    ·rename_i r hr
     cases hg
     exact hMk _ _ _ _ _ _ _ hr I K1 k1
    ·cases hb:inB g
     ·simp only[hb,cond_false]at hg;cases hg
     ·simp only[hb,cond_true]at hg
      exact ZoW hm hfs ho hMk k g es m1 m2 n1 n2 d1 hg I K1 k1
theorem Zv0(hm:P.follows .mixedOrders=true)(hfs:∀ p∈fs,P.funcs[p.1]? =some p.2∧Zqj P p=true)(ho:∀ f ds d,ora f ds=some d→Zaa P f ds d)(hMk:∀ f ds m nx d m' nx',mk f ds m nx=some (d,m',nx')→∀ (I:Ifl)(K:D→Mem→Nat→Prop),K d (tabM m') nx'→@Zas I P f ds (tabM m) nx K){k:Nat}{f:FuncId}{ds:List D}{d:D}(h:evN ora (evF P fs ora mk inB inX kt L k) f ds=some d):Zaa P f ds d:=by
 unfold evN at h
 split at h
 ·rename_i d' hd;cases h;exact ho _ _ _ hd
 ·split at h
  ·rename_i d' m1 n1 hd
   cases h
   exact Zaa.ofA fun I=>ZoW hm hfs ho hMk k f ds [] m1 0 n1 d' hd I _ rfl
  ·cases h
end
def Zy3(_:FuncId)(_:List D):Option D:=none
theorem Zur{P:Program}:∀ (f:FuncId)(ds:List D)(d:D),Zy3 f ds=some d→Zaa P f ds d:=fun _ _ _ h=>by cases h
def noMk(_:FuncId)(_:List D)(_:List (Nat×Blk))(_:Nat):Option (D×List (Nat×Blk)×Nat):=none
theorem ZwX{P:Program}:∀ f ds m nx d m' nx',noMk f ds m nx=some (d,m',nx')→∀ (I:Ifl)(K:D→Mem→Nat→Prop),K d (tabM m') nx'→@Zas I P f ds (tabM m) nx K:=fun _ _ _ _ _ _ _ h=>by cases h
set_option maxHeartbeats 8000000
theorem Zx1[Ifl]{P:Program}{n rid:Nat}{Q:Exit→St→Prop}{s:St}{o1 o2 o3:Oper}{T e:TypeId}{x:List D}{es:List (List D)}(hu:P.underlying T=some (.slice e))
 (g1:o1.guard=none) (g2:o2.guard=none) (g3:o3.guard=none) (d1:o1.dst=some 40) (d2:o2.dst=some 41) (d3:o3.dst=some 6) (p1:o1.op = .move (.tmp 7)) (p2:o2.op = .binOp .neq T (.tmp 40) (.const (.slice none 0 0)) T) (p3:o3.op = .assign (.tmp 41))
 (hf1:ZaY n o1=true) (hf3:ZaY n o3=true) (hn':decide (41<n)=true) (h0:s.t 7 = .sl (x ::es))
 (hnot:Q .normal {s with t:=upd (upd (upd s.t 40 (.sl (x ::es))) 41 (dB true)) 6 (dB true)}) :
 AWP P n (.region rid #[o1,o2,o3] false) Q s:=by
 have hn:41<n:=of_decide_eq_true hn'
 intro E B β a w hr
 refine wp_region_lit (l:=[o1,o2,o3]) ?_
 refine wpList_plain g1 fun K1 hK1=>Zga (K:=fun s'=>s'={s with t:=upd s.t 40 (.sl (x ::es))}) hf1 hr ?_ ?_
 ·unfold opA
  rw[p1,d1]
  simp only[opF,rd,h0,Res.pure,putT,ov,List.length_nil,Nat.add_zero]
  exact⟨trivial,.inl trivial,trivial⟩
 rintro s1 β1 a1 w1 r1 rfl
 refine hK1 _ _ ?_
 have t3:Rep β1 s.m (safe E β1 s.m) w1 (a1.eval (.tmp 40)) (.sl (x ::es)):=r1.tmp 40 (by omega)
 obtain⟨a,cap,e3,hc1,hc2,hcase⟩:=t3.inv_sl
 obtain⟨A,rfl⟩:∃ A,a=some A:=by
  rcases hcase with h|⟨b,off,k,h,_⟩
  ·cases h
  ·exact⟨_,h⟩
 have hrun:(execOp a1.eval o2).run P w1 = .ok (.value (.bool true)) w1:=by
  unfold execOp
  rw[p2]
  have hb:=run_neq_slice_nil_any (P:=P) w1 T e (some A) (x ::es).length cap 0 0 hu
  have ec:a1.eval (.const (.slice none 0 0)) = .slice none 0 0:=rfl
  simp only[e3,ec]
  simp only[List.length_cons]at hb
  simp[eqGuard,hb]
 refine wpList_plain g2 fun K2 hK2=>?_
 unfold Oper.wp
 rw[hrun]
 show K2 (a1.put o2.dst (.bool true)) w1
 obtain⟨β3,r3⟩:=r1.put (dst:=o2.dst) (Zby.same r1.mem (.v (.bool true)))
 rw[d2]at r3 ⊢
 refine hK2 _ _ (wpList_plain g3 fun K3 hK3=>Zga (K:=fun s'=>s'={s with t:=upd (upd (upd s.t 40 (.sl (x ::es))) 41 (dB true)) 6 (dB true)}) hf3 r3 ?_ ?_)
 ·unfold opA
  rw[p3,d3]
  simp only[opF,rd,Res.pure,putT,ov,List.length_nil,Nat.add_zero,Zab]
  exact⟨trivial,.inl trivial,trivial⟩
 rintro s3 β4 a4 w4 r4 rfl
 exact hK3 _ _ (wpList_nil ⟨_,β4,r4,hnot⟩)
theorem ZmL(a0 a1 a2 a3 a4:Int)(rooms:List Int)(reqs set:List (List D))(x:Int)(L:List Int)(hl:(L.length:Int)≤100)(kL:Zaa Tryz.prog 211 [.agg [dI a0,dI a1,dI a2,dI a3,dI a4,Zah rooms],.sl reqs,.sl set] (Zah (x ::L)))
 (hr:∀ (i:Nat)(n:Int),(x ::L)[i]? =some n→n>0→∃ r,rooms[i]? =some r∧n≤r):Zaa Tryz.prog 206 [.agg [dI a0,dI a1,dI a2,dI a3,dI a4,Zah rooms],.sl reqs,.sl set] (dB true):=by
 have Zr:=Tryz.results206
 refine inN Tryz.func206 rfl Tryz.ntmps206 fun I=>?_
 refine aGo Zr ?_
 repeat with_reducible intro K hK
 refine ZaE (fun(k:Nat)=>[(3,.lp 0 0 0 0),(7,Zah (x ::L)),(14,Zah (x ::L)),(15,dI (x ::L).length),(16,dI k)]) (fun _=>[(0,⟨123,0,6,[[dI a0,dI a1,dI a2,dI a3,dI a4,Zah rooms]],0,false⟩)]) 1 0 (fun k=>k≤(x ::L).length) (fun k=>(x ::L).length-k) 0 (by omega) ?_ ?_
 ·exact leGo trivial
 rintro k hk
 have hll:((x ::L).length:Int)≤101:=by rw[List.length_cons];omega
 obtain⟨hw,h0⟩:=Za6 k
 by_cases h1:(k:Int)<(x ::L).length
 ·obtain⟨n,hx⟩:∃ n,(x ::L)[k]? =some n:=⟨_,Ya0 (by omega)⟩
  have hr:=hr k n hx
  generalize x ::L=Y at hx h1 hk hll ⊢
  by_cases g1:n>0
  ·obtain⟨r,hr1,hr2⟩:=hr g1
   have g2:¬ (k:Int)≥rooms.length:=by have:=(Ya3.1 hr1).1;omega
   have g3:¬ n>r:=by omega
   refine aGo (cj4 Zr h0 h1 (cj4 hx hw hr1 (cj3 g1 g2 g3))) ?_
   repeat with_reducible intro K hK
   exact Zai (k+1) (by omega) (by omega) (by exact leGo trivial)
  ·refine aGo (cj4 Zr h0 h1 (cj3 hx hw g1)) ?_
   repeat with_reducible intro K hK
   exact Zai (k+1) (by omega) (by omega) (by exact leGo trivial)
 ·obtain rfl:k=(x ::L).length:=by omega
  have h2:¬ ((L.length+1:Nat):Int)<((L.length+1:Nat):Int):=by omega
  refine ZnQ (n:=8) ⟨⟩ (cj3 Zr h1 h2) ?_
  repeat with_reducible intro K hK
  refine Zx1 (x:=[dI x]) (es:=L.map fun y=>[dI y]) Tryz.underlying30 rfl rfl rfl rfl rfl rfl rfl rfl rfl (by kernel_rfl) (by kernel_rfl) rfl rfl ?_
  exact aGo Zr trivial
noncomputable def fsM:List (FuncId×Func):=[(196,Tryz.f196),(209,Tryz.f209)]
theorem Zzn:∀ p∈fsM,Tryz.prog.funcs[p.1]? =some p.2∧Zqj Tryz.prog p=true:=by
 unfold fsM
 simp only[List.forall_mem_cons,List.not_mem_nil,false_implies,implies_true,and_true]
 exact⟨⟨Tryz.func196,by kernel_rfl⟩,⟨Tryz.func209,by kernel_rfl⟩⟩
theorem Zw9(n:Nat)(hn:n≤6):Zaa Tryz.prog 196 [.v (.int .u64 1),.v (.int .u64 n)] (.tup [.v (.int .u64 0),.v (.int .u64 n)]):=by
 have h:n=0∨n=1∨n=2∨n=3∨n=4∨n=5∨n=6:=by omega
 rcases h with rfl|rfl|rfl|rfl|rfl|rfl|rfl <;>
  exact Zv0 (ora:=Zy3) (mk:=noMk) (inB:=fun _=>false) (inX:=fun _=>false) (kt:=fun _=>false) (L:=10) (k:=3) mixed Zzn Zur ZwX (by kernel_rfl)
theorem Zr1(w:World)(n:Nat)(hn:n≤6):Calls Tryz.prog 196 #[.int .u64 1,.int .u64 n] w fun e w'=>e = .returned (.tuple #[.int .u64 0,.int .u64 n])∧Below w.heap.size w w':=by
 refine((Zw9 n hn).2 (fun _ _=>True) w [.int .u64 1,.int .u64 n] (fun _ _ _=>trivial) (Reps.cons (.v _) (Reps.cons (.v _) Reps.nil))).mono ?_
 rintro e w' ⟨v,rfl,hb,hr⟩
 refine⟨?_,hb⟩
 obtain⟨vs,rfl,h1,h2⟩:=hr.inv_tup
 match vs,h1 with
 | [x,y],_ =>
   have ex:=(h2 0 x _ rfl rfl).inv_v
   have ey:=(h2 1 y _ rfl rfl).inv_v
   subst ex
   subst ey
   rfl
open Go Go.RowKit Go.Deep
set_option maxHeartbeats 4000000
abbrev M1:Value:=.int .i64 (-1)
def repL(n k:Nat):List Value:=List.replicate k M1++List.replicate (n-k) (.int .i64 0)
theorem Zp3(n:Nat):madeCells #[Value.int .i64 0] n=(repL n 0).toArray:=by
 unfold madeCells repL
 apply Array.ext
 ·simp
 ·intro i h1 h2
  simp[Nat.mod_one]
theorem Zji(n k:Nat)(hk:k≤n)(c:Nat)(hc:k+c≤n):_root_.Go.splice (repL n k) k (List.replicate c M1)=repL n (k+c):=by
 unfold _root_.Go.splice repL
 rw[List.take_append_of_le_length (by simp),Ya8 (by simp),List.length_replicate,List.drop_append,List.length_replicate,List.drop_of_length_le (by simp),List.drop_replicate,Yc8,← Yd3,List.replicate_append_replicate]
 congr 2
 omega
theorem Zol(n k:Nat)(h:k≤n):(repL n k).length=n:=by unfold repL;simp;omega
theorem ZpK(w:World)(b n cap:Nat)(hb:w.cell? ⟨b,0,none⟩=some M1)(h1:1≤n)(h6:n≤6) :
 Calls Tryz.prog 176 #[.slice (some ⟨b,0,none⟩) 1 cap,.int .i64 n] w fun e w'=>∃ g,e = .returned (.slice (some ⟨g,0,none⟩) n n)∧w.heap.size≤g∧Below w.heap.size w w'∧w'.heap[g]? =some (.cells (repL n n).toArray 3 (0,0)):=by
 have hmk:=fun w=>run_make_row' (P:=Tryz.prog) 30 3 (.int .i64 0) 8 Tryz.underlying30 (by kernel_rfl) rfl .i64 .i64 n (by omega) (by omega) w
 have hn64:IntKind.i64.wrap (n:Int)=n:=by rw[IntKind.wrap_i64];omega
 simp only[Zp3]at hmk
 have Hb:=Lib.hid hb
 have hblt:b<w.heap.size:=Zdq hb
 have hmin:Nat.min 1 n=1:=by show min 1 n=1;omega
 have hone:∀ (c:Nat),∀ v∈List.replicate c M1,v.oneCell'=true:=fun c v hv=>by rw[Yd4 hv];rfl
 have hfit:0+(List.replicate 1 M1).length≤(repL n 0).length:=by rw[Zol n 0 (by omega)];exact h1
 have hcell1:∀ w1:World,Below w.heap.size w w1→∀ (j:Nat)(v:Value),(List.replicate 1 M1)[j]? =some v→w1.cell? ((⟨b,0,none⟩:Addr).add j)=some v:=fun w1 h1 j v hv=>by
  have hj:j=0:=by
   have:=(Ya3.1 hv).1
   simp at this;exact this
  subst hj
  simp at hv
  subst hv
  have:(⟨b,0,none⟩:Addr).add 0=⟨b,0,none⟩:=rfl
  rw[this,h1.cell (p:=⟨b,0,none⟩) hblt];exact hb
 have hsp:_root_.Go.splice (repL n 0) 0 (List.replicate 1 M1)=repL n 1:=Zji n 0 (Yb0 _) 1 (by omega)
 clear hb
 go_enter Tryz.func176,Tryz.ntmps176
 go_wp2_with (first
  | (go_at_call 196;refine(Zr1 _ _ h6).mono ?_;rintro e w1 ⟨rfl,hB1⟩)
  | ((with_reducible show wpList _ _ _ (⟨some 33,_,_,_,_,_⟩ ::_) _ _);refine wpList_copy_splice (o:=⟨some 33,_,_,_,_,_⟩) rfl (.tmp 31) (.tmp 32) 30 30 rfl 3 Tryz.underlying30 (by kernel_rfl) (some ⟨w1.heap.size,0,none⟩) (some ⟨b,0,none⟩) n n 1 cap rfl rfl w1.heap.size 0 (repL n 0) 3 (World.alloc_heap_new _ _) (List.replicate 1 M1) (by rw[hmin];rfl) (fun _=>⟨rfl,_,rfl,hcell1 _ (hB1.alloc hB1.size _)⟩) hfit (hone 1) w.heap.size w (hB1.alloc hB1.size _) hB1.size ?_;rw[hsp];intro w4 hg4 hb4))
 obtain⟨g,hg⟩:∃ g,w1.heap.size=g:=⟨_,rfl⟩
 have hgw:w.heap.size≤g:=by rw[← hg];exact hB1.size
 rw[hg]at hg4
 rw[hg]
 clear hmk hcell1 Hb hB1 hg
 go_loopw [8] (fun i wr=>∃ k:Nat,1≤k∧k≤n∧i=I k∧Below w.heap.size w wr∧wr.heap[g]? =some (.cells (repL n k).toArray 3 (0,0))) (fun i _=>n-(intOf i).toNat)
 case atStart=>exact⟨1,Ya4 _,h1,rfl,hb4,hg4⟩
 case round =>
  obtain⟨k,k1,kn,rfl,hB,hG⟩:=hrel
  by_cases hlt:k<n
  ·obtain⟨c,hc⟩:∃ c,Nat.min k (n-k)=c:=⟨_,rfl⟩
   have hc':min k (n-k)=c:=hc
   have c1:1≤c:=by omega
   have ck:c≤k:=by omega
   have cn:k+c≤n:=by omega
   have hne:¬ n=k:=by omega
   have hkn:(k:Int)≤n:=by omega
   have k0:(0:Int)≤k:=by omega
   have hw:IntKind.i64.wrap ((k:Int)+(c:Int))=((k+c:Nat):Int):=by rw[IntKind.wrap_i64];omega
   have hcell:∀ (j:Nat)(v:Value),(List.replicate c M1)[j]? =some v→wr.cell? ((⟨g,0,none⟩:Addr).add j)=some v:=fun j v hv=>by
    obtain⟨hj,hv⟩:=Ya3.1 hv
    rw[List.length_replicate]at hj
    have hadd:(⟨g,0,none⟩:Addr).add j=⟨g,j,none⟩:=by unfold Addr.add;split<;>simp_all
    rw[hadd,ZbU hG]
    simp only[List.getElem_replicate]at hv
    subst hv
    unfold repL
    rw[List.getElem?_toArray,Yc3 (by simp;omega),List.getElem?_replicate,if_pos (by omega)]
   have hfit:k+(List.replicate c M1).length≤(repL n k).length:=by rw[Zol n k (by omega),List.length_replicate];omega
   have hsp:_root_.Go.splice (repL n k) k (List.replicate c M1)=repL n (k+c):=Zji n k (by omega) c cn
   have hlen:(List.replicate c M1).length=Nat.min k (n-k):=by rw[List.length_replicate,hc]
   go_upto_region 9 with fail
   go_region_law (refine step_copy_splice rfl (.tmp 41) (.tmp 44) 30 30 rfl 3 Tryz.underlying30 (by kernel_rfl) (some ⟨g,k,none⟩) (some ⟨g,0,none⟩) (n-k) (n-k) k n (by simp[Act.eval,Act.put]) (by simp[Act.eval,Act.put]) g k (repL n k) 3 hG (List.replicate c M1) hlen (fun _=>⟨rfl,_,rfl,hcell⟩) hfit (hone c) w.heap.size w hB.drew hgw ?_;rw[hsp];intro w5 hg5 hb5)
   go_simp
   go_roundw
   case rel =>
    refine⟨_,_,_,_,_,_,_,_,_,_,_,_,_,_,⟨k+c,by omega,cn,?_,hb5,hg5⟩,rfl⟩
    rw[Int.natCast_add]
   case measure=>simp[intOf];omega
  ·have hkn:k=n:=by omega
   subst hkn
   go_wp2_with fail
   go_ret
   exact⟨g,rfl,hgw,hB,hG⟩
section ifl
variable [Ifl]
theorem Zib(n:Nat):repL n n=List.replicate n M1:=by unfold repL;simp
theorem ZtX{m:Mem}{nx id n:Nat}{T:TypeId}(hm:m id=some ⟨T,0,1,[[dI (-1)]],0,false⟩)(hT:T<mapT)(h1:1≤n)(h6:n≤6) :
 Zas Tryz.prog 176 [.ls id 0,dI n] m nx fun d m' nx'=>d = .ls nx 1∧m'=upd m nx (some ⟨3,1,1,List.replicate n [dI (-1)],0,false⟩)∧nx'=nx+1:=by
 refine⟨⟨_,_,Tryz.func176,rfl,by kernel_rfl⟩,fun E β w vs hM hvs=>?_⟩
 obtain⟨x,z,rfl⟩:∃ x z,vs=[x,z]:=by
  match vs,hvs.1 with
  | [x,z],_=>exact⟨x,z,rfl⟩
 have hx:=hvs.2 0 x _ rfl rfl
 have hz:=(hvs.2 1 z _ rfl rfl).inv_v
 subst hz
 obtain⟨a,n0,cap,blk,rfl,hb,hv,hcase⟩:=hx.inv_ls
 rw[hm]at hb
 obtain rfl:=Option.some.inj hb
 obtain⟨c1,c2,c3,c4⟩:=hcase rfl
 simp only[List.length_singleton]at c1
 subst c1
 obtain⟨b,hbe,rfl⟩:∃ b,β id=some b∧a=some ⟨b,0,none⟩:=by
  rcases c4 with⟨h,_,hc⟩|⟨b,h,h',_⟩
  ·omega
  ·exact⟨b,h,h'⟩
 obtain⟨_,cs,hcs,hlen,hcell⟩:=hM.cells hm hbe hT
 obtain⟨u,hu,hru⟩:=hcell 0 0 (dI (-1)) rfl
 have hu':=hru.inv_v
 subst hu'
 refine(ZpK w b n cap (by rw[ZbU hcs];exact hu) h1 h6).mono ?_
 rintro e w' ⟨g,rfl,hg,hB,hG⟩
 have hid:m nx=none:=hM.none
 obtain⟨k1,k2,k3⟩:=Zr3 (id:=nx) (nx':=nx+1) hM hB hg hid (Nat.le_succ _) (Nat.lt_succ_self _) ⟨3,1,1,List.replicate n [dI (-1)],0,false⟩ (repL n n).toArray hG (Yb0 _)
  (fun i e he=>by
    have:=Yd4 (Ya7 he)
    rw[this];rfl)
  (by simp[Zib])
  (fun i j d hd=>by
    obtain⟨e,he,hj⟩:=Zaf.1 hd
    have hi:=(Ya3.1 he).1
    have hi':i<n:=by simpa using hi
    have:=Yd4 (Ya7 he)
    subst this
    cases j with
    | succ j=>simp at hj
    | zero =>
      simp at hj
      subst hj
      refine⟨M1,?_,rfl⟩
      simp[Zib,hi'])
  (by dsimp only[mapT];decide)
 refine⟨_,.ls nx 1,_,_,rfl,⟨_,k1,k2,k3,?_⟩,rfl,rfl,rfl⟩
 refine .ls _ n n nx 1 ⟨3,1,1,List.replicate n [dI (-1)],0,false⟩ (Zab _ _ _) (Ya4 _) (fun _ h=>by cases h) fun _=>⟨by simp,Ya4 _,by unfold maxLen;omega,.inr ⟨g,Zab _ _ _,rfl,?_⟩⟩
 exact⟨_,_,_,hG,by simp[Zib]⟩
end ifl
def oraT(l:List (FuncId×List D×D))(f:FuncId)(ds:List D):Option D :=
 match l with
 | []=>none
 | e ::l=>cond (Nat.beq e.1 f&&eqDs e.2.1 ds) (some e.2.2) (oraT l f ds)
theorem ZrF{P:Program}:∀ (l:List (FuncId×List D×D)),(∀ e∈l,Zaa P e.1 e.2.1 e.2.2)→∀ (f:FuncId)(ds:List D)(d:D),oraT l f ds=some d→Zaa P f ds d
 | [],_,f,ds,d,h=>by cases h
 | e ::l,hl,f,ds,d,h=>by
   unfold oraT at h
   cases hb:Nat.beq e.1 f&&eqDs e.2.1 ds
   ·rw[hb]at h
    exact ZrF l (fun e he=>hl e (Yb6 _ he)) f ds d h
   ·rw[hb]at h
    cases h
    rw[Ya2]at hb
    have h1:=hl e (by simp)
    rw[Nat.eq_of_beq_eq_true hb.1,Ziz _ _ hb.2]at h1
    exact h1
noncomputable def fsL:List (FuncId×Func):=[(46,Tryz.f46),(47,Tryz.f47),(48,Tryz.f48),(103,Tryz.f103),(50,Tryz.f50),(100,Tryz.f100),(45,Tryz.f45),(95,Tryz.f95),(96,Tryz.f96),(97,Tryz.f97),(98,Tryz.f98),(51,Tryz.f51),(106,Tryz.f106),(107,Tryz.f107),(147,Tryz.f147),(104,Tryz.f104),(99,Tryz.f99),(139,Tryz.f139),(142,Tryz.f142),(211,Tryz.f211),(215,Tryz.f215),(203,Tryz.f203),(206,Tryz.f206),(143,Tryz.f143),(207,Tryz.f207),(213,Tryz.f213),(214,Tryz.f214),(138,Tryz.f138),(170,Tryz.f170),(141,Tryz.f141),(108,Tryz.f108),(149,Tryz.f149),(174,Tryz.f174),(171,Tryz.f171),(192,Tryz.f192),(193,Tryz.f193),(194,Tryz.f194),(204,Tryz.f204),(150,Tryz.f150),(177,Tryz.f177),(197,Tryz.f197),(175,Tryz.f175),(195,Tryz.f195),(105,Tryz.f105),(145,Tryz.f145),(146,Tryz.f146),(172,Tryz.f172),(148,Tryz.f148),(173,Tryz.f173),(140,Tryz.f140),(17,Tryz.f17),(54,Tryz.f54),(52,Tryz.f52),(55,Tryz.f55),(60,Tryz.f60),(62,Tryz.f62),(61,Tryz.f61),(59,Tryz.f59),(63,Tryz.f63),(20,Tryz.f20),(19,Tryz.f19),(57,Tryz.f57),(53,Tryz.f53),(109,Tryz.f109),(15,Tryz.f15),(4,Tryz.f4),(16,Tryz.f16),(49,Tryz.f49),(102,Tryz.f102),(101,Tryz.f101),(18,Tryz.f18)]
theorem Zzo:∀ p∈fsL,Tryz.prog.funcs[p.1]? =some p.2∧Zqj Tryz.prog p=true:=by
 unfold fsL
 simp only[List.forall_mem_cons,List.not_mem_nil,false_implies,implies_true,and_true]
 exact⟨⟨Tryz.func46,by kernel_rfl⟩,⟨Tryz.func47,by kernel_rfl⟩,⟨Tryz.func48,by kernel_rfl⟩,⟨Tryz.func103,by kernel_rfl⟩,⟨Tryz.func50,by kernel_rfl⟩,⟨Tryz.func100,by kernel_rfl⟩,⟨Tryz.func45,by kernel_rfl⟩,⟨Tryz.func95,by kernel_rfl⟩,⟨Tryz.func96,by kernel_rfl⟩,⟨Tryz.func97,by kernel_rfl⟩,⟨Tryz.func98,by kernel_rfl⟩,⟨Tryz.func51,by kernel_rfl⟩,⟨Tryz.func106,by kernel_rfl⟩,⟨Tryz.func107,by kernel_rfl⟩,⟨Tryz.func147,by kernel_rfl⟩,⟨Tryz.func104,by kernel_rfl⟩,⟨Tryz.func99,by kernel_rfl⟩,⟨Tryz.func139,by kernel_rfl⟩,⟨Tryz.func142,by kernel_rfl⟩,⟨Tryz.func211,by kernel_rfl⟩,⟨Tryz.func215,by kernel_rfl⟩,⟨Tryz.func203,by kernel_rfl⟩,⟨Tryz.func206,by kernel_rfl⟩,⟨Tryz.func143,by kernel_rfl⟩,⟨Tryz.func207,by kernel_rfl⟩,⟨Tryz.func213,by kernel_rfl⟩,⟨Tryz.func214,by kernel_rfl⟩,⟨Tryz.func138,by kernel_rfl⟩,⟨Tryz.func170,by kernel_rfl⟩,⟨Tryz.func141,by kernel_rfl⟩,⟨Tryz.func108,by kernel_rfl⟩,⟨Tryz.func149,by kernel_rfl⟩,⟨Tryz.func174,by kernel_rfl⟩,⟨Tryz.func171,by kernel_rfl⟩,⟨Tryz.func192,by kernel_rfl⟩,⟨Tryz.func193,by kernel_rfl⟩,⟨Tryz.func194,by kernel_rfl⟩,⟨Tryz.func204,by kernel_rfl⟩,⟨Tryz.func150,by kernel_rfl⟩,⟨Tryz.func177,by kernel_rfl⟩,⟨Tryz.func197,by kernel_rfl⟩,⟨Tryz.func175,by kernel_rfl⟩,⟨Tryz.func195,by kernel_rfl⟩,⟨Tryz.func105,by kernel_rfl⟩,⟨Tryz.func145,by kernel_rfl⟩,⟨Tryz.func146,by kernel_rfl⟩,⟨Tryz.func172,by kernel_rfl⟩,⟨Tryz.func148,by kernel_rfl⟩,⟨Tryz.func173,by kernel_rfl⟩,⟨Tryz.func140,by kernel_rfl⟩,⟨Tryz.func17,by kernel_rfl⟩,⟨Tryz.func54,by kernel_rfl⟩,⟨Tryz.func52,by kernel_rfl⟩,⟨Tryz.func55,by kernel_rfl⟩,⟨Tryz.func60,by kernel_rfl⟩,⟨Tryz.func62,by kernel_rfl⟩,⟨Tryz.func61,by kernel_rfl⟩,⟨Tryz.func59,by kernel_rfl⟩,⟨Tryz.func63,by kernel_rfl⟩,⟨Tryz.func20,by kernel_rfl⟩,⟨Tryz.func19,by kernel_rfl⟩,⟨Tryz.func57,by kernel_rfl⟩,⟨Tryz.func53,by kernel_rfl⟩,⟨Tryz.func109,by kernel_rfl⟩,⟨Tryz.func15,by kernel_rfl⟩,⟨Tryz.func4,by kernel_rfl⟩,⟨Tryz.func16,by kernel_rfl⟩,⟨Tryz.func49,by kernel_rfl⟩,⟨Tryz.func102,by kernel_rfl⟩,⟨Tryz.func101,by kernel_rfl⟩,⟨Tryz.func18,by kernel_rfl⟩⟩
def Zxa(f:FuncId)(ds:List D)(m:List (Nat×Blk))(nx:Nat):Option (D×List (Nat×Blk)×Nat) :=
 match ds with
 | [.ls id 0, .v (.int .i64 n)] => cond (Nat.beq f 176 && (decide (1 ≤ n) && decide (n ≤ 6))) (match tabM m id with
     | some b=>cond (eqBk b ⟨3,0,1,[[dI (-1)]],0,false⟩) (some (.ls nx 1,putL nx ⟨3,1,1,List.replicate n.toNat [dI (-1)],0,false⟩ m,nx+1)) none
     | none=>none) none
 | _=>none
theorem Zuy:∀ f ds m nx d m' nx',Zxa f ds m nx=some (d,m',nx')→∀ (I:Ifl)(K:D→Mem→Nat→Prop),K d (tabM m') nx'→@Zas I Tryz.prog f ds (tabM m) nx K:=by
 intro f ds m nx d m' nx' h I K hK
 unfold Zxa at h
 split at h
 ·rename_i id n
  cases hb:Nat.beq f 176&&(decide (1≤n)&&decide (n≤6))
  ·rw[hb]at h;cases h
  ·rw[hb]at h
   simp only[cond_true]at h
   simp only[Ya2,decide_eq_true_eq]at hb
   obtain⟨hf,h1,h6⟩:=hb
   have hf:=Nat.eq_of_beq_eq_true hf
   subst hf
   split at h
   ·rename_i b hm
    cases he:eqBk b ⟨3,0,1,[[dI (-1)]],0,false⟩
    ·rw[he]at h;cases h
    ·rw[he]at h
     simp only[cond_true,Ya1,Prod.mk.injEq]at h
     obtain⟨rfl,rfl,rfl⟩:=h
     have hm2:=hm
     rw[ZsO he]at hm2
     have hn:n=((n.toNat:Nat):Int):=by omega
     have:=ZtX (nx:=nx) (n:=n.toNat) hm2 (by decide) (by omega) (by omega)
     rw[← hn]at this
     refine this.mono ?_
     rintro d m1 n1 ⟨rfl,rfl,rfl⟩
     rw[Zie]at hK
     exact hK
   ·cases h
 ·cases h
theorem Zv4(p:List Int)(hp:p.length≤64):Zaa Tryz.prog 140 [Zah p] (.cl (p.map fun x=>[dI x])):=by
 refine⟨⟨_,_,Tryz.func140,rfl,by kernel_rfl⟩,fun S w vs hf hvs=>?_⟩
 obtain⟨v,rfl,h1⟩:=ZpJ hvs
 obtain⟨a,cap,rfl,hcap,hle,_⟩:=h1.inv_sl
 have key:Rep noB noM S w (.slice a (p.map fun x=>[dI x]).length (p.map fun x=>[dI x]).length) (.sl (p.map fun x=>[dI x])):=by
  change Rep noB noM S w _ (.sl (p.map fun x=>[dI x]))at h1
  generalize (p.map fun x=>[dI x])=es at *
  have h2:∀ (n:Nat)(y:Value)(d:D),Rep noB noM S w y d→y = .slice a n cap→n=es.length→d = .sl es→Rep noB noM S w (.slice a es.length es.length) (.sl es):=by
   intro n y d hr hy hn hd
   cases hr<;>first|(cases hd;done)|skip
   ·cases hd;exact .sl0 _ _ (Yb0 _)
   ·rename_i b off cap' k es' val g1 g2 g3 g4 g5
    cases hd
    simp only[Value.slice.injEq]at hy
    obtain⟨rfl,-,-⟩:=hy
    exact .sl b off _ k _ val (Ya4 _) (Yc7 g1 g2) g3 g4 g5
  exact h2 _ _ _ h1 rfl rfl rfl
 have hcl:=RepI.cl (S:=S) (w:=w) (β:=noB) (m:=noM) a (p.map fun x=>[dI x]) key
 simp only[Yc0]at hcl hle ⊢
 cases a with
 | none =>
   go_enter Tryz.func140,Tryz.ntmps140
   go_wp2_with fail
   go_ret
   exact⟨_,rfl,Below.refl _ _,hcl⟩
 | some A =>
   go_enter Tryz.func140,Tryz.ntmps140
   go_wp2_with fail
   go_ret
   exact⟨_,rfl,Below.refl _ _,hcl⟩
theorem Zaa.ofCl{P:Program}{f:FuncId}{ds:List D}(h:∀ I:Ifl,@Zas I P f ds noM 0 fun d' _ _=>d' = .nil∨d' = .cl []):Zaa P f ds (.cl []):=by
 refine⟨(h Ifl.off).1,fun S w vs hf hvs=>?_⟩
 letI:Ifl:=Ifl.off
 have hi:Ifl.i=true→ZeQ S w:=fun e=>by cases e
 have hE:Zay ⟨S,w,hf,hi⟩ noB noM 0 w:=⟨Below.refl _ _,(fun _ _ h=>by cases h),(fun _ _ h=>by cases h),(fun _ _ h=>by cases h),(fun _ _ h=>by cases h),(fun _ _ _ h=>by cases h),(fun _ _ _ _ _ h=>by cases h)⟩
 have hs:Zao S w (safe ⟨S,w,hf,hi⟩ noB noM) w:=fun b o u h1 h2=>⟨⟨h1,fun _ _ h=>by cases h⟩,h2⟩
 refine((h Ifl.off).2 ⟨S,w,hf,hi⟩ noB w vs hE (hvs.mono (ZaD.refl _ _ _) hs)).mono ?_
 rintro e w' ⟨v,d',m',nx',rfl,⟨β',h1,h2,h3,h4⟩,hd⟩
 refine⟨v,rfl,h1.below,?_⟩
 rcases hd with rfl|rfl
 ·rw[h4.inv_nil];exact .cl none [] (.sl0 none 0 (Yb0 _))
 ·obtain⟨a,rfl,_⟩:=h4.inv_cl
  exact .cl a [] (.sl0 a 0 (Yb0 _))
theorem Zzf[Ifl]{s:St}(k id:Nat){T:TypeId}{kk:Nat}(hk:s.t k = .ls id 0)(hm:s.m id=some ⟨T,0,kk,[],0,false⟩):StLe s {s with t:=upd s.t k (.cl [])}:=by
 intro E B nn β a w h
 refine⟨β,h.mem,fun j hj=>?_,h.width,h.defers,h.le,h.sle,h.lo⟩
 by_cases e:j=k
 ·subst e
  simp only[Zab]
  have:=h.tmp j hj
  rw[hk]at this
  obtain⟨a0,n,cap,blk,e0,g1,g2,gx,g3⟩:=this.inv_lsx
  rw[hm]at g1
  cases g1
  obtain⟨c1,c2,c3,c4⟩:=g3 rfl
  have c5:=gx rfl rfl
  simp only[List.length_nil]at c1
  subst c1
  subst c5
  rw[e0]
  exact .cl a0 [] (.sl0 a0 0 (Yb0 _))
 ·simp only[Zad _ _ e];exact h.tmp j hj
theorem ZnR[Ifl]{P:Program}{n rid:Nat}{Q:Exit→St→Prop}{s:St}{o1 o2 o3 o4:Oper}{E':TypeId}{k:Nat}
 (g1:o1.guard=none) (g2:o2.guard=none) (g3:o3.guard=none) (g4:o4.guard=none) (d1:o1.dst=some 5) (d2:o2.dst=some 6) (d3:o3.dst=some 7) (d4:o4.dst=some 2) (p2:o2.op = .move (.tmp 0)) (p4:o4.op = .assign (.tmp 7))
 (f1:∀ (t:Nat→D)(m:Mem)(nx:Nat),opF P o1.op t m nx=some ⟨True,.ls nx 0,[],[(nx,⟨E',0,k,[],0,false⟩)],[nx]⟩)
 (f3:∀ (t:Nat→D)(m:Mem)(nx:Nat),t 5 = .cl []→t 6 = .sl []→opF P o3.op t m nx=some ⟨True,.cl [],[],[],[]⟩)
 (hf1:ZaY n o1=true) (hf2:ZaY n o2=true) (hf3:ZaY n o3=true) (hf4:ZaY n o4=true) (h0:s.t 0 = .sl [])
 (hQ:∀ T:Nat→D,∀ m nx,T 2 = .cl []→Q .normal {s with t:=T,m:=m,nx:=nx}):AWP P n (.region rid #[o1,o2,o3,o4] false) Q s:=by
 intro E B β a w hr
 refine wp_region_lit (l:=[o1,o2,o3,o4]) ?_
 refine wpList_plain g1 fun K1 hK1=>Zga (K:=fun s'=>s'={s with t:=upd s.t 5 (.ls s.nx 0),m:=upd s.m s.nx (some ⟨E',0,k,[],0,false⟩),nx:=s.nx+1}) hf1 hr ?_ ?_
 ·unfold opA
  rw[f1,d1]
  simp only[putT,ov,List.length_singleton]
  exact⟨trivial,.inr trivial,trivial⟩
 rintro s1 β1 a1 w1 r1 rfl
 have u5:upd s.t 5 (.ls s.nx 0) 5 = .ls s.nx 0:=Zab _ _ _
 have um:upd s.m s.nx (some ⟨E',0,k,[],0,false⟩) s.nx=some ⟨E',0,k,[],0,false⟩:=Zab _ _ _
 obtain⟨β2,r2⟩:=Zzf (s:=⟨upd s.t 5 (.ls s.nx 0),upd s.m s.nx (some ⟨E',0,k,[],0,false⟩),s.nx+1,s.lo⟩) 5 s.nx u5 um _ _ _ _ _ _ r1
 refine hK1 _ _ (wpList_plain g2 fun K2 hK2=>Zga (K:=fun s'=>s'=⟨upd (upd (upd s.t 5 (.ls s.nx 0)) 5 (.cl [])) 6 (.sl []),upd s.m s.nx (some ⟨E',0,k,[],0,false⟩),s.nx+1,s.lo⟩) hf2 r2 ?_ ?_)
 ·unfold opA
  rw[p2,d2]
  simp only[opF,rd,Zad _ _ (show(0:Nat)≠5 by decide),h0,Res.pure,putT,ov,List.length_nil,Nat.add_zero]
  exact⟨trivial,.inl trivial,trivial⟩
 rintro s3 β3 a3 w3 r3 rfl
 refine hK2 _ _ (wpList_plain g3 fun K3 hK3=>Zga (K:=fun s'=>s'=⟨upd (upd (upd (upd s.t 5 (.ls s.nx 0)) 5 (.cl [])) 6 (.sl [])) 7 (.cl []),upd s.m s.nx (some ⟨E',0,k,[],0,false⟩),s.nx+1,s.lo⟩) hf3 r3 ?_ ?_)
 ·unfold opA
  rw[f3 _ _ _ (by simp only[Zad _ _ (show(5:Nat)≠6 by decide),Zab]) (Zab _ _ _),d3]
  simp only[putT,ov,List.length_nil,Nat.add_zero]
  exact⟨trivial,.inl trivial,trivial⟩
 rintro s4 β4 a4 w4 r4 rfl
 refine hK3 _ _ (wpList_plain g4 fun K4 hK4=>Zga (K:=fun s'=>s'=⟨upd (upd (upd (upd (upd s.t 5 (.ls s.nx 0)) 5 (.cl [])) 6 (.sl [])) 7 (.cl [])) 2 (.cl []),upd s.m s.nx (some ⟨E',0,k,[],0,false⟩),s.nx+1,s.lo⟩) hf4 r4 ?_ ?_)
 ·unfold opA
  rw[p4,d4]
  simp only[opF,rd,Zab,Res.pure,putT,ov,List.length_nil,Nat.add_zero]
  exact⟨trivial,.inl trivial,trivial⟩
 rintro s5 β5 a5 w5 r5 rfl
 exact hK4 _ _ (wpList_nil ⟨_,β5,r5,hQ _ _ _ (Zab _ _ _)⟩)
theorem ZxK:Zaa Tryz.prog 144 [.sl []] (.cl []):=by
 have Zr:=Tryz.results144
 refine Zaa.ofCl fun I=>Zas.inline Tryz.func144 rfl (by kernel_rfl) (by kernel_rfl) (by kernel_rfl) ?_
 rw[Tryz.ntmps144]
 refine ZnQ (n:=1) ⟨⟩ Zr ?_
 repeat with_reducible intro K hK
 refine ZkY (es:=[]) Tryz.underlying61 rfl rfl rfl rfl rfl rfl (by kernel_rfl) (by kernel_rfl) rfl (fun h0=>?_) ?_
 ·exact aGo Zr trivial
 ·refine ZnQ (n:=3) ⟨⟩ Zr ?_
  repeat with_reducible intro K hK
  refine ZnR (E':=249) (k:=2) rfl rfl rfl rfl rfl rfl rfl rfl rfl rfl (fun t m nx=>by kernel_rfl) (fun t m nx h5 h6=>?_) (by kernel_rfl) (by kernel_rfl) (by kernel_rfl) (by kernel_rfl) rfl fun T m nx hT=>?_
  ·simp[go_sem,h5,h6]
  ·exact aGo (cj2 Zr hT) trivial
theorem Zvm:Zaa Tryz.prog 56 [.sl []] (.cl []):=by
 have Zr:=Tryz.results56
 refine Zaa.ofCl fun I=>Zas.inline Tryz.func56 rfl (by kernel_rfl) (by kernel_rfl) (by kernel_rfl) ?_
 rw[Tryz.ntmps56]
 refine ZnQ (n:=1) ⟨⟩ Zr ?_
 repeat with_reducible intro K hK
 refine ZkY (es:=[]) Tryz.underlying73 rfl rfl rfl rfl rfl rfl (by kernel_rfl) (by kernel_rfl) rfl (fun h0=>?_) ?_
 ·exact aGo Zr trivial
 ·refine ZnQ (n:=3) ⟨⟩ Zr ?_
  repeat with_reducible intro K hK
  refine ZnR (E':=139) (k:=4) rfl rfl rfl rfl rfl rfl rfl rfl rfl rfl (fun t m nx=>by kernel_rfl) (fun t m nx h5 h6=>?_) (by kernel_rfl) (by kernel_rfl) (by kernel_rfl) (by kernel_rfl) rfl fun T m nx hT=>?_
  ·simp[go_sem,h5,h6]
  ·exact aGo (cj2 Zr hT) trivial
theorem ZxL:Zaa Tryz.prog 58 [.sl []] (.cl []):=by
 have Zr:=Tryz.results58
 refine Zaa.ofCl fun I=>Zas.inline Tryz.func58 rfl (by kernel_rfl) (by kernel_rfl) (by kernel_rfl) ?_
 rw[Tryz.ntmps58]
 refine ZnQ (n:=1) ⟨⟩ Zr ?_
 repeat with_reducible intro K hK
 refine ZkY (es:=[]) Tryz.underlying30 rfl rfl rfl rfl rfl rfl (by kernel_rfl) (by kernel_rfl) rfl (fun h0=>?_) ?_
 ·exact aGo Zr trivial
 ·refine ZnQ (n:=3) ⟨⟩ Zr ?_
  repeat with_reducible intro K hK
  refine ZnR (E':=3) (k:=1) rfl rfl rfl rfl rfl rfl rfl rfl rfl rfl (fun t m nx=>by kernel_rfl) (fun t m nx h5 h6=>?_) (by kernel_rfl) (by kernel_rfl) (by kernel_rfl) (by kernel_rfl) rfl fun T m nx hT=>?_
  ·simp[go_sem,h5,h6]
  ·exact aGo (cj2 Zr hT) trivial
end Go.Proofs.YtblamlnjbjaokaaGreat
namespace Go.Proofs.YtblamlnjbjaokaaGreat.Rn
set_option linter.unusedVariables false
set_option linter.unusedSimpArgs false
set_option linter.unusedSectionVars false
set_option maxRecDepth 100000
abbrev Stop:=Nat×Nat
def tm(l:List Stop)(i:Nat):Nat:=(l[i]?.map Prod.fst).getD 0
def Zew(l:List Stop)(i k:Nat):List Stop:=if h:i<l.length∧k<l.length then(l.set i l[k]).set k l[i]else l
theorem ZaN(l:List Stop)(i k:Nat):(Zew l i k).length=l.length:=by unfold Zew;split<;>simp
theorem ZgJ(l:List Stop)(i k:Nat):(Zew l i k).Perm l:=by
 unfold Zew
 split
 ·rename_i h;exact List.set_set_perm h.1 h.2
 ·exact .refl _
theorem Zh2{l:List Stop}{i k:Nat}(hi:i<l.length)(hk:k<l.length)(j:Nat):(Zew l i k)[j]? =if j=k then l[i]? else if j=i then l[k]? else l[j]?:=by
 unfold Zew
 rw[dif_pos ⟨hi,hk⟩]
 simp only[List.getElem?_set,List.length_set]
 grind
theorem ZgI{l:List Stop}{i k:Nat}(hi:i<l.length)(hk:k<l.length)(j:Nat):tm (Zew l i k) j=if j=k then tm l i else if j=i then tm l k else tm l j:=by
 unfold tm
 rw[Zh2 hi hk]
 split
 ·rfl
 ·split<;>rfl
def Zfp(l:List Stop)(n:Nat):Prop:=∀ c,0<c→c<n→tm l ((c-1) / 2)≤tm l c
def ZqJ(l:List Stop)(n j:Nat):Prop:=(∀ c,0<c→c<n→c≠j→tm l ((c-1) / 2)≤tm l c)∧(0<j→∀ c,0<c→c<n→(c-1) / 2=j→tm l ((j-1) / 2)≤tm l c)
theorem ZqX{l:List Stop}{n j:Nat}(h:ZqJ l n j)(hj:j=0∨tm l ((j-1) / 2)≤tm l j):Zfp l n:=by
 intro c h0 hn
 by_cases hc:c=j
 ·subst hc;rcases hj with h'|h'
  ·omega
  ·exact h'
 ·exact h.1 c h0 hn hc
theorem Zwh{l:List Stop}{n j:Nat}(hn:n≤l.length)(hj:j<n)(h0:0<j)(h:ZqJ l n j)(hlt:tm l j<tm l ((j-1) / 2)):ZqJ (Zew l ((j-1) / 2) j) n ((j-1) / 2):=by
 obtain⟨h1,h2⟩:=h
 have hi:(j-1) / 2<l.length:=by omega
 have hj':j<l.length:=by omega
 refine⟨fun c hc0 hcn hcj=>?_,fun hp c hc0 hcn hcp=>?_⟩
 ·simp only[ZgI hi hj']
  have a:=h1 c hc0 hcn
  have b:=h2 h0 c hc0 hcn
  grind
 ·simp only[ZgI hi hj']
  have a:=h1 ((j-1) / 2) hp (by omega) (by omega)
  have b:=h1 c hc0 hcn
  rw[if_neg (by omega),if_neg (by omega)]
  by_cases hc:c=j
  ·rw[if_pos hc];exact a
  ·have:=b hc
   rw[hcp]at this
   rw[if_neg hc,if_neg (by omega)]
   omega
def Zeq(l:List Stop)(n i:Nat):Prop:=(∀ c,0<c→c<n→(c-1) / 2≠i→tm l ((c-1) / 2)≤tm l c)∧(0<i→∀ c,0<c→c<n→(c-1) / 2=i→tm l ((i-1) / 2)≤tm l c)
theorem ZsX{l:List Stop}{n i:Nat}(h:Zeq l n i)(hl:n≤2*i+1):Zfp l n:=by
 intro c h0 hn
 exact h.1 c h0 hn (by omega)
theorem ZiE{l:List Stop}{n i j:Nat}(h:Zeq l n i)(hle:tm l i≤tm l j)(hj1:2*i+1<n→tm l j≤tm l (2*i+1))(hj2:2*i+2<n→tm l j≤tm l (2*i+2)):Zfp l n:=by
 intro c h0 hn
 by_cases hc:(c-1) / 2=i
 ·rw[hc]
  rcases(show c=2*i+1∨c=2*i+2 by omega)with rfl|rfl
  ·have:=hj1 hn;omega
  ·have:=hj2 hn;omega
 ·exact h.1 c h0 hn hc
theorem ZsW{l:List Stop}{n i j:Nat}(hn:n≤l.length)(hj:j<n)(hjc:j=2*i+1∨j=2*i+2)(h:Zeq l n i)(hlt:tm l j<tm l i)
 (hj1:2*i+1<n→tm l j≤tm l (2*i+1)) (hj2:2*i+2<n→tm l j≤tm l (2*i+2)):Zeq (Zew l i j) n j:=by
 obtain⟨h1,h2⟩:=h
 have hi:i<l.length:=by omega
 have hj':j<l.length:=by omega
 refine⟨fun c hc0 hcn hcj=>?_,fun hp c hc0 hcn hcp=>?_⟩
 ·simp only[ZgI hi hj']
  by_cases hci:(c-1) / 2=i
  ·have hcc:c=2*i+1∨c=2*i+2:=by omega
   have hci':c≠i:=by omega
   rcases hcc with rfl|rfl
   ·have:=hj1 hcn;grind
   ·have:=hj2 hcn;grind
  ·have a:=h1 c hc0 hcn hci
   by_cases hc:c=j
   ·omega
   ·by_cases hc':c=i
    ·subst hc'
     have b:=h2 hc0 j (by omega) hj (by omega)
     grind
    ·grind
 ·simp only[ZgI hi hj']
  have a:=h1 c hc0 hcn (by omega)
  have e:(j-1) / 2=i:=by omega
  grind
theorem Zsr{l:List Stop}{n:Nat}(h:Zfp l n):∀ c,c<n→tm l 0≤tm l c:=by
 intro c
 induction c using Nat.strongRecOn with
 | ind c ih =>
   intro hc
   by_cases h0:c=0
   ·subst h0;exact Ya4 _
   ·have:=h c (by omega) hc
    have:=ih ((c-1) / 2) (by omega) (by omega)
    omega
theorem ZfV{l:List Stop}{i:Nat}{x:Stop}(h:l[i]? =some x):tm l i=x.1:=by simp[tm,h]
theorem Zqr{l:List Stop}{n:Nat}(h:Zfp l (n+1))(hl:l.length=n+1):Zeq (Zew l 0 n) n 0:=by
 refine⟨fun c hc0 hcn hcj=>?_,fun hp=>by omega⟩
 rw[ZgI (by omega) (by omega),ZgI (by omega) (by omega)]
 have:=h c hc0 (by omega)
 grind
theorem ZtK{l:List Stop}(x:Stop)(h:Zfp l l.length):ZqJ (l++[x]) (l.length+1) l.length:=by
 have e:∀ c,c<l.length→tm (l++[x]) c=tm l c:=fun c hc=>by simp[tm,Yc3 hc]
 refine⟨fun c hc0 hcn hcj=>?_,fun hp c hc0 hcn hcp=>by omega⟩
 rw[e _ (by omega),e _ (by omega)]
 exact h c hc0 (by omega)
open Go.RowKit
def flat(l:List Stop):List Value:=l.flatMap fun x=>[I x.1,I x.2]
theorem ZnB(l:List Stop):(flat l).length=l.length*2:=by
 induction l with
 | nil=>rfl
 | cons x l ih=>simp only[flat,List.flatMap_cons,Yb9,List.length_cons,List.length_nil]at ih ⊢;omega
theorem ZdN(x:Stop)(l:List Stop):flat (x ::l)=I x.1 ::I x.2 ::flat l:=rfl
theorem Zei(l r:List Stop):flat (l++r)=flat l++flat r:=by simp[flat]
theorem ZsD{l:List Stop}{i:Nat}{x:Stop}(h:l[i]? =some x):(flat l)[i*2]? =some (I x.1):=by
 induction l generalizing i with
 | nil=>simp at h
 | cons y l ih =>
   cases i with
   | zero=>simp at h;subst h;rfl
   | succ i=>rw[ZdN,show(i+1)*2=i*2+1+1 by omega];simpa using ih (by simpa using h)
theorem ZsC{l:List Stop}{i:Nat}{x:Stop}(h:l[i]? =some x):(flat l)[i*2+1]? =some (I x.2):=by
 induction l generalizing i with
 | nil=>simp at h
 | cons y l ih =>
   cases i with
   | zero=>simp at h;subst h;rfl
   | succ i=>rw[ZdN,show(i+1)*2+1=(i*2+1)+1+1 by omega];simpa using ih (by simpa using h)
theorem ZoL(l:List Stop)(i:Nat)(x:Stop):flat (l.set i x)=((flat l).set (i*2) (I x.1)).set (i*2+1) (I x.2):=by
 induction l generalizing i with
 | nil=>rfl
 | cons y l ih =>
   cases i with
   | zero=>rfl
   | succ i=>rw[List.set_cons_succ,ZdN,ZdN,ih,show(i+1)*2=i*2+1+1 by omega];rfl
theorem ZsB(l:List Stop)(n:Nat):(flat l).take (n*2)=flat (l.take n):=by
 induction l generalizing n with
 | nil=>simp[flat]
 | cons y l ih =>
   cases n with
   | zero=>rfl
   | succ n=>rw[List.take_succ_cons,ZdN,ZdN,← ih,show(n+1)*2=n*2+1+1 by omega];rfl
def QRow(w:World)(g cap:Nat)(l:List Stop):Prop:=w.ownsRow 0 333 2 (.slice (some ⟨g,0,none⟩) l.length cap) l.length (flat l)
structure But (g:Nat) (w w':World):Prop where
 os:w'.os=w.os
 tape:w'.tape=w.tape
 output:w'.output=w.output
 size:w.heap.size≤w'.heap.size
 block:∀ k,k<w.heap.size→k≠g→w'.heap[k]? =w.heap[k]?
theorem But.refl(g:Nat)(w:World):But g w w:=⟨rfl,rfl,rfl,Ya4 _,fun _ _ _=>rfl⟩
theorem But.trans{g:Nat}{a b c:World}(h:But g a b)(k:But g b c):But g a c :=
 ⟨k.os.trans h.os,k.tape.trans h.tape,k.output.trans h.output,Yc7 h.size k.size,fun i hi hg=>(k.block i (Nat.lt_of_lt_of_le hi h.size) hg).trans (h.block i hi hg)⟩
theorem But.drew{g:Nat}{a w:World}(h:But g a w):But g a w.drew:=⟨h.os,h.tape,h.output,h.size,h.block⟩
theorem But.drewN{g:Nat}{a w:World}(h:But g a w):∀ n,But g a (w.drewN n)
 | 0=>h
 | n+1=>(But.drewN h n).drew
theorem But.alloc{g:Nat}{a w:World}(h:But g a w)(o:Obj):But g a (w.alloc o) :=
 h.trans ⟨rfl,rfl,rfl,by simp,fun k hk _=>Below.heap_alloc _ _ _ hk⟩
theorem But.grown{g:Nat}{a w w':World}(h:But g a w)(hg:w.grownBy w' (some g)):But g a w' :=
 h.trans ⟨hg.os,hg.tape,hg.output,hg.size,fun k hk hne=>hg.block k hk (by simpa using hne)⟩
theorem But.cell{g:Nat}{w w':World}(h:But g w w'){b o:Nat}{v:Value}(hc:w.cell? ⟨b,o,none⟩=some v)(hb:b≠g):w'.cell? ⟨b,o,none⟩=some v :=
 (World.cell?_of_block (h.block b (World.block_lt_of_cell? w _ hc) hb)).trans hc
theorem QRow.lt{w:World}{g cap:Nat}{l:List Stop}(h:QRow w g cap l):g<w.heap.size:=(World.ownsRow.lt h g rfl).2
theorem QRow.get{w:World}{g cap:Nat}{l:List Stop}(h:QRow w g cap l){i:Nat}{x:Stop}(hi:l[i]? =some x) :
 w.cell? ⟨g,i*2,none⟩=some (I x.1)∧w.cell? ⟨g,i*2+1,none⟩=some (I x.2):=by
 have hlt:i<l.length:=(Ya3.1 hi).1
 exact⟨(h.cellAt _ (by omega)).trans (ZsD hi),(h.cellAt _ (by omega)).trans (ZsC hi)⟩
theorem QRow.free{w:World}{g cap:Nat}{l:List Stop}(h:QRow w g cap l)(j:Nat):w.frozen? ⟨g,j,none⟩=false:=h.frozenAt j
theorem QRow.of_block{w w':World}{g cap:Nat}{l:List Stop}(h:QRow w g cap l)(hb:w'.heap[g]? =w.heap[g]?):QRow w' g cap l:=by
 obtain⟨h1,h2⟩:=h
 refine⟨h1,?_⟩
 rcases h2 with⟨h2,_⟩|⟨g',cap',cur,hv,hg,hh,r⟩
 ·cases h2
 ·refine .inr ⟨g',cap',cur,hv,hg,?_,r⟩
  simp only[Value.slice.injEq,Ya1,Addr.mk.injEq,and_true,true_and]at hv
  obtain⟨rfl,rfl⟩:=hv
  rw[hb];exact hh
theorem QRow.drewN{w:World}{g cap:Nat}{l:List Stop}(h:QRow w g cap l)(n:Nat):QRow (w.drewN n) g cap l:=h.of_block rfl
theorem Zks(a:Option Addr)(n c:Nat)(w:World):Calls Tryz.prog 217 #[.slice a n c] w fun e w'=>e = .returned (I n)∧w=w':=by
 go_enter Tryz.func217,Tryz.ntmps217
 go_wp2
 go_ret
 exact⟨rfl,rfl⟩
theorem Zdh(g cap:Nat)(l:List Stop)(i k:Nat)(w:World)(h:QRow w g cap l)(hi:i<l.length)(hk:k<l.length)(hn:l.length≤9223372036854775807) :
 Calls Tryz.prog 238 #[.slice (some ⟨g,0,none⟩) l.length cap,I i,I k] w fun e w'=>e = .returned (B (decide (tm l i<tm l k)))∧∃ m,w'=w.drewN m:=by
 obtain⟨x,hx⟩:∃ x,l[i]? =some x:=⟨_,Ya0 hi⟩
 obtain⟨y,hy⟩:∃ y,l[k]? =some y:=⟨_,Ya0 hk⟩
 have e1:=ZfV hx
 have e2:=ZfV hy
 obtain⟨c0,_⟩:=h.get hx
 obtain⟨c1,_⟩:=h.get hy
 rw[e1,e2]
 have hlt:=h.lt
 clear e1 e2 hx hy
 go_enter Tryz.func238,Tryz.ntmps238
 go_wp2
 go_quiet (fail)
 go_wp2
 go_ret
 exact⟨retB (by simp),_,rfl⟩
theorem QRow.swap4{w:World}{g cap:Nat}{l:List Stop}(h:QRow w g cap l){i k:Nat}{x y:Stop}(hi:l[i]? =some x)(hk:l[k]? =some y) :
 QRow ((((w.setCell ⟨g,i*2,none⟩ (I y.1)).setCell ⟨g,i*2+1,none⟩ (I y.2)).setCell ⟨g,k*2,none⟩ (I x.1)).setCell ⟨g,k*2+1,none⟩ (I x.2)) g cap (Zew l i k) ∧
 But g w ((((w.setCell ⟨g,i*2,none⟩ (I y.1)).setCell ⟨g,i*2+1,none⟩ (I y.2)).setCell ⟨g,k*2,none⟩ (I x.1)).setCell ⟨g,k*2+1,none⟩ (I x.2)):=by
 obtain⟨hi',rfl⟩:=Ya3.1 hi
 obtain⟨hk',rfl⟩:=Ya3.1 hk
 have s1:=World.ownsRow.stored h (i*2) (I l[k].1)
 have s2:=World.ownsRow.stored s1.1 (i*2+1) (I l[k].2)
 have s3:=World.ownsRow.stored s2.1 (k*2) (I l[i].1)
 have s4:=World.ownsRow.stored s3.1 (k*2+1) (I l[i].2)
 refine⟨?_,((((But.refl g w).grown s1.2).grown s2.2).grown s3.2).grown s4.2⟩
 have e:flat (Zew l i k)=((((flat l).set (i*2) (I l[k].1)).set (i*2+1) (I l[k].2)).set (k*2) (I l[i].1)).set (k*2+1) (I l[i].2):=by
  unfold Zew;rw[dif_pos ⟨hi',hk'⟩,ZoL,ZoL]
 unfold QRow
 rw[ZaN,e]
 exact s4.1
theorem ZfY(g cap:Nat)(l:List Stop)(i k:Nat)(w:World)(h:QRow w g cap l)(hi:i<l.length)(hk:k<l.length)(hn:l.length≤9223372036854775807) :
 Calls Tryz.prog 241 #[.slice (some ⟨g,0,none⟩) l.length cap,I i,I k] w fun e w'=>e = .returned (.tuple #[])∧QRow w' g cap (Zew l i k)∧But g w w':=by
 obtain⟨x,hx⟩:∃ x,l[i]? =some x:=⟨_,Ya0 hi⟩
 obtain⟨y,hy⟩:∃ y,l[k]? =some y:=⟨_,Ya0 hk⟩
 obtain⟨c0,c1⟩:=h.get hx
 obtain⟨d0,d1⟩:=h.get hy
 have hlt:=h.lt
 have f0:=h.free (i*2)
 have f1:=h.free (i*2+1)
 have f2:=h.free (k*2)
 have f3:=h.free (k*2+1)
 obtain⟨v0,e0⟩:=cell?_setCell_some (w:=w) (p:=⟨g,i*2,none⟩) (x:=Value.int .i64 ↑y.1) (q:=⟨g,k*2,none⟩) d0
 obtain⟨v1,e1⟩:=cell?_setCell_some (w:=w) (p:=⟨g,i*2,none⟩) (x:=Value.int .i64 ↑y.1) (q:=⟨g,k*2+1,none⟩) d1
 obtain⟨v2,e2⟩:=cell?_setCell_some (w:=w.setCell ⟨g,i*2,none⟩ (Value.int .i64 ↑y.1)) (p:=⟨g,i*2+1,none⟩) (x:=Value.int .i64 ↑y.2) (q:=⟨g,k*2+1,none⟩) e1
 clear e1
 go_enter Tryz.func241,Tryz.ntmps241
 go_wp2
 go_region
 go_end0
 have R:=h.swap4 hx hy
 exact⟨rfl,R.1.drewN 1,R.2.drew⟩
structure QAt (w:World) (q g cap:Nat) (l:List Stop):Prop where
 head:w.heap[q]? =some (.cells #[.slice (some ⟨g,0,none⟩) l.length cap] 335 (0,0))
 ne:q≠g
 row:QRow w g cap l
theorem QAt.cell{w:World}{q g cap:Nat}{l:List Stop}(h:QAt w q g cap l):w.cell? ⟨q,0,none⟩=some (.slice (some ⟨g,0,none⟩) l.length cap):=by
 rw[cell_of_row w q 0 _ _ (0,0) h.head];rfl
theorem Zim {q : Nat} {v : Value} {w : World} (hc : w.cell? ⟨q, 0, none⟩ = some v) : (method 461 334 (.pointer (some ⟨q, 0, none⟩)) "Less").run Tryz.prog w = .ok (238, v) w := by
 have e : (method 461 334 (.pointer (some ⟨q, 0, none⟩)) "Less").run Tryz.prog w = (match w.cell? ⟨q, 0, none⟩ with | some v => .ok (238, v) w | none => match w.farLoad Tryz.prog ⟨q, 0, none⟩ false with | .ok (v, _) => .ok (238, v) w | .error h => .halt h w) := by kernel_rfl
 rw[e,hc]
theorem Zil {q : Nat} {v : Value} {w : World} (hc : w.cell? ⟨q, 0, none⟩ = some v) : (method 461 334 (.pointer (some ⟨q, 0, none⟩)) "Swap").run Tryz.prog w = .ok (241, v) w := by
 have e : (method 461 334 (.pointer (some ⟨q, 0, none⟩)) "Swap").run Tryz.prog w = (match w.cell? ⟨q, 0, none⟩ with | some v => .ok (241, v) w | none => match w.farLoad Tryz.prog ⟨q, 0, none⟩ false with | .ok (v, _) => .ok (241, v) w | .error h => .halt h w) := by kernel_rfl
 rw[e,hc]
theorem Zox {q : Nat} {v : Value} {w : World} (hc : w.cell? ⟨q, 0, none⟩ = some v) : (method 461 334 (.pointer (some ⟨q, 0, none⟩)) "Len").run Tryz.prog w = .ok (217, v) w := by
 have e : (method 461 334 (.pointer (some ⟨q, 0, none⟩)) "Len").run Tryz.prog w = (match w.cell? ⟨q, 0, none⟩ with | some v => .ok (217, v) w | none => match w.farLoad Tryz.prog ⟨q, 0, none⟩ false with | .ok (v, _) => .ok (217, v) w | .error h => .halt h w) := by kernel_rfl
 rw[e,hc]
theorem Zr2 (q : Nat) (w : World) : (method 461 334 (.pointer (some ⟨q, 0, none⟩)) "Push").run Tryz.prog w = .ok (240, .pointer (some ⟨q, 0, none⟩)) w := by kernel_rfl
theorem ZuB (q : Nat) (w : World) : (method 461 334 (.pointer (some ⟨q, 0, none⟩)) "Pop").run Tryz.prog w = .ok (239, .pointer (some ⟨q, 0, none⟩)) w := by kernel_rfl
theorem QAt.drewN{w:World}{q g cap:Nat}{l:List Stop}(h:QAt w q g cap l)(n:Nat):QAt (w.drewN n) q g cap l:=⟨h.head,h.ne,h.row.drewN n⟩
theorem QAt.swapped{w w':World}{q g cap:Nat}{l l':List Stop}(h:QAt w q g cap l)(hl:l'.length=l.length)(hr:QRow w' g cap l')(hb:But g w w'):QAt w' q g cap l':=by
 have hq:q<w.heap.size:=(Ya5.1 h.head).1
 exact⟨by rw[hb.block q hq h.ne,hl];exact h.head,h.ne,hr⟩
set_option maxHeartbeats 1000000 in
theorem Zyi(q g cap:Nat)(l:List Stop)(j:Nat)(w:World)(h:QAt w q g cap l)(hj:j<l.length)(hu:ZqJ l l.length j)(hn:l.length≤4611686018427387903) :
 Calls Tryz.prog 221 #[.iface 334 (.pointer (some ⟨q,0,none⟩)),I j] w fun e w'=>e = .returned (.tuple #[])∧∃ l',QAt w' q g cap l'∧l'.Perm l∧Zfp l' l'.length∧But g w w':=by
 go_enter Tryz.func221,Tryz.ntmps221
 go_wp2
 go_loopw [1] (fun v wr=>∃ (j:Nat)(l':List Stop),v=I j∧j<l'.length∧l'.length=l.length∧l'.Perm l∧ZqJ l' l'.length j∧QAt wr q g cap l'∧But g w wr) (fun v _=>(intOf v).toNat)
 case atStart=>exact⟨j,l,rfl,hj,rfl,.refl _,hu,h,But.refl _ _⟩
 case round =>
  obtain⟨j,l',rfl,hj,hll,hp,hu,hQ,hB⟩:=hrel
  have Hll:=Lib.hid hll;clear hll
  have hn':l'.length≤4611686018427387903:=by rw[Hll.out];exact hn
  have hn'':l'.length≤9223372036854775807:=by omega
  by_cases h0:j=0
  ·subst h0
   go_wp2
   go_end0
   exact⟨rfl,l',hQ,hp,ZqX hu (.inl rfl),hB⟩
  ·have hj1:1≤j:=by omega
   obtain⟨p,hpj⟩:∃ p:Nat,p=(j-1) / 2:=⟨_,rfl⟩
   have ep:((j:Int)-1) / 2=(p:Int):=by omega
   have hpl:p<l'.length:=by omega
   have hne:((p:Int)==(j:Int))=false:=by simp;omega
   have Hpj:=Lib.hid hpj;clear hpj
   have hm1:=Zim hQ.cell
   have hm2:∀ m,_:=fun m=>Zil (hQ.drewN m).cell
   by_cases hlt:tm l' j<tm l' p
   ·have hd:decide (tm l' j<tm l' p)=true:=by simpa using hlt
    have hlt':=Lib.hid hlt;clear hlt
    go_wp2_with (first
     | (go_at_call 238;refine(Zdh _ _ _ _ _ _ hQ.row hj hpl hn'').mono ?_;rintro e w' ⟨rfl,m,rfl⟩)
     | (go_at_call 241;refine(ZfY _ _ _ _ _ _ (hQ.row.drewN _) hpl hj hn'').mono ?_;rintro e w' ⟨rfl,hr1,hb1⟩))
    go_roundw
    case rel =>
     refine⟨p,Zew l' p j,rfl,by rw[ZaN];exact hpl,by rw[ZaN];exact Hll.out,(ZgJ _ _ _).trans hp,?_,(hQ.drewN _).swapped (ZaN _ _ _) hr1 hb1,hB.trans (((But.refl g wr).drewN _).trans hb1)⟩
     rw[ZaN,Hpj.out]
     exact Zwh (Ya4 _) hj hj1 hu (by rw[← Hpj.out];exact hlt'.out)
    case measure=>simp[intOf];have:=Hpj.out;omega
   ·have hd:decide (tm l' j<tm l' p)=false:=by simpa using hlt
    have hlt':=Lib.hid hlt;clear hlt
    go_wp2_with (first
     | (go_at_call 238;refine(Zdh _ _ _ _ _ _ hQ.row hj hpl hn'').mono ?_;rintro e w' ⟨rfl,m,rfl⟩))
    go_end0
    exact⟨rfl,l',hQ.drewN _,hp,ZqX hu (.inr (by rw[← Hpj.out];have:=hlt'.out;omega)),hB.drewN _⟩
theorem ZkM{l:List Stop}{n i j1 j2 j:Nat}(h1:j1=2*i+1)(h2:j2=j1+1)(hj:(j=j1∧(j2<n→tm l j1≤tm l j2))∨(j=j2∧j2<n∧tm l j2<tm l j1)) :
 (2*i+1<n→tm l j≤tm l (2*i+1))∧(2*i+2<n→tm l j≤tm l (2*i+2))∧(j=2*i+1∨j=2*i+2):=by
 subst h1
 have e:j2=2*i+2:=by omega
 subst e
 rcases hj with⟨rfl,h⟩|⟨rfl,h,h'⟩
 ·exact⟨fun _=>Ya4 _,h,.inl rfl⟩
 ·exact⟨fun _=>Nat.le_of_lt h',fun _=>Ya4 _,.inr rfl⟩
theorem ZiD{w wr w':World}{q g cap:Nat}{l l':List Stop}{n i j m:Nat}(hN:n+1=l.length)(hll:l'.length=l.length)(hp:l'.Perm l)(hu:Zeq l' n i)(hlast:l'[n]? =l[n]?)(hQ:QAt wr q g cap l')(hB:But g w wr)
 (U:(2*i+1<n→tm l' j≤tm l' (2*i+1))∧(2*i+2<n→tm l' j≤tm l' (2*i+2))∧(j=2*i+1∨j=2*i+2)) (hj:j<n) (H:tm l' j<tm l' i) (hr1:QRow w' g cap (Zew l' i j)) (hb1:But g (wr.drewN m) w') :
 ∃ (i0:Nat)(l0:List Stop),Value.int .i64 (j:Int)=I i0∧i0≤n∧l0.length=l.length∧l0.Perm l∧Zeq l0 n i0∧l0[n]? =l[n]? ∧QAt w' q g cap l0∧But g w w':=by
 refine⟨j,Zew l' i j,rfl,by omega,by rw[ZaN];exact hll,(ZgJ _ _ _).trans hp,ZsW (by omega) hj U.2.2 hu H U.1 U.2.1,?_,(hQ.drewN m).swapped (ZaN _ _ _) hr1 hb1,hB.trans (((But.refl g wr).drewN _).trans hb1)⟩
 rw[Zh2 (by omega) (by omega),if_neg (by omega),if_neg (by omega)]
 exact hlast
set_option maxHeartbeats 8000000 in
theorem Zvc(q g cap:Nat)(l:List Stop)(n:Nat)(w:World)(h:QAt w q g cap l)(hnl:n+1=l.length)(hd:Zeq l n 0)(hn:l.length≤2305843009213693951) :
 Calls Tryz.prog 220 #[.iface 334 (.pointer (some ⟨q,0,none⟩)),I 0,I n] w fun e w'=>(∃ b,e = .returned (B b))∧∃ l',QAt w' q g cap l'∧l'.Perm l∧Zfp l' n∧l'[n]? =l[n]? ∧But g w w':=by
 have Hnl:=Lib.hid hnl;clear hnl
 have hn0:n≤2305843009213693951:=by have:=Hnl.out;omega
 go_enter Tryz.func220,Tryz.ntmps220
 go_wp2
 go_loopw [7] (fun v wr=>∃ (i:Nat)(l':List Stop),v=I i∧i≤n∧l'.length=l.length∧l'.Perm l∧Zeq l' n i∧l'[n]? =l[n]? ∧QAt wr q g cap l'∧But g w wr) (fun v _=>n+1-(intOf v).toNat)
 case atStart=>exact⟨0,l,rfl,Yb0 _,rfl,.refl _,hd,rfl,h,But.refl _ _⟩
 case round =>
  obtain⟨i,l',rfl,hi,hll,hp,hu,hlast,hQ,hB⟩:=hrel
  have Hll:=Lib.hid hll;clear hll
  have Hlast:=Lib.hid hlast;clear hlast
  have hn'':l'.length≤9223372036854775807:=by rw[Hll.out];omega
  obtain⟨j1,hj1⟩:∃ j1:Nat,j1=2*i+1:=⟨_,rfl⟩
  have e1:2*(i:Int)+1=(j1:Int):=by omega
  have b1:j1≤4611686018427387903:=by omega
  have Hj1:=Lib.hid hj1;clear hj1
  by_cases hlf:n≤j1
  ·have hle:decide ((n:Int)≤(j1:Int))=true:=by simpa using hlf
   go_wp2
   all_goals
    go_ret
    exact⟨⟨_,rfl⟩,l',hQ,hp,ZsX hu (by rw[← Hj1.out];exact hlf),Hlast.out,hB⟩
  ·have hil:i<l'.length:=by rw[Hll.out,← Hnl.out];omega
   have hj1l:j1<l'.length:=by rw[Hll.out,← Hnl.out];omega
   have hm1:∀ m,_:=fun m=>Zim (hQ.drewN m).cell
   have hm0:=Zim hQ.cell
   have hm2:∀ m,_:=fun m=>Zil (hQ.drewN m).cell
   obtain⟨j2,hj2⟩:∃ j2:Nat,j2=j1+1:=⟨_,rfl⟩
   have e2:(j1:Int)+1=(j2:Int):=by omega
   have b2:j2≤4611686018427387904:=by omega
   have hlf':¬ ((n:Int)≤(j1:Int)):=by omega
   have hle:decide ((n:Int)≤(j1:Int))=false:=by simpa using hlf
   have hj1n:j1<n:=by omega
   by_cases hj2n:j2<n
   ·have hj2l:j2<l'.length:=by rw[Hll.out,← Hnl.out];omega
    have hj2i:(j2:Int)<(n:Int):=by omega
    by_cases hlt:tm l' j2<tm l' j1
    ·have hd1:decide (tm l' j2<tm l' j1)=true:=by simpa using hlt
     have U:=Lib.hid (ZkM (l:=l') (n:=n) (i:=i) Hj1.out hj2 (j:=j2) (.inr ⟨rfl,hj2n,hlt⟩))
     clear hlt hj2
     by_cases hlt2:tm l' j2<tm l' i
     ·have hd2:decide (tm l' j2<tm l' i)=true:=by simpa using hlt2
      have H2:=Lib.hid hlt2;clear hlt2
      go_wp2_with (first
       | (go_at_call 238;refine(Zdh _ _ _ _ _ _ (by first|exact hQ.row|exact hQ.row.drewN _) (by assumption) (by assumption) hn'').mono ?_;rintro e w' ⟨rfl,m,rfl⟩)
       | (go_at_call 241;refine(ZfY _ _ _ _ _ _ (by first|exact(hQ.row.drewN _).drewN _|exact hQ.row.drewN _) (by assumption) (by assumption) hn'').mono ?_;rintro e w' ⟨rfl,hr1,hb1⟩))
      go_roundw
      case rel=>exact ZiD Hnl.out Hll.out hp hu Hlast.out hQ hB U.out (by omega) H2.out hr1 hb1
      case measure=>simp[intOf];have:=U.out.2.2;omega
     ·have hd2:decide (tm l' j2<tm l' i)=false:=by simpa using hlt2
      have H2:=Lib.hid hlt2;clear hlt2
      go_wp2_with (first
       | (go_at_call 238;refine(Zdh _ _ _ _ _ _ (by first|exact hQ.row|exact hQ.row.drewN _) (by assumption) (by assumption) hn'').mono ?_;rintro e w' ⟨rfl,m,rfl⟩))
      go_ret
      exact⟨⟨_,rfl⟩,l',by first|exact hQ.drewN _|exact(hQ.drewN _).drewN _,hp,ZiE hu (by have:=H2.out;omega) U.out.1 U.out.2.1,Hlast.out,by first|exact hB.drewN _|exact(hB.drewN _).drewN _⟩
    ·have hd1:decide (tm l' j2<tm l' j1)=false:=by simpa using hlt
     have U:=Lib.hid (ZkM (l:=l') (n:=n) (i:=i) Hj1.out hj2 (j:=j1) (.inl ⟨rfl,fun _=>by omega⟩))
     clear hlt hj2
     by_cases hlt2:tm l' j1<tm l' i
     ·have hd2:decide (tm l' j1<tm l' i)=true:=by simpa using hlt2
      have H2:=Lib.hid hlt2;clear hlt2
      go_wp2_with (first
       | (go_at_call 238;refine(Zdh _ _ _ _ _ _ (by first|exact hQ.row|exact hQ.row.drewN _) (by assumption) (by assumption) hn'').mono ?_;rintro e w' ⟨rfl,m,rfl⟩)
       | (go_at_call 241;refine(ZfY _ _ _ _ _ _ (by first|exact(hQ.row.drewN _).drewN _|exact hQ.row.drewN _) (by assumption) (by assumption) hn'').mono ?_;rintro e w' ⟨rfl,hr1,hb1⟩))
      go_roundw
      case rel=>exact ZiD Hnl.out Hll.out hp hu Hlast.out hQ hB U.out (by omega) H2.out hr1 hb1
      case measure=>simp[intOf];have:=U.out.2.2;omega
     ·have hd2:decide (tm l' j1<tm l' i)=false:=by simpa using hlt2
      have H2:=Lib.hid hlt2;clear hlt2
      go_wp2_with (first
       | (go_at_call 238;refine(Zdh _ _ _ _ _ _ (by first|exact hQ.row|exact hQ.row.drewN _) (by assumption) (by assumption) hn'').mono ?_;rintro e w' ⟨rfl,m,rfl⟩))
      go_ret
      exact⟨⟨_,rfl⟩,l',by first|exact hQ.drewN _|exact(hQ.drewN _).drewN _,hp,ZiE hu (by have:=H2.out;omega) U.out.1 U.out.2.1,Hlast.out,by first|exact hB.drewN _|exact(hB.drewN _).drewN _⟩
   ·have hj2i:¬ ((j2:Int)<(n:Int)):=by omega
    have hj2d:decide ((j2:Int)<(n:Int))=false:=by simpa using hj2i
    have U:=Lib.hid (ZkM (l:=l') (n:=n) (i:=i) Hj1.out hj2 (j:=j1) (.inl ⟨rfl,fun _=>by omega⟩))
    clear hj2
    by_cases hlt2:tm l' j1<tm l' i
    ·have hd2:decide (tm l' j1<tm l' i)=true:=by simpa using hlt2
     have H2:=Lib.hid hlt2;clear hlt2
     go_wp2_with (first
      | (go_at_call 238;refine(Zdh _ _ _ _ _ _ (by first|exact hQ.row|exact hQ.row.drewN _) (by assumption) (by assumption) hn'').mono ?_;rintro e w' ⟨rfl,m,rfl⟩)
      | (go_at_call 241;refine(ZfY _ _ _ _ _ _ (by first|exact(hQ.row.drewN _).drewN _|exact hQ.row.drewN _) (by assumption) (by assumption) hn'').mono ?_;rintro e w' ⟨rfl,hr1,hb1⟩))
     go_roundw
     case rel=>exact ZiD Hnl.out Hll.out hp hu Hlast.out hQ hB U.out (by omega) H2.out hr1 hb1
     case measure=>simp[intOf];have:=U.out.2.2;omega
    ·have hd2:decide (tm l' j1<tm l' i)=false:=by simpa using hlt2
     have H2:=Lib.hid hlt2;clear hlt2
     go_wp2_with (first
      | (go_at_call 238;refine(Zdh _ _ _ _ _ _ (by first|exact hQ.row|exact hQ.row.drewN _) (by assumption) (by assumption) hn'').mono ?_;rintro e w' ⟨rfl,m,rfl⟩))
     go_ret
     exact⟨⟨_,rfl⟩,l',by first|exact hQ.drewN _|exact(hQ.drewN _).drewN _,hp,ZiE hu (by have:=H2.out;omega) U.out.1 U.out.2.1,Hlast.out,by first|exact hB.drewN _|exact(hB.drewN _).drewN _⟩
theorem ZiQ(v:Value)(w:World):(Instr.typeAssert (.iface 333 v) 20 333 true).run Tryz.prog w = .ok (.tuple #[v,.bool true]) w:=by kernel_rfl
theorem Zl1:(Tryz.prog.info? 333).map (fun i=>(i.zero,i.size,i.bytes))=some (some (.agg #[.int .i64 0,.int .i64 0]),2,16):=by kernel_rfl
theorem QRow.cut{w:World}{g cap n:Nat}{l:List Stop}(h:QRow w g cap l)(hn:n+1=l.length):QRow w g cap (l.take n):=by
 obtain⟨h1,h2⟩:=h
 have hl:(l.take n).length=n:=by simp;omega
 refine⟨by rw[ZnB],?_⟩
 rcases h2 with⟨h2,_⟩|⟨g',cap',cur,hv,hg,hh,hc,hm,hs,ht⟩
 ·cases h2
 ·simp only[Value.slice.injEq,Ya1,Addr.mk.injEq,and_true,true_and]at hv
  obtain⟨rfl,rfl⟩:=hv
  refine .inr ⟨g,cap,cur,rfl,hg,hh,by omega,hm,hs,?_⟩
  rw[hl,← ZsB,← ht,List.take_take,Nat.min_eq_left (by omega)]
theorem ZwH(q g cap:Nat)(l:List Stop)(n:Nat)(x:Stop)(w:World)(h:QAt w q g cap l)(hnl:n+1=l.length)(hx:l[n]? =some x)(hn:l.length≤2305843009213693951) :
 Calls Tryz.prog 239 #[.pointer (some ⟨q,0,none⟩)] w fun e w'=>e = .returned (.iface 333 (.agg #[I x.1,I x.2]))∧QAt w' q g cap (l.take n)∧But q w w':=by
 have hc:=h.cell
 have hcap:l.length≤cap:=by
  rcases h.row.2 with⟨h2,_⟩|⟨g',cap',cur,hv,hg,hh,hc,hm,hs,ht⟩
  ·cases h2
  ·simp only[Value.slice.injEq,Ya1,Addr.mk.injEq,and_true,true_and]at hv
   obtain⟨rfl,rfl⟩:=hv
   exact hc
 obtain⟨c0,c1⟩:=h.row.get hx
 have hq:q<w.heap.size:=(Ya5.1 h.head).1
 have hg:=h.row.lt
 have hf:w.frozen? ⟨q,0,none⟩=false:=frozen_of_row w q 0 _ _ h.head
 have hlen:(l.length:Int)=(n:Int)+1:=by omega
 have hne:=h.ne
 rw[← hnl]at hc hcap
 have hnb:n≤2305843009213693951:=by omega
 have Hx:=Lib.hid hx;clear hx
 have Hnl:=Lib.hid hnl;clear hnl hlen
 go_enter Tryz.func239,Tryz.ntmps239
 go_wp2
 go_ret
 have eq:(l.take n).length=n:=by have:=Hnl.out;simp;omega
 refine⟨rfl,⟨?_,hne,?_⟩,?_⟩
 ·rw[Below.heap_alloc _ _ _ (by simpa using hq),heap_setCell_same w q 0 _ _ _ h.head,eq]
  rfl
 ·have R:=h.row.cut Hnl.out
  refine QRow.of_block R ?_
  rw[Below.heap_alloc _ _ _ (by simpa using hg),Below.heap_setCell _ _ _ _ (Ne.symm hne)]
 ·exact But.alloc (a:=w) (w:=w.setCell ⟨q,0,none⟩ _) ⟨rfl,rfl,rfl,by simp,fun k hk hne=>Below.heap_setCell _ _ _ _ hne⟩ _
theorem cellQ(w:World)(o o':Obj){q:Nat}{v:Value}(hq:q<w.heap.size)(h:w.cell? ⟨q,0,none⟩=some v):((w.alloc o).alloc o').drew.cell? ⟨q,0,none⟩=some v:=by
 show((w.alloc o).alloc o').cell? _=_
 rw[World.cell?_alloc_lt _ _ _ (by simp;omega),World.cell?_alloc_lt _ _ _ hq]
 exact h
theorem ZxB(w:World)(o o':Obj){q:Nat}(hq:q<w.heap.size)(h:w.frozen? ⟨q,0,none⟩=false):((w.alloc o).alloc o').drew.frozen? ⟨q,0,none⟩=false:=by
 show((w.alloc o).alloc o').frozen? _=_
 rw[World.frozen?_alloc_old _ _ _ (by simp;omega),World.frozen?_alloc_old _ _ _ (by simp;omega)]
 exact h
theorem Znw(w:World)(o o':Obj):((w.alloc o).alloc o').heap[w.heap.size+1]? =some o':=by
 have:=heap_alloc_new (w.alloc o) o'
 simpa using this
def Zv8(w w':World)(q g:Nat)(l:List Stop)(x:Stop):Prop :=
 ∃ g' cap',QAt w' q g' cap' (l++[x])∧(g'=g∨w.heap.size≤g')∧w'.os=w.os∧w'.tape=w.tape∧w'.output=w.output∧w.heap.size≤w'.heap.size∧∀ k,k<w.heap.size→k≠q→k≠g→w'.heap[k]? =w.heap[k]?
theorem ZpQ{w w1:World}{o o':Obj}{q g cap gg cap':Nat}{l:List Stop}{x:Stop}(h:QAt w q g cap l)
 (hown1:w1.ownsRow 0 333 2 (.slice (some ⟨gg,0,none⟩) (l.length+1) cap') (l.length+1) (flat l++[I x.1,I x.2]))
 (hgrow:((w.alloc o).alloc o').drew.grownBy w1 (Value.slice (some ⟨g,0,none⟩) l.length cap).ownBlock)
 (hat:(Value.slice (some ⟨g,0,none⟩) l.length cap).ownBlock=some gg∨gg=w.heap.size+2) :
 Zv8 w (w1.setCell ⟨q,0,none⟩ (.slice (some ⟨gg,0,none⟩) (l.length+1) cap')) q g l x:=by
 have hq:q<w.heap.size:=(Ya5.1 h.head).1
 have hg:=h.row.lt
 have hne:=h.ne
 have hgg:gg=g∨gg=w.heap.size+2:=by
  rcases hat with hat|hat
  ·left;simpa[Value.ownBlock]using hat.symm
  ·exact .inr hat
 have hW:∀ k,k<w.heap.size→((w.alloc o).alloc o').drew.heap[k]? =w.heap[k]?:=fun k hk=>by
  show((w.alloc o).alloc o').heap[k]? =_
  rw[Below.heap_alloc _ _ _ (by simp;omega),Below.heap_alloc _ _ _ hk]
 have hb:∀ k,k<w.heap.size→k≠g→w1.heap[k]? =w.heap[k]?:=fun k hk hkg=>by
  rw[hgrow.block k (by simp;omega) (by simpa[Value.ownBlock]using hkg),hW k hk]
 have hqgg:q≠gg:=by omega
 refine⟨gg,cap',⟨?_,hqgg,?_⟩,by omega,hgrow.os,hgrow.tape,hgrow.output,?_,fun k hk hkq hkg=>?_⟩
 ·rw[heap_setCell_same w1 q 0 _ _ _ ((hb q hq hne).trans h.head)]
  simp
 ·unfold QRow
  rw[Zei,show flat [x]=[I x.1,I x.2]from rfl,Yb9,List.length_singleton]
  refine QRow.of_block (l:=l++[x]) (w:=w1) ?_ ?_ |> (fun h=>by simpa[QRow,Zei,flat]using h)
  ·simpa[QRow,Zei,flat]using hown1
  ·exact Below.heap_setCell _ _ _ _ (Ne.symm hqgg)
 ·have:=hgrow.size
  simp at this ⊢
  omega
 ·rw[Below.heap_setCell _ _ _ _ hkq,hb k hk hkg]
set_option maxRecDepth 100000 in
set_option maxHeartbeats 1000000 in
theorem Zt4(q g cap:Nat)(l:List Stop)(x:Stop)(w:World)(h:QAt w q g cap l)(hn:l.length≤1152921504606) :
 Calls Tryz.prog 240 #[.pointer (some ⟨q,0,none⟩),.iface 333 (.agg #[I x.1,I x.2])] w fun e w'=>e = .returned (.tuple #[])∧Zv8 w w' q g l x:=by
 have hc:=h.cell
 have hq:q<w.heap.size:=(Ya5.1 h.head).1
 have hg:=h.row.lt
 have hf:w.frozen? ⟨q,0,none⟩=false:=frozen_of_row w q 0 _ _ h.head
 obtain⟨i0,hi0,hz0,hz1,hz2⟩:=info_parts Zl1
 go_enter Tryz.func240,Tryz.ntmps240
 have hta:=ZiQ
 go_wp2
 go_region_law ((refine step_append_lies _ (by rfl) _ _ _ (by rfl) 0 333 i0 _ 2 16 Tryz.underlying335 hi0 hz0 hz1 hz2 rfl (by omega) _ l.length (flat l) (by rfl) ((World.ownsRow.alloc (World.ownsRow.alloc h.row _) _).drew) ⟨w.heap.size+1,0,none⟩ 1 1 [I x.1,I x.2] (by rfl) (by rfl) (World.news_of_block (cs:=#[I x.1,I x.2]) (t:=333) (fr:=(0,0)) (Znw w _ _)) (by simp[Value.oneCell']) (by omega) (by unfold maxLen;omega) (by omega) (by simp) (w.heap.size+2) (by simp) ?_;intro gg cap' w1 hown1 hgrow hat hlt;have kc:=(hgrow.cell_far ⟨q,0,none⟩ (by simp;omega) (by simpa[Value.ownBlock]using h.ne)).trans (cellQ w _ _ hq hc);have kf:=(hgrow.frozen_far ⟨q,0,none⟩ (by simp;omega) (by simpa[Value.ownBlock]using h.ne)).trans (ZxB w _ _ hq hf)))
 all_goals
  go_wp2
  go_end0
  exact⟨rfl,ZpQ h hown1 hgrow hat⟩
end Go.Proofs.YtblamlnjbjaokaaGreat.Rn
