/-
  Dictionaries of a linear system, plain: exchanges keep the solutions; the choice of row and column excludes that a variable leaves and enters.
-/
import Derived.Test.YtiincpioidnciaaGreatWLib
import Derived.Test.YtiincpioidnciaaGreatWT01
import Derived.Test.YtiincpioidnciaaGreatWT03
import Derived.Test.YtiincpioidnciaaGreatWT00
namespace Go.Proofs.YtiincpioidnciaaGreat
set_option linter.unusedVariables false
set_option linter.unusedSimpArgs false
set_option linter.unusedSectionVars false
open Go Go.RowKit
structure Dic where
 m:Nat
 n:Nat
 own:Nat→Nat
 free:Nat→Nat
 v:Nat→Rat
 a:Nat→Nat→Rat
 g:Nat→Rat
 z:Rat
theorem ZbZ(f:Nat→Rat){s:Nat}:∀ n,s<n→sumN n f=f s+sumN n (fun j=>if j=s then 0 else f j)
 | 0,h=>absurd h (Nat.not_lt_zero _)
 | n+1,h=>by
   simp only[sumN]
   by_cases e:n=s
   ·subst e
    rw[if_pos rfl,ZaX (f:=fun j=>if j=n then 0 else f j) (g:=f) n (fun i hi=>if_neg (by omega))];grind
   ·rw[if_neg e,ZbZ f (s:=s) n (by omega)];grind
theorem ZpP{f:Nat→Rat}{n s:Nat}(hs:s<n)(h0:0<f s)(h:∀ j,j<n→0≤f j):0<sumN n f:=by
 rw[ZbZ f n hs]
 have h2:sumN n (fun _=>0)≤sumN n (fun j=>if j=s then 0 else f j):=Zjw n fun j hj=>by
  split
  ·exact Rat.le_refl
  ·exact h j hj
 rw[Zbd]at h2;grind
theorem Zot{f:Nat→Rat}{n:Nat}(h:∀ j,j<n→0≤f j):0≤sumN n f:=by
 have h2:sumN n (fun _=>0)≤sumN n f:=Zjw n h
 rwa [Zbd]at h2
theorem ZpO(f g:Nat→Rat)(n:Nat):sumN n (fun i=>f i-g i)=sumN n f-sumN n g:=by
 have h:(fun i=>f i-g i)=fun i=>f i+(-1)*g i:=by funext i;grind
 rw[h,Ze4,Zdw];grind
namespace Dic
def up{α:Type}(f:Nat→α)(k:Nat)(x:α):Nat→α:=fun i=>if i=k then x else f i
def ex(d:Dic)(r s:Nat):Dic :=
 { d with
   own:=up d.own r (d.free s),free:=up d.free s (d.own r)
   v:=fun i=>if i=r then d.v r / d.a r s else d.v i-d.a i s*(d.v r / d.a r s)
   a:=fun i j=>if i=r then(if j=s then 1 / d.a r s else d.a r j / d.a r s)else if j=s then 0-d.a i s*(1 / d.a r s)else d.a i j-d.a i s*(d.a r j / d.a r s)
   g:=fun j=>if j=s then 0-d.g s*(1 / d.a r s)else d.g j-d.g s*(d.a r j / d.a r s)
   z:=d.z+d.g s*(d.v r / d.a r s)}
def Row(d:Dic)(k:Rat)(x:Nat→Rat)(i:Nat):Prop:=x (d.own i)=d.v i*k-sumN d.n fun j=>d.a i j*x (d.free j)
def Sol(d:Dic)(k:Rat)(x:Nat→Rat):Prop:=∀ i,i<d.m→d.Row k x i
def obj(d:Dic)(k:Rat)(x:Nat→Rat):Rat:=d.z*k+sumN d.n fun j=>d.g j*x (d.free j)
structure Part (d:Dic):Prop where
 own_lt:∀ i,i<d.m→d.own i<d.n+d.m
 free_lt:∀ j,j<d.n→d.free j<d.n+d.m
 own_inj:∀ i i',i<d.m→i'<d.m→d.own i=d.own i'→i=i'
 free_inj:∀ j j',j<d.n→j'<d.n→d.free j=d.free j'→j=j'
 apart:∀ i j,i<d.m→j<d.n→d.own i≠d.free j
 all:∀ q,q<d.n+d.m→(∃ i,i<d.m∧d.own i=q)∨∃ j,j<d.n∧d.free j=q
theorem ex_part{d:Dic}(h:Part d){r s:Nat}(hr:r<d.m)(hs:s<d.n):Part (d.ex r s):=by
 refine⟨fun i hi=>?_,fun j hj=>?_,fun i i' hi hi' e=>?_,fun j j' hj hj' e=>?_,fun i j hi hj e=>?_,fun q hq=>?_⟩
 ·simp only[ex,up]at *
  split
  ·exact h.free_lt s hs
  ·exact h.own_lt i hi
 ·simp only[ex,up]at *
  split
  ·exact h.own_lt r hr
  ·exact h.free_lt j hj
 ·simp only[ex,up]at *
  split at e<;>split at e
  ·omega
  ·exact absurd e.symm (h.apart _ _ hi' hs)
  ·exact absurd e (h.apart _ _ hi hs)
  ·exact h.own_inj _ _ hi hi' e
 ·simp only[ex,up]at *
  split at e<;>split at e
  ·omega
  ·exact absurd e (h.apart _ _ hr hj')
  ·exact absurd e.symm (h.apart _ _ hr hj)
  ·exact h.free_inj _ _ hj hj' e
 ·simp only[ex,up]at *
  split at e<;>split at e
  ·exact h.apart _ _ hr hs e.symm
  ·rename_i h1 h2;exact h2 (h.free_inj _ _ hj hs e.symm)
  ·rename_i h1 h2;exact h1 (h.own_inj _ _ hi hr e)
  ·exact h.apart _ _ hi hj e
 ·simp only[ex,up]at *
  rcases h.all q hq with⟨i,hi,e⟩|⟨j,hj,e⟩
  ·by_cases hir:i=r
   ·subst hir;exact .inr ⟨s,hs,by rw[if_pos rfl];exact e⟩
   ·exact .inl ⟨i,hi,by rw[if_neg hir];exact e⟩
  ·by_cases hjs:j=s
   ·subst hjs;exact .inl ⟨r,hr,by rw[if_pos rfl];exact e⟩
   ·exact .inr ⟨j,hj,by rw[if_neg hjs];exact e⟩
theorem ZqQ{d:Dic}{r s:Nat}(hs:s<d.n)(hp:d.a r s≠0)(k:Rat)(x:Nat→Rat):(d.ex r s).Row k x r↔d.Row k x r:=by
 unfold Row
 rw[ZbZ _ (d.ex r s).n (s:=s) hs,ZbZ _ d.n hs]
 have e:sumN (d.ex r s).n (fun j=>if j=s then 0 else(d.ex r s).a r j*x ((d.ex r s).free j))=(1 / d.a r s)*sumN d.n (fun j=>if j=s then 0 else d.a r j*x (d.free j)):=by
  rw[← Zdw]
  refine ZaX _ fun j _=>?_
  by_cases h:j=s
  ·rw[if_pos h,if_pos h];grind
  ·rw[if_neg h,if_neg h];simp only[ex,up,if_neg h,if_pos];grind
 rw[e]
 simp only[ex,up,if_pos]
 have h1:d.a r s*(1 / d.a r s)=1:=by grind
 grind
theorem Zyg{d:Dic}{r s i:Nat}(hs:s<d.n)(hp:d.a r s≠0)(hi:i≠r){k:Rat}{x:Nat→Rat}(hx:d.Row k x r):(d.ex r s).Row k x i↔d.Row k x i:=by
 unfold Row at hx ⊢
 rw[ZbZ _ d.n hs]at hx
 rw[ZbZ _ (d.ex r s).n (s:=s) hs,ZbZ _ d.n hs]
 have e:sumN (d.ex r s).n (fun j=>if j=s then 0 else(d.ex r s).a i j*x ((d.ex r s).free j))=sumN d.n (fun j=>if j=s then 0 else d.a i j*x (d.free j))-d.a i s*(1 / d.a r s)*sumN d.n (fun j=>if j=s then 0 else d.a r j*x (d.free j)):=by
  rw[← Zdw,← ZpO]
  refine ZaX _ fun j _=>?_
  by_cases h:j=s
  ·rw[if_pos h,if_pos h,if_pos h];grind
  ·rw[if_neg h,if_neg h,if_neg h];simp only[ex,up,if_neg h,if_neg hi];grind
 rw[e]
 simp only[ex,up,if_pos,if_neg hi]
 have h1:d.a r s*(1 / d.a r s)=1:=by grind
 grind
theorem ZBA{d:Dic}{r s:Nat}(hr:r<d.m)(hs:s<d.n)(hp:d.a r s≠0)(k:Rat)(x:Nat→Rat):(d.ex r s).Sol k x↔d.Sol k x:=by
 constructor
 ·intro h i hi
  have h0:=(ZqQ hs hp k x).1 (h r hr)
  by_cases e:i=r
  ·subst e;exact h0
  ·exact(Zyg hs hp e h0).1 (h i hi)
 ·intro h i hi
  have h0:=h r hr
  by_cases e:i=r
  ·subst e;exact(ZqQ hs hp k x).2 h0
  ·exact(Zyg hs hp e h0).2 (h i hi)
theorem ZBC{d:Dic}{r s:Nat}(hs:s<d.n)(hp:d.a r s≠0){k:Rat}{x:Nat→Rat}(hx:d.Row k x r):(d.ex r s).obj k x=d.obj k x:=by
 unfold Row at hx
 unfold obj
 rw[ZbZ _ d.n hs]at hx
 rw[ZbZ _ (d.ex r s).n (s:=s) hs,ZbZ _ d.n hs]
 have e:sumN (d.ex r s).n (fun j=>if j=s then 0 else(d.ex r s).g j*x ((d.ex r s).free j))=sumN d.n (fun j=>if j=s then 0 else d.g j*x (d.free j))-d.g s*(1 / d.a r s)*sumN d.n (fun j=>if j=s then 0 else d.a r j*x (d.free j)):=by
  rw[← Zdw,← ZpO]
  refine ZaX _ fun j _=>?_
  by_cases h:j=s
  ·rw[if_pos h,if_pos h,if_pos h];grind
  ·rw[if_neg h,if_neg h,if_neg h];simp only[ex,up,if_neg h];grind
 rw[e]
 simp only[ex,up,if_pos]
 have h1:d.a r s*(1 / d.a r s)=1:=by grind
 grind
open Classical in
noncomputable def ZrW (n:Nat) (f:Nat→Nat) (q:Nat):Option Nat:=if h:∃ i,i<n∧f i=q then some (Classical.choose h)else none
theorem ZkW{n:Nat}{f:Nat→Nat}(hf:∀ i i',i<n→i'<n→f i=f i'→i=i'){i:Nat}(hi:i<n):ZrW n f (f i)=some i:=by
 have h:∃ i',i'<n∧f i'=f i:=⟨i,hi,rfl⟩
 unfold ZrW
 rw[dif_pos h]
 have:=Classical.choose_spec h
 exact congrArg some (hf _ _ this.1 hi this.2)
theorem ZrV{n:Nat}{f:Nat→Nat}{q:Nat}(h:∀ i,i<n→f i≠q):ZrW n f q=none:=by
 unfold ZrW
 rw[dif_neg]
 rintro⟨i,hi,e⟩;exact h i hi e
noncomputable def val (d:Dic) (k:Rat) (c:Nat→Rat) (q:Nat):Rat :=
 match ZrW d.m d.own q with
 | some i=>d.v i*k-sumN d.n fun j=>d.a i j*c j
 | none=>match ZrW d.n d.free q with
   | some j=>c j
   | none=>0
section
variable {d:Dic} {k:Rat} {c:Nat→Rat}
theorem val_own(h:Part d){i:Nat}(hi:i<d.m):d.val k c (d.own i)=d.v i*k-sumN d.n fun j=>d.a i j*c j:=by
 unfold val;rw[ZkW h.own_inj hi]
theorem val_free(h:Part d){j:Nat}(hj:j<d.n):d.val k c (d.free j)=c j:=by
 unfold val;rw[ZrV (fun i hi=>h.apart i j hi hj),ZkW h.free_inj hj]
theorem val_sol(h:Part d):d.Sol k (d.val k c):=by
 intro i hi
 unfold Row
 rw[val_own h hi]
 congr 1
 exact ZaX _ fun j hj=>by rw[val_free h hj]
theorem val_obj(h:Part d):d.obj k (d.val k c)=d.z*k+sumN d.n fun j=>d.g j*c j:=by
 unfold obj
 congr 1
 exact ZaX _ fun j hj=>by rw[val_free h hj]
end
noncomputable def base (d:Dic):Nat→Rat:=d.val 1 fun _=>0
noncomputable def dir (d:Dic) (s:Nat):Nat→Rat:=d.val 0 fun j=>if j=s then 1 else 0
section
variable {d:Dic}
theorem base_own(h:Part d){i:Nat}(hi:i<d.m):d.base (d.own i)=d.v i:=by
 unfold base
 rw[val_own h hi,show(fun j=>d.a i j*(0:Rat))=fun _=>0 by funext j;grind,Zbd];grind
theorem base_free(h:Part d){j:Nat}(hj:j<d.n):d.base (d.free j)=0:=val_free h hj
theorem sumN_at(f:Nat→Rat){n s:Nat}(hs:s<n):sumN n (fun j=>f j*if j=s then 1 else 0)=f s:=by
 have e:(fun j=>f j*if j=s then(1:Rat)else 0)=fun j=>if j=s then f s else 0:=by
  funext j
  by_cases h:j=s
  ·subst h;rw[if_pos rfl,if_pos rfl];grind
  ·rw[if_neg h,if_neg h];grind
 rw[e,Zf2,if_pos hs]
theorem dir_own(h:Part d){i s:Nat}(hi:i<d.m)(hs:s<d.n):d.dir s (d.own i) = - d.a i s:=by
 unfold dir
 rw[val_own h hi,sumN_at _ hs];grind
theorem dir_free(h:Part d){j s:Nat}(hj:j<d.n):d.dir s (d.free j)=if j=s then 1 else 0:=val_free h hj
theorem base_obj(h:Part d):d.obj 1 d.base=d.z:=by
 unfold base
 rw[val_obj h,show(fun j=>d.g j*(0:Rat))=fun _=>0 by funext j;grind,Zbd];grind
theorem dir_obj(h:Part d){s:Nat}(hs:s<d.n):d.obj 0 (d.dir s)=d.g s:=by
 unfold dir
 rw[val_obj h,sumN_at _ hs];grind
end
structure Same (d e:Dic):Prop where
 m:d.m=e.m
 n:d.n=e.n
 sol:∀ k x,d.Sol k x↔e.Sol k x
 obj:∀ k x,d.Sol k x→d.obj k x=e.obj k x
theorem Same.refl(d:Dic):Same d d:=⟨rfl,rfl,fun _ _=>Iff.rfl,fun _ _ _=>rfl⟩
theorem Same.symm{d e:Dic}(h:Same d e):Same e d:=⟨h.m.symm,h.n.symm,fun k x=>(h.sol k x).symm,fun k x hx=>(h.obj k x ((h.sol k x).2 hx)).symm⟩
theorem Same.trans{d e f:Dic}(h:Same d e)(h':Same e f):Same d f:=⟨h.m.trans h'.m,h.n.trans h'.n,fun k x=>(h.sol k x).trans (h'.sol k x),fun k x hx=>(h.obj k x hx).trans (h'.obj k x ((h.sol k x).1 hx))⟩
theorem ex_same{d:Dic}{r s:Nat}(hr:r<d.m)(hs:s<d.n)(hp:d.a r s≠0):Same d (d.ex r s) :=
 ⟨rfl,rfl,fun k x=>(ZBA hr hs hp k x).symm,fun _ _ hx=>(ZBC hs hp (hx r hr)).symm⟩
theorem ex_ex{d:Dic}{r s:Nat}(hp:d.a r s≠0):(d.ex r s).ex r s=d:=by
 have hp':(1 / d.a r s)≠0:=by grind
 cases d with
 | mk m n own free v a g z =>
 simp only at hp hp'
 simp only[ex,up,if_pos,Dic.mk.injEq,true_and]
 refine⟨?_,?_,?_,?_,?_,?_⟩
 ·funext i;by_cases h:i=r
  ·subst h;simp only[up,if_pos]
  ·simp only[up,if_neg h]
 ·funext i;by_cases h:i=s
  ·subst h;simp only[up,if_pos]
  ·simp only[up,if_neg h]
 ·funext i;by_cases h:i=r
  ·subst h;rw[if_pos rfl];grind
  ·rw[if_neg h,if_neg h,if_neg h];grind
 ·funext i j
  by_cases h:i=r<;>by_cases h2:j=s
  ·subst h;subst h2;simp only[if_pos];grind
  ·subst h;simp only[if_pos,if_neg h2];grind
  ·subst h2;simp only[if_pos,if_neg h];grind
  ·simp only[if_neg h,if_neg h2];grind
 ·funext j
  by_cases h2:j=s
  ·subst h2;simp only[if_pos];grind
  ·simp only[if_neg h2];grind
 ·grind
structure ZAa (d:Dic) (r s:Nat):Prop where
 hr:r<d.m
 hs:s<d.n
 v:d.v r<0
 first:∀ i,i<d.m→d.v i<0→d.own r≤d.own i
 goal:∀ j,j<d.n→0<d.g j→d.own r<d.free j
 a:d.a r s<0
 least:∀ j,j<d.n→d.a r j<0→d.free s≤d.free j
structure ZAe (d:Dic) (r s:Nat):Prop where
 hr:r<d.m
 hs:s<d.n
 g:0<d.g s
 first:∀ j,j<d.n→0<d.g j→d.free s≤d.free j
 rows:∀ i,i<d.m→d.v i<0→d.free s<d.own i
 a:0<d.a r s
 least:∀ i,i<d.m→0<d.a i s→d.own r≤d.own i
def Step(d:Dic)(r s:Nat):Prop:=ZAa d r s∨ZAe d r s
theorem Step.hr{d:Dic}{r s:Nat}(h:Step d r s):r<d.m:=h.elim (·.hr) (·.hr)
theorem Step.hs{d:Dic}{r s:Nat}(h:Step d r s):s<d.n:=h.elim (·.hs) (·.hs)
theorem Step.ne{d:Dic}{r s:Nat}(h:Step d r s):d.a r s≠0:=by
 rcases h with h|h
 ·have:=h.a;grind
 ·have:=h.a;grind
theorem Zzy{d:Dic}(hP:Part d){r s q:Nat}(h:Step d r s)(hq:d.own r=q)(hl:d.free s<q) :
 ∃ k y,d.Sol k y∧y q<0∧(∀ p,p<q→p<d.n+d.m→0≤y p)∧(∀ j,j<d.n→q<d.free j→y (d.free j)=0) ∧
  ((k=1∧d.obj k y=d.z∧∀ j,j<d.n→d.free j<q→d.g j≤0)∨(k=0∧0<d.obj k y)):=by
 rcases h with h|h
 ·refine⟨1,d.base,val_sol hP,by rw[← hq,base_own hP h.hr];exact h.v,fun p hp hpn=>?_,fun j hj _=>base_free hP hj,.inl ⟨rfl,base_obj hP,fun j hj hjq=>?_⟩⟩
  ·rcases hP.all p hpn with⟨i,hi,e⟩|⟨j,hj,e⟩
   ·rw[← e,base_own hP hi]
    have:=h.first i hi
    by_cases hv:d.v i<0
    ·have:=this hv;omega
    ·grind
   ·rw[← e,base_free hP hj];exact Rat.le_refl
  ·by_cases hg:0<d.g j
   ·have:=h.goal j hj hg;omega
   ·grind
 ·refine⟨0,d.dir s,val_sol hP,by rw[← hq,dir_own hP h.hr h.hs];have:=h.a;grind,fun p hp hpn=>?_,fun j hj hjq=>by rw[dir_free hP hj,if_neg (fun e=>by subst e;omega)],.inr ⟨rfl,by rw[dir_obj hP h.hs];exact h.g⟩⟩
  rcases hP.all p hpn with⟨i,hi,e⟩|⟨j,hj,e⟩
  ·rw[← e,dir_own hP hi h.hs]
   have:=h.least i hi
   by_cases hv:0<d.a i s
   ·have:=this hv;omega
   ·grind
  ·rw[← e,dir_free hP hj]
   split
   ·grind
   ·exact Rat.le_refl
theorem Zx6{a b:Rat}(ha:a≤0)(hb:0≤b):a*b≤0:=by
 have:=Rat.mul_nonneg (a:= -a) (b:=b) (by grind) hb
 grind
theorem ZjX{a b:Rat}(ha:a<0)(hb:b<0):0<a*b:=by
 have:=Rat.mul_pos (a:= -a) (b:= -b) (by grind) (by grind)
 grind
theorem ZjW{a b:Rat}(ha:0<a)(hb:b<0):a*b<0:=by
 have:=Rat.mul_pos (a:=a) (b:= -b) ha (by grind)
 grind
theorem ZvU{f:Nat→Rat}{n s:Nat}(hs:s<n)(h0:f s<0)(h:∀ j,j<n→f j≤0):sumN n f<0:=by
 have h1:=ZpP (f:=fun j=> -f j) hs (by grind) (fun j hj=>by have:=h j hj;grind)
 have e:(fun j=> -f j)=fun j=>(-1)*f j:=by funext j;grind
 rw[e,Zdw]at h1;grind
theorem sumN_nonpos{f:Nat→Rat}{n:Nat}(h:∀ j,j<n→f j≤0):sumN n f≤0:=by
 have h2:sumN n f≤sumN n (fun _=>0):=Zjw n h
 rwa [Zbd]at h2
theorem ZuM{d e:Dic}(hd:Part d)(he:Part e)(hde:Same d e){r s r' s' q:Nat}(h:Step d r s)(hq:d.own r=q)(hl:d.free s<q)(h':Step e r' s')(hq':e.free s'=q)(hl':e.own r'<q)
 (hst:∀ j,j<e.n→q<e.free j→∃ j',j'<d.n∧d.free j'=e.free j) (hst':∀ j,j<d.n→q<d.free j→∃ j',j'<e.n∧e.free j'=d.free j):False:=by
 obtain⟨k,y,hy,hyq,hlow,hhigh,hk⟩:=Zzy hd h hq hl
 have hye:=(hde.sol k y).1 hy
 have hsz:e.n+e.m=d.n+d.m:=by rw[hde.m,hde.n]
 have hz:∀ j,j<e.n→q<e.free j→y (e.free j)=0:=fun j hj hjq=>by
  obtain⟨j',hj',e'⟩:=hst j hj hjq
  rw[← e'];exact hhigh j' hj' (by omega)
 have hlow':∀ j,j<e.n→e.free j<q→0≤y (e.free j):=fun j hj hjq=>hlow _ hjq (by have:=he.free_lt j hj;omega)
 rcases h' with h'|h'
 ·have hrow:=hye r' h'.hr
  unfold Row at hrow
  have h1:=hlow _ hl' (by have:=he.own_lt r' h'.hr;omega)
  have h2:0<sumN e.n fun j=>e.a r' j*y (e.free j):=by
   refine ZpP h'.hs (by rw[hq'];exact ZjX h'.a hyq) fun j hj=>?_
   rcases Nat.lt_trichotomy (e.free j) q with hjq|hjq|hjq
   ·refine Rat.mul_nonneg ?_ (hlow' j hj hjq)
    by_cases ha:e.a r' j<0
    ·have:=h'.least j hj ha;omega
    ·grind
   ·obtain rfl:=he.free_inj _ _ hj h'.hs (by omega)
    rw[hq'];exact Rat.le_of_lt (ZjX h'.a hyq)
   ·rw[hz j hj hjq];grind
  have h3:e.v r'*k≤0:=by
   have:=h'.v
   rcases hk with⟨rfl,_⟩|⟨rfl,_⟩<;>grind
  grind
 ·have hob:=hde.obj k y hy
  have h2:sumN e.n (fun j=>e.g j*y (e.free j))<0:=by
   refine ZvU h'.hs (by rw[hq'];exact ZjW h'.g hyq) fun j hj=>?_
   rcases Nat.lt_trichotomy (e.free j) q with hjq|hjq|hjq
   ·refine Zx6 ?_ (hlow' j hj hjq)
    by_cases ha:0<e.g j
    ·have:=h'.first j hj ha;omega
    ·grind
   ·obtain rfl:=he.free_inj _ _ hj h'.hs (by omega)
    rw[hq'];exact Rat.le_of_lt (ZjW h'.g hyq)
   ·rw[hz j hj hjq];grind
  have hoe:e.obj k y=e.z*k+sumN e.n (fun j=>e.g j*y (e.free j)):=rfl
  rcases hk with⟨rfl,hz1,hg⟩|⟨rfl,hz0⟩
  ·have hs':=val_sol (k:=1) (c:=fun _=>0) he
   have hb:=(hde.sol 1 e.base).2 hs'
   have hb1:=hde.obj 1 e.base hb
   rw[base_obj he]at hb1
   have hoe2:d.obj 1 e.base=d.z*1+sumN d.n (fun j=>d.g j*e.base (d.free j)):=rfl
   have h4:sumN d.n (fun j=>d.g j*e.base (d.free j))≤0:=sumN_nonpos fun j hj=>by
    rcases Nat.lt_trichotomy (d.free j) q with hjq|hjq|hjq
    ·refine Zx6 (hg j hj hjq) ?_
     rcases he.all (d.free j) (by have:=hd.free_lt j hj;omega)with⟨i,hi,e'⟩|⟨j',hj',e'⟩
     ·rw[← e',base_own he hi]
      by_cases hv:e.v i<0
      ·have:=h'.rows i hi hv;omega
      ·grind
     ·rw[← e',base_free he hj'];exact Rat.le_refl
    ·exact absurd (hq.trans hjq.symm) (hd.apart r j h.hr hj)
    ·obtain⟨j',hj',e'⟩:=hst' j hj hjq
     rw[← e',base_free he hj'];grind
   grind
  ·grind
end Dic
namespace Dic
theorem ZBB{d:Dic}(hP:Part d){r s:Nat}(hr:r<d.m)(hs:s<d.n)(p:Nat):(∃ i,i<(d.ex r s).m∧(d.ex r s).own i=p)↔p=d.free s∨((∃ i,i<d.m∧d.own i=p)∧p≠d.own r):=by
 simp only[ex,up]
 constructor
 ·rintro⟨i,hi,e⟩
  split at e
  ·exact .inl e.symm
  ·rename_i h
   exact .inr ⟨⟨i,hi,e⟩,fun h'=>h (hP.own_inj _ _ hi hr (e.trans h'))⟩
 ·rintro(rfl|⟨⟨i,hi,e⟩,h⟩)
  ·exact⟨r,hr,by rw[if_pos rfl]⟩
  ·exact⟨i,hi,by rw[if_neg (fun h'=>h (by rw[← e,h']))];exact e⟩
theorem Znx{p:Nat→Prop}(h:∃ n,p n):∃ n,p n∧∀ k,k<n→¬ p k:=by
 obtain⟨n,hn⟩:=h
 induction n using Nat.strongRecOn with
 | ind n ih =>
   by_cases hk:∃ k,k<n∧p k
   ·obtain⟨k,h1,h2⟩:=hk;exact ih k h1 h2
   ·exact⟨n,hn,fun k h1 h2=>hk ⟨k,h1,h2⟩⟩
structure Run (K:Nat) (D:Nat→Dic) (R S:Nat→Nat):Prop where
 part:Part (D 0)
 step:∀ k,k<K→Step (D k) (R k) (S k)
 next:∀ k,k<K→D (k+1)=(D k).ex (R k) (S k)
section
variable {K:Nat} {D:Nat→Dic} {R S:Nat→Nat}
theorem Run.parts(h:Run K D R S):∀ k,k≤K→Part (D k)
 | 0,_=>h.part
 | k+1,hk=>by
   rw[h.next k (by omega)]
   exact ex_part (h.parts k (by omega)) (h.step k (by omega)).hr (h.step k (by omega)).hs
theorem Run.same(h:Run K D R S){a:Nat}:∀ k,a+k≤K→Same (D a) (D (a+k))
 | 0,_=>Same.refl _
 | k+1,hk=>by
   have hs:=h.step (a+k) (by omega)
   have:=ex_same hs.hr hs.hs hs.ne
   rw[← h.next (a+k) (by omega)]at this
   exact(h.same k (by omega)).trans this
def ZkG(d:Dic)(p:Nat):Prop:=∃ i,i<d.m∧d.own i=p
theorem Run.flip(h:Run K D R S){k:Nat}(hk:k<K)(p:Nat):ZkG (D (k+1)) p↔p=(D k).free (S k)∨(ZkG (D k) p∧p≠(D k).own (R k)):=by
 unfold ZkG
 rw[h.next k hk]
 exact ZBB (h.parts k (by omega)) (h.step k hk).hr (h.step k hk).hs p
theorem Run.keep(h:Run K D R S){p a:Nat}:∀ k,a+k≤K→(∀ i,a≤i→i<a+k→(D i).own (R i)≠p∧(D i).free (S i)≠p)→(ZkG (D a) p↔ZkG (D (a+k)) p)
 | 0,_,_=>Iff.rfl
 | k+1,hk,hne=>by
   rw[h.keep k (by omega) fun i h1 h2=>hne i h1 (by omega),← Nat.add_assoc,h.flip (by omega)]
   obtain⟨h1,h2⟩:=hne (a+k) (by omega) (by omega)
   constructor
   ·intro h3;exact .inr ⟨h3,fun e=>h1 e.symm⟩
   ·rintro(e|h3)
    ·exact absurd e.symm h2
    ·exact h3.1
theorem ZjU{d:Dic}(h:Part d){p:Nat}(hp:p<d.n+d.m):¬ ZkG d p↔∃ j,j<d.n∧d.free j=p:=by
 constructor
 ·intro hn
  exact(h.all p hp).resolve_left hn
 ·rintro⟨j,hj,rfl⟩ ⟨i,hi,e⟩
  exact h.apart i j hi hj e
theorem Run.exclude(h:Run K D R S){q a b x y:Nat}(hab:b≤K)(hax:a≤x)(hxb:x<b)(hay:a≤y)(hyb:y<b)(hle:∀ k,a≤k→k<b→(D k).own (R k)≤q∧(D k).free (S k)≤q)
 (hx:(D x).own (R x)=q) (hy:(D y).free (S y)=q):False:=by
 have hPx:=h.parts x (by omega)
 have hPy:=h.parts y (by omega)
 have sx:=h.step x (by omega)
 have sy:=h.step y (by omega)
 have same:Same (D x) (D y):=by
  rcases Nat.le_total x y with hxy|hxy
  ·have:=h.same (a:=x) (y-x) (by omega);rwa [show x+(y-x)=y by omega]at this
  ·have:=h.same (a:=y) (x-y) (by omega);rw[show y+(x-y)=x by omega]at this;exact this.symm
 have stay:∀ p,q<p→(ZkG (D x) p↔ZkG (D y) p):=by
  intro p hp
  rcases Nat.le_total x y with hxy|hxy
  ·have:=h.keep (p:=p) (a:=x) (y-x) (by omega) fun i h1 h2=>by have:=hle i (by omega) (by omega);omega
   rwa [show x+(y-x)=y by omega]at this
  ·have:=h.keep (p:=p) (a:=y) (x-y) (by omega) fun i h1 h2=>by have:=hle i (by omega) (by omega);omega
   rw[show y+(x-y)=x by omega]at this;exact this.symm
 have hsz:(D x).n+(D x).m=(D y).n+(D y).m:=by rw[same.m,same.n]
 refine ZuM hPx hPy same sx hx ?_ sy hy ?_ ?_ ?_
 ·have h1:=(hle x hax hxb).2
  have h2:=hPx.apart (R x) (S x) sx.hr sx.hs
  omega
 ·have h1:=(hle y hay hyb).1
  have h2:=hPy.apart (R y) (S y) sy.hr sy.hs
  omega
 ·intro j hj hjq
  have hlt:=hPy.free_lt j hj
  refine(ZjU hPx (by omega)).1 ?_
  rw[stay _ hjq]
  exact(ZjU hPy hlt).2 ⟨j,hj,rfl⟩
 ·intro j hj hjq
  have hlt:=hPx.free_lt j hj
  refine(ZjU hPy (by omega)).1 ?_
  rw[← stay _ hjq]
  exact(ZjU hPx hlt).2 ⟨j,hj,rfl⟩
theorem Run.stretch(h:Run K D R S):∀ (q a b:Nat),a≤b→b≤K→(∀ k,a≤k→k<b→(D k).own (R k)<q∧(D k).free (S k)<q)→b-a<2^q
 | 0,a,b,hab,hb,hlt=>by
   rcases Nat.lt_or_ge a b with h1|h1
   ·have:=hlt a (by omega) h1;omega
   ·rw[Nat.pow_zero];omega
 | q+1,a,b,hab,hb,hlt=>by
   have hle:∀ k,a≤k→k<b→(D k).own (R k)≤q∧(D k).free (S k)≤q:=fun k h1 h2=>by have:=hlt k h1 h2;omega
   have h2q:2^(q+1)=2^q+2^q:=by rw[Nat.pow_succ];omega
   have hpos:0<2^q:=Nat.two_pow_pos q
   by_cases hev:∃ k,a≤k∧k<b∧((D k).own (R k)=q∨(D k).free (S k)=q)
   ·obtain⟨x,⟨hax,hxb,hx⟩,hfirst⟩:=Znx hev
    have l1:=h.stretch q a x hax (by omega) fun k h1 h2=>by
     have h3:=hle k h1 (by omega)
     have h4:¬((D k).own (R k)=q∨(D k).free (S k)=q):=fun h5=>hfirst k h2 ⟨h1,by omega,h5⟩
     omega
    by_cases hev2:∃ k,x+1≤k∧k<b∧((D k).own (R k)=q∨(D k).free (S k)=q)
    ·exfalso
     obtain⟨y,⟨hxy,hyb,hy⟩,hnext⟩:=Znx hev2
     have sx:=h.step x (by omega)
     have sy:=h.step y (by omega)
     have keep:=h.keep (p:=q) (a:=x+1) (y-(x+1)) (by omega) fun i h1 h2=>by
      have h4:¬((D i).own (R i)=q∨(D i).free (S i)=q):=fun h5=>hnext i (by omega) ⟨h1,by omega,h5⟩
      exact⟨fun e=>h4 (.inl e),fun e=>h4 (.inr e)⟩
     rw[show x+1+(y-(x+1))=y by omega,h.flip (by omega)]at keep
     rcases hx with hx|hx
     ·have hno:¬ ZkG (D y) q:=by
       rw[← keep]
       rintro(e|⟨_,e⟩)
       ·exact(h.parts x (by omega)).apart _ _ sx.hr sx.hs (hx.trans e)
       ·exact e hx.symm
      rcases hy with hy|hy
      ·exact hno ⟨R y,sy.hr,hy⟩
      ·exact h.exclude hb hax hxb (by omega) hyb hle hx hy
     ·have hyes:ZkG (D y) q:=keep.1 (.inl hx.symm)
      rcases hy with hy|hy
      ·exact h.exclude hb (by omega) hyb hax hxb hle hy hx
      ·exact(ZjU (h.parts y (by omega)) (by have:=(h.parts y (by omega)).free_lt _ sy.hs;omega)).2 ⟨S y,sy.hs,hy⟩ hyes
    ·have l2:=h.stretch q (x+1) b (by omega) hb fun k h1 h2=>by
      have h3:=hle k (by omega) h2
      have h4:¬((D k).own (R k)=q∨(D k).free (S k)=q):=fun h5=>hev2 ⟨k,h1,h2,h5⟩
      omega
     omega
   ·have l1:=h.stretch q a b hab hb fun k h1 h2=>by
     have h3:=hle k h1 h2
     have h4:¬((D k).own (R k)=q∨(D k).free (S k)=q):=fun h5=>hev ⟨k,h1,h2,h5⟩
     omega
    omega
theorem Run.short(h:Run K D R S):K<2^((D 0).n+(D 0).m):=by
 have:=h.stretch ((D 0).n+(D 0).m) 0 K (by omega) (Ya4 _) fun k _ hk=>by
  have hP:=h.parts k (by omega)
  have hs:=h.same (a:=0) k (by omega)
  rw[Nat.zero_add]at hs
  have h1:=hP.own_lt _ (h.step k hk).hr
  have h2:=hP.free_lt _ (h.step k hk).hs
  rw[hs.m,hs.n]
  exact⟨h1,h2⟩
 omega
end
end Dic
namespace Dic
def cnt(p:Nat→Bool):Nat→Nat
 | 0=>0
 | m+1=>cnt p m+(if p m then 1 else 0)
theorem ZhK{p q:Nat→Bool}:∀ m,(∀ i,i<m→p i=q i)→cnt p m=cnt q m
 | 0,_=>rfl
 | m+1,h=>by simp only[cnt,ZhK m (fun i hi=>h i (by omega)),h m (by omega)]
theorem Zmq{p q:Nat→Bool}{r:Nat}(hp:p r=true)(hq:q r=false):∀ m,r<m→(∀ i,i<m→i≠r→q i=p i)→cnt q m+1=cnt p m
 | 0,h,_=>absurd h (Nat.not_lt_zero _)
 | m+1,h,he=>by
   simp only[cnt]
   by_cases e:m=r
   ·subst e
    rw[ZhK (p:=q) (q:=p) m (fun i hi=>he i (by omega) (by omega)),hp,hq]
    simp
   ·have:=Zmq hp hq m (by omega) (fun i hi=>he i (by omega))
    rw[he m (by omega) e];omega
theorem Zym(p:Nat→Bool):∀ m,cnt p m≤m
 | 0=>Ya4 _
 | m+1=>by have:=Zym p m;simp only[cnt];split<;>omega
theorem Zq4{p:Nat→Bool}:∀ m,cnt p m=0→∀ i,i<m→p i=false
 | 0,_,_,h=>absurd h (Nat.not_lt_zero _)
 | m+1,h,i,hi=>by
   simp only[cnt]at h
   by_cases e:i=m
   ·subst e;cases hp:p i
    ·rfl
    ·rw[hp]at h;simp at h
   ·exact Zq4 m (by omega) i (by omega)
theorem Zq5{p:Nat→Bool}:∀ m,0<cnt p m→∃ i,i<m∧p i=true
 | 0,h=>absurd h (Nat.not_lt_zero _)
 | m+1,h=>by
   cases hp:p m
   ·simp only[cnt,hp]at h
    obtain⟨i,hi,e⟩:=Zq5 m (by simpa using h)
    exact⟨i,by omega,e⟩
   ·exact⟨m,by omega,hp⟩
theorem Zu4{f:Nat→Nat}{m:Nat}(hf:∀ i i',i<m→i'<m→f i=f i'→i=i'):∀ n,cnt (fun i=>decide (f i<n)) m≤n
 | 0=>by
   rw[ZhK (q:=fun _=>false) m (fun i _=>by simp)]
   have:∀ k,cnt (fun _=>false) k=0:=fun k=>by induction k with
    | zero=>rfl
    | succ k ih=>simp only[cnt,ih];rfl
   rw[this];exact Ya4 _
 | n+1=>by
   have ih:=Zu4 hf n
   by_cases h:∃ i,i<m∧f i=n
   ·obtain⟨r,hr,e⟩:=h
    have:=Zmq (p:=fun i=>decide (f i<n+1)) (q:=fun i=>decide (f i<n)) (r:=r) (by simp[e]) (by simp[e]) m hr (fun i hi hne=>by
     have:f i≠n:=fun h'=>hne (hf _ _ hi hr (h'.trans e.symm))
     simp only[decide_eq_decide];omega)
    omega
   ·rw[ZhK (q:=fun i=>decide (f i<n)) m (fun i hi=>by
     have:f i≠n:=fun h'=>h ⟨i,hi,h'⟩
     simp only[decide_eq_decide];omega)]
    omega
structure SizeFn (sz:Rat→Nat):Prop where
 zero:sz 0≤1
 one:sz 1≤1
 sub:∀ a b,sz (a-b)≤sz a+sz b+1
 mul:∀ a b,sz (a*b)≤sz a+sz b
 div:∀ a b,b≠0→sz (a / b)≤sz a+sz b
structure Sized (sz:Rat→Nat) (d:Dic) (B:Nat):Prop where
 v:∀ i,i<d.m→sz (d.v i)≤B
 a:∀ i j,i<d.m→j<d.n→sz (d.a i j)≤B
 g:∀ j,j<d.n→sz (d.g j)≤B
theorem ex_sized{sz:Rat→Nat}(L:SizeFn sz){d:Dic}{r s B:Nat}(hr:r<d.m)(hs:s<d.n)(hp:d.a r s≠0)(h:Sized sz d B)(hB:1≤B):Sized sz (d.ex r s) (4*B+1):=by
 have hpb:=h.a r s hr hs
 have h1:=L.div 1 _ hp
 have l1:=L.one
 have l0:=L.zero
 refine⟨fun i hi=>?_,fun i j hi hj=>?_,fun j hj=>?_⟩
 ·simp only[ex]at *
  have hv:=L.div (d.v r) _ hp
  have hb:=h.v r hr
  split
  ·omega
  ·have e1:=L.sub (d.v i) (d.a i s*(d.v r / d.a r s))
   have e2:=L.mul (d.a i s) (d.v r / d.a r s)
   have e3:=h.v i hi
   have e4:=h.a i s hi hs
   omega
 ·simp only[ex]at *
  have hv:=L.div (d.a r j) _ hp
  have hb:=h.a r j hr hj
  split
  ·split<;>omega
  ·have e4:=h.a i s hi hs
   split
   ·have e1:=L.sub 0 (d.a i s*(1 / d.a r s))
    have e2:=L.mul (d.a i s) (1 / d.a r s)
    omega
   ·have e1:=L.sub (d.a i j) (d.a i s*(d.a r j / d.a r s))
    have e2:=L.mul (d.a i s) (d.a r j / d.a r s)
    have e3:=h.a i j hi hj
    omega
 ·simp only[ex]at *
  have hv:=L.div (d.a r j) _ hp
  have hb:=h.a r j hr hj
  have e4:=h.g s hs
  split
  ·have e1:=L.sub 0 (d.g s*(1 / d.a r s))
   have e2:=L.mul (d.g s) (1 / d.a r s)
   omega
  ·have e1:=L.sub (d.g j) (d.g s*(d.a r j / d.a r s))
   have e2:=L.mul (d.g s) (d.a r j / d.a r s)
   have e3:=h.g j hj
   omega
structure First (d:Dic):Prop where
 own:∀ i,i<d.m→d.own i=d.n+i
 free:∀ j,j<d.n→d.free j=j
theorem First.part{d:Dic}(h:First d):Part d:=by
 refine⟨fun i hi=>?_,fun j hj=>?_,fun i i' hi hi' e=>?_,fun j j' hj hj' e=>?_,fun i j hi hj e=>?_,fun q hq=>?_⟩
 ·rw[h.own i hi];omega
 ·rw[h.free j hj];omega
 ·rw[h.own i hi,h.own i' hi']at e;omega
 ·rw[h.free j hj,h.free j' hj']at e;omega
 ·rw[h.own i hi,h.free j hj]at e;omega
 ·rcases Nat.lt_or_ge q d.n with h1|h1
  ·exact .inr ⟨q,h1,h.free q h1⟩
  ·exact .inl ⟨q-d.n,by omega,by rw[h.own _ (by omega)];omega⟩
def grow(B:Nat):Nat→Nat
 | 0=>B
 | t+1=>4*grow B t+1
theorem grow_pos{B:Nat}(h:1≤B):∀ t,1≤grow B t
 | 0=>h
 | t+1=>by simp only[grow];omega
theorem ZsZ(f:Nat→Rat)(y:Nat→Rat)(n w:Nat)(hy:∀ q,q<n→y q=if q=w then 1 else 0):sumN n (fun q=>f q*y q)=if w<n then f w else 0:=by
 rw[ZaX (g:=fun q=>if q=w then f w else 0) n (fun q hq=>by
  rw[hy q hq]
  by_cases e:q=w
  ·subst e;rw[if_pos rfl,if_pos rfl];grind
  ·rw[if_neg e,if_neg e];grind),Zf2]
theorem Zpl{sz:Rat→Nat}(L:SizeFn sz){d0 d:Dic}(h0:First d0){B:Nat}(hB:1≤B)(hS:Sized sz d0 B)(hP:Part d)(hE:Same d0 d)(hown:∀ i,i<d.m→d.n≤d.own i):Sized sz d B:=by
 have hm:=hE.m
 have hn:=hE.n
 have l0:=L.zero
 have hfree:∀ q,q<d.n→∃ j,j<d.n∧d.free j=q:=fun q hq=>(hP.all q (by omega)).resolve_left (by rintro⟨i,hi,e⟩;have:=hown i hi;omega)
 have hat:∀ i,i<d.m→∃ i0,i0<d0.m∧d.own i=d0.own i0:=fun i hi=>by
  have h1:=hown i hi
  have h2:=hP.own_lt i hi
  exact⟨d.own i-d.n,by omega,by rw[h0.own _ (by omega)];omega⟩
 have hdir:∀ s,s<d.n→∀ q,q<d0.n→d.dir s (d0.free q)=if q=d.free s then 1 else 0:=by
  intro s hs q hq
  rw[h0.free q hq]
  obtain⟨j,hj,rfl⟩:=hfree q (by omega)
  rw[dir_free hP hj]
  by_cases e:j=s
  ·subst e;rw[if_pos rfl,if_pos rfl]
  ·rw[if_neg e,if_neg (fun h'=>e (hP.free_inj _ _ hj hs h'))]
 refine⟨fun i hi=>?_,fun i j hi hj=>?_,fun j hj=>?_⟩
 ·obtain⟨i0,hi0,e⟩:=hat i hi
  have h1:=(hE.sol 1 d.base).2 (val_sol hP) i0 hi0
  unfold Row at h1
  rw[← e,base_own hP hi,ZaX (g:=fun _=>0) d0.n (fun q hq=>by
   rw[h0.free q hq]
   obtain⟨j,hj,rfl⟩:=hfree q (by omega)
   rw[base_free hP hj];grind),Zbd]at h1
  rw[show d.v i=d0.v i0 by grind]
  exact hS.v i0 hi0
 ·obtain⟨i0,hi0,e⟩:=hat i hi
  have h1:=(hE.sol 0 (d.dir j)).2 (val_sol hP) i0 hi0
  unfold Row at h1
  rw[← e,dir_own hP hi hj,ZsZ (fun q=>d0.a i0 q) (fun q=>d.dir j (d0.free q)) d0.n (d.free j) (hdir j hj)]at h1
  by_cases hlt:d.free j<d0.n
  ·rw[if_pos hlt]at h1
   rw[show d.a i j=d0.a i0 (d.free j) by grind]
   exact hS.a i0 _ hi0 hlt
  ·rw[if_neg hlt]at h1
   rw[show d.a i j=0 by grind];omega
 ·have h1:=hE.obj 0 (d.dir j) ((hE.sol 0 (d.dir j)).2 (val_sol hP))
  rw[dir_obj hP hj]at h1
  unfold obj at h1
  rw[ZsZ (fun q=>d0.g q) (fun q=>d.dir j (d0.free q)) d0.n (d.free j) (hdir j hj)]at h1
  by_cases hlt:d.free j<d0.n
  ·rw[if_pos hlt]at h1
   rw[show d.g j=d0.g (d.free j) by grind]
   exact hS.g _ hlt
  ·rw[if_neg hlt]at h1
   rw[show d.g j=0 by grind];omega
theorem ZAH{sz:Rat→Nat}(L:SizeFn sz){d0:Dic}(h0:First d0){B:Nat}(hB:1≤B)(hS:Sized sz d0 B):∀ (t:Nat)(d:Dic),Part d→Same d0 d→cnt (fun i=>decide (d.own i<d.n)) d.m=t→Sized sz d (grow B t)
 | 0,d,hP,hE,hc=>Zpl L h0 hB hS hP hE fun i hi=>by have:=Zq4 _ hc i hi;simp at this;omega
 | t+1,d,hP,hE,hc=>by
   obtain⟨i,hi,hio⟩:=Zq5 (p:=fun i=>decide (d.own i<d.n)) d.m (by omega)
   simp only[decide_eq_true_eq]at hio
   have hn:=hE.n
   obtain⟨j,hj,hjn,hp⟩:∃ j,j<d.n∧d.n≤d.free j∧d.a i j≠0:=by
    refine Classical.byContradiction fun hno=>?_
    have hx:=(hE.sol 0 _).1 (val_sol (k:=0) (c:=fun q=>if q=d.own i then 1 else 0) h0.part) i hi
    unfold Row at hx
    have hv:∀ q,q<d.n→d0.val 0 (fun q=>if q=d.own i then 1 else 0) q=if q=d.own i then 1 else 0:=fun q hq=>by
     have:=val_free (k:=0) (c:=fun q=>if q=d.own i then 1 else 0) h0.part (j:=q) (by omega)
     rwa [h0.free q (by omega)]at this
    rw[hv _ hio,if_pos rfl,ZaX (g:=fun _=>0) d.n (fun j hj=>by
     by_cases h1:d.n≤d.free j
     ·have:d.a i j=0:=Classical.byContradiction fun h2=>hno ⟨j,hj,h1,h2⟩
      rw[this];grind
     ·rw[hv _ (by omega),if_neg (fun e=>hP.apart i j hi hj e.symm)];grind),Zbd]at hx
    grind
   have hP1:=ex_part hP hi hj
   have hE1:=hE.trans (ex_same hi hj hp)
   have hc1:cnt (fun k=>decide ((d.ex i j).own k<(d.ex i j).n)) (d.ex i j).m=t:=by
    have:=Zmq (p:=fun k=>decide (d.own k<d.n)) (q:=fun k=>decide ((d.ex i j).own k<(d.ex i j).n)) (r:=i) (by simpa using hio) (by simp[ex,up];omega) d.m hi (fun k _ hne=>by simp[ex,up,hne])
    have h2:(d.ex i j).m=d.m:=rfl
    rw[h2];omega
   have ih:=ZAH L h0 hB hS t (d.ex i j) hP1 hE1 hc1
   have hp1:(d.ex i j).a i j≠0:=by simp only[ex,if_pos];grind
   have:=ex_sized L (d:=d.ex i j) hi hj hp1 ih (grow_pos hB t)
   rw[ex_ex hp]at this
   exact this
theorem Zux{B:Nat}:∀ {t u:Nat},t≤u→grow B t≤grow B u:=by
 intro t u h
 induction u with
 | zero => obtain rfl : t = 0 := by omega
           exact Ya4 _
 | succ u ih =>
   by_cases e:t=u+1
   ·subst e;exact Ya4 _
   ·have:=ih (by omega);simp only[grow];omega
theorem Sized.mono{sz:Rat→Nat}{d:Dic}{B C:Nat}(h:Sized sz d B)(hBC:B≤C):Sized sz d C:=⟨fun i hi=>Yc7 (h.v i hi) hBC,fun i j hi hj=>Yc7 (h.a i j hi hj) hBC,fun j hj=>Yc7 (h.g j hj) hBC⟩
theorem small{sz:Rat→Nat}(L:SizeFn sz){d0 d:Dic}(h0:First d0){B:Nat}(hB:1≤B)(hS:Sized sz d0 B)(hP:Part d)(hE:Same d0 d){t:Nat}(ht:d.n≤t∨d.m≤t):Sized sz d (grow B t):=by
 refine(ZAH L h0 hB hS _ d hP hE rfl).mono (Zux ?_)
 have h1:=Zu4 hP.own_inj d.n
 have h2:=Zym (fun i=>decide (d.own i<d.n)) d.m
 omega
end Dic
set_option maxRecDepth 100000
set_option maxHeartbeats 16000000
section ifm
variable [Ifl]
def ZAN(ops:Array Oper)(tr:List (List Nat×List Nat)):Bool :=
 (List.range ops.size).all fun j=>(List.range j).all fun i=>(ZcN ops j).contains i||match tr[i]?,tr[j]? with
   | some x,some y=> !Zj1 x.2 y.1 && !Zj1 x.1 y.2
   | _,_=>true
theorem ZtB{ops:Array Oper}{tr:List (List Nat×List Nat)}(h:ZAN ops tr=true):ZgL ops tr=true:=by
 unfold ZAN at h
 unfold ZgL
 simp only[Ya6,Yd2]at h ⊢
 intro j hj i hi
 have:=h j hj i hi
 rw[Bool.or_eq_true]at this
 split
 ·rename_i x y hx hy
  rw[hx,hy]at this
  rw[Bool.or_eq_true]
  exact this.symm
 ·rfl
theorem Zuk{s:St}(l:List (Nat×D))(ht:∀ p∈l,s.t p.1=p.2):StLe s ⟨tabT l,s.m,s.nx,s.lo⟩:=by
 intro E B nn β a w hr
 refine⟨β,hr.mem,fun k hk=>?_,hr.width,hr.defers,hr.le,hr.sle,hr.lo⟩
 rcases Zf1 l k with h1|⟨d,h1,h2⟩
 ·simp only[h1];exact .junk _
 ·simp only[h2]
  have:=hr.tmp k hk
  rw[ht _ h1]at this
  exact this
def Cl(m:Mem)(nx:Nat):Prop:=∀ id b,m id=some b→id<nx∧Zb8 (fun i=>(m i).isSome) b
theorem ZaK.closed{E:Env}{β:Bet}{m:Mem}{nx:Nat}{w:World}(h:ZaK E β m nx w):Cl m nx:=by
 intro id b hb
 refine⟨h.lt id b hb,fun e he=>?_⟩
 cases hbt:β id with
 | none=>rw[h.non id b hb hbt]at he;cases he
 | some c =>
   obtain⟨_,cs,_,_,h4⟩:=h.row id b c hb hbt
   obtain⟨i,hi⟩:=List.getElem?_of_mem he
   have:∀ l:List D,(∀ d∈l,okD (fun i=>(m i).isSome) d=true)→okDs (fun i=>(m i).isSome) l=true:=by
    intro l
    induction l with
    | nil=>intro _;rfl
    | cons d l ih=>intro hl;simp only[okDs,Ya2];exact⟨hl d (by simp),ih fun x hx=>hl x (by simp[hx])⟩
   refine this e fun d hd=>?_
   obtain⟨j,hj⟩:=List.getElem?_of_mem hd
   obtain⟨u,_,h5⟩:=h4 i j d (Zak.2 ⟨e,hi,hj⟩)
   exact h5.names
theorem Zar.cl{P:Program}{f:FuncId}{ds:List D}{m:Mem}{nx:Nat}{K:D→Mem→Nat→Prop}(hb:ZeX P f)(h:Cl m nx→Zar P f ds m nx K):Zar P f ds m nx K :=
 ⟨hb,fun E β w vs hM hvs=>(h hM.closed).2 E β w vs hM hvs⟩
def ZqA{X:Type}(l:X→List (Nat×D))(lo:Nat)(Pre:X→Mem→Nat→Prop)(μ:X→Nat)(x:X)(s:St):Prop:=∃ y,Pre y s.m s.nx∧μ y<μ x∧s.lo=lo∧∀ p∈l y,s.t p.1=p.2
theorem ZcJ{P:Program}{n:Nat}{Q:Exit→St→Prop}{s:St}{c:Code}{X:Type}(l:X→List (Nat×D))(lo:Nat)(Pre:X→Mem→Nat→Prop)(μ:X→Nat)(x0:X)(h0:Pre x0 s.m s.nx)(hlo:s.lo=lo)(ht:∀ p∈l x0,s.t p.1=p.2)
 (h:∀ x m nx,Pre x m nx→AWP P n c (Zrl (ZqA l lo Pre μ x) Q) ⟨tabT (l x),m,nx,lo⟩):AWP P n (.loop c) Q s:=by
 subst hlo
 refine Zz7 (X:=X×Mem×Nat) (fun x=>⟨tabT (l x.1),x.2.1,x.2.2,s.lo⟩) (fun x=>Pre x.1 x.2.1 x.2.2) (fun x=>μ x.1) ⟨(x0,s.m,s.nx),h0,Zuk _ ht⟩ ?_
 rintro⟨x,m,nx⟩ hx
 intro E B β a w hr
 refine wp_mono (h x m nx hx E B β a w hr) ?_
 rintro e a' w' ⟨s',β',h1,h2⟩
 refine⟨s',β',h1,?_⟩
 cases e with
 | normal =>
   obtain⟨y,h3,h4,h5,h6⟩:=h2
   refine⟨(y,s'.m,s'.nx),h3,h4,?_⟩
   have:=Zuk (s:=s') (l y) h6
   rw[h5]at this
   exact this
 | _=>exact h2
theorem Zam{X:Type}{l:X→List (Nat×D)}{lo:Nat}{Pre:X→Mem→Nat→Prop}{μ:X→Nat}{x:X}{s:St}(y:X)(h1:Pre y s.m s.nx)(h2:μ y<μ x)(h3:s.lo=lo)(h4:∀ p∈l y,s.t p.1=p.2):ZqA l lo Pre μ x s:=⟨y,h1,h2,h3,h4⟩
end ifm
theorem useE{KE:List Ev→St→Prop}{A B:List Ev→Prop}{C:St→Prop}{tr:List Ev}{s:St}(h:∀ tr s',A tr→B tr→C s'→KE tr s')(a:A tr)(b:B tr)(c:C s):KE tr s:=h tr s a b c
theorem aGoM{F Y X:Prop}(f:F)(y:Y)(h:F→Keep Y→X:=by
 intro hf y
 repeat(first
  | (refine hI _ ?_;clear hI;clear KI)
  | (refine hK _ ?_;try clear hK;try clear K)
  | ((with_reducible apply useK);(with_reducible assumption))
  | (refine aSeq fun KI hI=>?_)
  | (refine Zee ?_)
  | (refine ZhQ ?_)
  | (refine ZhT ?_)
  | (refine aRet ?_)
  | (refine aOps _ rfl (by kernel_rfl) ?_)
  | (refine ZhR _ rfl mixed (by kernel_rfl) (by kernel_rfl) fun KE hE=>?_)
  | (refine hE _ _ (ZtB (by kernel_rfl)) (Zaz rfl) ?_;clear hE;clear KE)
  | ((with_reducible apply useE);(with_reducible assumption);exact ZtB (by kernel_rfl);exact Zaz rfl)
  | (refine Zec rfl ?hc ?_;case hc=>simp only[go_sem,↓reduceIte,beq_self_eq_true,bne_self_eq_false,hf])
  | (refine Zed rfl ?hc ?_;case hc=>simp only[go_sem,↓reduceIte,beq_self_eq_true,bne_self_eq_false,hf])
  | ((with_reducible apply ZbH);(first|with_reducible assumption|assumption))
  | ((with_reducible apply ZbY);(first|with_reducible assumption|assumption);rfl)
  | (simp only[go_sem,↓reduceIte,beq_self_eq_true,bne_self_eq_false,hf])
  | (refine And.intro ?ho ?_;(case ho=>omega))
  | (clear hI;clear KI))
 repeat(first|(revert hE;revert KE)|(revert hI;revert KI))
 first|done|exact y.out):X:=h f ⟨y⟩
theorem aGoS{F Y X:Prop}(f:F)(y:Y)(h:F→Keep Y→X:=by
 intro hf y
 repeat(first
  | (refine hI _ ?_;clear hI;clear KI)
  | (refine hK _ ?_;try clear hK;try clear K)
  | ((with_reducible apply useK);(with_reducible assumption))
  | (refine aSeq fun KI hI=>?_)
  | (refine Zee ?_)
  | (refine ZhQ ?_)
  | (refine ZhT ?_)
  | (refine aRet ?_)
  | (refine aOps _ rfl (by kernel_rfl) ?_)
  | (refine ZhR _ rfl mixed (by kernel_rfl) (by kernel_rfl) fun KE hE=>?_)
  | (refine Zec rfl ?hc ?_;case hc=>simp only[go_sem,↓reduceIte,beq_self_eq_true,bne_self_eq_false,hf])
  | (refine Zed rfl ?hc ?_;case hc=>simp only[go_sem,↓reduceIte,beq_self_eq_true,bne_self_eq_false,hf])
  | ((with_reducible apply ZbH);(first|with_reducible assumption|assumption))
  | ((with_reducible apply ZbY);(first|with_reducible assumption|assumption);rfl)
  | (simp only[go_sem,↓reduceIte,beq_self_eq_true,bne_self_eq_false,hf])
  | (refine And.intro ?ho ?_;(case ho=>omega))
  | (clear hI;clear KI))
 repeat(first|(revert hE;revert KE)|(revert hI;revert KI))
 first|done|exact y.out):X:=h f ⟨y⟩
abbrev fB(n:Nat)(c:Nat→Rat):Blk:=⟨35,1,4,ratL n c,0,false⟩
def Zgr(n s:Nat)(a b:Nat→Rat)(i:Nat):Nat→Rat:=fun j=>if j<i∧j≠s then a j-a s*b j else a j
theorem Zrn{n s:Nat}(a b:Nat→Rat):Zgr n s a b (s+1)=Zgr n s a b s:=by
 funext j;unfold Zgr
 by_cases h:j<s
 ·rw[if_pos ⟨by omega,by omega⟩,if_pos ⟨h,by omega⟩]
 ·rw[if_neg (by omega),if_neg (by omega)]
theorem Zrm{n s i:Nat}(a b:Nat→Rat)(h:i≠s):(ratL n (Zgr n s a b i)).set i (cF (ofQ (a i-a s*b i)))=ratL n (Zgr n s a b (i+1)):=by
 rw[Zdp]
 refine ZaO fun u _=>?_
 unfold Zgr
 by_cases e:u=i
 ·subst e;rw[if_pos rfl,if_pos ⟨by omega,h⟩]
 ·rw[if_neg e]
  by_cases h2:u<i∧u≠s
  ·rw[if_pos h2,if_pos ⟨by omega,h2.2⟩]
  ·rw[if_neg h2,if_neg (by omega)]
def Zkz(s:Nat)(a b:Nat→Rat):Nat→Rat:=fun j=>if j=s then 0-a s*b s else a j-a s*b j
theorem ZsU{n s:Nat}(a b:Nat→Rat):(ratL n (Zgr n s a b n)).set s (cF (ofQ (0-a s*b s)))=ratL n (Zkz s a b):=by
 rw[Zdp]
 refine ZaO fun u hu=>?_
 unfold Zgr Zkz
 by_cases e:u=s
 ·rw[if_pos e,if_pos e]
 ·rw[if_neg e,if_neg e,if_pos ⟨hu,e⟩]
theorem ZAA[Ifl](n s A R:Nat)(a b:Nat→Rat)(m:Mem)(nx:Nat)(hn:(n:Int)≤4096)(hs:s<n)(hAR:A≠R)(hA:m A=some (fB n a))(hR:m R=some (fB n b))
 (za:∀ j,j<n→(szQ (a j):Int)≤4294967296) (zb:∀ j,j<n→(szQ (b j):Int)≤4294967296) :
 Zar Tryz.prog 191 [.ls A 1,.ls R 1,dI s] m nx fun d m' nx'=>d=oneD []∧nx≤nx'∧m' A=some (fB n (Zkz s a b))∧∀ id,id<nx→id≠A→m' id=m id:=by
 refine Zar.cl ⟨_,_,Tryz.func191,rfl,by kernel_rfl⟩ fun hcl=>?_
 have Zr:=Tryz.results191
 have lA:=(hcl A _ hA).1
 have lR:=(hcl R _ hR).1
 refine inA Tryz.func191 rfl Tryz.ntmps191 ?_
 have hRA:=Ne.symm hAR
 have hs0:(0:Int)≤s:=by omega
 have g1:=Za1 a hs
 have g2:=Za1 b hs
 have nA:A≠nx:=by omega
 have nR:R≠nx:=by omega
 have la:=Zb7 n a
 refine aGoM (cj4 Zr hA hR (cj4 hAR hRA hs0 (cj4 g1 g2 la (cj2 nA nR)))) ?_
 repeat with_reducible intro K hK
 have q0:Zgr n s a b 0=a:=by funext j;unfold Zgr;rw[if_neg (by omega)]
 refine ZcJ (fun(i:Nat)=>[(0,.ls A 1),(1,.ls R 1),(2,dI s),(6,.lp nx 0 0 0),(13,dI n),(14,dI i)]) nx (fun i m1 nx1=>i≤n∧nx<nx1∧m1 A=some (fB n (Zgr n s a b i))∧m1 R=some (fB n b)∧m1 nx=some ⟨35,0,4,[cF (ofQ (a s))],0,false⟩∧∀ id,id<nx→id≠A→m1 id=m id) (fun i=>n-i) 0 ?_ ?_ ?_ ?_
 ·rw[q0]
  simp only[Zau,nA,nR,↓reduceIte]
  exact⟨Yb0 _,Nat.lt_succ_self _,hA,hR,trivial,fun id h1 h2=>by rw[if_neg (by omega),if_neg (by omega)]⟩
 ·rfl
 ·simp[go_sem]
 ·rintro i m1 nx1 ⟨hi,hnx,eA,eR,eF,hfr⟩
  obtain⟨hw,i0⟩:=ZaS i
  have nx1A:A≠nx1:=by omega
  have nx1R:R≠nx1:=by omega
  have nxnA:nx≠A:=by omega
  have nxnR:nx≠R:=by omega
  have nx1n:nx≠nx1:=by omega
  have la1:=Zb7 n (Zgr n s a b i)
  by_cases h1:(i:Int)<n
  ·have hin:i<n:=by omega
   have ga:=Za1 (Zgr n s a b i) hin
   have gb:=Za1 b hin
   have ei:Zgr n s a b i i=a i:=by unfold Zgr;rw[if_neg (by omega)]
   by_cases h2:i=s
   ·subst h2
    have h2b:((i:Int) !=i)=false:=by simp
    refine aGoM (cj4 Zr eA eR (cj4 eF hAR hRA (cj4 i0 h1 h2b (cj2 hw la1)))) ?_
    repeat with_reducible intro K hK
    refine Zam (i+1) ?_ (by omega) rfl (by simp[go_sem])
    rw[Zrn]
    exact⟨by omega,hnx,eA,eR,eF,hfr⟩
   ·have h2b:((i:Int) !=s)=true:=by simp;omega
    have k1:=ZoA (a i) (a s) (b i) (by have:=za i hin;omega) (by have:=za s hs;omega) (by have:=zb i hin;omega)
    have es:=Zrm (n:=n) a b h2
    refine aGoM (cj4 Zr eA eR (cj4 eF hAR hRA (cj4 i0 h1 h2b (cj4 hw la1 ga (cj4 gb ei nxnA (cj3 nxnR Yb0 es)))))) ?_
    repeat with_reducible intro K hK
    refine Zam (i+1) ?_ (by omega) rfl (by simp[go_sem])
    simp only[Zau,nxnA,hRA,↓reduceIte]
    exact⟨by omega,hnx,trivial,eR,eF,fun id h3 h4=>by rw[if_neg h4];exact hfr id h3 h4⟩
  ·obtain rfl:i=n:=by omega
   have ga:=Za1 (Zgr i s a b i) hs
   have k0:=nZ_c
   have zz:=Zef 0 (by decide) (by decide)
   rw[show((0:Int):Rat)=0 from rfl]at zz
   have k1:=ZoA 0 (a s) (b s) (by omega) (by have:=za s hs;omega) (by have:=zb s hs;omega)
   have es:=ZsU (n:=i) (s:=s) a b
   refine aGoM (cj4 Zr eA eR (cj4 eF hAR hRA (cj4 hs0 h1 g2 (cj4 hw la1 ga (cj3 nxnA nxnR (cj2 Yb0 es)))))) ?_
   exact fun id h3 h4=>by rw[if_neg h4];exact hfr id h3 h4
theorem Zjk[Ifl](n:Nat)(m:Mem)(nx:Nat)(hn:(n:Int)≤4096):Zar Tryz.prog 153 [dI n] m nx fun d m' nx'=>d = .ls nx 1∧nx<nx'∧m' nx=some (fB n fun _=>0)∧∀ id,id<nx→m' id=m id:=by
 have Zr:=Tryz.results153
 refine inA Tryz.func153 rfl Tryz.ntmps153 ?_
 have n0:(0:Int)≤n:=by omega
 have hrep:List.replicate n zc=Zgw n 0:=(ZnP n).symm
 have hl:=Zjc n 0
 have n1:24*(n:Int)≤140737488355328:=by omega
 have n2:(n:Int)≤9007199254740992:=by omega
 have n3:(n:Int)≤n:=by omega
 refine aGoM (cj4 Zr n0 hrep (cj4 hl n1 n2 (cj2 n3 trivial))) ?_
 repeat with_reducible intro K hK
 refine ZcJ (fun(i:Nat)=>[(3,.ls nx 1),(8,dI n),(9,dI i)]) nx (fun i m1 nx1=>i≤n∧nx<nx1∧m1 nx=some ⟨35,1,4,Zgw n i,0,false⟩∧∀ id,id<nx→m1 id=m id) (fun i=>n-i) 0 ?_ ?_ ?_ ?_
 ·simp only[Zau,↓reduceIte]
  exact⟨Yb0 _,Nat.lt_succ_self _,trivial,fun id h1=>by rw[if_neg (by omega)]⟩
 ·rfl
 ·simp[go_sem]
 ·rintro i m1 nx1 ⟨hi,hnx,eN,hfr⟩
  obtain⟨hw,i0⟩:=ZaS i
  have hl1:=Zjc n i
  have k0:=nZ_c
  by_cases h1:(i:Int)<n
  ·have hg:(Zgw n i)[i]? =some zc:=by unfold Zgw;rw[ZbA _ (by omega),if_neg (by omega)]
   have hset:=ZqO n i
   refine aGoM (cj4 Zr eN i0 (cj4 h1 hw hl1 (cj3 hg hset Yb0))) ?_
   repeat with_reducible intro K hK
   refine Zam (i+1) ?_ (by omega) rfl (by simp[go_sem])
   simp only[Zau,↓reduceIte]
   exact⟨by omega,hnx,trivial,fun id h3=>by rw[if_neg (by omega)];exact hfr id h3⟩
  ·obtain rfl:i=n:=by omega
   rw[ZqP]at eN
   refine aGoM (cj4 Zr eN h1 hw) ?_
   exact hfr
mutual
theorem Zi4{p q:Nat→Bool}(h:∀ i,p i=true→q i=true):∀ d:D,okD p d=true→okD q d=true
 | .v _,_=>rfl
 | .nil,_=>rfl
 | .agg l,ho=>by simp only[okD]at ho ⊢;exact ZdP h l ho
 | .tup l,ho=>by simp only[okD]at ho ⊢;exact ZdP h l ho
 | .sl _,_=>rfl
 | .cl _,_=>rfl
 | .ep _ _ _,_=>rfl
 | .ls id _,ho=>h id ho
 | .lp id _ _ _,ho=>h id ho
 | .clo _ l,ho=>by simp only[okD]at ho ⊢;exact ZdP h l ho
 | .junk,_=>rfl
theorem ZdP{p q:Nat→Bool}(h:∀ i,p i=true→q i=true):∀ l:List D,okDs p l=true→okDs q l=true
 | [],_=>rfl
 | d ::l,ho=>by
   simp only[okDs,Ya2]at ho ⊢
   exact⟨Zi4 h d ho.1,ZdP h l ho.2⟩
end
theorem Zr1{b:Blk}(hb:Zb8 (fun _=>false) b)(k:Nat→Bool):Zb8 k b:=fun e he=>ZdP (fun _ h=>by cases h) e (hb e he)
theorem Znk(n:Nat)(c:Nat→Rat):Zb8 (fun _=>false) (fB n c):=fun e he=>by
 obtain⟨v,_,rfl⟩:=Yc6.1 he;rfl
theorem Cl.upd{m:Mem}{nx id n':Nat}{blk:Blk}(h:Cl m nx)(hb:Zb8 (fun _=>false) blk)(hid:id<n')(hn:nx≤n'):Cl (upd m id (some blk)) n':=by
 intro i b hi
 by_cases e:i=id
 ·subst e;rw[Zac]at hi;cases hi;exact⟨hid,Zr1 hb _⟩
 ·rw[Zab _ _ e]at hi
  refine⟨by have:=(h i b hi).1;omega,fun x hx=>ZdP (fun j hj=>?_) x ((h i b hi).2 x hx)⟩
  by_cases e2:j=id
  ·subst e2;rw[Zac];rfl
  ·rw[Zab _ _ e2];exact hj
section
variable [Ifl] {P:Program} {f:FuncId} {ds:List D} {m:Mem} {nx:Nat}
theorem Cl.sub{m':Mem}{n':Nat}(h:Cl m n')(hs:∀ id b,m id=some b→m' id=some b):SubM m m' n':=⟨fun id b hb=>⟨hs id b hb,(h id b hb).1⟩,fun id b hb=>(h id b hb).2⟩
theorem Zar.made{ver:Nat}{blk:Blk}(hb:Zb8 (fun _=>false) blk)(h:Zar P f ds m nx fun d m' nx'=>d = .ls nx ver∧nx<nx'∧m' nx=some blk∧∀ id,id<nx→m' id=m id) :
 Zar P f ds m nx fun d m' nx'=>d = .ls nx ver∧m'=upd m nx (some blk)∧nx'=nx+1:=by
 refine Zar.cl h.1 fun hcl=>Zar.sub (h.mono ?_)
 rintro d m' nx' ⟨rfl,h1,h2,h3⟩
 refine⟨_,_,(hcl.upd hb (Nat.lt_succ_self nx) (Nat.le_succ nx)).sub fun id b hi=>?_,?_,fun id hi=>?_,rfl,rfl,rfl⟩
 ·by_cases e:id=nx
  ·subst e;rw[Zac]at hi;rw[h2];exact hi
  ·rw[Zab _ _ e]at hi;rw[h3 id (hcl id b hi).1];exact hi
 ·simp only[okD,Zac];rfl
 ·cases hm:m id with
  | none=>rw[hm]at hi;cases hi
  | some b =>
    have:=(hcl id b hm).1
    rw[Zab _ _ (by omega),h3 id this]
theorem Zar.kept{d0:D}{A:Nat}{b0 blk:Blk}(hA:m A=some b0)(hd:okD (fun _=>false) d0=true)(hb:Zb8 (fun _=>false) blk)(h:Zar P f ds m nx fun d m' nx'=>d=d0∧nx≤nx'∧m' A=some blk∧∀ id,id<nx→id≠A→m' id=m id) :
 Zar P f ds m nx fun d m' nx'=>d=d0∧m'=upd m A (some blk)∧nx'=nx:=by
 refine Zar.cl h.1 fun hcl=>Zar.sub (h.mono ?_)
 rintro d m' nx' ⟨rfl,h1,h2,h3⟩
 refine⟨_,_,(hcl.upd hb (hcl A b0 hA).1 (Ya4 nx)).sub fun id b hi=>?_,Zi4 (fun _ h=>by cases h) d hd,fun id hi=>?_,rfl,rfl,rfl⟩
 ·by_cases e:id=A
  ·subst e;rw[Zac]at hi;rw[h2];exact hi
  ·rw[Zab _ _ e]at hi;rw[h3 id (hcl id b hi).1 e];exact hi
 ·by_cases e:id=A
  ·subst e;rw[Zac,h2]
  ·cases hm:m id with
   | none=>rw[hm]at hi;cases hi
   | some b=>rw[Zab _ _ e,h3 id (hcl id b hm).1 e]
end
theorem ZsF[Ifl](n:Nat)(m:Mem)(nx:Nat)(hn:(n:Int)≤4096)(hm:m nx=none):EffC Tryz.prog 153 [dI n] m nx ⟨.ls nx 1,[nx],[(nx,fB n fun _=>0)],false⟩ (nx+1) :=
 EffC.made hm (Znk n _) fun m1 NX=>Zar.made (Znk n _) (Zjk n m1 NX hn)
theorem ZxN[Ifl](n s A R:Nat)(a b:Nat→Rat)(m:Mem)(nx:Nat)(hn:(n:Int)≤4096)(hs:s<n)(hAR:A≠R)(hA:m A=some (fB n a))(hR:m R=some (fB n b))(hl:A<nx)
 (za:∀ j,j<n→(szQ (a j):Int)≤4294967296) (zb:∀ j,j<n→(szQ (b j):Int)≤4294967296) :
 EffC Tryz.prog 191 [.ls A 1,.ls R 1,dI s] m nx ⟨oneD [],[A,R],[(A,fB n (Zkz s a b))],false⟩ nx :=
 EffC.of ⟨_,_,Tryz.func191,rfl,by kernel_rfl⟩ (fun p hp=>by simp only[List.mem_singleton]at hp;subst hp;exact⟨by simp,hl⟩) fun m1 NX hN ht =>
  Zar.kept ((ht A (by simp)).trans hA) rfl (Znk n _) (ZAA n s A R a b m1 NX hn hs hAR ((ht A (by simp)).trans hA) ((ht R (by simp)).trans hR) za zb)
def pick(f:Nat→Nat)(p:Nat→Bool):Nat→Option Nat
 | 0=>none
 | i+1=>if p i then(match pick f p i with
   | none=>some i
   | some a=>if f i<f a then some i else some a)else pick f p i
def oI:Option Nat→Int
 | none=> -1
 | some a=>a
theorem Zdi{f:Nat→Nat}{p:Nat→Bool}:∀ {k:Nat},pick f p k=none→∀ i,i<k→p i=false
 | 0,_,_,h=>absurd h (Nat.not_lt_zero _)
 | k+1,h,i,hi=>by
   unfold pick at h
   cases hp:p k
   ·rw[hp]at h
    by_cases e:i=k
    ·subst e;exact hp
    ·exact Zdi (by simpa using h) i (by omega)
   ·rw[hp]at h
    simp only[if_true]at h
    split at h
    ·cases h
    ·split at h<;>cases h
theorem ZaT{f:Nat→Nat}{p:Nat→Bool}:∀ {k a:Nat},pick f p k=some a→a<k∧p a=true∧∀ i,i<k→p i=true→f a≤f i
 | 0,_,h=>by cases h
 | k+1,a,h=>by
   unfold pick at h
   cases hp:p k
   ·rw[hp]at h
    obtain⟨h1,h2,h3⟩:=ZaT (k:=k) (by simpa using h)
    exact⟨by omega,h2,fun i hi hpi=>by
     by_cases e:i=k
     ·subst e;rw[hp]at hpi;cases hpi
     ·exact h3 i (by omega) hpi⟩
   ·rw[hp]at h
    simp only[if_true]at h
    split at h
    ·rename_i hn
     cases h
     exact⟨by omega,hp,fun i hi hpi=>by
      by_cases e:i=k
      ·subst e;exact Ya4 _
      ·rw[Zdi hn i (by omega)]at hpi;cases hpi⟩
    ·rename_i b hb
     obtain⟨h1,h2,h3⟩:=ZaT hb
     split at h
     ·rename_i hlt
      cases h
      exact⟨by omega,hp,fun i hi hpi=>by
       by_cases e:i=k
       ·subst e;exact Ya4 _
       ·have:=h3 i (by omega) hpi;omega⟩
     ·rename_i hlt
      cases h
      exact⟨by omega,h2,fun i hi hpi=>by
       by_cases e:i=k
       ·subst e;omega
       ·exact h3 i (by omega) hpi⟩
abbrev iB(T ver k:Nat)(f:Nat→Nat):Blk:=⟨T,ver,1,tabL k fun i=>[dI (f i)],0,false⟩
theorem Zy3{f:Nat→Nat}{p:Nat→Bool}{i:Nat}(h:p i=false):pick f p (i+1)=pick f p i:=by rw[pick,if_neg (by rw[h];simp)]
theorem ZrY{f:Nat→Nat}{p:Nat→Bool}{i:Nat}(h:p i=true)(hn:pick f p i=none):pick f p (i+1)=some i:=by rw[pick,if_pos h,hn]
theorem ZtI{f:Nat→Nat}{p:Nat→Bool}{i a:Nat}(h:p i=true)(hn:pick f p i=some a)(hl:f i<f a):pick f p (i+1)=some i:=by rw[pick,if_pos h,hn];exact if_pos hl
theorem ZtH{f:Nat→Nat}{p:Nat→Bool}{i a:Nat}(h:p i=true)(hn:pick f p i=some a)(hl:¬ f i<f a):pick f p (i+1)=some a:=by rw[pick,if_pos h,hn];exact if_neg hl
theorem Zid[Ifl](k:Nat)(f:Nat→Nat)(p:Nat→Bool)(V ver:Nat)(g:FuncId)(caps:List D)(m:Mem)(nx:Nat)(hk:(k:Int)≤4096)(hV:m V=some (iB 3 ver k f))(lV:V<nx)
 (hg:∀ i,i<k→∀ m1 nx1,nx≤nx1→(∀ id,id<nx→m1 id=m id)→Zar Tryz.prog g (dI i ::caps) m1 nx1 fun d m' nx'=>d=dB (p i)∧nx1≤nx'∧∀ id,id<nx1→m' id=m1 id) :
 Zar Tryz.prog 155 [.ls V ver,.clo g caps] m nx fun d m' nx'=>d=dI (oI (pick f p k))∧nx≤nx'∧∀ id,id<nx→m' id=m id:=by
 have Zr:=Tryz.results155
 refine inA Tryz.func155 rfl Tryz.ntmps155 ?_
 have hl:=Zc5 k fun i=>[dI (f i)]
 refine aGoM (cj3 Zr hV hl) ?_
 repeat with_reducible intro K hK
 refine ZcJ (fun(i:Nat)=>[(0,.ls V ver),(1,.clo g caps),(5,dI (oI (pick f p i))),(8,.ls V ver),(9,dI k),(10,dI i)]) nx (fun i m1 nx1=>i≤k∧nx≤nx1∧∀ id,id<nx→m1 id=m id) (fun i=>k-i) 0 ?_ ?_ ?_ ?_
 ·exact⟨Yb0 _,Ya4 _,fun _ _=>rfl⟩
 ·rfl
 ·simp[go_sem,pick,oI]
 ·rintro i m1 nx1 ⟨hi,hnx,hfr⟩
  obtain⟨hw,i0⟩:=ZaS i
  have eV:=(hfr V lV).trans hV
  by_cases h1:(i:Int)<k
  ·have hin:i<k:=by omega
   have ge:=ZbA (fun i=>[dI (f i)]) hin
   refine aGoM (cj4 Zr eV i0 (cj4 h1 hw hl ge)) ?_
   repeat with_reducible intro K hK
   refine ZaD (hg i hin m1 nx1 hnx hfr) ?_
   rintro d m2 nx2 ⟨rfl,hn2,hfr2⟩
   have hfr3:∀ id,id<nx→m2 id=m id:=fun id hid=>(hfr2 id (by omega)).trans (hfr id hid)
   have eV2:=(hfr3 V lV).trans hV
   cases hp:p i
   ·have e1:=Zy3 (f:=f) hp
    refine aGoM (cj4 Zr eV2 i0 (cj4 h1 hw hl ge)) ?_
    repeat with_reducible intro K hK
    refine Zam (i+1) ⟨by omega,Yc7 hnx hn2,hfr3⟩ (by omega) rfl (by simp[go_sem,e1])
   ·cases ha:pick f p i with
    | none =>
      have e1:=ZrY hp ha
      have e0:(-1:Int)<0:=by decide
      have o0:oI none = -1:=rfl
      refine aGoM (cj4 Zr eV2 i0 (cj4 h1 hw hl (cj3 ge e0 o0))) ?_
      repeat with_reducible intro K hK
      refine Zam (i+1) ⟨by omega,Yc7 hnx hn2,hfr3⟩ (by omega) rfl (by simp[go_sem,e1,oI])
    | some c =>
      have hc:=(ZaT ha).1
      have gc:=ZbA (fun i=>[dI (f i)]) (show c<k by omega)
      have c0:¬ (c:Int)<0:=by omega
      have c1:(0:Int)≤c:=by omega
      have o1:oI (some c)=c:=rfl
      by_cases hlt:f i<f c
      ·have e1:=ZtI hp ha hlt
       have hlt':(f i:Int)<f c:=by omega
       refine aGoM (cj4 Zr eV2 i0 (cj4 h1 hw hl (cj4 ge c0 c1 (cj3 gc hlt' o1)))) ?_
       repeat with_reducible intro K hK
       refine Zam (i+1) ⟨by omega,Yc7 hnx hn2,hfr3⟩ (by omega) rfl (by simp[go_sem,e1,oI])
      ·have e1:=ZtH hp ha hlt
       have hlt':¬ (f i:Int)<f c:=by omega
       refine aGoM (cj4 Zr eV2 i0 (cj4 h1 hw hl (cj4 ge c0 c1 (cj3 gc hlt' o1)))) ?_
       repeat with_reducible intro K hK
       refine Zam (i+1) ⟨by omega,Yc7 hnx hn2,hfr3⟩ (by omega) rfl (by simp[go_sem,e1,oI,ha])
  ·obtain rfl:i=k:=by omega
   refine aGoM (cj4 Zr eV h1 hw) ?_
   exact hfr
theorem ZaP:tyOf Tryz.prog 182=some ⟨0,1,8,some [.v (.pointer none)],0,none,[]⟩:=by kernel_rfl
structure Ids where
 p:Nat
 R:Nat
 G:Nat
 O:Nat
 Fr:Nat
 F:Nat
 A:Nat→Nat
 vR:Nat
 vO:Nat
 vFr:Nat
 vF:Nat
abbrev pB(I:Ids)(n:Nat):Blk:=⟨224,0,6,[[dI n,.ls I.R I.vR,.ls I.G 1,.ls I.O I.vO,.ls I.Fr I.vFr,.ls I.F I.vF]],0,false⟩
def Zh4(I:Ids)(m:Nat)(v:Nat→Rat):List (List D):=tabL m fun k=>cF (ofQ (v k))++[.ls (I.A k) 1]
theorem Zi1(I:Ids)(m:Nat)(v:Nat→Rat):(Zh4 I m v).length=m:=Zc5 _ _
theorem Zde(I:Ids){m k:Nat}(v:Nat→Rat)(h:k<m):(Zh4 I m v)[k]? =some [dI (ofQ (v k)).p.s,Zad (ofQ (v k)).p.d,dI (ofQ (v k)).q.s,Zad (ofQ (v k)).q.d,.ls (I.A k) 1]:=ZbA _ h
theorem Zp4{I:Ids}{m r:Nat}(v:Nat→Rat)(q:Rat):(Zh4 I m v).set r [dI (ofQ q).p.s,Zad (ofQ q).p.d,dI (ofQ q).q.s,Zad (ofQ q).q.d,.ls (I.A r) 1]=Zh4 I m (fun k=>if k=r then q else v k):=by
 unfold Zh4
 rw[ZlA]
 refine Zb4 fun u _=>?_
 by_cases e:u=r
 ·subst e;simp only[if_pos];rfl
 ·simp only[if_neg e]
theorem ZrJ{I:Ids}{m:Nat}{v w:Nat→Rat}(h:∀ k,k<m→v k=w k):Zh4 I m v=Zh4 I m w:=Zb4 fun k hk=>by rw[h k hk]
abbrev rB(I:Ids)(m:Nat)(v:Nat→Rat):Blk:=⟨227,I.vR,5,Zh4 I m v,0,false⟩
abbrev sB(ver m:Nat)(src:Nat→Nat×Bool):Blk:=⟨251,ver,2,tabL m fun i=>[dI (src i).1,dB (src i).2],0,false⟩
structure Za2 (m:Mem) (I:Ids) (d:Dic) (src:Nat→Nat×Bool):Prop where
 hp:m I.p=some (pB I d.n)
 hR:m I.R=some (rB I d.m d.v)
 hG:m I.G=some (fB d.n d.g)
 hO:m I.O=some (iB 3 I.vO d.m d.own)
 hFr:m I.Fr=some (iB 3 I.vFr d.n d.free)
 hF:m I.F=some (sB I.vF d.m src)
 hA:∀ k,k<d.m→m (I.A k)=some (fB d.n (d.a k))
structure Zgz (I:Ids) (m:Nat):Prop where
 pR:I.p≠I.R
 pG:I.p≠I.G
 pO:I.p≠I.O
 pFr:I.p≠I.Fr
 pF:I.p≠I.F
 RG:I.R≠I.G
 RO:I.R≠I.O
 RFr:I.R≠I.Fr
 RF:I.R≠I.F
 GO:I.G≠I.O
 GFr:I.G≠I.Fr
 GF:I.G≠I.F
 OFr:I.O≠I.Fr
 OF:I.O≠I.F
 FrF:I.Fr≠I.F
 Ap:∀ k,k<m→I.A k≠I.p
 AR:∀ k,k<m→I.A k≠I.R
 AG:∀ k,k<m→I.A k≠I.G
 AO:∀ k,k<m→I.A k≠I.O
 AFr:∀ k,k<m→I.A k≠I.Fr
 AF:∀ k,k<m→I.A k≠I.F
 AA:∀ k l,k<m→l<m→k≠l→I.A k≠I.A l
def inD(I:Ids)(m:Nat)(id:Nat):Prop:=id=I.p∨id=I.R∨id=I.G∨id=I.O∨id=I.Fr∨id=I.F∨∃ k,k<m∧id=I.A k
theorem Za2.lt{m:Mem}{I:Ids}{d:Dic}{src:Nat→Nat×Bool}{nx:Nat}(h:Za2 m I d src)(hc:Cl m nx){id:Nat}(hi:inD I d.m id):id<nx:=by
 rcases hi with rfl|rfl|rfl|rfl|rfl|rfl|⟨k,hk,rfl⟩
 ·exact(hc _ _ h.hp).1
 ·exact(hc _ _ h.hR).1
 ·exact(hc _ _ h.hG).1
 ·exact(hc _ _ h.hO).1
 ·exact(hc _ _ h.hFr).1
 ·exact(hc _ _ h.hF).1
 ·exact(hc _ _ (h.hA k hk)).1
theorem Za2.keep{m m':Mem}{I:Ids}{d:Dic}{src:Nat→Nat×Bool}(h:Za2 m I d src)(hf:∀ id,inD I d.m id→m' id=m id):Za2 m' I d src :=
 ⟨(hf _ (.inl rfl)).trans h.hp,(hf _ (.inr (.inl rfl))).trans h.hR,(hf _ (.inr (.inr (.inl rfl)))).trans h.hG,(hf _ (.inr (.inr (.inr (.inl rfl))))).trans h.hO,(hf _ (.inr (.inr (.inr (.inr (.inl rfl)))))).trans h.hFr,
   (hf _ (.inr (.inr (.inr (.inr (.inr (.inl rfl))))))).trans h.hF,fun k hk=>(hf _ (.inr (.inr (.inr (.inr (.inr (.inr ⟨k,hk,rfl⟩))))))).trans (h.hA k hk)⟩
def neg'(r:Rat):Bool:=decide ((ofQ r).p.s<0)
def pos'(r:Rat):Bool:=decide ((ofQ r).p.s>0)
theorem ZfL(r:Rat):neg' r=true↔r<0:=by unfold neg';rw[decide_eq_true_eq,Zo3];exact Zjx
theorem ZfH(r:Rat):pos' r=true↔0<r:=by unfold pos';rw[decide_eq_true_eq,Zo3];exact Zds
abbrev bxB(T id:Nat):Blk:=⟨T,0,1,[[.lp id 0 0 0]],0,false⟩
abbrev nB(n:Int):Blk:=⟨3,0,1,[[dI n]],0,false⟩
section
variable [Ifl] {I:Ids} {d:Dic} {src:Nat→Nat×Bool} {m:Mem} {nx bx:Nat}
theorem s1_a(h:Za2 m I d src)(hb:m bx=some (bxB 182 I.p)){i:Nat}(hi:i<d.m) :
 Zar Tryz.prog 156 [dI i,.lp bx 0 0 0] m nx fun d' m' nx'=>d'=dB (neg' (d.v i))∧nx≤nx'∧∀ id,id<nx→m' id=m id:=by
 have Zr:=Tryz.results156
 refine inA Tryz.func156 rfl Tryz.ntmps156 ?_
 have g:=Zde I d.v hi
 have i0:(0:Int)≤i:=by omega
 refine aGoM (cj4 Zr h.hp h.hR (cj4 hb g i0 ZaP)) ?_
 exact⟨rfl,Ya4 _⟩
theorem s2_a(h:Za2 m I d src)(hb:m bx=some (bxB 182 I.p)){i:Nat}(hi:i<d.n) :
 Zar Tryz.prog 157 [dI i,.lp bx 0 0 0] m nx fun d' m' nx'=>d'=dB (pos' (d.g i))∧nx≤nx'∧∀ id,id<nx→m' id=m id:=by
 have Zr:=Tryz.results157
 refine inA Tryz.func157 rfl Tryz.ntmps157 ?_
 have g:=Za1 d.g hi
 have i0:(0:Int)≤i:=by omega
 refine aGoM (cj4 Zr h.hp h.hG (cj4 hb g i0 ZaP)) ?_
 exact⟨rfl,Ya4 _⟩
theorem s3_a(h:Za2 m I d src)(hb:m bx=some (bxB 182 I.p)){r:Nat}{rx:Nat}(hr:r<d.m)(hrx:m rx=some (nB r)){j:Nat}(hj:j<d.n) :
 Zar Tryz.prog 158 [dI j,.lp bx 0 0 0,.lp rx 0 0 0] m nx fun d' m' nx'=>d'=dB (neg' (d.a r j))∧nx≤nx'∧∀ id,id<nx→m' id=m id:=by
 have Zr:=Tryz.results158
 refine inA Tryz.func158 rfl Tryz.ntmps158 ?_
 have g:=Zde I d.v hr
 have g2:=Za1 (d.a r) hj
 have i0:(0:Int)≤r:=by omega
 have j0:(0:Int)≤j:=by omega
 have hA:=h.hA r hr
 refine aGoM (cj4 Zr h.hp h.hR (cj4 hb g i0 (cj4 ZaP hrx g2 (cj2 j0 hA)))) ?_
 exact⟨rfl,Ya4 _⟩
theorem s4_a(h:Za2 m I d src)(hb:m bx=some (bxB 182 I.p)){s:Nat}{sx:Nat}(hs:s<d.n)(hsx:m sx=some (nB s)){i:Nat}(hi:i<d.m) :
 Zar Tryz.prog 159 [dI i,.lp bx 0 0 0,.lp sx 0 0 0] m nx fun d' m' nx'=>d'=dB (pos' (d.a i s))∧nx≤nx'∧∀ id,id<nx→m' id=m id:=by
 have Zr:=Tryz.results159
 refine inA Tryz.func159 rfl Tryz.ntmps159 ?_
 have g:=Zde I d.v hi
 have g2:=Za1 (d.a i) hs
 have i0:(0:Int)≤i:=by omega
 have j0:(0:Int)≤s:=by omega
 have hA:=h.hA i hi
 refine aGoM (cj4 Zr h.hp h.hR (cj4 hb g i0 (cj4 ZaP hsx g2 (cj2 j0 hA)))) ?_
 exact⟨rfl,Ya4 _⟩
end
theorem ZlK{ops:Array Oper}{tr:List (List Nat×List Nat)}(J:Nat→Nat)(k:Nat)(tr0:List (List Nat×List Nat))(h:tr=tr0.map fun x=>(x.1.map J,x.2.map J))(hJ:∀ u v,u<k→v<k→J u=J v→u=v)
 (hb:tr0.all (fun x=>x.1.all (fun i=>decide (i<k))&&x.2.all (fun i=>decide (i<k)))=true) (hr:ZgL ops tr0=true):ZgL ops tr=true:=by
 have key:∀ a b:List Nat,a.all (fun i=>decide (i<k))=true→b.all (fun i=>decide (i<k))=true→Zj1 a b=false→Zj1 (a.map J) (b.map J)=false:=by
  intro a b ha hb hm
  cases hc:Zj1 (a.map J) (b.map J)
  ·rfl
  ·unfold Zj1 at hc
   obtain⟨u,hu,hc⟩:=List.any_eq_true.1 hc
   obtain⟨x,hx,rfl⟩:=Yc6.1 hu
   obtain⟨y,hy,e⟩:=Yc6.1 (List.contains_iff_mem.1 hc)
   have e2:=hJ y x (by simpa using Ya6.1 hb y hy) (by simpa using Ya6.1 ha x hx) e
   subst e2
   have:Zj1 a b=true:=List.any_eq_true.2 ⟨y,hx,List.contains_iff_mem.2 hy⟩
   rw[hm]at this;cases this
 subst h
 unfold ZgL at hr ⊢
 simp only[Ya6,Yd2]at hr ⊢
 intro j hj i hi
 have h1:=hr j hj i hi
 rw[Yb8,Yb8]
 cases hx:tr0[i]? with
 | none=>rfl
 | some x =>
   cases hy:tr0[j]? with
   | none=>rfl
   | some y =>
     rw[hx,hy]at h1
     have bx:=Ya6.1 hb x (Ya7 hx)
     have by':=Ya6.1 hb y (Ya7 hy)
     rw[Ya2]at bx by'
     simp only[Yd0]
     rw[Bool.or_eq_true]at h1 ⊢
     rcases h1 with h1|h1
     ·left
      simp only[Ya2,Bool.not_eq_true']at h1 ⊢
      exact⟨key _ _ bx.2 by'.1 h1.1,key _ _ bx.1 by'.2 h1.2⟩
     ·exact .inr h1
theorem Zcu{ops:Array Oper}{tr:List (List Nat×List Nat)}(L:List Nat)(hL:L.Nodup)(tr0:List (List Nat×List Nat))(h:tr=tr0.map fun x=>(x.1.map fun i=>L.getD i 0,x.2.map fun i=>L.getD i 0))
 (hb:tr0.all (fun x=>x.1.all (fun i=>decide (i<L.length))&&x.2.all (fun i=>decide (i<L.length)))=true) (hr:ZgL ops tr0=true):ZgL ops tr=true:=by
 refine ZlK (fun i=>L.getD i 0) L.length tr0 h (fun u v hu hv e=>?_) hb hr
 simp only[List.getD_eq_getElem?_getD,Ya0 hu,Ya0 hv,Option.getD_some]at e
 exact(List.getElem_inj hL).1 e
def sel3(a b c:Nat):Nat→Nat
 | 0=>a
 | 1=>b
 | _=>c
theorem ZpZ{a b c:Nat}(h1:a≠b)(h2:a≠c)(h3:b≠c):∀ u v,u<3→v<3→sel3 a b c u=sel3 a b c v→u=v
 | 0,0,_,_,_=>rfl
 | 1,1,_,_,_=>rfl
 | 2,2,_,_,_=>rfl
 | 0,1,_,_,h=>absurd h h1
 | 1,0,_,_,h=>absurd h.symm h1
 | 0,2,_,_,h=>absurd h h2
 | 2,0,_,_,h=>absurd h.symm h2
 | 1,2,_,_,h=>absurd h h3
 | 2,1,_,_,h=>absurd h.symm h3
 | u+3,_,h,_,_=>absurd h (by omega)
 | _,v+3,_,h,_=>absurd h (by omega)
def ZxP:List (List Nat×List Nat):=[([],[]),([],[]),([],[]),([0],[]),([],[]),([],[]),([],[]),([],[]),([0],[]),([],[]),([],[]),([],[]),([],[]),([0],[]),([],[]),([2],[]),([2],[]),([],[]),([],[]),([],[]),([0],[]),([],[]),([1],[]),([1],[]),([1],[]),([1,1],[1]),([2],[]),([2,2],[2])]
section
variable {I:Ids} {d:Dic} {src:Nat→Nat×Bool} {m:Mem}
theorem Za2.new(h:Za2 m I d src){x:Nat}{b:Option Blk}(hx:∀ id,inD I d.m id→id≠x):Za2 (upd m x b) I d src:=h.keep fun id hi=>Zab _ _ (hx id hi)
theorem Za2.setR(h:Za2 m I d src)(ap:Zgz I d.m)(v:Nat→Rat):Za2 (upd m I.R (some (rB I d.m v))) I {d with v:=v} src :=
 ⟨by rw[Zab _ _ ap.pR];exact h.hp,Zac _ _ _,by rw[Zab _ _ ap.RG.symm];exact h.hG,by rw[Zab _ _ ap.RO.symm];exact h.hO,by rw[Zab _ _ ap.RFr.symm];exact h.hFr,by rw[Zab _ _ ap.RF.symm];exact h.hF,
   fun k hk=>by rw[Zab _ _ (ap.AR k hk)];exact h.hA k hk⟩
theorem Za2.setA(h:Za2 m I d src)(ap:Zgz I d.m){r:Nat}(hr:r<d.m)(c:Nat→Rat):Za2 (upd m (I.A r) (some (fB d.n c))) I {d with a:=fun k=>if k=r then c else d.a k} src:=by
 refine⟨by rw[Zab _ _ (ap.Ap r hr).symm];exact h.hp,by rw[Zab _ _ (ap.AR r hr).symm];exact h.hR,by rw[Zab _ _ (ap.AG r hr).symm];exact h.hG,by rw[Zab _ _ (ap.AO r hr).symm];exact h.hO,by rw[Zab _ _ (ap.AFr r hr).symm];exact h.hFr,by rw[Zab _ _ (ap.AF r hr).symm];exact h.hF,
  fun k hk=>?_⟩
 by_cases e:k=r
 ·subst e;rw[Zac];simp
 ·rw[Zab _ _ (ap.AA k r hk hr e)];simp only[if_neg e];exact h.hA k hk
theorem Za2.setA2(h:Za2 m I d src)(ap:Zgz I d.m){r:Nat}(hr:r<d.m)(c:Nat→Rat){a':Nat→Nat→Rat}(ha:∀ k,a' k=if k=r then c else d.a k):Za2 (upd m (I.A r) (some (fB d.n c))) I {d with a:=a'} src:=by
 have:=h.setA ap hr c
 rwa [← show a'=_ from funext ha]at this
theorem Za2.congr(h:Za2 m I d src){v:Nat→Rat}{a:Nat→Nat→Rat}(hv:∀ k,k<d.m→v k=d.v k)(ha:∀ k j,k<d.m→j<d.n→a k j=d.a k j):Za2 m I {d with v:=v,a:=a} src :=
 ⟨h.hp,by have:=h.hR;unfold rB at this ⊢;rwa [← ZrJ hv]at this,h.hG,h.hO,h.hFr,h.hF,fun k hk=>by have:=h.hA k hk;unfold fB at this ⊢;rwa [← ZaO (ha k · hk)]at this⟩
theorem Za2.setG(h:Za2 m I d src)(ap:Zgz I d.m)(c:Nat→Rat):Za2 (upd m I.G (some (fB d.n c))) I {d with g:=c} src :=
 ⟨by rw[Zab _ _ ap.pG];exact h.hp,by rw[Zab _ _ ap.RG];exact h.hR,Zac _ _ _,by rw[Zab _ _ ap.GO.symm];exact h.hO,by rw[Zab _ _ ap.GFr.symm];exact h.hFr,by rw[Zab _ _ ap.GF.symm];exact h.hF,
   fun k hk=>by rw[Zab _ _ (ap.AG k hk)];exact h.hA k hk⟩
theorem Za2.setO(h:Za2 m I d src)(ap:Zgz I d.m)(f:Nat→Nat):Za2 (upd m I.O (some (iB 3 I.vO d.m f))) I {d with own:=f} src :=
 ⟨by rw[Zab _ _ ap.pO];exact h.hp,by rw[Zab _ _ ap.RO];exact h.hR,by rw[Zab _ _ ap.GO];exact h.hG,Zac _ _ _,by rw[Zab _ _ ap.OFr.symm];exact h.hFr,by rw[Zab _ _ ap.OF.symm];exact h.hF,
   fun k hk=>by rw[Zab _ _ (ap.AO k hk)];exact h.hA k hk⟩
theorem Za2.setFr(h:Za2 m I d src)(ap:Zgz I d.m)(f:Nat→Nat):Za2 (upd m I.Fr (some (iB 3 I.vFr d.n f))) I {d with free:=f} src :=
 ⟨by rw[Zab _ _ ap.pFr];exact h.hp,by rw[Zab _ _ ap.RFr];exact h.hR,by rw[Zab _ _ ap.GFr];exact h.hG,by rw[Zab _ _ ap.OFr];exact h.hO,Zac _ _ _,by rw[Zab _ _ ap.FrF.symm];exact h.hF,
   fun k hk=>by rw[Zab _ _ (ap.AFr k hk)];exact h.hA k hk⟩
end
def rowK(s:Nat)(a:Nat→Rat)(i:Nat):Nat→Rat:=fun j=>if j<i∧j≠s then a j / a s else a j
theorem Ztk(s:Nat)(a:Nat→Rat):rowK s a 0=a:=by funext j;unfold rowK;rw[if_neg (by omega)]
theorem Zm1{s i:Nat}{a:Nat→Rat}(h:i=s∨a i=0):rowK s a (i+1)=rowK s a i:=by
 funext j;unfold rowK
 by_cases e:j=i
 ·subst e
  rcases h with h|h
  ·rw[if_neg (by omega),if_neg (by omega)]
  ·rw[h]
   by_cases e2:j=s
   ·rw[if_neg (by omega),if_neg (by omega)]
   ·rw[if_pos ⟨by omega,e2⟩,if_neg (by omega)];grind
 ·by_cases e2:j<i∧j≠s
  ·rw[if_pos ⟨by omega,e2.2⟩,if_pos e2]
  ·rw[if_neg (by omega),if_neg e2]
theorem Zv7{n s i:Nat}(a:Nat→Rat)(h:i≠s):(ratL n (rowK s a i)).set i (cF (ofQ (a i / a s)))=ratL n (rowK s a (i+1)):=by
 rw[Zdp]
 refine ZaO fun u _=>?_
 unfold rowK
 by_cases e:u=i
 ·subst e;rw[if_pos rfl,if_pos ⟨by omega,h⟩]
 ·rw[if_neg e]
  by_cases h2:u<i∧u≠s
  ·rw[if_pos h2,if_pos ⟨by omega,h2.2⟩]
  ·rw[if_neg h2,if_neg (by omega)]
theorem Zv8{d:Dic}{r s:Nat}:(ratL d.n (rowK s (d.a r) d.n)).set s (cF (ofQ (1 / d.a r s)))=ratL d.n ((d.ex r s).a r):=by
 rw[Zdp]
 refine ZaO fun u hu=>?_
 unfold rowK
 simp only[Dic.ex,if_pos]
 by_cases e:u=s
 ·rw[if_pos e,if_pos e]
 ·rw[if_neg e,if_neg e,if_pos ⟨hu,e⟩]
theorem ZvP{d:Dic}{r s i j:Nat}(h:i≠r):Zkz s (d.a i) ((d.ex r s).a r) j=(d.ex r s).a i j:=by
 unfold Zkz
 simp only[Dic.ex,if_pos,if_neg h]
 by_cases e:j=s
 ·rw[if_pos e,if_pos e]
 ·rw[if_neg e,if_neg e,if_neg e]
theorem ZzN{d:Dic}{r s i:Nat}(h:i≠r)(h0:d.a i s=0):(d.ex r s).v i=d.v i∧∀ j,(d.ex r s).a i j=d.a i j:=by
 simp only[Dic.ex,if_neg h,h0]
 refine⟨by grind,fun j=>?_⟩
 by_cases e:j=s
 ·subst e;rw[if_pos rfl,h0];grind
 ·rw[if_neg e];grind
theorem ex_v{d:Dic}{r s i:Nat}(h:i≠r):(d.ex r s).v i=d.v i-d.a i s*(d.ex r s).v r:=by simp only[Dic.ex,if_neg h,if_pos]
theorem upto{i k:Nat}(r:Nat)(h:k≠i):(k<i+1∨k=r)↔(k<i∨k=r):=by omega
theorem ZvO{d:Dic}{r s:Nat}:Zkz s d.g ((d.ex r s).a r)=(d.ex r s).g:=by
 funext j
 unfold Zkz
 simp only[Dic.ex,if_pos]
 by_cases e:j=s
 ·rw[if_pos e,if_pos e]
 ·rw[if_neg e,if_neg e,if_neg e]
theorem Zxf{d:Dic}{r s:Nat}(h0:d.g s=0):(d.ex r s).g=d.g:=by
 funext j
 simp only[Dic.ex,h0]
 by_cases e:j=s
 ·subst e;rw[if_pos rfl,h0];grind
 ·rw[if_neg e];grind
theorem ZqF{k r:Nat}(f:Nat→Nat)(x:Nat):(tabL k fun i=>[dI (f i)]).set r [dI x]=tabL k fun i=>[dI ((Dic.up f r x) i:Nat)]:=by
 rw[ZlA]
 refine Zb4 fun u _=>?_
 unfold Dic.up
 by_cases e:u=r
 ·rw[if_pos e,if_pos e]
 ·rw[if_neg e,if_neg e]
theorem ZpN{I:Ids}{d:Dic}{src:Nat→Nat×Bool}{m:Mem}{r s:Nat}(h:Za2 m I {d with v:=(d.ex r s).v,a:=(d.ex r s).a,g:=(d.ex r s).g} src)(ap:Zgz I d.m) :
 Za2 (upd (upd m I.O (some (iB 3 I.vO d.m (Dic.up d.own r (d.free s))))) I.Fr (some (iB 3 I.vFr d.n (Dic.up d.free s (d.own r))))) I (d.ex r s) src:=by
 have:=(h.setO ap (Dic.up d.own r (d.free s))).setFr ap (Dic.up d.free s (d.own r))
 exact⟨this.hp,this.hR,this.hG,this.hO,this.hFr,this.hF,this.hA⟩
theorem szFn:Dic.SizeFn szQ:=⟨by decide +kernel,by decide +kernel,ZsX,ZfA,fun _ _ h=>ZyH h⟩
theorem Zgi[Ifl]{I:Ids}{d:Dic}{src:Nat→Nat×Bool}{m:Mem}{nx r s:Nat}(h:Za2 m I d src)(ap:Zgz I d.m)(hr:r<d.m)(hs:s<d.n)(hp:d.a r s≠0)(hm:(d.m:Int)≤4096)(hn:(d.n:Int)≤4096)
 {B:Nat} (hB1:1≤B) (hB:(B:Int)≤536870912) (sz:d.Sized szQ B) :
 Zar Tryz.prog 160 [.lp I.p 0 0 0,dI r,dI s] m nx fun d' m' nx'=>d'=oneD []∧nx≤nx'∧Za2 m' I (d.ex r s) src∧∀ id,id<nx→¬ inD I d.m id→m' id=m id:=by
 refine Zar.cl ⟨_,_,Tryz.func160,rfl,by kernel_rfl⟩ fun hcl=>?_
 have Zr:=Tryz.results160
 refine inA Tryz.func160 rfl Tryz.ntmps160 ?_
 have lt:∀ id,inD I d.m id→id<nx:=fun id hi=>h.lt hcl hi
 have lp:I.p<nx:=lt _ (.inl rfl)
 have lR:I.R<nx:=lt _ (.inr (.inl rfl))
 have lA:I.A r<nx:=lt _ (.inr (.inr (.inr (.inr (.inr (.inr ⟨r,hr,rfl⟩))))))
 have n1:I.p≠nx:=by omega
 have n2:I.R≠nx:=by omega
 have n3:I.A r≠nx:=by omega
 have n4:nx≠I.R:=by omega
 have n5:nx≠I.A r:=by omega
 have e1:=ap.pR
 have e2:=ap.AR r hr
 have e3:=ap.Ap r hr
 have e4:=(ap.Ap r hr).symm
 have e5:=(ap.AR r hr).symm
 have r0:(0:Int)≤r:=by omega
 have s0:(0:Int)≤s:=by omega
 have zp:=sz.a r s hr hs
 have zv:=sz.v r hr
 have gr:=Zde I d.v hr
 have ga:=Za1 (d.a r) hs
 have k1:=Zox (d.v r) (d.a r s) hp (by omega) (by omega)
 have es:=Zp4 (I:=I) (m:=d.m) (r:=r) d.v (d.v r / d.a r s)
 have hAr:=h.hA r hr
 have la:=Zb7 d.n (d.a r)
 have gr2:=Zde I (fun k=>if k=r then d.v r / d.a r s else d.v k) hr
 refine aGoM (cj4 Zr h.hp h.hR (cj4 hAr n1 n2 (cj4 n3 n4 n5 (cj4 e1 e2 e3 (cj4 r0 s0 gr (cj4 ga es Yb0 (cj2 la gr2))))))) ?_
 repeat with_reducible intro K hK
 have hD0:Za2 (upd (upd (upd m nx (some ⟨35,0,4,[[dI 0,.nil,dI 0,.nil]],0,false⟩)) nx (some ⟨35,0,4,[cF (ofQ (d.a r s))],0,false⟩)) I.R (some (rB I d.m fun k=>if k=r then d.v r / d.a r s else d.v k))) I {d with v:=fun k=>if k=r then d.v r / d.a r s else d.v k} src :=
  ((h.new fun id hi=>by have:=lt id hi;omega).new fun id hi=>by have:=lt id hi;omega).setR ap _
 refine ZcJ (fun(i:Nat)=>[(0,.lp I.p 0 0 0),(1,dI r),(2,dI s),(6,.lp I.R I.vR r 0),(7,.lp nx 0 0 0),(37,dI d.n),(38,dI i)]) nx
  (fun i m1 nx1=>i≤d.n∧nx<nx1∧Za2 m1 I {d with v:=fun k=>if k=r then d.v r / d.a r s else d.v k,a:=fun k=>if k=r then rowK s (d.a r) i else d.a k} src∧m1 nx=some ⟨35,0,4,[cF (ofQ (d.a r s))],0,false⟩∧∀ id,id<nx→¬ inD I d.m id→m1 id=m id) (fun i=>d.n-i) 0 ?_ ?_ ?_ ?_
 ·refine⟨Yb0 _,Nat.lt_succ_self _,?_,?_,fun id h1 h2=>?_⟩
  ·rw[Ztk,show(fun k=>if k=r then d.a r else d.a k)=d.a by funext k;by_cases e:k=r<;>simp[e]]
   exact hD0
  ·exact(Zab _ _ n4).trans (Zac _ _ _)
  ·exact(Zab _ _ (fun e=>h2 (.inr (.inl e)))).trans ((Zab _ _ (by omega)).trans (Zab _ _ (by omega)))
 ·rfl
 ·simp[go_sem]
 ·rintro i m1 nx1 ⟨hi,hnx,hD,hP,hfr⟩
  have hA1:=hD.hA r hr
  have hp1:=hD.hp
  have hR1:=hD.hR
  simp only[if_pos]at hA1 hp1 hR1
  obtain⟨hw,i0⟩:=ZaS i
  by_cases h1:(i:Int)<d.n
  ·have hin:i<d.n:=by omega
   have gi:=Za1 (rowK s (d.a r) i) hin
   have ei:rowK s (d.a r) i i=d.a r i:=by unfold rowK;rw[if_neg (by omega)]
   have zi:=sz.a r i hr hin
   have k2:=Zju (d.a r i)
   have li:=Zb7 d.n (rowK s (d.a r) i)
   by_cases h2:i=s
   ·subst h2
    have h2b:((i:Int) !=i)=false:=by simp
    refine aGoM (cj4 Zr hA1 hp1 (cj4 hR1 hP i0 (cj4 h1 h2b hw li))) ?_
    repeat with_reducible intro K hK
    refine Zam (i+1) ⟨by omega,hnx,?_,hP,hfr⟩ (by omega) rfl (by simp[go_sem])
    rw[Zm1 (.inl rfl)];exact hD
   ·have h2b:((i:Int) !=s)=true:=by simp;omega
    by_cases h3:d.a r i=0
    ·rw[decide_eq_true h3]at k2
     refine aGoM (cj4 Zr hA1 hp1 (cj4 hR1 hP i0 (cj4 h1 h2b hw (cj4 li gi ei gr2)))) ?_
     repeat with_reducible intro K hK
     refine Zam (i+1) ⟨by omega,hnx,?_,hP,hfr⟩ (by omega) rfl (by simp[go_sem])
     rw[Zm1 (.inr h3)];exact hD
    ·rw[decide_eq_false h3]at k2
     have k3:=Zox (d.a r i) (d.a r s) hp (by omega) (by omega)
     have es2:=Zv7 (n:=d.n) (d.a r) h2
     refine aGoM (cj4 Zr hA1 hp1 (cj4 hR1 hP i0 (cj4 h1 h2b hw (cj4 li gi ei (cj4 gr2 n5 r0 (cj4 es2 Yb0 e2 n3)))))) ?_
     repeat with_reducible intro K hK
     refine Zam (i+1) ⟨by omega,hnx,?_,?_,?_⟩ (by omega) rfl (by simp[go_sem])
     ·exact hD.setA2 ap hr (rowK s (d.a r) (i+1)) fun k=>by by_cases e:k=r<;>simp[e]
     ·exact(Zab _ _ n5).trans hP
     ·intro id g1 g2
      exact(Zab _ _ (fun e=>g2 (.inr (.inr (.inr (.inr (.inr (.inr ⟨r,hr,e⟩)))))))).trans (hfr id g1 g2)
  ·obtain rfl:i=d.n:=by omega
   have li:=Zb7 d.n (rowK s (d.a r) d.n)
   have gi:=Za1 (rowK s (d.a r) d.n) hs
   have z1:=Zef 1 (by decide) (by decide)
   rw[show((1:Int):Rat)=1 from rfl]at z1
   have k2:=nO_c
   have k3:=Zox 1 (d.a r s) hp (by omega) (by omega)
   have es3:=Zv8 (d:=d) (r:=r) (s:=s)
   have lr:=Zi1 I d.m (fun k=>if k=r then d.v r / d.a r s else d.v k)
   refine aGoM (cj4 Zr hA1 hp1 (cj4 hR1 hP s0 (cj4 h1 li gi (cj4 gr2 n5 r0 (cj4 es3 Yb0 e2 (cj4 n3 e3 lr (cj2 e4 e5))))))) ?_
   repeat with_reducible intro K hK
   have hD1:Za2 (upd m1 (I.A r) (some (fB d.n ((d.ex r s).a r)))) I {d with v:=fun k=>if k<0∨k=r then(d.ex r s).v k else d.v k,a:=fun k=>if k<0∨k=r then(d.ex r s).a k else d.a k} src:=by
    refine(hD.setA2 ap hr ((d.ex r s).a r) (a':=fun k=>if k<0∨k=r then(d.ex r s).a k else d.a k) fun k=>?_).congr (fun k _=>?_) fun _ _ _ _=>rfl
    ·by_cases e:k=r<;>simp[e]
    ·by_cases e:k=r
     ·subst e;simp[Dic.ex]
     ·simp[e]
   have zx:=Dic.ex_sized szFn hr hs hp sz hB1
   refine ZcJ (fun(i:Nat)=>[(0,.lp I.p 0 0 0),(1,dI r),(2,dI s),(6,.lp I.R I.vR r 0),(84,dI d.m),(85,dI i)]) nx
    (fun i m2 nx2=>i≤d.m∧nx≤nx2∧Za2 m2 I {d with v:=fun k=>if k<i∨k=r then(d.ex r s).v k else d.v k,a:=fun k=>if k<i∨k=r then(d.ex r s).a k else d.a k} src∧∀ id,id<nx→¬ inD I d.m id→m2 id=m id) (fun i=>d.m-i) 0 ?_ ?_ ?_ ?_
   ·exact⟨Yb0 _,Nat.le_of_lt hnx,hD1,fun id g1 g2=>(Zab _ _ (fun e=>g2 (.inr (.inr (.inr (.inr (.inr (.inr ⟨r,hr,e⟩)))))))).trans (hfr id g1 g2)⟩
   ·rfl
   ·simp[go_sem]
   ·rintro i m2 nx2 ⟨hi2,hnx2,hE,hfr2⟩
    have hA1:=hE.hA r hr
    have hp1:=hE.hp
    have hR1:=hE.hR
    simp only[or_true,if_pos]at hA1 hp1 hR1
    obtain⟨hw,i0⟩:=ZaS i
    by_cases h2:(i:Int)<d.m
    ·have him:i<d.m:=by omega
     have lr2:=Zi1 I d.m (fun k=>if k<i∨k=r then(d.ex r s).v k else d.v k)
     have gi:=Zde I (fun k=>if k<i∨k=r then(d.ex r s).v k else d.v k) him
     by_cases h3:i=r
     ·subst h3
      have h3b:((i:Int) !=i)=false:=by simp
      refine aGoM (cj4 Zr hp1 hR1 (cj4 i0 h2 h3b (cj4 hw lr2 gi s0))) ?_
      repeat with_reducible intro K hK
      have e:∀ k,(k<i+1∨k=i)↔(k<i∨k=i):=fun k=>by omega
      exact Zam (i+1) ⟨by omega,hnx2,hE.congr (fun k _=>by simp only[e]) (fun k j _ _=>by simp only[e]),hfr2⟩ (by omega) rfl (by simp[go_sem])
     ·have h3b:((i:Int) !=r)=true:=by simp;omega
      have ei:(if i<i∨i=r then(d.ex r s).v i else d.v i)=d.v i:=if_neg (by omega)
      simp only[ei]at gi
      have gr3:=Zde I (fun k=>if k<i∨k=r then(d.ex r s).v k else d.v k) hr
      have er:(if r<i∨r=r then(d.ex r s).v r else d.v r)=(d.ex r s).v r:=if_pos (.inr rfl)
      simp only[er]at gr3
      have hAi:m2 (I.A i)=some (fB d.n (d.a i)):=(hE.hA i him).trans (by simp only[if_neg (show ¬ (i<i∨i=r) by omega)])
      have gai:=Za1 (d.a i) hs
      have k2:=Zju (d.a i s)
      have lai:=Zb7 d.n (d.a i)
      have zi:=sz.a i s him hs
      by_cases h4:d.a i s=0
      ·rw[decide_eq_true h4]at k2
       refine aGoM (cj4 Zr hp1 hR1 (cj4 i0 h2 h3b (cj4 hw lr2 gi (cj4 s0 hAi gai lai)))) ?_
       repeat with_reducible intro K hK
       obtain⟨z1,z2⟩:=ZzN (s:=s) h3 h4
       refine Zam (i+1) ⟨by omega,hnx2,hE.congr (fun k _=>?_) (fun k j _ _=>?_),hfr2⟩ (by omega) rfl (by simp[go_sem])
       ·by_cases e:k=i
        ·subst e;simp only[z1,ite_self]
        ·simp only[upto r e]
       ·by_cases e:k=i
        ·subst e
         by_cases e2:k<k+1∨k=r
         ·rw[if_pos e2,z2];show d.a k j=(if k<k∨k=r then(d.ex r s).a k else d.a k) j;rw[if_neg (by omega)]
         ·omega
        ·simp only[upto r e]
      ·rw[decide_eq_false h4]at k2
       have zvi:=sz.v i him
       have zvr:=zx.v r hr
       have k3:=ZoA (d.v i) (d.a i s) ((d.ex r s).v r) (by omega) (by omega) (by omega)
       rw[← ex_v h3]at k3
       obtain⟨V,hV⟩:∃ V:Nat→Rat,V=fun k=>if k=i then(d.ex r s).v i else if k<i∨k=r then(d.ex r s).v k else d.v k:=⟨_,rfl⟩
       have es4:=Zp4 (I:=I) (m:=d.m) (r:=i) (fun k=>if k<i∨k=r then(d.ex r s).v k else d.v k) ((d.ex r s).v i)
       rw[← hV]at es4
       have gi5:=Zde I V him
       have gr5:=Zde I V hr
       have eA:I.A i≠I.A r:=ap.AA i r him hr h3
       have eAr:=eA.symm
       have eAR:=ap.AR i him
       have eARs:=eAR.symm
       refine aGoM (cj4 Zr hp1 hR1 (cj4 i0 h2 h3b (cj4 hw lr2 gi (cj4 s0 hAi gai (cj4 lai gr3 r0 (cj4 es4 Yb0 hA1 (cj4 eAR eARs e2 (cj3 e5 gi5 gr5)))))))) ?_
       repeat with_reducible intro K hK
       repeat with_reducible intro K hK
       have lAi:=lt _ (.inr (.inr (.inr (.inr (.inr (.inr ⟨i,him,rfl⟩))))))
       refine Za3 (ZxN d.n s (I.A i) (I.A r) (d.a i) ((d.ex r s).a r) _ _ hn hs eA ((Zab _ _ eAR).trans hAi) ((Zab _ _ e2).trans hA1) (by omega) (fun j hj=>by have:=sz.a i j him hj;omega) (fun j hj=>by have:=zx.a r j hr hj;omega)) ?_
       refine aGoM (cj3 Zr h2 hw) ?_
       repeat with_reducible intro K hK
       refine Zam (i+1) ⟨by omega,hnx2,?_,?_⟩ (by omega) rfl (by simp[go_sem])
       ·refine((hE.setR ap V).setA2 ap him (Zkz s (d.a i) ((d.ex r s).a r)) (a':=fun k=>if k=i then Zkz s (d.a i) ((d.ex r s).a r)else if k<i∨k=r then(d.ex r s).a k else d.a k) fun k=>rfl).congr (fun k _=>?_) (fun k j _ _=>?_)
        ·by_cases e:k=i
         ·subst e;simp[hV]
         ·simp only[upto r e,if_neg e,hV]
        ·by_cases e:k=i
         ·subst e;simp only[if_pos,ZvP h3];rw[if_pos (by omega)]
         ·simp only[upto r e,if_neg e]
       ·intro id g1 g2
        exact(Zab _ _ (fun e=>g2 (.inr (.inr (.inr (.inr (.inr (.inr ⟨i,him,e⟩)))))))).trans ((Zab _ _ (fun e=>g2 (.inr (.inl e)))).trans (hfr2 id g1 g2))
    ·obtain rfl:i=d.m:=by omega
     have hE':Za2 m2 I {d with v:=(d.ex r s).v,a:=(d.ex r s).a} src:=hE.congr (fun k hk=>by simp[hk]) (fun k j hk _=>by simp[hk])
     have hA2:m2 (I.A r)=some (fB d.n ((d.ex r s).a r)):=hE'.hA r hr
     have hR2:m2 I.R=some (rB I d.m (d.ex r s).v):=hE'.hR
     have hp2:m2 I.p=some (pB I d.n):=hE'.hp
     have hG2:m2 I.G=some (fB d.n d.g):=hE'.hG
     have hO2:m2 I.O=some (iB 3 I.vO d.m d.own):=hE'.hO
     have hF2:m2 I.Fr=some (iB 3 I.vFr d.n d.free):=hE'.hFr
     have gg:=Za1 d.g hs
     have k2:=Zju (d.g s)
     have zg:=sz.g s hs
     have go:=ZbA (fun i=>[dI (d.own i)]) hr
     have gf:=ZbA (fun i=>[dI (d.free i)]) hs
     have so:=ZqF (k:=d.m) (r:=r) d.own (d.free s)
     have sf:=ZqF (k:=d.n) (r:=s) d.free (d.own r)
     have gr5:=Zde I (d.ex r s).v hr
     have u1:=ap.pO
     have u2:=ap.pFr
     have u3:=ap.OFr
     have u4:=ap.OFr.symm
     by_cases h4:d.g s=0
     ·rw[decide_eq_true h4]at k2
      refine aGoM (cj4 Zr hp2 hG2 (cj4 gg s0 hO2 (cj4 hF2 go gf (cj4 so sf u1 (cj4 u2 u3 u4 (cj3 r0 h2 Yb0)))))) ?_
      repeat with_reducible intro K hK
      refine⟨Nat.lt_of_lt_of_le (lt _ (.inr (.inr (.inr (.inl rfl))))) hnx2,Nat.lt_of_lt_of_le (lt _ (.inr (.inr (.inr (.inr (.inl rfl)))))) hnx2,?_⟩
      with_reducible apply useE
      with_reducible assumption
      exact ZlK (sel3 I.p I.O I.Fr) 3 ZxP rfl (ZpZ u1 u2 u3) (by decide) (by kernel_rfl)
      exact Zaz rfl
      refine aGoM Zr ?_
      refine⟨ZpN (by rw[Zxf h4];exact hE') ap,fun id g1 g2=>?_⟩
      rw[if_neg (fun e=>g2 (.inr (.inr (.inr (.inr (.inl e)))))),if_neg (fun e=>g2 (.inr (.inr (.inr (.inl e)))))]
      exact hfr2 id g1 g2
     ·rw[decide_eq_false h4]at k2
      have v1:=ap.pG
      have v2:=ap.RG
      have v3:=ap.AG r hr
      have v4:=v3.symm
      have v5:=ap.GO.symm
      have v6:=ap.GFr.symm
      refine aGoM (cj4 Zr hp2 hG2 (cj4 gg s0 hO2 (cj4 hF2 go gf (cj4 hR2 hA2 gr5 (cj4 u2 u3 u4 (cj4 r0 h2 Yb0 (cj4 v1 v2 v3 v4))))))) ?_
      repeat with_reducible intro K hK
      refine Za3 (ZxN d.n s I.G (I.A r) d.g ((d.ex r s).a r) _ _ hn hs v4 hG2 hA2 (Nat.lt_of_lt_of_le (lt _ (.inr (.inr (.inl rfl)))) hnx2) (fun j hj=>by have:=sz.g j hj;omega) (fun j hj=>by have:=zx.a r j hr hj;omega)) ?_
      rw[ZvO]
      refine aGoM (cj4 Zr hp2 hG2 (cj4 gg s0 hO2 (cj4 hF2 go gf (cj4 so sf u1 (cj4 u2 u3 u4 (cj4 r0 h2 Yb0 (cj4 v1 v5 v6 trivial))))))) ?_
      repeat with_reducible intro K hK
      refine⟨Nat.lt_of_lt_of_le (lt _ (.inr (.inr (.inr (.inl rfl))))) hnx2,Nat.lt_of_lt_of_le (lt _ (.inr (.inr (.inr (.inr (.inl rfl)))))) hnx2,?_⟩
      with_reducible apply useE
      with_reducible assumption
      exact ZlK (sel3 I.p I.O I.Fr) 3 ZxP rfl (ZpZ u1 u2 u3) (by decide) (by kernel_rfl)
      exact Zaz rfl
      refine aGoM Zr ?_
      refine⟨ZpN (hE'.setG ap (d.ex r s).g) ap,fun id g1 g2=>?_⟩
      rw[if_neg (fun e=>g2 (.inr (.inr (.inr (.inr (.inl e)))))),if_neg (fun e=>g2 (.inr (.inr (.inr (.inl e))))),if_neg (fun e=>g2 (.inr (.inr (.inl e))))]
      exact hfr2 id g1 g2
inductive Out where
 | best
 | row (r:Nat)
 | col (s:Nat)
 | ex (r s:Nat)
def Zbp(d:Dic)(r:Nat):Out:=match pick d.free (fun j=>neg' (d.a r j)) d.n with
 | none=>.row r
 | some s=>.ex r s
def Zbs(d:Dic)(s:Nat):Out:=match pick d.own (fun i=>pos' (d.a i s)) d.m with
 | none=>.col s
 | some r=>.ex r s
def next(d:Dic):Out:=match pick d.own (fun i=>neg' (d.v i)) d.m,pick d.free (fun j=>pos' (d.g j)) d.n with
 | none,none=>.best
 | some r,none=>Zbp d r
 | some r,some s=>if d.own r<d.free s then Zbp d r else Zbs d s
 | none,some s=>Zbs d s
theorem ZlV{p:Rat→Bool}{q:Rat→Prop}(h:∀ r,p r=true↔q r){r:Rat}(hp:p r=false):¬ q r:=fun hq=>by rw[(h r).2 hq]at hp;cases hp
theorem Zql{d:Dic}{r s:Nat}(hr:pick d.own (fun i=>neg' (d.v i)) d.m=some r)(hg:∀ j,j<d.n→0<d.g j→d.own r<d.free j)(h:Zbp d r = .ex r s):d.Step r s:=by
 unfold Zbp at h
 split at h
 ·cases h
 ·rename_i s' hs
  cases h
  obtain⟨h1,h2,h3⟩:=ZaT hr
  obtain⟨g1,g2,g3⟩:=ZaT hs
  exact .inl ⟨h1,g1,(ZfL _).1 h2,fun i hi hv=>h3 i hi ((ZfL _).2 hv),hg,(ZfL _).1 g2,fun j hj ha=>g3 j hj ((ZfL _).2 ha)⟩
theorem Zqm{d:Dic}{r s:Nat}(hs:pick d.free (fun j=>pos' (d.g j)) d.n=some s)(hv:∀ i,i<d.m→d.v i<0→d.free s<d.own i)(h:Zbs d s = .ex r s):d.Step r s:=by
 unfold Zbs at h
 split at h
 ·cases h
 ·rename_i r' hr
  cases h
  obtain⟨h1,h2,h3⟩:=ZaT hr
  obtain⟨g1,g2,g3⟩:=ZaT hs
  exact .inr ⟨h1,g1,(ZfH _).1 g2,fun j hj hg=>g3 j hj ((ZfH _).2 hg),hv,(ZfH _).1 h2,fun i hi ha=>h3 i hi ((ZfH _).2 ha)⟩
theorem ZkS{d:Dic}{r r' s:Nat}(h:Zbp d r = .ex r' s):r'=r:=by
 unfold Zbp at h;split at h<;>cases h;rfl
theorem Zlq{d:Dic}{s r s':Nat}(h:Zbs d s = .ex r s'):s'=s:=by
 unfold Zbs at h;split at h<;>cases h;rfl
theorem ZdQ{d:Dic}(hP:d.Part){r s:Nat}(h:next d = .ex r s):d.Step r s:=by
 unfold next at h
 split at h
 ·cases h
 ·rename_i r0 hr hs
  obtain rfl:=ZkS h
  exact Zql hr (fun j hj hg=>absurd hg (ZlV ZfH (Zdi hs j hj))) h
 ·rename_i r0 s0 hr hs
  split at h
  ·rename_i hlt
   obtain rfl:=ZkS h
   exact Zql hr (fun j hj hg=>Nat.lt_of_lt_of_le hlt ((ZaT hs).2.2 j hj ((ZfH _).2 hg))) h
  ·rename_i hlt
   obtain rfl:=Zlq h
   refine Zqm hs (fun i hi hv=>?_) h
   have h1:=(ZaT hr).2.2 i hi ((ZfL _).2 hv)
   have h2:=hP.apart i s hi (ZaT hs).1
   omega
 ·rename_i s0 hr hs
  obtain rfl:=Zlq h
  exact Zqm hs (fun i hi hv=>absurd hv (ZlV ZfL (Zdi hr i hi))) h
def iter(d:Dic):Dic:=match next d with
 | .ex r s=>d.ex r s
 | _=>d
def Zgx(d:Dic):Prop:=∀ r s,next d ≠ .ex r s
def Zen:Nat→Dic→Dic
 | 0,d=>d
 | k+1,d=>Zen k (iter d)
theorem Zka{d:Dic}{r s:Nat}(h:next d = .ex r s):iter d=d.ex r s:=by unfold iter;rw[h]
theorem Zld{d:Dic}(h:Zgx d):iter d=d:=by
 unfold iter;split
 ·rename_i r s hn;exact absurd hn (h r s)
 ·rfl
theorem Zj8{d:Dic}(h:Zgx d):∀ k,Zen k d=d
 | 0=>rfl
 | k+1=>by rw[Zen,Zld h,Zj8 h k]
theorem ZeM(d:Dic):∀ k,Zen (k+1) d=iter (Zen k d)
 | 0=>rfl
 | k+1=>by rw[Zen,ZeM (iter d) k];rfl
theorem Zt1{d:Dic}(h:¬ Zgx d):∃ r s,next d = .ex r s:=by
 unfold Zgx at h
 exact Classical.byContradiction fun hn=>h fun r s e=>hn ⟨r,s,e⟩
theorem Zj9{d:Dic}(h:d.Part):(iter d).Part:=by
 unfold iter;split
 ·rename_i r s hn;have:=ZdQ h hn;exact Dic.ex_part h this.hr this.hs
 ·exact h
theorem Zgc{d:Dic}(h:d.Part):∀ k,(Zen k d).Part
 | 0=>h
 | k+1=>by rw[ZeM];exact Zj9 (Zgc h k)
theorem ZhF{d:Dic}(h:d.Part):∃ k,Zgx (Zen k d):=by
 refine Classical.byContradiction fun hn=>?_
 have hno:∀ k,∃ r s,next (Zen k d) = .ex r s:=fun k=>Zt1 fun he=>hn ⟨k,he⟩
 have run:Dic.Run (2^(d.n+d.m)) (fun k=>Zen k d) (fun k=>Classical.choose (hno k)) (fun k=>Classical.choose (Classical.choose_spec (hno k))):=by
  refine⟨h,fun k _=>?_,fun k _=>?_⟩
  ·exact ZdQ (Zgc h k) (Classical.choose_spec (Classical.choose_spec (hno k)))
  ·show Zen (k+1) d=_
   rw[ZeM]
   exact Zka (Classical.choose_spec (Classical.choose_spec (hno k)))
 have:=run.short
 simp only[Zen]at this
 omega
noncomputable def left (d:Dic):Nat:=Zj3 fun k=>Zgx (Zen k d)
noncomputable def Zfd (d:Dic):Dic:=Zen (left d) d
theorem ZfM{d:Dic}(h:d.Part){r s:Nat}(hn:next d = .ex r s):left (d.ex r s)<left d:=by
 have h1:=(Zcb (ZhF h)).1
 have h2:=Zcb (ZhF (d:=d.ex r s) (by rw[← Zka hn];exact Zj9 h))
 unfold left
 cases hk:Zj3 fun k=>Zgx (Zen k d)with
 | zero=>rw[hk]at h1;exact absurd hn (h1 r s)
 | succ k =>
   rw[hk,Zen,Zka hn]at h1
   have:=h2.2 k h1
   omega
theorem ZgV{d:Dic}(h:d.Part):Zgx (Zfd d):=(Zcb (ZhF h)).1
theorem Zgg{d:Dic}(h:d.Part){r s:Nat}(hn:next d = .ex r s):Zfd (d.ex r s)=Zfd d:=by
 have hP:(d.ex r s).Part:=by rw[← Zka hn];exact Zj9 h
 have h1:=ZfM h hn
 have h2:=ZgV hP
 have h3:=ZgV h
 unfold Zfd at h2 h3 ⊢
 have e1:left d=(left d-1)+1:=by omega
 rw[e1,Zen,Zka hn]at h3 ⊢
 have h4:=(Zcb (ZhF hP)).2 (left d-1) h3
 have h5:left (d.ex r s)≤left d-1:=h4
 have:∀ j k,j≤k→Zgx (Zen j (d.ex r s))→Zen k (d.ex r s)=Zen j (d.ex r s):=by
  intro j k hjk he
  induction k with
  | zero => obtain rfl : j = 0 := by omega
            rfl
  | succ k ih =>
    by_cases e:j=k+1
    ·subst e;rfl
    ·rw[ZeM,ih (by omega),Zld he]
 exact(this _ _ h5 h2).symm
theorem ZeR{d:Dic}(h:d.Part)(he:Zgx d):Zfd d=d:=Zj8 he _
theorem Zlc{d:Dic}(h:d.Part):∀ k,Dic.Same d (Zen k d)
 | 0=>Dic.Same.refl d
 | k+1=>by
   rw[ZeM]
   refine(Zlc h k).trans ?_
   unfold iter;split
   ·rename_i r s hn
    have:=ZdQ (Zgc h k) hn
    exact Dic.ex_same this.hr this.hs this.ne
   ·exact Dic.Same.refl _
theorem Zsj{d:Dic}(h:d.Part):(Zfd d).Part:=Zgc h _
theorem Zgh{d:Dic}(h:d.Part):Dic.Same d (Zfd d):=Zlc h _
set_option maxHeartbeats 32000000
def Zkl:Out→D
 | .best=>.tup [dI (-1),dI (-1)]
 | .row r=>.tup [dI r,dI (-1)]
 | .col s=>.tup [dI (-1),dI s]
 | .ex _ _=>.junk
theorem Zp1[Ifl]{I:Ids}{d0:Dic}{src:Nat→Nat×Bool}{m:Mem}{nx:Nat}(h:Za2 m I d0 src)(ap:Zgz I d0.m)(hf:d0.First)(hm:(d0.m:Int)≤4096)(hn:(d0.n:Int)≤4096)
 {B t:Nat} (hB1:1≤B) (hB:(Dic.grow B t:Int)≤536870912) (ht:d0.n≤t∨d0.m≤t) (sz:d0.Sized szQ B) :
 Zar Tryz.prog 109 [.lp I.p 0 0 0] m nx fun d' m' nx'=>d'=Zkl (next (Zfd d0))∧nx≤nx'∧Za2 m' I (Zfd d0) src∧∀ id,id<nx→¬ inD I d0.m id→m' id=m id:=by
 refine Zar.cl ⟨_,_,Tryz.func109,rfl,by kernel_rfl⟩ fun hcl=>?_
 have Zr:=Tryz.results109
 refine inA Tryz.func109 rfl Tryz.ntmps109 ?_
 have lt:∀ id,inD I d0.m id→id<nx:=fun id hi=>h.lt hcl hi
 refine aGoM (cj2 Zr ZaP) ?_
 repeat with_reducible intro K hK
 refine ZcJ (fun(_:Dic)=>[(1,.lp nx 0 0 0)]) nx (fun E m1 nx1=>E.Part∧Dic.Same d0 E∧Zfd E=Zfd d0∧Za2 m1 I E src∧m1 nx=some (bxB 182 I.p)∧nx<nx1∧∀ id,id<nx→¬ inD I d0.m id→m1 id=m id) left d0 ?_ ?_ ?_ ?_
 ·exact⟨hf.part,Dic.Same.refl _,rfl,h.new fun id hi=>by have:=lt id hi;omega,Zac _ _ _,Nat.lt_succ_self _,fun id h1 _=>Zab _ _ (by omega)⟩
 ·rfl
 ·simp[go_sem]
 ·rintro E m1 nx1 ⟨hP,hS,hfin,hD,hbx,hnx,hfr⟩
  have eM:=hS.m
  have eN:=hS.n
  have lt1:∀ id,inD I E.m id→id<nx1:=fun id hi=>by rw[← eM]at hi;have:=lt id hi;omega
  have hp:=hD.hp
  have hO:=hD.hO
  have hF:=hD.hFr
  have lO:=lt1 _ (.inr (.inr (.inr (.inl rfl))))
  have lF:=lt1 _ (.inr (.inr (.inr (.inr (.inl rfl)))))
  refine aGoM (cj4 Zr ZaP hp (cj2 hO hbx)) ?_
  repeat with_reducible intro K hK
  refine ZaD (Zid E.m E.own (fun i=>neg' (E.v i)) I.O I.vO _ [.lp nx 0 0 0] _ _ (by omega) hO lO fun i hi m' nx' hn' hf'=>s1_a (hD.keep fun id hid=>hf' id (lt1 id hid)) ((hf' nx hnx).trans hbx) hi) ?_
  rintro _ m2 nx2 ⟨rfl,hn2,hf2⟩
  have hD2:Za2 m2 I E src:=hD.keep fun id hid=>hf2 id (lt1 id hid)
  have hbx2:=(hf2 nx hnx).trans hbx
  obtain⟨pr,hpr⟩:∃ pr,pick E.own (fun i=>neg' (E.v i)) E.m=pr:=⟨_,rfl⟩
  rw[hpr]
  have q1:nx≠nx2:=by omega
  have q2:I.p≠nx2:=by have:=lt1 _ (.inl rfl);omega
  have q3:I.Fr≠nx2:=by omega
  have ne2:∀ id,inD I E.m id→id≠nx2:=fun id hid=>by have:=lt1 id hid;omega
  refine aGoM (cj4 Zr ZaP hD2.hp (cj4 hD2.hFr hbx2 q1 (cj2 q2 q3))) ?_
  repeat with_reducible intro K hK
  have hD2':=(hD2.new (x:=nx2) (b:=some (nB 0)) ne2).new (x:=nx2) (b:=some (nB (oI pr))) ne2
  refine ZaD (Zid E.n E.free (fun j=>pos' (E.g j)) I.Fr I.vFr _ [.lp nx 0 0 0] _ _ (by omega) hD2'.hFr (by omega) fun i hi m' nx' hn' hf'=>s2_a (hD2'.keep fun id hid=>hf' id (by have:=lt1 id hid;omega)) ((hf' nx (by omega)).trans ((Zab _ _ q1).trans ((Zab _ _ q1).trans hbx2))) hi) ?_
  rintro _ m3 nx3 ⟨rfl,hn3,hf3⟩
  have hD3:Za2 m3 I E src:=hD2'.keep fun id hid=>hf3 id (by have:=lt1 id hid;omega)
  have hbx3:m3 nx=some (bxB 182 I.p):=(hf3 nx (by omega)).trans ((Zab _ _ q1).trans ((Zab _ _ q1).trans hbx2))
  have hr3:m3 nx2=some (nB (oI pr)):=(hf3 nx2 (by omega)).trans (Zac _ _ _)
  have hfr3:∀ id,id<nx→¬ inD I d0.m id→m3 id=m id:=fun id h1 h2=>(hf3 id (by omega)).trans ((Zab _ _ (by omega)).trans ((Zab _ _ (by omega)).trans ((hf2 id (by omega)).trans (hfr id h1 h2))))
  obtain⟨ps,hps⟩:∃ ps,pick E.free (fun j=>pos' (E.g j)) E.n=ps:=⟨_,rfl⟩
  rw[hps]
  have r1:nx≠nx3:=by omega
  have r2:nx2≠nx3:=by omega
  have r3:I.p≠nx3:=by have:=lt1 _ (.inl rfl);omega
  have r4:I.O≠nx3:=by omega
  have r5:I.Fr≠nx3:=by omega
  have r6:nx3≠nx:=by omega
  have r7:nx3≠nx2:=by omega
  have r8:nx2≠nx:=by omega
  have ne3:∀ id,inD I E.m id→id≠nx3:=fun id hid=>by have:=lt1 id hid;omega
  have hp3:=hD3.hp
  have hO3:=hD3.hO
  have hF3:=hD3.hFr
  have oN:oI none = -1:=rfl
  have oS:∀ a,oI (some a)=a:=fun _=>rfl
  have lO3:I.O<nx3:=by omega
  have lF3:I.Fr<nx3:=by omega
  have f0:=cj4 Zr ZaP hp3 (cj4 hO3 hF3 hbx3 (cj4 hr3 r1 r2 (cj4 r3 r4 r5 (cj3 r6 r7 r8))))
  cases pr with
  | none =>
    cases ps with
    | none =>
      have hnext:next E = .best:=by unfold next;rw[hpr,hps]
      have hend:Zgx E:=fun r s e=>by rw[hnext]at e;cases e
      have hfE:Zfd d0=E:=hfin.symm.trans (ZeR hP hend)
      have z1:(-1:Int)<0:=by decide
      refine aGoM (cj3 f0 oN z1) ?_
      rw[hfE,hnext]
      refine⟨rfl,by omega,(hD3.new ne3).new ne3,fun id h1 h2=>?_⟩
      rw[if_neg (by omega),if_neg (by omega)]
      exact hfr3 id h1 h2
    | some s =>
      have z0:(-1:Int)<0:=by decide
      have z2:¬ (-1:Int)≥0:=by decide
      have z3:¬ (s:Int)<0:=by omega
      refine aGoM (cj4 f0 oN oS (cj3 z0 z2 z3)) ?_
      repeat with_reducible intro K hK
      have hsn:=(ZaT hps).1
      have hD4:=(hD3.new (x:=nx3) (b:=some (nB 0)) ne3).new (x:=nx3) (b:=some (nB s)) ne3
      refine ZaD (Zid E.m E.own (fun i=>pos' (E.a i s)) I.O I.vO _ [.lp nx 0 0 0,.lp nx3 0 0 0] _ _ (by omega) hD4.hO (by omega) fun i hi m' nx' hn' hf'=>s4_a (hD4.keep fun id hid=>hf' id (by have:=lt1 id hid;omega)) ((hf' nx (by omega)).trans ((Zab _ _ r1).trans ((Zab _ _ r1).trans hbx3))) hsn ((hf' nx3 (by omega)).trans (Zac _ _ _)) hi) ?_
      rintro _ m4 nx4 ⟨rfl,hn4,hf4⟩
      have hD4':Za2 m4 I E src:=hD4.keep fun id hid=>hf4 id (by have:=lt1 id hid;omega)
      have hbx4:m4 nx=some (bxB 182 I.p):=(hf4 nx (by omega)).trans ((Zab _ _ r1).trans ((Zab _ _ r1).trans hbx3))
      have hr4:m4 nx2=some (nB (-1)):=(hf4 nx2 (by omega)).trans ((Zab _ _ r2).trans ((Zab _ _ r2).trans hr3))
      have hs4:m4 nx3=some (nB s):=(hf4 nx3 (by omega)).trans (Zac _ _ _)
      have hfr4:∀ id,id<nx→¬ inD I d0.m id→m4 id=m id:=fun id h1 h2=>(hf4 id (by omega)).trans ((Zab _ _ (by omega)).trans ((Zab _ _ (by omega)).trans (hfr3 id h1 h2)))
      obtain⟨pq,hpq⟩:∃ pq,pick E.own (fun i=>pos' (E.a i s)) E.m=pq:=⟨_,rfl⟩
      rw[hpq]
      have hD5:=hD4'.new (x:=nx2) (b:=some (nB (oI pq))) ne2
      have hbx5:(upd m4 nx2 (some (nB (oI pq)))) nx=some (bxB 182 I.p):=(Zab _ _ q1).trans hbx4
      have hfr5:∀ id,id<nx→¬ inD I d0.m id→(upd m4 nx2 (some (nB (oI pq)))) id=m id:=fun id h1 h2=>(Zab _ _ (by omega)).trans (hfr4 id h1 h2)
      have hcol:next E=Zbs E s:=by unfold next;rw[hpr,hps]
      cases pq with
      | none =>
        have hnext:next E = .col s:=by rw[hcol];unfold Zbs;rw[hpq]
        have hend:Zgx E:=fun r s e=>by rw[hnext]at e;cases e
        have hfE:Zfd d0=E:=hfin.symm.trans (ZeR hP hend)
        have z1:(-1:Int)<0:=by decide
        refine aGoM (cj4 Zr hs4 hr4 (cj4 oN z1 r2 (cj2 r7 oS))) ?_
        rw[hfE,hnext]
        refine⟨rfl,by omega,hD5,fun id h1 h2=>?_⟩
        rw[if_neg (by omega)]
        exact hfr4 id h1 h2
      | some r =>
        have hnext:next E = .ex r s:=by rw[hcol];unfold Zbs;rw[hpq]
        have z1:¬ (r:Int)<0:=by omega
        refine aGoM (cj4 Zr hs4 hr4 (cj4 oS z1 r2 (cj4 r7 hbx4 ZaP (cj2 q1 r8)))) ?_
        repeat with_reducible intro K hK
        have hst:=ZdQ hP hnext
        have zE:=Dic.small szFn hf hB1 sz hP hS (t:=t) (by omega)
        refine ZaD (Zgi hD5 (eM▸ap) hst.hr hst.hs hst.ne (by omega) (by omega) (Dic.grow_pos hB1 t) hB zE) ?_
        rintro _ m6 nx6 ⟨rfl,hn6,hD6,hf6⟩
        refine aGoM (cj2 Zr ZaP) ?_
        repeat with_reducible intro K hK
        have hnin:∀ id,nx≤id→¬ inD I E.m id:=fun id h1 h2=>by have:=lt id (by rw[eM];exact h2);omega
        refine Zam (E.ex r s) ⟨Dic.ex_part hP hst.hr hst.hs,hS.trans (Dic.ex_same hst.hr hst.hs hst.ne),(Zgg hP hnext).trans hfin,hD6,?_,?_,fun id h1 h2=>?_⟩ (ZfM hP hnext) rfl (by simp[go_sem])
        ·exact(hf6 nx (by omega) (hnin nx (Ya4 _))).trans hbx5
        ·show nx<nx6;omega
        ·exact(hf6 id (by omega) (by rw[← eM];exact h2)).trans (hfr5 id h1 h2)
  | some r =>
    have hrm:=(ZaT hpr).1
    have go:=ZbA (fun i=>[dI (E.own i)]) hrm
    have z0:¬ (r:Int)<0:=by omega
    have z1:(r:Int)≥0:=by omega
    have z4:(0:Int)≤r:=by omega
    cases ps with
    | none =>
      have z5:(-1:Int)<0:=by decide
      refine aGoM (cj4 f0 oN oS (cj4 z0 z1 z4 z5)) ?_
      repeat with_reducible intro K hK
      have hrm:=(ZaT hpr).1
      have hD4:=(hD3.new (x:=nx3) (b:=some (nB 0)) ne3).new (x:=nx3) (b:=some (nB (-1))) ne3
      refine ZaD (Zid E.n E.free (fun j=>neg' (E.a r j)) I.Fr I.vFr _ [.lp nx 0 0 0,.lp nx2 0 0 0] _ _ (by omega) hD4.hFr (by omega) fun i hi m' nx' hn' hf'=>s3_a (hD4.keep fun id hid=>hf' id (by have:=lt1 id hid;omega)) ((hf' nx (by omega)).trans ((Zab _ _ r1).trans ((Zab _ _ r1).trans hbx3))) hrm ((hf' nx2 (by omega)).trans ((Zab _ _ r2).trans ((Zab _ _ r2).trans hr3))) hi) ?_
      rintro _ m4 nx4 ⟨rfl,hn4,hf4⟩
      have hD4':Za2 m4 I E src:=hD4.keep fun id hid=>hf4 id (by have:=lt1 id hid;omega)
      have hbx4:m4 nx=some (bxB 182 I.p):=(hf4 nx (by omega)).trans ((Zab _ _ r1).trans ((Zab _ _ r1).trans hbx3))
      have hr4:m4 nx2=some (nB r):=(hf4 nx2 (by omega)).trans ((Zab _ _ r2).trans ((Zab _ _ r2).trans hr3))
      have hs4:m4 nx3=some (nB (-1)):=(hf4 nx3 (by omega)).trans (Zac _ _ _)
      have hfr4:∀ id,id<nx→¬ inD I d0.m id→m4 id=m id:=fun id h1 h2=>(hf4 id (by omega)).trans ((Zab _ _ (by omega)).trans ((Zab _ _ (by omega)).trans (hfr3 id h1 h2)))
      obtain⟨pq,hpq⟩:∃ pq,pick E.free (fun j=>neg' (E.a r j)) E.n=pq:=⟨_,rfl⟩
      rw[hpq]
      have hD5:=hD4'.new (x:=nx3) (b:=some (nB (oI pq))) ne3
      have hbx5:(upd m4 nx3 (some (nB (oI pq)))) nx=some (bxB 182 I.p):=(Zab _ _ r1).trans hbx4
      have hfr5:∀ id,id<nx→¬ inD I d0.m id→(upd m4 nx3 (some (nB (oI pq)))) id=m id:=fun id h1 h2=>(Zab _ _ (by omega)).trans (hfr4 id h1 h2)
      have hrow:next E=Zbp E r:=by unfold next;rw[hpr,hps]
      cases pq with
      | none =>
        have hnext:next E = .row r:=by rw[hrow];unfold Zbp;rw[hpq]
        have hend:Zgx E:=fun r s e=>by rw[hnext]at e;cases e
        have hfE:Zfd d0=E:=hfin.symm.trans (ZeR hP hend)
        have z1:(-1:Int)<0:=by decide
        refine aGoM (cj4 Zr hs4 hr4 (cj4 oN z1 r2 (cj2 r7 oS))) ?_
        rw[hfE,hnext]
        refine⟨rfl,by omega,hD5,fun id h1 h2=>?_⟩
        rw[if_neg (by omega)]
        exact hfr4 id h1 h2
      | some s =>
        have hnext:next E = .ex r s:=by rw[hrow];unfold Zbp;rw[hpq]
        have z1:¬ (s:Int)<0:=by omega
        refine aGoM (cj4 Zr hs4 hr4 (cj4 oS z1 r2 (cj4 r7 hbx4 ZaP (cj2 r1 r6)))) ?_
        repeat with_reducible intro K hK
        have hst:=ZdQ hP hnext
        have zE:=Dic.small szFn hf hB1 sz hP hS (t:=t) (by omega)
        refine ZaD (Zgi hD5 (eM▸ap) hst.hr hst.hs hst.ne (by omega) (by omega) (Dic.grow_pos hB1 t) hB zE) ?_
        rintro _ m6 nx6 ⟨rfl,hn6,hD6,hf6⟩
        refine aGoM (cj2 Zr ZaP) ?_
        repeat with_reducible intro K hK
        have hnin:∀ id,nx≤id→¬ inD I E.m id:=fun id h1 h2=>by have:=lt id (by rw[eM];exact h2);omega
        refine Zam (E.ex r s) ⟨Dic.ex_part hP hst.hr hst.hs,hS.trans (Dic.ex_same hst.hr hst.hs hst.ne),(Zgg hP hnext).trans hfin,hD6,?_,?_,fun id h1 h2=>?_⟩ (ZfM hP hnext) rfl (by simp[go_sem])
        ·exact(hf6 nx (by omega) (hnin nx (Ya4 _))).trans hbx5
        ·show nx<nx6;omega
        ·exact(hf6 id (by omega) (by rw[← eM];exact h2)).trans (hfr5 id h1 h2)
    | some s =>
      have hsn:=(ZaT hps).1
      have gf:=ZbA (fun i=>[dI (E.free i)]) hsn
      have z2:¬ (s:Int)<0:=by omega
      have z3:(0:Int)≤s:=by omega
      by_cases hlt:E.own r<E.free s
      ·have hlt':(E.own r:Int)<E.free s:=by omega
       refine aGoM (cj4 f0 oS go (cj4 z0 z1 z4 (cj4 gf z2 z3 hlt'))) ?_
       repeat with_reducible intro K hK
       have hrm:=(ZaT hpr).1
       have hD4:=(hD3.new (x:=nx3) (b:=some (nB 0)) ne3).new (x:=nx3) (b:=some (nB s)) ne3
       refine ZaD (Zid E.n E.free (fun j=>neg' (E.a r j)) I.Fr I.vFr _ [.lp nx 0 0 0,.lp nx2 0 0 0] _ _ (by omega) hD4.hFr (by omega) fun i hi m' nx' hn' hf'=>s3_a (hD4.keep fun id hid=>hf' id (by have:=lt1 id hid;omega)) ((hf' nx (by omega)).trans ((Zab _ _ r1).trans ((Zab _ _ r1).trans hbx3))) hrm ((hf' nx2 (by omega)).trans ((Zab _ _ r2).trans ((Zab _ _ r2).trans hr3))) hi) ?_
       rintro _ m4 nx4 ⟨rfl,hn4,hf4⟩
       have hD4':Za2 m4 I E src:=hD4.keep fun id hid=>hf4 id (by have:=lt1 id hid;omega)
       have hbx4:m4 nx=some (bxB 182 I.p):=(hf4 nx (by omega)).trans ((Zab _ _ r1).trans ((Zab _ _ r1).trans hbx3))
       have hr4:m4 nx2=some (nB r):=(hf4 nx2 (by omega)).trans ((Zab _ _ r2).trans ((Zab _ _ r2).trans hr3))
       have hs4:m4 nx3=some (nB s):=(hf4 nx3 (by omega)).trans (Zac _ _ _)
       have hfr4:∀ id,id<nx→¬ inD I d0.m id→m4 id=m id:=fun id h1 h2=>(hf4 id (by omega)).trans ((Zab _ _ (by omega)).trans ((Zab _ _ (by omega)).trans (hfr3 id h1 h2)))
       obtain⟨pq,hpq⟩:∃ pq,pick E.free (fun j=>neg' (E.a r j)) E.n=pq:=⟨_,rfl⟩
       rw[hpq]
       have hD5:=hD4'.new (x:=nx3) (b:=some (nB (oI pq))) ne3
       have hbx5:(upd m4 nx3 (some (nB (oI pq)))) nx=some (bxB 182 I.p):=(Zab _ _ r1).trans hbx4
       have hfr5:∀ id,id<nx→¬ inD I d0.m id→(upd m4 nx3 (some (nB (oI pq)))) id=m id:=fun id h1 h2=>(Zab _ _ (by omega)).trans (hfr4 id h1 h2)
       have hrow:next E=Zbp E r:=by unfold next;rw[hpr,hps];exact if_pos hlt
       cases pq with
       | none =>
         have hnext:next E = .row r:=by rw[hrow];unfold Zbp;rw[hpq]
         have hend:Zgx E:=fun r s e=>by rw[hnext]at e;cases e
         have hfE:Zfd d0=E:=hfin.symm.trans (ZeR hP hend)
         have z1:(-1:Int)<0:=by decide
         refine aGoM (cj4 Zr hs4 hr4 (cj4 oN z1 r2 (cj2 r7 oS))) ?_
         rw[hfE,hnext]
         refine⟨rfl,by omega,hD5,fun id h1 h2=>?_⟩
         rw[if_neg (by omega)]
         exact hfr4 id h1 h2
       | some s' =>
         have hnext:next E = .ex r s':=by rw[hrow];unfold Zbp;rw[hpq]
         have z1:¬ (s':Int)<0:=by omega
         refine aGoM (cj4 Zr hs4 hr4 (cj4 oS z1 r2 (cj4 r7 hbx4 ZaP (cj2 r1 r6)))) ?_
         repeat with_reducible intro K hK
         have hst:=ZdQ hP hnext
         have zE:=Dic.small szFn hf hB1 sz hP hS (t:=t) (by omega)
         refine ZaD (Zgi hD5 (eM▸ap) hst.hr hst.hs hst.ne (by omega) (by omega) (Dic.grow_pos hB1 t) hB zE) ?_
         rintro _ m6 nx6 ⟨rfl,hn6,hD6,hf6⟩
         refine aGoM (cj2 Zr ZaP) ?_
         repeat with_reducible intro K hK
         have hnin:∀ id,nx≤id→¬ inD I E.m id:=fun id h1 h2=>by have:=lt id (by rw[eM];exact h2);omega
         refine Zam (E.ex r s') ⟨Dic.ex_part hP hst.hr hst.hs,hS.trans (Dic.ex_same hst.hr hst.hs hst.ne),(Zgg hP hnext).trans hfin,hD6,?_,?_,fun id h1 h2=>?_⟩ (ZfM hP hnext) rfl (by simp[go_sem])
         ·exact(hf6 nx (by omega) (hnin nx (Ya4 _))).trans hbx5
         ·show nx<nx6;omega
         ·exact(hf6 id (by omega) (by rw[← eM];exact h2)).trans (hfr5 id h1 h2)
      ·have hlt':¬ (E.own r:Int)<E.free s:=by omega
       refine aGoM (cj4 f0 oS go (cj4 z0 z1 z4 (cj4 gf z2 z3 hlt'))) ?_
       repeat with_reducible intro K hK
       have hsn:=(ZaT hps).1
       have hD4:=(hD3.new (x:=nx3) (b:=some (nB 0)) ne3).new (x:=nx3) (b:=some (nB s)) ne3
       refine ZaD (Zid E.m E.own (fun i=>pos' (E.a i s)) I.O I.vO _ [.lp nx 0 0 0,.lp nx3 0 0 0] _ _ (by omega) hD4.hO (by omega) fun i hi m' nx' hn' hf'=>s4_a (hD4.keep fun id hid=>hf' id (by have:=lt1 id hid;omega)) ((hf' nx (by omega)).trans ((Zab _ _ r1).trans ((Zab _ _ r1).trans hbx3))) hsn ((hf' nx3 (by omega)).trans (Zac _ _ _)) hi) ?_
       rintro _ m4 nx4 ⟨rfl,hn4,hf4⟩
       have hD4':Za2 m4 I E src:=hD4.keep fun id hid=>hf4 id (by have:=lt1 id hid;omega)
       have hbx4:m4 nx=some (bxB 182 I.p):=(hf4 nx (by omega)).trans ((Zab _ _ r1).trans ((Zab _ _ r1).trans hbx3))
       have hr4:m4 nx2=some (nB r):=(hf4 nx2 (by omega)).trans ((Zab _ _ r2).trans ((Zab _ _ r2).trans hr3))
       have hs4:m4 nx3=some (nB s):=(hf4 nx3 (by omega)).trans (Zac _ _ _)
       have hfr4:∀ id,id<nx→¬ inD I d0.m id→m4 id=m id:=fun id h1 h2=>(hf4 id (by omega)).trans ((Zab _ _ (by omega)).trans ((Zab _ _ (by omega)).trans (hfr3 id h1 h2)))
       obtain⟨pq,hpq⟩:∃ pq,pick E.own (fun i=>pos' (E.a i s)) E.m=pq:=⟨_,rfl⟩
       rw[hpq]
       have hD5:=hD4'.new (x:=nx2) (b:=some (nB (oI pq))) ne2
       have hbx5:(upd m4 nx2 (some (nB (oI pq)))) nx=some (bxB 182 I.p):=(Zab _ _ q1).trans hbx4
       have hfr5:∀ id,id<nx→¬ inD I d0.m id→(upd m4 nx2 (some (nB (oI pq)))) id=m id:=fun id h1 h2=>(Zab _ _ (by omega)).trans (hfr4 id h1 h2)
       have hcol:next E=Zbs E s:=by unfold next;rw[hpr,hps];exact if_neg hlt
       cases pq with
       | none =>
         have hnext:next E = .col s:=by rw[hcol];unfold Zbs;rw[hpq]
         have hend:Zgx E:=fun r s e=>by rw[hnext]at e;cases e
         have hfE:Zfd d0=E:=hfin.symm.trans (ZeR hP hend)
         have z1:(-1:Int)<0:=by decide
         refine aGoM (cj4 Zr hs4 hr4 (cj4 oN z1 r2 (cj2 r7 oS))) ?_
         rw[hfE,hnext]
         refine⟨rfl,by omega,hD5,fun id h1 h2=>?_⟩
         rw[if_neg (by omega)]
         exact hfr4 id h1 h2
       | some r' =>
         have hnext:next E = .ex r' s:=by rw[hcol];unfold Zbs;rw[hpq]
         have z1:¬ (r':Int)<0:=by omega
         refine aGoM (cj4 Zr hs4 hr4 (cj4 oS z1 r2 (cj4 r7 hbx4 ZaP (cj2 q1 r8)))) ?_
         repeat with_reducible intro K hK
         have hst:=ZdQ hP hnext
         have zE:=Dic.small szFn hf hB1 sz hP hS (t:=t) (by omega)
         refine ZaD (Zgi hD5 (eM▸ap) hst.hr hst.hs hst.ne (by omega) (by omega) (Dic.grow_pos hB1 t) hB zE) ?_
         rintro _ m6 nx6 ⟨rfl,hn6,hD6,hf6⟩
         refine aGoM (cj2 Zr ZaP) ?_
         repeat with_reducible intro K hK
         have hnin:∀ id,nx≤id→¬ inD I E.m id:=fun id h1 h2=>by have:=lt id (by rw[eM];exact h2);omega
         refine Zam (E.ex r' s) ⟨Dic.ex_part hP hst.hr hst.hs,hS.trans (Dic.ex_same hst.hr hst.hs hst.ne),(Zgg hP hnext).trans hfin,hD6,?_,?_,fun id h1 h2=>?_⟩ (ZfM hP hnext) rfl (by simp[go_sem])
         ·exact(hf6 nx (by omega) (hnin nx (Ya4 _))).trans hbx5
         ·show nx<nx6;omega
         ·exact(hf6 id (by omega) (by rw[← eM];exact h2)).trans (hfr5 id h1 h2)
section
variable [Ifl]
theorem Zr6{E:Env}{β:Bet}{m:Mem}{nx:Nat}{w:World}(hM:ZaK E β m nx w){id:Nat}{b:Blk}{es':List (List D)}(hb:m id=some b)(hl:es'.length=b.es.length)
 (hw:∀ (i:Nat)(e':List D),es'[i]? =some e'→∃ e,b.es[i]? =some e∧e'.length=e.length)
 (hc:∀ (i j:Nat)(d':D),cellAt es' i j=some d'→∃ d,cellAt b.es i j=some d∧∀ u,Rep β m (safe E β m) w u d→Rep β m (safe E β m) w u d') :
 ZaK E β (upd m id (some {b with es:=es'})) nx w∧Za7 β m w β (upd m id (some {b with es:=es'})) w∧Zaw (safe E β m) w (safe E β (upd m id (some {b with es:=es'}))) w:=by
 have hm:Za7 β m w β (upd m id (some {b with es:=es'})) w:=by
  refine⟨fun x y hx=>?_,fun _ _ h=>h⟩
  by_cases e:x=id
  ·subst e
   rw[hb]at hx;cases hx
   exact⟨_,Zac _ _ _,Ya4 _,fun _=>⟨rfl,hl,rfl⟩⟩
  ·exact⟨y,by rw[Zab _ _ e];exact hx,Ya4 _,fun _=>⟨rfl,rfl,rfl⟩⟩
 have hget:∀ x y,upd m id (some {b with es:=es'}) x=some y→∃ z,m x=some z∧y.T=z.T∧y.k=z.k∧y.es.length=z.es.length∧y.fz=z.fz∧y.dead=z.dead∧(y.es=z.es∨(z=b∧y.es=es')):=by
  intro x y hx
  by_cases e:x=id
  ·subst e;rw[Zac]at hx;cases hx;exact⟨b,hb,rfl,rfl,hl,rfl,rfl,.inr ⟨rfl,rfl⟩⟩
  ·rw[Zab _ _ e]at hx;exact⟨y,hx,rfl,rfl,rfl,rfl,rfl,.inl rfl⟩
 have hs:Zaw (safe E β m) w (safe E β (upd m id (some {b with es:=es'}))) w:=by
  intro c o u h1 h2
  refine⟨⟨h1.1,fun x y hx hy=>?_⟩,h2⟩
  obtain⟨z,hz,e1,e2,e3,e4,e5,_⟩:=hget x y hx
  rw[e4,e2,e5]
  exact h1.2 x z hz hy
 refine⟨⟨hM.below,?_,?_,?_,?_,?_,?_⟩,hm,hs⟩
 ·intro x y hx
  obtain⟨z,hz,_⟩:=hget x y hx
  exact hM.lt x z hz
 ·intro x y hx
  obtain⟨z,hz,e1,e2,e3,e4,_⟩:=hget x y hx
  rw[e3,e4];exact hM.fz x z hz
 ·intro x y hx i e he
  obtain⟨z,hz,e1,e2,e3,e4,e5,e6⟩:=hget x y hx
  rw[e2]
  rcases e6 with e6|⟨rfl,e6⟩
  ·rw[e6]at he;exact hM.wid x z hz i e he
  ·rw[e6]at he
   obtain⟨e0,h0,hlen⟩:=hw i e he
   rw[hlen];exact hM.wid x z hz i e0 h0
 ·intro x y hx hbx
  obtain⟨z,hz,e1,e2,e3,_⟩:=hget x y hx
  have:=hM.non x z hz hbx
  rw[this]at e3
  exact Ya9 e3
 ·intro x y c hx hbx
  obtain⟨z,hz,e1,e2,e3,e4,e5,e6⟩:=hget x y hx
  obtain⟨h3,cs',h4,h5,h6⟩:=hM.row x z c hz hbx
  rw[e1,e2,e3]
  refine⟨h3,cs',h4,h5,fun i j d hd=>?_⟩
  rcases e6 with e6|⟨rfl,e6⟩
  ·rw[e6]at hd
   obtain⟨u,h7,h8⟩:=h6 i j d hd
   exact⟨u,h7,h8.mono hm hs⟩
  ·rw[e6]at hd
   obtain⟨d0,h7,h70⟩:=hc i j d hd
   obtain⟨u,h8,h9⟩:=h6 i j d0 h7
   exact⟨u,h8,(h70 u h9).mono hm hs⟩
 ·intro x1 x2 y1 y2 c h1 h2 h3 h4
  obtain⟨z1,hz1,_⟩:=hget x1 y1 h1
  obtain⟨z2,hz2,_⟩:=hget x2 y2 h2
  exact hM.inj x1 x2 z1 z2 c hz1 hz2 h3 h4
theorem Zdz{s:St}(id i j T kk:Nat){b:Blk}{e:List D}(hb:s.m id=some b)(he:b.es[i]? =some e)(hj:e[j]? =some .nil) :
 StLe s ⟨s.t,upd (upd s.m s.nx (some ⟨T,0,kk,[],0,false⟩)) id (some {b with es:=b.es.set i (e.set j (.ls s.nx 0))}),s.nx+1,s.lo⟩:=by
 intro E B nn β a w h
 obtain⟨h1,h2,h3⟩:=Ze9 (id:=s.nx) (h.mem.mono_nx (Nat.le_succ _)) (Nat.lt_succ_self _) ⟨T,0,kk,[],0,false⟩ rfl rfl (.inl h.mem.none)
 have hne:id≠s.nx:=by have:=h.mem.lt id b hb;omega
 obtain⟨g1,g2,g3⟩:=Zr6 (id:=id) (b:=b) (es':=b.es.set i (e.set j (.ls s.nx 0))) h1 (by rw[Zab _ _ hne];exact hb) (by simp) (fun i' e' hi'=>by
  rw[List.getElem?_set]at hi'
  split at hi'
  ·rename_i hii
   subst hii
   split at hi'
   ·cases hi';exact⟨e,he,by simp⟩
   ·cases hi'
  ·exact⟨e',hi',rfl⟩) (fun i' j' d' hd'=>by
  obtain⟨e',he',hj'⟩:=Zak.1 hd'
  rw[List.getElem?_set]at he'
  split at he'
  ·rename_i hii
   subst hii
   split at he'
   ·cases he'
    rw[List.getElem?_set]at hj'
    split at hj'
    ·rename_i hjj
     subst hjj
     split at hj'
     ·cases hj'
      refine⟨.nil,Zak.2 ⟨e,he,hj⟩,fun u hu=>?_⟩
      rw[hu.inv_nil]
      exact .ls _ _ _ _ _ ⟨T,0,kk,[],0,false⟩ (Zac _ _ _) (Ya4 _) (fun _ _=>rfl) fun _=>⟨rfl,Ya4 _,Yb0 _,.inl ⟨Zac _ _ _,rfl,rfl⟩⟩
     ·cases hj'
    ·exact⟨d',Zak.2 ⟨e,he,hj'⟩,fun _ hu=>hu⟩
   ·cases he'
  ·exact⟨d',Zak.2 ⟨e',he',hj'⟩,fun _ hu=>hu⟩)
 exact⟨_,g1,fun k hk=>((h.tmp k hk).mono h2 h3).mono g2 g3,h.width,h.defers,(h.le.trans h2).trans g2,(h.sle.trans h3).trans g3,h.lo⟩
end
theorem ZnH{n:Int}:∀ (l:List Zag)(last:Int),goR n last l=true→∀ t∈l,last<t.v
 | [],_,_,t,h=>by cases h
 | u ::l,last,h,t,ht=>by
   have h':=ZaN.1 h
   rcases List.mem_cons.1 ht with rfl|ht
   ·exact h'.1
   ·have:=ZnH l u.v h'.2.2.2 t ht;omega
theorem Zlk{n:Int}:∀ (l:List Zag)(last:Int),goR n last l=true→∀ (i:Nat)(t:Zag),l[i]? =some t→dotS (indI t.v) (l.take i)=0
 | [],_,_,i,t,h=>by simp at h
 | u ::l,last,h,0,t,ht=>rfl
 | u ::l,last,h,i+1,t,ht=>by
   have h':=ZaN.1 h
   have h1:=Zlk l u.v h'.2.2.2 i t (by simpa using ht)
   have h2:=ZnH l u.v h'.2.2.2 t (Ya7 (by simpa using ht))
   rw[List.take_succ_cons]
   simp only[dotS,h1,indI,if_neg (show ¬ u.v=t.v by omega)];grind
theorem Zd1{l:List Zag}{n:Int}(h:Zai l n=true){i:Nat}{t:Zag}(ht:l[i]? =some t)(h0:0≤t.v):ZaU (l.take i) t.v.toNat=0:=by
 simp only[Zai,Ya2]at h
 unfold ZaU
 rw[show((t.v.toNat:Nat):Int)=t.v by omega]
 exact Zlk l (-1) h.2 i t ht
theorem ZeV{l:List Zag}{i:Nat}{t:Zag}(ht:l[i]? =some t)(h0:0≤t.v)(u:Nat):ZaU (l.take (i+1)) u=ZaU (l.take i) u+if u=t.v.toNat then qOf t.f else 0:=by
 unfold ZaU
 rw[Zfh ht]
 simp only[indI]
 by_cases e:u=t.v.toNat
 ·rw[if_pos e,if_pos (by omega)];grind
 ·rw[if_neg e,if_neg (by omega)];grind
theorem Zu3{l:List Zag}{n:Int}(h:Zai l n=true){i:Nat}{t:Zag}(ht:l[i]? =some t)(h0:0≤t.v):ZaU l t.v.toNat=qOf t.f:=by
 have h1:∀ k,i+1+k≤l.length→ZaU (l.take (i+1+k)) t.v.toNat=qOf t.f:=by
  intro k
  induction k with
  | zero=>intro _;rw[Nat.add_zero,ZeV ht h0,if_pos rfl,Zd1 h ht h0];grind
  | succ k ih =>
    intro hk
    obtain⟨u,hu⟩:=getE (l:=l) (k:=i+1+k) (by omega)
    have hu0:=(ZaY h (ZaJ hu)).1
    have hne:t.v.toNat≠u.v.toNat:=fun e=>by
     have hb:=Zd1 h hu hu0
     rw[← e,ih (by omega)]at hb
     exact(ZaY h (ZaJ ht)).2.2.2 hb
    rw[← Nat.add_assoc,ZeV hu hu0,if_neg hne,ih (by omega)];grind
 have hi:=(Ya3.1 ht).1
 have:=h1 (l.length-(i+1)) (by omega)
 rw[show i+1+(l.length-(i+1))=l.length by omega,Yc2]at this
 exact this
end Go.Proofs.YtiincpioidnciaaGreat
