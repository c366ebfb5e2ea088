/-
  The walk of a round's body as far as it goes, as one rule (as aGo).
-/
import Derived.Test.YtiincpioidnciaaGreatVConv
import Derived.Test.YtiincpioidnciaaGreatVT01
import Derived.Shelf.Sort.Plain
import Derived.Shelf.Slices.In.SortNone
import Derived.Shelf.Slices.CompactI
import Derived.Shelf.SlSortCmp.WholeK
import Derived.Shelf.SlSortCmp.NoneTotal
import Derived.Shelf.SlicesG.Cmp
import Derived.Test.YtiincpioidnciaaGreatVT00
namespace Go.Proofs.YtiincpioidnciaaGreat
set_option linter.unusedVariables false
set_option linter.unusedSimpArgs false
set_option linter.unusedSectionVars false
open Go Go.RowKit
section ifl
variable [Ifl]
end ifl
section
variable [Ifl]
end
section ifl
variable [Ifl]
end ifl
open Go Go.RowKit Go.Shelf
set_option maxRecDepth 100000
section ifl
variable [Ifl]
end ifl
def TermV:Type:={l:List Value // l.length=5∧(∀ v∈l,v.oneCell'=true)∧∃ z:Int,l.head? =some (.int .i64 z)}
instance :Inhabited TermV:=⟨⟨[.int .i64 0,.int .i64 0,.int .i64 0,.int .i64 0,.int .i64 0],rfl,by simp[Value.oneCell'],0,rfl⟩⟩
section ifl
variable [Ifl]
end ifl
def stN(e:EvD)(f:Nat→Rat)(p:Int)(n:Nat):Rat:=sumN n fun j=>if (mvAt e j).t=p then f j else if (mvAt e j).f=p then -(f j)else 0
structure SolT (t:TrD) (kind:Int) (f:Nat→Rat):Prop where
 pos:∀ i,i<t.e.mv.length→0≤f i
 st:∀ i,i<t.e.mv.length→Zcg t.e i=false→f i≤stN t.e f (mvAt t.e i).f i
 all:∀ i,i<t.e.mv.length→Zcg t.e i=false→(mvAt t.e i).a=true→f i=stN t.e f (mvAt t.e i).f i
 cap:∀ i,i<t.e.mv.length→(hiI t.e (mvAt t.e i)).2=true→f i≤qOf (hiI t.e (mvAt t.e i)).1
 fin:∀ i,i<t.e.mv.length→∀ g∈finK t kind i,(g:Rat)≤f i
 cle:∀ i,i<t.e.mv.length→0<cleK t kind i→f i=0
structure NextR (e:EvD) (blk:Nat→Bool) (j i:Nat):Prop where
 lt:j<i
 n:i<e.mv.length
 at':(mvAt e i).f=(mvAt e j).t
 blk:blk i=false
 all:∀ k,j<k→k<i→(mvAt e k).f=(mvAt e j).t→(mvAt e k).a=false
inductive Reach (e:EvD) (blk:Nat→Bool) (l:Nat):Nat→Prop
 | refl:Reach e blk l l
 | step {j i:Nat}:Reach e blk l j→NextR e blk j i→Reach e blk l i
section
variable {t:TrD} {kind:Int} {f:Nat→Rat} (R:Zeb t.e) (S:SolT t kind f)
include R
include S
end
def atG(x:List Zad)(g:List Zae):Rat:=dotD g x
set_option maxHeartbeats 4000000
structure BelowX where
 a:List Zae
 b:List Zae
 l:Int
set_option maxHeartbeats 8000000
def tabL(n:Nat)(c:Nat→List D):List (List D):=(List.range n).map c
theorem ZaJ{n:Nat}{c d:Nat→List D}(h:∀ u,u<n→c u=d u):tabL n c=tabL n d:=List.map_congr_left fun u hu=>h u (Yd2.1 hu)
def ratL(n:Nat)(c:Nat→Rat):List (List D):=tabL n (fun v=>cF (ofQ (c v)))
theorem Zbo{n:Nat}{c d:Nat→Rat}(h:∀ u,u<n→c u=d u):ratL n c=ratL n d:=ZaJ fun u hu=>by rw[h u hu]
structure Dic where
 m:Nat
 n:Nat
 own:Nat→Nat
 free:Nat→Nat
 v:Nat→Rat
 a:Nat→Nat→Rat
 g:Nat→Rat
 z:Rat
theorem Zam(f:Nat→Rat){s:Nat}:∀ n,s<n→sumN n f=f s+sumN n (fun j=>if j=s then 0 else f j)
 | 0,h=>absurd h (Nat.not_lt_zero _)
 | n+1,h=>by
   simp only[sumN]
   by_cases e:n=s
   ·subst e
    rw[if_pos rfl,Zak (f:=fun j=>if j=n then 0 else f j) (g:=f) n (fun i hi=>if_neg (by omega))];grind
   ·rw[if_neg e,Zam f (s:=s) n (by omega)];grind
theorem ZcA(f g:Nat→Rat)(n:Nat):sumN n (fun i=>f i-g i)=sumN n f-sumN n g:=by
 have h:(fun i=>f i-g i)=fun i=>f i+(-1)*g i:=by funext i;grind
 rw[h,Zbe,ZaP];grind
namespace Dic
def up{α:Type}(f:Nat→α)(k:Nat)(x:α):Nat→α:=fun i=>if i=k then x else f i
def ex(d:Dic)(r s:Nat):Dic :=
 { d with
   own:=up d.own r (d.free s),free:=up d.free s (d.own r)
   v:=fun i=>if i=r then d.v r / d.a r s else d.v i-d.a i s*(d.v r / d.a r s)
   a:=fun i j=>if i=r then(if j=s then 1 / d.a r s else d.a r j / d.a r s)else if j=s then 0-d.a i s*(1 / d.a r s)else d.a i j-d.a i s*(d.a r j / d.a r s)
   g:=fun j=>if j=s then 0-d.g s*(1 / d.a r s)else d.g j-d.g s*(d.a r j / d.a r s)
   z:=d.z+d.g s*(d.v r / d.a r s)}
def Row(d:Dic)(k:Rat)(x:Nat→Rat)(i:Nat):Prop:=x (d.own i)=d.v i*k-sumN d.n fun j=>d.a i j*x (d.free j)
def Sol(d:Dic)(k:Rat)(x:Nat→Rat):Prop:=∀ i,i<d.m→d.Row k x i
def obj(d:Dic)(k:Rat)(x:Nat→Rat):Rat:=d.z*k+sumN d.n fun j=>d.g j*x (d.free j)
structure Part (d:Dic):Prop where
 own_lt:∀ i,i<d.m→d.own i<d.n+d.m
 free_lt:∀ j,j<d.n→d.free j<d.n+d.m
 own_inj:∀ i i',i<d.m→i'<d.m→d.own i=d.own i'→i=i'
 free_inj:∀ j j',j<d.n→j'<d.n→d.free j=d.free j'→j=j'
 apart:∀ i j,i<d.m→j<d.n→d.own i≠d.free j
 all:∀ q,q<d.n+d.m→(∃ i,i<d.m∧d.own i=q)∨∃ j,j<d.n∧d.free j=q
theorem ZdW{d:Dic}(h:Part d){r s:Nat}(hr:r<d.m)(hs:s<d.n):Part (d.ex r s):=by
 refine⟨fun i hi=>?_,fun j hj=>?_,fun i i' hi hi' e=>?_,fun j j' hj hj' e=>?_,fun i j hi hj e=>?_,fun q hq=>?_⟩
 ·simp only[ex,up]at *
  split
  ·exact h.free_lt s hs
  ·exact h.own_lt i hi
 ·simp only[ex,up]at *
  split
  ·exact h.own_lt r hr
  ·exact h.free_lt j hj
 ·simp only[ex,up]at *
  split at e<;>split at e
  ·omega
  ·exact absurd e.symm (h.apart _ _ hi' hs)
  ·exact absurd e (h.apart _ _ hi hs)
  ·exact h.own_inj _ _ hi hi' e
 ·simp only[ex,up]at *
  split at e<;>split at e
  ·omega
  ·exact absurd e (h.apart _ _ hr hj')
  ·exact absurd e.symm (h.apart _ _ hr hj)
  ·exact h.free_inj _ _ hj hj' e
 ·simp only[ex,up]at *
  split at e<;>split at e
  ·exact h.apart _ _ hr hs e.symm
  ·rename_i h1 h2;exact h2 (h.free_inj _ _ hj hs e.symm)
  ·rename_i h1 h2;exact h1 (h.own_inj _ _ hi hr e)
  ·exact h.apart _ _ hi hj e
 ·simp only[ex,up]at *
  rcases h.all q hq with⟨i,hi,e⟩|⟨j,hj,e⟩
  ·by_cases hir:i=r
   ·subst hir;exact .inr ⟨s,hs,by rw[if_pos rfl];exact e⟩
   ·exact .inl ⟨i,hi,by rw[if_neg hir];exact e⟩
  ·by_cases hjs:j=s
   ·subst hjs;exact .inl ⟨r,hr,by rw[if_pos rfl];exact e⟩
   ·exact .inr ⟨j,hj,by rw[if_neg hjs];exact e⟩
theorem ZcL{d:Dic}{r s:Nat}(hs:s<d.n)(hp:d.a r s≠0)(k:Rat)(x:Nat→Rat):(d.ex r s).Row k x r↔d.Row k x r:=by
 unfold Row
 rw[Zam _ (d.ex r s).n (s:=s) hs,Zam _ d.n hs]
 have e:sumN (d.ex r s).n (fun j=>if j=s then 0 else(d.ex r s).a r j*x ((d.ex r s).free j))=(1 / d.a r s)*sumN d.n (fun j=>if j=s then 0 else d.a r j*x (d.free j)):=by
  rw[← ZaP]
  refine Zak _ fun j _=>?_
  by_cases h:j=s
  ·rw[if_pos h,if_pos h];grind
  ·rw[if_neg h,if_neg h];simp only[ex,up,if_neg h,if_pos];grind
 rw[e]
 simp only[ex,up,if_pos]
 have h1:d.a r s*(1 / d.a r s)=1:=by grind
 grind
theorem Ze3{d:Dic}{r s i:Nat}(hs:s<d.n)(hp:d.a r s≠0)(hi:i≠r){k:Rat}{x:Nat→Rat}(hx:d.Row k x r):(d.ex r s).Row k x i↔d.Row k x i:=by
 unfold Row at hx ⊢
 rw[Zam _ d.n hs]at hx
 rw[Zam _ (d.ex r s).n (s:=s) hs,Zam _ d.n hs]
 have e:sumN (d.ex r s).n (fun j=>if j=s then 0 else(d.ex r s).a i j*x ((d.ex r s).free j))=sumN d.n (fun j=>if j=s then 0 else d.a i j*x (d.free j))-d.a i s*(1 / d.a r s)*sumN d.n (fun j=>if j=s then 0 else d.a r j*x (d.free j)):=by
  rw[← ZaP,← ZcA]
  refine Zak _ fun j _=>?_
  by_cases h:j=s
  ·rw[if_pos h,if_pos h,if_pos h];grind
  ·rw[if_neg h,if_neg h,if_neg h];simp only[ex,up,if_neg h,if_neg hi];grind
 rw[e]
 simp only[ex,up,if_pos,if_neg hi]
 have h1:d.a r s*(1 / d.a r s)=1:=by grind
 grind
theorem Zgg{d:Dic}{r s:Nat}(hr:r<d.m)(hs:s<d.n)(hp:d.a r s≠0)(k:Rat)(x:Nat→Rat):(d.ex r s).Sol k x↔d.Sol k x:=by
 constructor
 ·intro h i hi
  have h0:=(ZcL hs hp k x).1 (h r hr)
  by_cases e:i=r
  ·subst e;exact h0
  ·exact(Ze3 hs hp e h0).1 (h i hi)
 ·intro h i hi
  have h0:=h r hr
  by_cases e:i=r
  ·subst e;exact(ZcL hs hp k x).2 h0
  ·exact(Ze3 hs hp e h0).2 (h i hi)
theorem Zgi{d:Dic}{r s:Nat}(hs:s<d.n)(hp:d.a r s≠0){k:Rat}{x:Nat→Rat}(hx:d.Row k x r):(d.ex r s).obj k x=d.obj k x:=by
 unfold Row at hx
 unfold obj
 rw[Zam _ d.n hs]at hx
 rw[Zam _ (d.ex r s).n (s:=s) hs,Zam _ d.n hs]
 have e:sumN (d.ex r s).n (fun j=>if j=s then 0 else(d.ex r s).g j*x ((d.ex r s).free j))=sumN d.n (fun j=>if j=s then 0 else d.g j*x (d.free j))-d.g s*(1 / d.a r s)*sumN d.n (fun j=>if j=s then 0 else d.a r j*x (d.free j)):=by
  rw[← ZaP,← ZcA]
  refine Zak _ fun j _=>?_
  by_cases h:j=s
  ·rw[if_pos h,if_pos h,if_pos h];grind
  ·rw[if_neg h,if_neg h,if_neg h];simp only[ex,up,if_neg h];grind
 rw[e]
 simp only[ex,up,if_pos]
 have h1:d.a r s*(1 / d.a r s)=1:=by grind
 grind
open Classical in
noncomputable def Zda (n:Nat) (f:Nat→Nat) (q:Nat):Option Nat:=if h:∃ i,i<n∧f i=q then some (Classical.choose h)else none
theorem ZbI{n:Nat}{f:Nat→Nat}(hf:∀ i i',i<n→i'<n→f i=f i'→i=i'){i:Nat}(hi:i<n):Zda n f (f i)=some i:=by
 have h:∃ i',i'<n∧f i'=f i:=⟨i,hi,rfl⟩
 unfold Zda
 rw[dif_pos h]
 have:=Classical.choose_spec h
 exact congrArg some (hf _ _ this.1 hi this.2)
theorem Zc9{n:Nat}{f:Nat→Nat}{q:Nat}(h:∀ i,i<n→f i≠q):Zda n f q=none:=by
 unfold Zda
 rw[dif_neg]
 rintro⟨i,hi,e⟩;exact h i hi e
noncomputable def val (d:Dic) (k:Rat) (c:Nat→Rat) (q:Nat):Rat :=
 match Zda d.m d.own q with
 | some i=>d.v i*k-sumN d.n fun j=>d.a i j*c j
 | none=>match Zda d.n d.free q with
   | some j=>c j
   | none=>0
section
variable {d:Dic} {k:Rat} {c:Nat→Rat}
theorem Zci(h:Part d){i:Nat}(hi:i<d.m):d.val k c (d.own i)=d.v i*k-sumN d.n fun j=>d.a i j*c j:=by
 unfold val;rw[ZbI h.own_inj hi]
theorem ZaY(h:Part d){j:Nat}(hj:j<d.n):d.val k c (d.free j)=c j:=by
 unfold val;rw[Zc9 (fun i hi=>h.apart i j hi hj),ZbI h.free_inj hj]
theorem ZbT(h:Part d):d.Sol k (d.val k c):=by
 intro i hi
 unfold Row
 rw[Zci h hi]
 congr 1
 exact Zak _ fun j hj=>by rw[ZaY h hj]
theorem Ze8(h:Part d):d.obj k (d.val k c)=d.z*k+sumN d.n fun j=>d.g j*c j:=by
 unfold obj
 congr 1
 exact Zak _ fun j hj=>by rw[ZaY h hj]
end
noncomputable def base (d:Dic):Nat→Rat:=d.val 1 fun _=>0
noncomputable def dir (d:Dic) (s:Nat):Nat→Rat:=d.val 0 fun j=>if j=s then 1 else 0
section
variable {d:Dic}
theorem ZeK(h:Part d){i:Nat}(hi:i<d.m):d.base (d.own i)=d.v i:=by
 unfold base
 rw[Zci h hi,show(fun j=>d.a i j*(0:Rat))=fun _=>0 by funext j;grind,Zaw];grind
theorem Zd7(h:Part d){j:Nat}(hj:j<d.n):d.base (d.free j)=0:=ZaY h hj
theorem Zdt(f:Nat→Rat){n s:Nat}(hs:s<n):sumN n (fun j=>f j*if j=s then 1 else 0)=f s:=by
 have e:(fun j=>f j*if j=s then(1:Rat)else 0)=fun j=>if j=s then f s else 0:=by
  funext j
  by_cases h:j=s
  ·subst h;rw[if_pos rfl,if_pos rfl];grind
  ·rw[if_neg h,if_neg h];grind
 rw[e,Za1,if_pos hs]
theorem Zfw(h:Part d){i s:Nat}(hi:i<d.m)(hs:s<d.n):d.dir s (d.own i) = - d.a i s:=by
 unfold dir
 rw[Zci h hi,Zdt _ hs];grind
theorem ZeJ(h:Part d){j s:Nat}(hj:j<d.n):d.dir s (d.free j)=if j=s then 1 else 0:=ZaY h hj
theorem Zfx(h:Part d){s:Nat}(hs:s<d.n):d.obj 0 (d.dir s)=d.g s:=by
 unfold dir
 rw[Ze8 h,Zdt _ hs];grind
end
structure Same (d e:Dic):Prop where
 m:d.m=e.m
 n:d.n=e.n
 sol:∀ k x,d.Sol k x↔e.Sol k x
 obj:∀ k x,d.Sol k x→d.obj k x=e.obj k x
theorem Same.refl(d:Dic):Same d d:=⟨rfl,rfl,fun _ _=>Iff.rfl,fun _ _ _=>rfl⟩
theorem Same.symm{d e:Dic}(h:Same d e):Same e d:=⟨h.m.symm,h.n.symm,fun k x=>(h.sol k x).symm,fun k x hx=>(h.obj k x ((h.sol k x).2 hx)).symm⟩
theorem Same.trans{d e f:Dic}(h:Same d e)(h':Same e f):Same d f:=⟨h.m.trans h'.m,h.n.trans h'.n,fun k x=>(h.sol k x).trans (h'.sol k x),fun k x hx=>(h.obj k x hx).trans (h'.obj k x ((h.sol k x).1 hx))⟩
theorem ZdV{d:Dic}{r s:Nat}(hr:r<d.m)(hs:s<d.n)(hp:d.a r s≠0):Same d (d.ex r s) :=
 ⟨rfl,rfl,fun k x=>(Zgg hr hs hp k x).symm,fun _ _ hx=>(Zgi hs hp (hx r hr)).symm⟩
theorem ex_ex{d:Dic}{r s:Nat}(hp:d.a r s≠0):(d.ex r s).ex r s=d:=by
 have hp':(1 / d.a r s)≠0:=by grind
 cases d with
 | mk m n own free v a g z =>
 simp only at hp hp'
 simp only[ex,up,if_pos,Dic.mk.injEq,true_and]
 refine⟨?_,?_,?_,?_,?_,?_⟩
 ·funext i;by_cases h:i=r
  ·subst h;simp only[up,if_pos]
  ·simp only[up,if_neg h]
 ·funext i;by_cases h:i=s
  ·subst h;simp only[up,if_pos]
  ·simp only[up,if_neg h]
 ·funext i;by_cases h:i=r
  ·subst h;rw[if_pos rfl];grind
  ·rw[if_neg h,if_neg h,if_neg h];grind
 ·funext i j
  by_cases h:i=r<;>by_cases h2:j=s
  ·subst h;subst h2;simp only[if_pos];grind
  ·subst h;simp only[if_pos,if_neg h2];grind
  ·subst h2;simp only[if_pos,if_neg h];grind
  ·simp only[if_neg h,if_neg h2];grind
 ·funext j
  by_cases h2:j=s
  ·subst h2;simp only[if_pos];grind
  ·simp only[if_neg h2];grind
 ·grind
structure ZfE (d:Dic) (r s:Nat):Prop where
 hr:r<d.m
 hs:s<d.n
 v:d.v r<0
 first:∀ i,i<d.m→d.v i<0→d.own r≤d.own i
 goal:∀ j,j<d.n→0<d.g j→d.own r<d.free j
 a:d.a r s<0
 least:∀ j,j<d.n→d.a r j<0→d.free s≤d.free j
structure ZfJ (d:Dic) (r s:Nat):Prop where
 hr:r<d.m
 hs:s<d.n
 g:0<d.g s
 first:∀ j,j<d.n→0<d.g j→d.free s≤d.free j
 rows:∀ i,i<d.m→d.v i<0→d.free s<d.own i
 a:0<d.a r s
 least:∀ i,i<d.m→0<d.a i s→d.own r≤d.own i
def Step(d:Dic)(r s:Nat):Prop:=ZfE d r s∨ZfJ d r s
theorem Step.hr{d:Dic}{r s:Nat}(h:Step d r s):r<d.m:=h.elim (·.hr) (·.hr)
theorem Step.hs{d:Dic}{r s:Nat}(h:Step d r s):s<d.n:=h.elim (·.hs) (·.hs)
theorem Step.ne{d:Dic}{r s:Nat}(h:Step d r s):d.a r s≠0:=by
 rcases h with h|h
 ·have:=h.a;grind
 ·have:=h.a;grind
end Dic
end Go.Proofs.YtiincpioidnciaaGreat
