/-
  Plain: a run of exchanges is shorter than 2 to the number of variables.
-/
import Derived.Test.YtiincpioidnciaaGreatVLib
import Derived.Test.YtiincpioidnciaaGreatVT02
import Derived.Test.YtiincpioidnciaaGreatVT00
import Derived.Test.YtiincpioidnciaaGreatVT01
namespace Go.Proofs.YtiincpioidnciaaGreat
set_option linter.unusedVariables false
set_option linter.unusedSimpArgs false
set_option linter.unusedSectionVars false
open Go Go.RowKit
namespace Dic
theorem Zgh{d:Dic}(hP:Part d){r s:Nat}(hr:r<d.m)(hs:s<d.n)(p:Nat):(∃ i,i<(d.ex r s).m∧(d.ex r s).own i=p)↔p=d.free s∨((∃ i,i<d.m∧d.own i=p)∧p≠d.own r):=by
 simp only[ex,up]
 constructor
 ·rintro⟨i,hi,e⟩
  split at e
  ·exact .inl e.symm
  ·rename_i h
   exact .inr ⟨⟨i,hi,e⟩,fun h'=>h (hP.own_inj _ _ hi hr (e.trans h'))⟩
 ·rintro(rfl|⟨⟨i,hi,e⟩,h⟩)
  ·exact⟨r,hr,by rw[if_pos rfl]⟩
  ·exact⟨i,hi,by rw[if_neg (fun h'=>h (by rw[← e,h']))];exact e⟩
structure Run (K:Nat) (D:Nat→Dic) (R S:Nat→Nat):Prop where
 part:Part (D 0)
 step:∀ k,k<K→Step (D k) (R k) (S k)
 next:∀ k,k<K→D (k+1)=(D k).ex (R k) (S k)
section
variable {K:Nat} {D:Nat→Dic} {R S:Nat→Nat}
theorem Run.parts(h:Run K D R S):∀ k,k≤K→Part (D k)
 | 0,_=>h.part
 | k+1,hk=>by
   rw[h.next k (by omega)]
   exact ZdW (h.parts k (by omega)) (h.step k (by omega)).hr (h.step k (by omega)).hs
theorem Run.same(h:Run K D R S){a:Nat}:∀ k,a+k≤K→Same (D a) (D (a+k))
 | 0,_=>Same.refl _
 | k+1,hk=>by
   have hs:=h.step (a+k) (by omega)
   have:=ZdV hs.hr hs.hs hs.ne
   rw[← h.next (a+k) (by omega)]at this
   exact(h.same k (by omega)).trans this
def Zed(d:Dic)(p:Nat):Prop:=∃ i,i<d.m∧d.own i=p
theorem Run.flip(h:Run K D R S){k:Nat}(hk:k<K)(p:Nat):Zed (D (k+1)) p↔p=(D k).free (S k)∨(Zed (D k) p∧p≠(D k).own (R k)):=by
 unfold Zed
 rw[h.next k hk]
 exact Zgh (h.parts k (by omega)) (h.step k hk).hr (h.step k hk).hs p
theorem Run.keep(h:Run K D R S){p a:Nat}:∀ k,a+k≤K→(∀ i,a≤i→i<a+k→(D i).own (R i)≠p∧(D i).free (S i)≠p)→(Zed (D a) p↔Zed (D (a+k)) p)
 | 0,_,_=>Iff.rfl
 | k+1,hk,hne=>by
   rw[h.keep k (by omega) fun i h1 h2=>hne i h1 (by omega),← Nat.add_assoc,h.flip (by omega)]
   obtain⟨h1,h2⟩:=hne (a+k) (by omega) (by omega)
   constructor
   ·intro h3;exact .inr ⟨h3,fun e=>h1 e.symm⟩
   ·rintro(e|h3)
    ·exact absurd e.symm h2
    ·exact h3.1
end
end Dic
namespace Dic
def cnt(p:Nat→Bool):Nat→Nat
 | 0=>0
 | m+1=>cnt p m+(if p m then 1 else 0)
theorem Za7{p q:Nat→Bool}:∀ m,(∀ i,i<m→p i=q i)→cnt p m=cnt q m
 | 0,_=>rfl
 | m+1,h=>by simp only[cnt,Za7 m (fun i hi=>h i (by omega)),h m (by omega)]
theorem Zb4{p q:Nat→Bool}{r:Nat}(hp:p r=true)(hq:q r=false):∀ m,r<m→(∀ i,i<m→i≠r→q i=p i)→cnt q m+1=cnt p m
 | 0,h,_=>absurd h (Nat.not_lt_zero _)
 | m+1,h,he=>by
   simp only[cnt]
   by_cases e:m=r
   ·subst e
    rw[Za7 (p:=q) (q:=p) m (fun i hi=>he i (by omega) (by omega)),hp,hq]
    simp
   ·have:=Zb4 hp hq m (by omega) (fun i hi=>he i (by omega))
    rw[he m (by omega) e];omega
theorem Ze4(p:Nat→Bool):∀ m,cnt p m≤m
 | 0=>Ya4 _
 | m+1=>by have:=Ze4 p m;simp only[cnt];split<;>omega
theorem ZcR{p:Nat→Bool}:∀ m,cnt p m=0→∀ i,i<m→p i=false
 | 0,_,_,h=>absurd h (Nat.not_lt_zero _)
 | m+1,h,i,hi=>by
   simp only[cnt]at h
   by_cases e:i=m
   ·subst e;cases hp:p i
    ·rfl
    ·rw[hp]at h;simp at h
   ·exact ZcR m (by omega) i (by omega)
theorem ZcS{p:Nat→Bool}:∀ m,0<cnt p m→∃ i,i<m∧p i=true
 | 0,h=>absurd h (Nat.not_lt_zero _)
 | m+1,h=>by
   cases hp:p m
   ·simp only[cnt,hp]at h
    obtain⟨i,hi,e⟩:=ZcS m (by simpa using h)
    exact⟨i,by omega,e⟩
   ·exact⟨m,by omega,hp⟩
theorem Zd3{f:Nat→Nat}{m:Nat}(hf:∀ i i',i<m→i'<m→f i=f i'→i=i'):∀ n,cnt (fun i=>decide (f i<n)) m≤n
 | 0=>by
   rw[Za7 (q:=fun _=>false) m (fun i _=>by simp)]
   have:∀ k,cnt (fun _=>false) k=0:=fun k=>by induction k with
    | zero=>rfl
    | succ k ih=>simp only[cnt,ih];rfl
   rw[this];exact Ya4 _
 | n+1=>by
   have ih:=Zd3 hf n
   by_cases h:∃ i,i<m∧f i=n
   ·obtain⟨r,hr,e⟩:=h
    have:=Zb4 (p:=fun i=>decide (f i<n+1)) (q:=fun i=>decide (f i<n)) (r:=r) (by simp[e]) (by simp[e]) m hr (fun i hi hne=>by
     have:f i≠n:=fun h'=>hne (hf _ _ hi hr (h'.trans e.symm))
     simp only[decide_eq_decide];omega)
    omega
   ·rw[Za7 (q:=fun i=>decide (f i<n)) m (fun i hi=>by
     have:f i≠n:=fun h'=>h ⟨i,hi,h'⟩
     simp only[decide_eq_decide];omega)]
    omega
structure ZcV (sz:Rat→Nat):Prop where
 zero:sz 0≤1
 one:sz 1≤1
 sub:∀ a b,sz (a-b)≤sz a+sz b+1
 mul:∀ a b,sz (a*b)≤sz a+sz b
 div:∀ a b,b≠0→sz (a / b)≤sz a+sz b
structure Zbx (sz:Rat→Nat) (d:Dic) (B:Nat):Prop where
 v:∀ i,i<d.m→sz (d.v i)≤B
 a:∀ i j,i<d.m→j<d.n→sz (d.a i j)≤B
 g:∀ j,j<d.n→sz (d.g j)≤B
theorem ZeH{sz:Rat→Nat}(L:ZcV sz){d:Dic}{r s B:Nat}(hr:r<d.m)(hs:s<d.n)(hp:d.a r s≠0)(h:Zbx sz d B)(hB:1≤B):Zbx sz (d.ex r s) (4*B+1):=by
 have hpb:=h.a r s hr hs
 have h1:=L.div 1 _ hp
 have l1:=L.one
 have l0:=L.zero
 refine⟨fun i hi=>?_,fun i j hi hj=>?_,fun j hj=>?_⟩
 ·simp only[ex]at *
  have hv:=L.div (d.v r) _ hp
  have hb:=h.v r hr
  split
  ·omega
  ·have e1:=L.sub (d.v i) (d.a i s*(d.v r / d.a r s))
   have e2:=L.mul (d.a i s) (d.v r / d.a r s)
   have e3:=h.v i hi
   have e4:=h.a i s hi hs
   omega
 ·simp only[ex]at *
  have hv:=L.div (d.a r j) _ hp
  have hb:=h.a r j hr hj
  split
  ·split<;>omega
  ·have e4:=h.a i s hi hs
   split
   ·have e1:=L.sub 0 (d.a i s*(1 / d.a r s))
    have e2:=L.mul (d.a i s) (1 / d.a r s)
    omega
   ·have e1:=L.sub (d.a i j) (d.a i s*(d.a r j / d.a r s))
    have e2:=L.mul (d.a i s) (d.a r j / d.a r s)
    have e3:=h.a i j hi hj
    omega
 ·simp only[ex]at *
  have hv:=L.div (d.a r j) _ hp
  have hb:=h.a r j hr hj
  have e4:=h.g s hs
  split
  ·have e1:=L.sub 0 (d.g s*(1 / d.a r s))
   have e2:=L.mul (d.g s) (1 / d.a r s)
   omega
  ·have e1:=L.sub (d.g j) (d.g s*(d.a r j / d.a r s))
   have e2:=L.mul (d.g s) (d.a r j / d.a r s)
   have e3:=h.g j hj
   omega
structure First (d:Dic):Prop where
 own:∀ i,i<d.m→d.own i=d.n+i
 free:∀ j,j<d.n→d.free j=j
theorem First.part{d:Dic}(h:First d):Part d:=by
 refine⟨fun i hi=>?_,fun j hj=>?_,fun i i' hi hi' e=>?_,fun j j' hj hj' e=>?_,fun i j hi hj e=>?_,fun q hq=>?_⟩
 ·rw[h.own i hi];omega
 ·rw[h.free j hj];omega
 ·rw[h.own i hi,h.own i' hi']at e;omega
 ·rw[h.free j hj,h.free j' hj']at e;omega
 ·rw[h.own i hi,h.free j hj]at e;omega
 ·rcases Nat.lt_or_ge q d.n with h1|h1
  ·exact .inr ⟨q,h1,h.free q h1⟩
  ·exact .inl ⟨q-d.n,by omega,by rw[h.own _ (by omega)];omega⟩
def grow(B:Nat):Nat→Nat
 | 0=>B
 | t+1=>4*grow B t+1
theorem Zez{B:Nat}(h:1≤B):∀ t,1≤grow B t
 | 0=>h
 | t+1=>by simp only[grow];omega
theorem Zdr(f:Nat→Rat)(y:Nat→Rat)(n w:Nat)(hy:∀ q,q<n→y q=if q=w then 1 else 0):sumN n (fun q=>f q*y q)=if w<n then f w else 0:=by
 rw[Zak (g:=fun q=>if q=w then f w else 0) n (fun q hq=>by
  rw[hy q hq]
  by_cases e:q=w
  ·subst e;rw[if_pos rfl,if_pos rfl];grind
  ·rw[if_neg e,if_neg e];grind),Za1]
theorem Zcu{sz:Rat→Nat}(L:ZcV sz){d0 d:Dic}(h0:First d0){B:Nat}(hB:1≤B)(hS:Zbx sz d0 B)(hP:Part d)(hE:Same d0 d)(hown:∀ i,i<d.m→d.n≤d.own i):Zbx sz d B:=by
 have hm:=hE.m
 have hn:=hE.n
 have l0:=L.zero
 have hfree:∀ q,q<d.n→∃ j,j<d.n∧d.free j=q:=fun q hq=>(hP.all q (by omega)).resolve_left (by rintro⟨i,hi,e⟩;have:=hown i hi;omega)
 have hat:∀ i,i<d.m→∃ i0,i0<d0.m∧d.own i=d0.own i0:=fun i hi=>by
  have h1:=hown i hi
  have h2:=hP.own_lt i hi
  exact⟨d.own i-d.n,by omega,by rw[h0.own _ (by omega)];omega⟩
 have hdir:∀ s,s<d.n→∀ q,q<d0.n→d.dir s (d0.free q)=if q=d.free s then 1 else 0:=by
  intro s hs q hq
  rw[h0.free q hq]
  obtain⟨j,hj,rfl⟩:=hfree q (by omega)
  rw[ZeJ hP hj]
  by_cases e:j=s
  ·subst e;rw[if_pos rfl,if_pos rfl]
  ·rw[if_neg e,if_neg (fun h'=>e (hP.free_inj _ _ hj hs h'))]
 refine⟨fun i hi=>?_,fun i j hi hj=>?_,fun j hj=>?_⟩
 ·obtain⟨i0,hi0,e⟩:=hat i hi
  have h1:=(hE.sol 1 d.base).2 (ZbT hP) i0 hi0
  unfold Row at h1
  rw[← e,ZeK hP hi,Zak (g:=fun _=>0) d0.n (fun q hq=>by
   rw[h0.free q hq]
   obtain⟨j,hj,rfl⟩:=hfree q (by omega)
   rw[Zd7 hP hj];grind),Zaw]at h1
  rw[show d.v i=d0.v i0 by grind]
  exact hS.v i0 hi0
 ·obtain⟨i0,hi0,e⟩:=hat i hi
  have h1:=(hE.sol 0 (d.dir j)).2 (ZbT hP) i0 hi0
  unfold Row at h1
  rw[← e,Zfw hP hi hj,Zdr (fun q=>d0.a i0 q) (fun q=>d.dir j (d0.free q)) d0.n (d.free j) (hdir j hj)]at h1
  by_cases hlt:d.free j<d0.n
  ·rw[if_pos hlt]at h1
   rw[show d.a i j=d0.a i0 (d.free j) by grind]
   exact hS.a i0 _ hi0 hlt
  ·rw[if_neg hlt]at h1
   rw[show d.a i j=0 by grind];omega
 ·have h1:=hE.obj 0 (d.dir j) ((hE.sol 0 (d.dir j)).2 (ZbT hP))
  rw[Zfx hP hj]at h1
  unfold obj at h1
  rw[Zdr (fun q=>d0.g q) (fun q=>d.dir j (d0.free q)) d0.n (d.free j) (hdir j hj)]at h1
  by_cases hlt:d.free j<d0.n
  ·rw[if_pos hlt]at h1
   rw[show d.g j=d0.g (d.free j) by grind]
   exact hS.g _ hlt
  ·rw[if_neg hlt]at h1
   rw[show d.g j=0 by grind];omega
theorem Zf0{sz:Rat→Nat}(L:ZcV sz){d0:Dic}(h0:First d0){B:Nat}(hB:1≤B)(hS:Zbx sz d0 B):∀ (t:Nat)(d:Dic),Part d→Same d0 d→cnt (fun i=>decide (d.own i<d.n)) d.m=t→Zbx sz d (grow B t)
 | 0,d,hP,hE,hc=>Zcu L h0 hB hS hP hE fun i hi=>by have:=ZcR _ hc i hi;simp at this;omega
 | t+1,d,hP,hE,hc=>by
   obtain⟨i,hi,hio⟩:=ZcS (p:=fun i=>decide (d.own i<d.n)) d.m (by omega)
   simp only[decide_eq_true_eq]at hio
   have hn:=hE.n
   obtain⟨j,hj,hjn,hp⟩:∃ j,j<d.n∧d.n≤d.free j∧d.a i j≠0:=by
    refine Classical.byContradiction fun hno=>?_
    have hx:=(hE.sol 0 _).1 (ZbT (k:=0) (c:=fun q=>if q=d.own i then 1 else 0) h0.part) i hi
    unfold Row at hx
    have hv:∀ q,q<d.n→d0.val 0 (fun q=>if q=d.own i then 1 else 0) q=if q=d.own i then 1 else 0:=fun q hq=>by
     have:=ZaY (k:=0) (c:=fun q=>if q=d.own i then 1 else 0) h0.part (j:=q) (by omega)
     rwa [h0.free q (by omega)]at this
    rw[hv _ hio,if_pos rfl,Zak (g:=fun _=>0) d.n (fun j hj=>by
     by_cases h1:d.n≤d.free j
     ·have:d.a i j=0:=Classical.byContradiction fun h2=>hno ⟨j,hj,h1,h2⟩
      rw[this];grind
     ·rw[hv _ (by omega),if_neg (fun e=>hP.apart i j hi hj e.symm)];grind),Zaw]at hx
    grind
   have hP1:=ZdW hP hi hj
   have hE1:=hE.trans (ZdV hi hj hp)
   have hc1:cnt (fun k=>decide ((d.ex i j).own k<(d.ex i j).n)) (d.ex i j).m=t:=by
    have:=Zb4 (p:=fun k=>decide (d.own k<d.n)) (q:=fun k=>decide ((d.ex i j).own k<(d.ex i j).n)) (r:=i) (by simpa using hio) (by simp[ex,up];omega) d.m hi (fun k _ hne=>by simp[ex,up,hne])
    have h2:(d.ex i j).m=d.m:=rfl
    rw[h2];omega
   have ih:=Zf0 L h0 hB hS t (d.ex i j) hP1 hE1 hc1
   have hp1:(d.ex i j).a i j≠0:=by simp only[ex,if_pos];grind
   have:=ZeH L (d:=d.ex i j) hi hj hp1 ih (Zez hB t)
   rw[ex_ex hp]at this
   exact this
theorem ZdP{B:Nat}:∀ {t u:Nat},t≤u→grow B t≤grow B u:=by
 intro t u h
 induction u with
 | zero => obtain rfl : t = 0 := by omega
           exact Ya4 _
 | succ u ih =>
   by_cases e:t=u+1
   ·subst e;exact Ya4 _
   ·have:=ih (by omega);simp only[grow];omega
theorem Zbx.mono{sz:Rat→Nat}{d:Dic}{B C:Nat}(h:Zbx sz d B)(hBC:B≤C):Zbx sz d C:=⟨fun i hi=>Yc7 (h.v i hi) hBC,fun i j hi hj=>Yc7 (h.a i j hi hj) hBC,fun j hj=>Yc7 (h.g j hj) hBC⟩
theorem small{sz:Rat→Nat}(L:ZcV sz){d0 d:Dic}(h0:First d0){B:Nat}(hB:1≤B)(hS:Zbx sz d0 B)(hP:Part d)(hE:Same d0 d){t:Nat}(ht:d.n≤t∨d.m≤t):Zbx sz d (grow B t):=by
 refine(Zf0 L h0 hB hS _ d hP hE rfl).mono (ZdP ?_)
 have h1:=Zd3 hP.own_inj d.n
 have h2:=Ze4 (fun i=>decide (d.own i<d.n)) d.m
 omega
end Dic
set_option maxRecDepth 100000
set_option maxHeartbeats 16000000
section ifm
variable [Ifl]
theorem le_tmps{s:St}(l:List (Nat×D))(ht:∀ p∈l,s.t p.1=p.2):StLe s ⟨tabT l,s.m,s.nx,s.lo⟩:=by
 intro E B nn β a w hr
 refine⟨β,hr.mem,fun k hk=>?_,hr.width,hr.defers,hr.le,hr.sle,hr.lo⟩
 rcases ZbV l k with h1|⟨d,h1,h2⟩
 ·simp only[h1];exact .junk _
 ·simp only[h2]
  have:=hr.tmp k hk
  rw[ht _ h1]at this
  exact this
def Cl(m:Mem)(nx:Nat):Prop:=∀ id b,m id=some b→id<nx∧Zb0 (fun i=>(m i).isSome) b
theorem Zag.closed{E:Env}{β:Bet}{m:Mem}{nx:Nat}{w:World}(h:Zag E β m nx w):Cl m nx:=by
 intro id b hb
 refine⟨h.lt id b hb,fun e he=>?_⟩
 cases hbt:β id with
 | none=>rw[h.non id b hb hbt]at he;cases he
 | some c =>
   obtain⟨_,cs,_,_,h4⟩:=h.row id b c hb hbt
   obtain⟨i,hi⟩:=List.getElem?_of_mem he
   have:∀ l:List D,(∀ d∈l,okD (fun i=>(m i).isSome) d=true)→okDs (fun i=>(m i).isSome) l=true:=by
    intro l
    induction l with
    | nil=>intro _;rfl
    | cons d l ih=>intro hl;simp only[okDs,Ya2];exact⟨hl d (by simp),ih fun x hx=>hl x (by simp[hx])⟩
   refine this e fun d hd=>?_
   obtain⟨j,hj⟩:=List.getElem?_of_mem hd
   obtain⟨u,_,h5⟩:=h4 i j d (Zaf.2 ⟨e,hi,hj⟩)
   exact h5.names
theorem Zaj.cl{P:Program}{f:FuncId}{ds:List D}{m:Mem}{nx:Nat}{K:D→Mem→Nat→Prop}(hb:ZbO P f)(h:Cl m nx→Zaj P f ds m nx K):Zaj P f ds m nx K :=
 ⟨hb,fun E β w vs hM hvs=>(h hM.closed).2 E β w vs hM hvs⟩
end ifm
abbrev fB(n:Nat)(c:Nat→Rat):Blk:=⟨35,1,4,ratL n c,0,false⟩
mutual
theorem ZcG{p q:Nat→Bool}(h:∀ i,p i=true→q i=true):∀ d:D,okD p d=true→okD q d=true
 | .v _,_=>rfl
 | .nil,_=>rfl
 | .agg l,ho=>by simp only[okD]at ho ⊢;exact ZaB h l ho
 | .tup l,ho=>by simp only[okD]at ho ⊢;exact ZaB h l ho
 | .sl _,_=>rfl
 | .cl _,_=>rfl
 | .ep _ _ _,_=>rfl
 | .ls id _,ho=>h id ho
 | .lp id _ _ _,ho=>h id ho
 | .clo _ l,ho=>by simp only[okD]at ho ⊢;exact ZaB h l ho
 | .junk,_=>rfl
theorem ZaB{p q:Nat→Bool}(h:∀ i,p i=true→q i=true):∀ l:List D,okDs p l=true→okDs q l=true
 | [],_=>rfl
 | d ::l,ho=>by
   simp only[okDs,Ya2]at ho ⊢
   exact⟨ZcG h d ho.1,ZaB h l ho.2⟩
end
theorem Zdd{b:Blk}(hb:Zb0 (fun _=>false) b)(k:Nat→Bool):Zb0 k b:=fun e he=>ZaB (fun _ h=>by cases h) e (hb e he)
theorem Cl.upd{m:Mem}{nx id n':Nat}{blk:Blk}(h:Cl m nx)(hb:Zb0 (fun _=>false) blk)(hid:id<n')(hn:nx≤n'):Cl (upd m id (some blk)) n':=by
 intro i b hi
 by_cases e:i=id
 ·subst e;rw[Zaa]at hi;cases hi;exact⟨hid,Zdd hb _⟩
 ·rw[Zab _ _ e]at hi
  refine⟨by have:=(h i b hi).1;omega,fun x hx=>ZaB (fun j hj=>?_) x ((h i b hi).2 x hx)⟩
  by_cases e2:j=id
  ·subst e2;rw[Zaa];rfl
  ·rw[Zab _ _ e2];exact hj
section
variable [Ifl] {P:Program} {f:FuncId} {ds:List D} {m:Mem} {nx:Nat}
theorem Cl.sub{m':Mem}{n':Nat}(h:Cl m n')(hs:∀ id b,m id=some b→m' id=some b):SubM m m' n':=⟨fun id b hb=>⟨hs id b hb,(h id b hb).1⟩,fun id b hb=>(h id b hb).2⟩
theorem Zaj.made{ver:Nat}{blk:Blk}(hb:Zb0 (fun _=>false) blk)(h:Zaj P f ds m nx fun d m' nx'=>d = .ls nx ver∧nx<nx'∧m' nx=some blk∧∀ id,id<nx→m' id=m id) :
 Zaj P f ds m nx fun d m' nx'=>d = .ls nx ver∧m'=upd m nx (some blk)∧nx'=nx+1:=by
 refine Zaj.cl h.1 fun hcl=>Zaj.sub (h.mono ?_)
 rintro d m' nx' ⟨rfl,h1,h2,h3⟩
 refine⟨_,_,(hcl.upd hb (Nat.lt_succ_self nx) (Nat.le_succ nx)).sub fun id b hi=>?_,?_,fun id hi=>?_,rfl,rfl,rfl⟩
 ·by_cases e:id=nx
  ·subst e;rw[Zaa]at hi;rw[h2];exact hi
  ·rw[Zab _ _ e]at hi;rw[h3 id (hcl id b hi).1];exact hi
 ·simp only[okD,Zaa];rfl
 ·cases hm:m id with
  | none=>rw[hm]at hi;cases hi
  | some b =>
    have:=(hcl id b hm).1
    rw[Zab _ _ (by omega),h3 id this]
theorem Zaj.kept{d0:D}{A:Nat}{b0 blk:Blk}(hA:m A=some b0)(hd:okD (fun _=>false) d0=true)(hb:Zb0 (fun _=>false) blk)(h:Zaj P f ds m nx fun d m' nx'=>d=d0∧nx≤nx'∧m' A=some blk∧∀ id,id<nx→id≠A→m' id=m id) :
 Zaj P f ds m nx fun d m' nx'=>d=d0∧m'=upd m A (some blk)∧nx'=nx:=by
 refine Zaj.cl h.1 fun hcl=>Zaj.sub (h.mono ?_)
 rintro d m' nx' ⟨rfl,h1,h2,h3⟩
 refine⟨_,_,(hcl.upd hb (hcl A b0 hA).1 (Ya4 nx)).sub fun id b hi=>?_,ZcG (fun _ h=>by cases h) d hd,fun id hi=>?_,rfl,rfl,rfl⟩
 ·by_cases e:id=A
  ·subst e;rw[Zaa]at hi;rw[h2];exact hi
  ·rw[Zab _ _ e]at hi;rw[h3 id (hcl id b hi).1 e];exact hi
 ·by_cases e:id=A
  ·subst e;rw[Zaa,h2]
  ·cases hm:m id with
   | none=>rw[hm]at hi;cases hi
   | some b=>rw[Zab _ _ e,h3 id (hcl id b hm).1 e]
end
def pick(f:Nat→Nat)(p:Nat→Bool):Nat→Option Nat
 | 0=>none
 | i+1=>if p i then(match pick f p i with
   | none=>some i
   | some a=>if f i<f a then some i else some a)else pick f p i
abbrev iB(T ver k:Nat)(f:Nat→Nat):Blk:=⟨T,ver,1,tabL k fun i=>[dI (f i)],0,false⟩
structure Ids where
 p:Nat
 R:Nat
 G:Nat
 O:Nat
 Fr:Nat
 F:Nat
 A:Nat→Nat
 vR:Nat
 vO:Nat
 vFr:Nat
 vF:Nat
abbrev pB(I:Ids)(n:Nat):Blk:=⟨224,0,6,[[dI n,.ls I.R I.vR,.ls I.G 1,.ls I.O I.vO,.ls I.Fr I.vFr,.ls I.F I.vF]],0,false⟩
def Zdx(I:Ids)(m:Nat)(v:Nat→Rat):List (List D):=tabL m fun k=>cF (ofQ (v k))++[.ls (I.A k) 1]
theorem Zc4{I:Ids}{m:Nat}{v w:Nat→Rat}(h:∀ k,k<m→v k=w k):Zdx I m v=Zdx I m w:=ZaJ fun k hk=>by rw[h k hk]
abbrev rB(I:Ids)(m:Nat)(v:Nat→Rat):Blk:=⟨227,I.vR,5,Zdx I m v,0,false⟩
abbrev sB(ver m:Nat)(src:Nat→Nat×Bool):Blk:=⟨251,ver,2,tabL m fun i=>[dI (src i).1,dB (src i).2],0,false⟩
structure Zby (m:Mem) (I:Ids) (d:Dic) (src:Nat→Nat×Bool):Prop where
 hp:m I.p=some (pB I d.n)
 hR:m I.R=some (rB I d.m d.v)
 hG:m I.G=some (fB d.n d.g)
 hO:m I.O=some (iB 3 I.vO d.m d.own)
 hFr:m I.Fr=some (iB 3 I.vFr d.n d.free)
 hF:m I.F=some (sB I.vF d.m src)
 hA:∀ k,k<d.m→m (I.A k)=some (fB d.n (d.a k))
structure Zee (I:Ids) (m:Nat):Prop where
 pR:I.p≠I.R
 pG:I.p≠I.G
 pO:I.p≠I.O
 pFr:I.p≠I.Fr
 pF:I.p≠I.F
 RG:I.R≠I.G
 RO:I.R≠I.O
 RFr:I.R≠I.Fr
 RF:I.R≠I.F
 GO:I.G≠I.O
 GFr:I.G≠I.Fr
 GF:I.G≠I.F
 OFr:I.O≠I.Fr
 OF:I.O≠I.F
 FrF:I.Fr≠I.F
 Ap:∀ k,k<m→I.A k≠I.p
 AR:∀ k,k<m→I.A k≠I.R
 AG:∀ k,k<m→I.A k≠I.G
 AO:∀ k,k<m→I.A k≠I.O
 AFr:∀ k,k<m→I.A k≠I.Fr
 AF:∀ k,k<m→I.A k≠I.F
 AA:∀ k l,k<m→l<m→k≠l→I.A k≠I.A l
def inD(I:Ids)(m:Nat)(id:Nat):Prop:=id=I.p∨id=I.R∨id=I.G∨id=I.O∨id=I.Fr∨id=I.F∨∃ k,k<m∧id=I.A k
theorem Zby.lt{m:Mem}{I:Ids}{d:Dic}{src:Nat→Nat×Bool}{nx:Nat}(h:Zby m I d src)(hc:Cl m nx){id:Nat}(hi:inD I d.m id):id<nx:=by
 rcases hi with rfl|rfl|rfl|rfl|rfl|rfl|⟨k,hk,rfl⟩
 ·exact(hc _ _ h.hp).1
 ·exact(hc _ _ h.hR).1
 ·exact(hc _ _ h.hG).1
 ·exact(hc _ _ h.hO).1
 ·exact(hc _ _ h.hFr).1
 ·exact(hc _ _ h.hF).1
 ·exact(hc _ _ (h.hA k hk)).1
theorem Zby.keep{m m':Mem}{I:Ids}{d:Dic}{src:Nat→Nat×Bool}(h:Zby m I d src)(hf:∀ id,inD I d.m id→m' id=m id):Zby m' I d src :=
 ⟨(hf _ (.inl rfl)).trans h.hp,(hf _ (.inr (.inl rfl))).trans h.hR,(hf _ (.inr (.inr (.inl rfl)))).trans h.hG,(hf _ (.inr (.inr (.inr (.inl rfl))))).trans h.hO,(hf _ (.inr (.inr (.inr (.inr (.inl rfl)))))).trans h.hFr,
   (hf _ (.inr (.inr (.inr (.inr (.inr (.inl rfl))))))).trans h.hF,fun k hk=>(hf _ (.inr (.inr (.inr (.inr (.inr (.inr ⟨k,hk,rfl⟩))))))).trans (h.hA k hk)⟩
def neg'(r:Rat):Bool:=decide ((ofQ r).p.s<0)
def pos'(r:Rat):Bool:=decide ((ofQ r).p.s>0)
section
variable [Ifl] {I:Ids} {d:Dic} {src:Nat→Nat×Bool} {m:Mem} {nx bx:Nat}
end
section
variable {I:Ids} {d:Dic} {src:Nat→Nat×Bool} {m:Mem}
theorem Zby.new(h:Zby m I d src){x:Nat}{b:Option Blk}(hx:∀ id,inD I d.m id→id≠x):Zby (upd m x b) I d src:=h.keep fun id hi=>Zab _ _ (hx id hi)
theorem Zby.congr(h:Zby m I d src){v:Nat→Rat}{a:Nat→Nat→Rat}(hv:∀ k,k<d.m→v k=d.v k)(ha:∀ k j,k<d.m→j<d.n→a k j=d.a k j):Zby m I {d with v:=v,a:=a} src :=
 ⟨h.hp,by have:=h.hR;unfold rB at this ⊢;rwa [← Zc4 hv]at this,h.hG,h.hO,h.hFr,h.hF,fun k hk=>by have:=h.hA k hk;unfold fB at this ⊢;rwa [← Zbo (ha k · hk)]at this⟩
end
inductive Out where
 | best
 | row (r:Nat)
 | col (s:Nat)
 | ex (r s:Nat)
def Zdz(d:Dic)(r:Nat):Out:=match pick d.free (fun j=>neg' (d.a r j)) d.n with
 | none=>.row r
 | some s=>.ex r s
def Zd2(d:Dic)(s:Nat):Out:=match pick d.own (fun i=>pos' (d.a i s)) d.m with
 | none=>.col s
 | some r=>.ex r s
def next(d:Dic):Out:=match pick d.own (fun i=>neg' (d.v i)) d.m,pick d.free (fun j=>pos' (d.g j)) d.n with
 | none,none=>.best
 | some r,none=>Zdz d r
 | some r,some s=>if d.own r<d.free s then Zdz d r else Zd2 d s
 | none,some s=>Zd2 d s
def iter(d:Dic):Dic:=match next d with
 | .ex r s=>d.ex r s
 | _=>d
def ended(d:Dic):Prop:=∀ r s,next d ≠ .ex r s
def Zfp:Nat→Dic→Dic
 | 0,d=>d
 | k+1,d=>Zfp k (iter d)
noncomputable def left (d:Dic):Nat:=Zgb fun k=>ended (Zfp k d)
noncomputable def final (d:Dic):Dic:=Zfp (left d) d
set_option maxHeartbeats 32000000
section
variable [Ifl]
theorem Zde{E:Env}{β:Bet}{m:Mem}{nx:Nat}{w:World}(hM:Zag E β m nx w){id:Nat}{b:Blk}{es':List (List D)}(hb:m id=some b)(hl:es'.length=b.es.length)
 (hw:∀ (i:Nat)(e':List D),es'[i]? =some e'→∃ e,b.es[i]? =some e∧e'.length=e.length)
 (hc:∀ (i j:Nat)(d':D),cellAt es' i j=some d'→∃ d,cellAt b.es i j=some d∧∀ u,Rep β m (safe E β m) w u d→Rep β m (safe E β m) w u d') :
 Zag E β (upd m id (some {b with es:=es'})) nx w∧Zah β m w β (upd m id (some {b with es:=es'})) w∧Zac (safe E β m) w (safe E β (upd m id (some {b with es:=es'}))) w:=by
 have hm:Zah β m w β (upd m id (some {b with es:=es'})) w:=by
  refine⟨fun x y hx=>?_,fun _ _ h=>h⟩
  by_cases e:x=id
  ·subst e
   rw[hb]at hx;cases hx
   exact⟨_,Zaa _ _ _,Ya4 _,fun _=>⟨rfl,hl,rfl⟩⟩
  ·exact⟨y,by rw[Zab _ _ e];exact hx,Ya4 _,fun _=>⟨rfl,rfl,rfl⟩⟩
 have hget:∀ x y,upd m id (some {b with es:=es'}) x=some y→∃ z,m x=some z∧y.T=z.T∧y.k=z.k∧y.es.length=z.es.length∧y.fz=z.fz∧y.dead=z.dead∧(y.es=z.es∨(z=b∧y.es=es')):=by
  intro x y hx
  by_cases e:x=id
  ·subst e;rw[Zaa]at hx;cases hx;exact⟨b,hb,rfl,rfl,hl,rfl,rfl,.inr ⟨rfl,rfl⟩⟩
  ·rw[Zab _ _ e]at hx;exact⟨y,hx,rfl,rfl,rfl,rfl,rfl,.inl rfl⟩
 have hs:Zac (safe E β m) w (safe E β (upd m id (some {b with es:=es'}))) w:=by
  intro c o u h1 h2
  refine⟨⟨h1.1,fun x y hx hy=>?_⟩,h2⟩
  obtain⟨z,hz,e1,e2,e3,e4,e5,_⟩:=hget x y hx
  rw[e4,e2,e5]
  exact h1.2 x z hz hy
 refine⟨⟨hM.below,?_,?_,?_,?_,?_,?_⟩,hm,hs⟩
 ·intro x y hx
  obtain⟨z,hz,_⟩:=hget x y hx
  exact hM.lt x z hz
 ·intro x y hx
  obtain⟨z,hz,e1,e2,e3,e4,_⟩:=hget x y hx
  rw[e3,e4];exact hM.fz x z hz
 ·intro x y hx i e he
  obtain⟨z,hz,e1,e2,e3,e4,e5,e6⟩:=hget x y hx
  rw[e2]
  rcases e6 with e6|⟨rfl,e6⟩
  ·rw[e6]at he;exact hM.wid x z hz i e he
  ·rw[e6]at he
   obtain⟨e0,h0,hlen⟩:=hw i e he
   rw[hlen];exact hM.wid x z hz i e0 h0
 ·intro x y hx hbx
  obtain⟨z,hz,e1,e2,e3,_⟩:=hget x y hx
  have:=hM.non x z hz hbx
  rw[this]at e3
  exact Ya9 e3
 ·intro x y c hx hbx
  obtain⟨z,hz,e1,e2,e3,e4,e5,e6⟩:=hget x y hx
  obtain⟨h3,cs',h4,h5,h6⟩:=hM.row x z c hz hbx
  rw[e1,e2,e3]
  refine⟨h3,cs',h4,h5,fun i j d hd=>?_⟩
  rcases e6 with e6|⟨rfl,e6⟩
  ·rw[e6]at hd
   obtain⟨u,h7,h8⟩:=h6 i j d hd
   exact⟨u,h7,h8.mono hm hs⟩
  ·rw[e6]at hd
   obtain⟨d0,h7,h70⟩:=hc i j d hd
   obtain⟨u,h8,h9⟩:=h6 i j d0 h7
   exact⟨u,h8,(h70 u h9).mono hm hs⟩
 ·intro x1 x2 y1 y2 c h1 h2 h3 h4
  obtain⟨z1,hz1,_⟩:=hget x1 y1 h1
  obtain⟨z2,hz2,_⟩:=hget x2 y2 h2
  exact hM.inj x1 x2 z1 z2 c hz1 hz2 h3 h4
theorem le_rowIn{s:St}(id i j T kk:Nat){b:Blk}{e:List D}(hb:s.m id=some b)(he:b.es[i]? =some e)(hj:e[j]? =some .nil) :
 StLe s ⟨s.t,upd (upd s.m s.nx (some ⟨T,0,kk,[],0,false⟩)) id (some {b with es:=b.es.set i (e.set j (.ls s.nx 0))}),s.nx+1,s.lo⟩:=by
 intro E B nn β a w h
 obtain⟨h1,h2,h3⟩:=Zbp (id:=s.nx) (h.mem.mono_nx (Nat.le_succ _)) (Nat.lt_succ_self _) ⟨T,0,kk,[],0,false⟩ rfl rfl (.inl h.mem.none)
 have hne:id≠s.nx:=by have:=h.mem.lt id b hb;omega
 obtain⟨g1,g2,g3⟩:=Zde (id:=id) (b:=b) (es':=b.es.set i (e.set j (.ls s.nx 0))) h1 (by rw[Zab _ _ hne];exact hb) (by simp) (fun i' e' hi'=>by
  rw[List.getElem?_set]at hi'
  split at hi'
  ·rename_i hii
   subst hii
   split at hi'
   ·cases hi';exact⟨e,he,by simp⟩
   ·cases hi'
  ·exact⟨e',hi',rfl⟩) (fun i' j' d' hd'=>by
  obtain⟨e',he',hj'⟩:=Zaf.1 hd'
  rw[List.getElem?_set]at he'
  split at he'
  ·rename_i hii
   subst hii
   split at he'
   ·cases he'
    rw[List.getElem?_set]at hj'
    split at hj'
    ·rename_i hjj
     subst hjj
     split at hj'
     ·cases hj'
      refine⟨.nil,Zaf.2 ⟨e,he,hj⟩,fun u hu=>?_⟩
      rw[hu.inv_nil]
      exact .ls _ _ _ _ _ ⟨T,0,kk,[],0,false⟩ (Zaa _ _ _) (Ya4 _) (fun _ _=>rfl) fun _=>⟨rfl,Ya4 _,Yb0 _,.inl ⟨Zaa _ _ _,rfl,rfl⟩⟩
     ·cases hj'
    ·exact⟨d',Zaf.2 ⟨e,he,hj'⟩,fun _ hu=>hu⟩
   ·cases he'
  ·exact⟨d',Zaf.2 ⟨e',he',hj'⟩,fun _ hu=>hu⟩)
 exact⟨_,g1,fun k hk=>((h.tmp k hk).mono h2 h3).mono g2 g3,h.width,h.defers,(h.le.trans h2).trans g2,(h.sle.trans h3).trans g3,h.lo⟩
end
theorem Cl.none{m:Mem}{nx id:Nat}(h:Cl m nx)(hi:nx≤id):m id=none:=by
 cases hm:m id with
 | none=>rfl
 | some b=>have:=(h id b hm).1;omega
def Za8(I:Ids)(m x:Nat):Ids:={I with A:=fun k=>if k=m then x else I.A k,vR:=I.vR+1,vO:=I.vO+1,vF:=I.vF+1}
def sgQ'(turned:Bool)(q:Rat):Rat:=if turned then -q else q
def Zbc(d:Dic)(w:RowD)(turned:Bool):Dic :=
 {d with m:=d.m+1,own:=fun k=>if k=d.m then d.n+d.m else d.own k,v:=fun k=>if k=d.m then sgQ' turned (qOf w.v)else d.v k,a:=fun k=>if k=d.m then(fun j=>sgQ' turned (Zay w.t j))else d.a k}
structure Zb7 (fr:List (List D)) (m:Mem) (I:Ids) (d:Dic) (src:Nat→Nat×Bool):Prop where
 hp:m I.p=some (pB I d.n)
 hR:m I.R=some (rB I d.m d.v)
 hG:m I.G=some (fB d.n d.g)
 hO:m I.O=some (iB 3 I.vO d.m d.own)
 hFr:m I.Fr=some ⟨3,I.vFr,1,fr,0,false⟩
 hF:m I.F=some (sB I.vF d.m src)
 hA:∀ k,k<d.m→m (I.A k)=some (fB d.n (d.a k))
theorem Zb7.lt{fr:List (List D)}{m:Mem}{I:Ids}{d:Dic}{src:Nat→Nat×Bool}{nx:Nat}(h:Zb7 fr m I d src)(hc:Cl m nx){id:Nat}(hi:inD I d.m id):id<nx:=by
 rcases hi with rfl|rfl|rfl|rfl|rfl|rfl|⟨k,hk,rfl⟩
 ·exact(hc _ _ h.hp).1
 ·exact(hc _ _ h.hR).1
 ·exact(hc _ _ h.hG).1
 ·exact(hc _ _ h.hO).1
 ·exact(hc _ _ h.hFr).1
 ·exact(hc _ _ h.hF).1
 ·exact(hc _ _ (h.hA k hk)).1
theorem Zb7.keep{fr:List (List D)}{m m':Mem}{I:Ids}{d:Dic}{src:Nat→Nat×Bool}(h:Zb7 fr m I d src)(hf:∀ id,inD I d.m id→m' id=m id):Zb7 fr m' I d src :=
 ⟨(hf _ (.inl rfl)).trans h.hp,(hf _ (.inr (.inl rfl))).trans h.hR,(hf _ (.inr (.inr (.inl rfl)))).trans h.hG,(hf _ (.inr (.inr (.inr (.inl rfl))))).trans h.hO,(hf _ (.inr (.inr (.inr (.inr (.inl rfl)))))).trans h.hFr,
   (hf _ (.inr (.inr (.inr (.inr (.inr (.inl rfl))))))).trans h.hF,fun k hk=>(hf _ (.inr (.inr (.inr (.inr (.inr (.inr ⟨k,hk,rfl⟩))))))).trans (h.hA k hk)⟩
theorem ZbU(k:Nat)(c:Nat→List D):tabL (k+1) c=tabL k c++[c k]:=by unfold tabL;rw[List.range_succ,List.map_append];rfl
theorem Zb7.add{fr:List (List D)}{m m':Mem}{I:Ids}{d:Dic}{src:Nat→Nat×Bool}{nx x:Nat}(h:Zb7 fr m I d src)(ap:Zee I d.m)(lt:∀ id,inD I d.m id→id<nx)(w:RowD)(row:Nat)(turned:Bool){c:Nat→Rat}{Q:Rat}
 (h1:m' I.p=some ⟨224,0,6,[[dI d.n,.ls I.R (I.vR+1),.ls I.G 1,.ls I.O (I.vO+1),.ls I.Fr I.vFr,.ls I.F (I.vF+1)]],0,false⟩)
 (h2:m' I.R=some ⟨227,I.vR+1,5,Zdx I d.m d.v++[[dI (ofQ Q).p.s,ZaN (ofQ Q).p.d,dI (ofQ Q).q.s,ZaN (ofQ Q).q.d,.ls x 1]],0,false⟩)
 (h3:m' I.O=some ⟨3,I.vO+1,1,(tabL d.m fun i=>[dI (d.own i)])++[[dI ((d.n+d.m:Nat):Int)]],0,false⟩)
 (h4:m' I.F=some ⟨251,I.vF+1,2,(tabL d.m fun i=>[dI (src i).1,dB (src i).2])++[[dI (row:Int),dB turned]],0,false⟩)
 (h5:m' x=some (fB d.n c)) (hc:∀ j,j<d.n→c j=sgQ' turned (Zay w.t j)) (hQ:Q=sgQ' turned (qOf w.v)) (hf:∀ id,id<nx→id≠I.p→id≠I.R→id≠I.O→id≠I.F→m' id=m id) :
 Zb7 fr m' (Za8 I d.m x) (Zbc d w turned) (fun k=>if k=d.m then(row,turned)else src k):=by
 refine⟨h1,h2.trans ?_,?_,h3.trans ?_,?_,h4.trans ?_,fun k hk=>?_⟩
 ·unfold rB Zdx
  show _=some (Blk.mk _ _ _ (tabL (d.m+1) _) _ _)
  rw[ZbU]
  refine congrArg (fun l=>some (Blk.mk _ _ _ l 0 false)) (_root_.congr (congrArg HAppend.hAppend (ZaJ fun k hk=>?_)) (congrArg (fun x=>[x]) ?_))
  ·simp only[Zbc,Za8,if_neg (show ¬ k=d.m by omega)]
  ·simp only[Zbc,Za8,if_pos,← hQ];rfl
 ·exact(hf _ (lt _ (.inr (.inr (.inl rfl)))) ap.pG.symm ap.RG.symm ap.GO ap.GF).trans h.hG
 ·unfold iB
  show _=some (Blk.mk _ _ _ (tabL (d.m+1) _) _ _)
  rw[ZbU]
  refine congrArg (fun l=>some (Blk.mk _ _ _ l 0 false)) (_root_.congr (congrArg HAppend.hAppend (ZaJ fun k hk=>?_)) (congrArg (fun x=>[x]) ?_))
  ·simp only[Zbc,if_neg (show ¬ k=d.m by omega)]
  ·simp only[Zbc,if_pos]
 ·exact(hf _ (lt _ (.inr (.inr (.inr (.inr (.inl rfl)))))) ap.pFr.symm ap.RFr.symm ap.OFr.symm ap.FrF).trans h.hFr
 ·unfold sB
  show _=some (Blk.mk _ _ _ (tabL (d.m+1) _) _ _)
  rw[ZbU]
  refine congrArg (fun l=>some (Blk.mk _ _ _ l 0 false)) (_root_.congr (congrArg HAppend.hAppend (ZaJ fun k hk=>?_)) (congrArg (fun x=>[x]) ?_))
  ·simp only[if_neg (show ¬ k=d.m by omega)]
  ·simp only[if_pos]
 ·by_cases e:k=d.m
  ·subst e
   simp only[Za8,Zbc,if_pos]
   refine h5.trans ?_
   unfold fB
   rw[Zbo hc]
  ·have hk2:k<d.m:=by have:k<d.m+1:=hk;omega
   simp only[Za8,Zbc,if_neg e]
   exact(hf _ (lt _ (.inr (.inr (.inr (.inr (.inr (.inr ⟨k,hk2,rfl⟩))))))) (ap.Ap k hk2) (ap.AR k hk2) (ap.AO k hk2) (ap.AF k hk2)).trans (h.hA k hk2)
def dicZ(n:Nat)(g:Nat→Rat):Dic:={m:=0,n:=n,own:=fun _=>0,free:=fun j=>j,v:=fun _=>0,a:=fun _ _=>0,g:=g,z:=0}
def addP(w:RowD)(row:Nat)(turned:Bool)(x:Dic×(Nat→Nat×Bool)):Dic×(Nat→Nat×Bool):=(Zbc x.1 w turned,fun k=>if k=x.1.m then(row,turned)else x.2 k)
def putP(x:Dic×(Nat→Nat×Bool))(row:Nat)(w:RowD):Dic×(Nat→Nat×Bool) :=
 let y:=if w.k=0 then x else addP w row false x
 if w.k=1 then y else addP w row true y
def Zen(g:Nat→Rat)(s:SysD):Nat→Dic×(Nat→Nat×Bool)
 | 0=>(dicZ s.n.toNat g,fun _=>(0,false))
 | k+1=>match s.r[k]? with
   | some w=>putP (Zen g s k) k w
   | none=>Zen g s k
def openD(s:SysD)(goal:List Zae):Dic×(Nat→Nat×Bool):=Zen (fun j=> -Zay goal j) s s.r.length
theorem Zee.add{I:Ids}{m x:Nat}(ap:Zee I m)(hp:x≠I.p)(hR:x≠I.R)(hG:x≠I.G)(hO:x≠I.O)(hFr:x≠I.Fr)(hF:x≠I.F)(hA:∀ k,k<m→x≠I.A k):Zee (Za8 I m x) (m+1):=by
 have key:∀ (y:Nat),x≠y→(∀ k,k<m→I.A k≠y)→∀ k,k<m+1→(Za8 I m x).A k≠y:=by
  intro y h1 h2 k hk
  simp only[Za8]
  by_cases e:k=m
  ·rw[if_pos e];exact h1
  ·rw[if_neg e];exact h2 k (by omega)
 refine⟨ap.pR,ap.pG,ap.pO,ap.pFr,ap.pF,ap.RG,ap.RO,ap.RFr,ap.RF,ap.GO,ap.GFr,ap.GF,ap.OFr,ap.OF,ap.FrF,key _ hp ap.Ap,key _ hR ap.AR,key _ hG ap.AG,key _ hO ap.AO,key _ hFr ap.AFr,key _ hF ap.AF,?_⟩
 intro k l hk hl hkl
 simp only[Za8]
 by_cases e:k=m
 ·rw[if_pos e,if_neg (by omega)];exact hA l (by omega)
 ·rw[if_neg e]
  by_cases e2:l=m
  ·rw[if_pos e2];exact(hA k (by omega)).symm
  ·rw[if_neg e2];exact ap.AA k l (by omega) (by omega) hkl
abbrev opI(nx:Nat)(A:Nat→Nat)(vR vO vFr vF:Nat):Ids:=⟨nx+2,nx+3,nx+1,nx+4,nx+5,nx+6,A,vR,vO,vFr,vF⟩
def ZbR(nx v:Nat)(fr:List (List D))(b:Nat)(m:Mem)(x:Dic×(Nat→Nat×Bool)):Prop :=
 ∃ A vR vO vF,Zb7 fr m (opI nx A vR vO v vF) x.1 x.2∧Zee (opI nx A vR vO v vF) x.1.m∧nx+6<b∧∀ k,k<x.1.m→nx+6<A k∧A k<b
theorem Zf8{nx:Nat}{A:Nat→Nat}{vR vO vFr vF b M:Nat}(hb:nx+6<b)(h:∀ k,k<M→nx+6<A k∧A k<b){id:Nat}(hi:inD (opI nx A vR vO vFr vF) M id):nx<id∧id<b:=by
 rcases hi with rfl|rfl|rfl|rfl|rfl|rfl|⟨k,hk,rfl⟩
 ·exact⟨by show nx<nx+2;omega,by show nx+2<b;omega⟩
 ·exact⟨by show nx<nx+3;omega,by show nx+3<b;omega⟩
 ·exact⟨by show nx<nx+1;omega,by show nx+1<b;omega⟩
 ·exact⟨by show nx<nx+4;omega,by show nx+4<b;omega⟩
 ·exact⟨by show nx<nx+5;omega,by show nx+5<b;omega⟩
 ·exact⟨by show nx<nx+6;omega,by show nx+6<b;omega⟩
 ·have:=h k hk;exact⟨by show nx<A k;omega,by show A k<b;omega⟩
theorem ZbR.keep{nx v:Nat}{fr:List (List D)}{b b':Nat}{m m':Mem}{x:Dic×(Nat→Nat×Bool)}(h:ZbR nx v fr b m x)(hb:b≤b')(hk:∀ id,nx<id→id<b→m' id=m id):ZbR nx v fr b' m' x:=by
 obtain⟨A,vR,vO,vF,h1,h2,h3,h4⟩:=h
 exact⟨A,vR,vO,vF,h1.keep fun id hi=>by have:=Zf8 h3 h4 hi;exact hk id this.1 this.2,h2,by omega,fun k hk=>by have:=h4 k hk;omega⟩
def setG(x:Dic×(Nat→Nat×Bool))(g:Nat→Rat):Dic×(Nat→Nat×Bool):=({x.1 with g:=g},x.2)
theorem ZbR.g{nx v:Nat}{fr:List (List D)}{b:Nat}{m:Mem}{x:Dic×(Nat→Nat×Bool)}(h:ZbR nx v fr b m x){g:Nat→Rat}(hg:∀ j,j<x.1.n→g j=x.1.g j):ZbR nx v fr b m (setG x g):=by
 obtain⟨A,vR,vO,vF,h1,h2,h3,h4⟩:=h
 refine⟨A,vR,vO,vF,⟨h1.hp,h1.hR,?_,h1.hO,h1.hFr,h1.hF,h1.hA⟩,h2,h3,h4⟩
 have:=h1.hG
 unfold fB at this ⊢
 show _=some (Blk.mk _ _ _ (ratL x.1.n g) _ _)
 rw[Zbo hg];exact this
noncomputable def fin (s:SysD) (goal:List Zae):Dic:=final (openD s goal).1
structure Fit (s:SysD) (goal:List Zae) (B:Nat:=2) (T:Nat:=6):Prop where
 l:s.r.length≤32
 n:Zar s=true→s.n≤16
 t:Zar s=true→s.n≤T∨(Zen (fun _=>0) s s.r.length).1.m≤T
 w:∀ w∈s.r,w.t.length≤64∧szF w.v≤B∧∀ t∈w.t,szF t.f≤B
 g:goal.length≤16∧∀ t∈goal,szF t.f≤B
 b:1≤B
 gl:Dic.grow B T+B+1≤262144
section
variable {s:SysD} {goal:List Zae} {B T:Nat}
theorem Fit.nil(h:Fit s goal B T):Fit s [] B T:=⟨h.l,h.n,h.t,h.w,⟨by simp,fun t ht=>by cases ht⟩,h.b,h.gl⟩
end
section
variable {s:SysD} {goal:List Zae}
end
end Go.Proofs.YtiincpioidnciaaGreat
