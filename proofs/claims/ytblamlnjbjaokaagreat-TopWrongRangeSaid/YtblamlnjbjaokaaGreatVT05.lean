/-
  The stocks of a history in memory: carry.
-/
import Derived.Test.YtblamlnjbjaokaaGreatVLib
import Derived.Test.YtblamlnjbjaokaaGreatVT04
import Derived.Test.YtblamlnjbjaokaaGreatVT00
import Derived.TacticsIn
import Derived.RangeFuncKeeps
import Derived.OrdersIn
namespace Go.Proofs.YtblamlnjbjaokaaGreat
set_option linter.unusedVariables false
set_option linter.unusedSimpArgs false
set_option linter.unusedSectionVars false
open Go Go.RowKit
set_option maxRecDepth 100000
set_option maxHeartbeats 16000000
def ZaZ(c:Nat→Nat→Rat)(f t:Nat)(q:Nat→Rat)(j:Nat):Nat→Nat→Rat:=fun p k=>if k<j then(if p=t then c p k+q k else if p=f then c p k-q k else c p k)else c p k
section
variable {x:MvD} {l:List Zac} {m:Mem} {nx s:Nat} {R:Nat→Nat} {P M:Nat} {c:Nat→Nat→Rat} {q:Nat→Rat}
theorem ZxQ[Ifl](hS:m s=some (stB P R))(hF:m (R x.f.toNat)=some (fB M (c x.f.toNat)))(hT:m (R x.t.toNat)=some (fB M (c x.t.toNat)))(ap:Apt s R P)(f0:0≤x.f)(f1:x.f<P)(t0:0≤x.t)(t1:x.t<P)(ne:x.f≠x.t)(hl:l.length=M)(hM:(M:Int)≤6)(hq:∀ k,k<M→l[k]? =some (ofQ (q k)))(zq:∀ k,k<M→szQ (q k)≤4)(zc:∀ p k,p<P→k<M→szQ (c p k)≤1000) :
 Zas Tryz.prog 31 [.ls s 1,.agg (cMv x),ZaM l] m nx fun d m' nx'=>d=oneD []∧nx≤nx'∧m' (R x.f.toNat)=some (fB M (ZaZ c x.f.toNat x.t.toNat q M x.f.toNat))∧m' (R x.t.toNat)=some (fB M (ZaZ c x.f.toNat x.t.toNat q M x.t.toNat))∧∀ id,id<nx→id≠R x.f.toNat→id≠R x.t.toNat→m' id=m id:=by
 refine Zas.cl ⟨_,_,Tryz.func31,rfl,by kernel_rfl⟩ fun hcl=>?_
 have Zr:=Tryz.results31
 refine inA Tryz.func31 rfl Tryz.ntmps31 ?_
 have ls:=(hcl _ _ hS).1
 have F1:x.f.toNat<P:=by omega
 have T1:x.t.toNat<P:=by omega
 have FT:x.f.toNat≠x.t.toNat:=by omega
 have lF:=(hcl _ _ hF).1
 have lT:=(hcl _ _ hT).1
 have gF:=Zez (fun p=>[D.ls (R p) 1]) F1
 have gT:=Zez (fun p=>[D.ls (R p) 1]) T1
 have hln:(tabL P fun p=>[D.ls (R p) 1]).length=P:=Zfy _ _
 have sF:=ap.rs _ F1
 have sT:=ap.rs _ T1
 have RFT:=ap.rr _ _ F1 T1 FT
 have zcF:=fun k hk=>zc _ k F1 hk
 have zcT:=fun k hk=>zc _ k T1 hk
 obtain⟨F,eF⟩:∃ F,x.f.toNat=F:=⟨_,rfl⟩
 obtain⟨T,eT⟩:∃ T,x.t.toNat=T:=⟨_,rfl⟩
 rw[eF,eT]at FT RFT
 rw[eF]at F1 hF lF gF sF zcF
 rw[eT]at T1 hT lT gT sT zcT
 rw[eF,eT]
 clear zc
 have a1:s≠nx:=by omega
 have b1:R F≠nx:=by omega
 have b2:R T≠nx:=by omega
 have sF':=sF.symm
 have sT':=sT.symm
 have RTF:=RFT.symm
 refine aGoM (cj2 Zr a1) ?_
 repeat with_reducible intro K' hK
 have c0:∀ p,ZaZ c F T q 0 p=c p:=fun p=>by funext k;unfold ZaZ;rw[if_neg (by omega)]
 refine Zho (fun(j:Nat)=>[(0,.ls s 1),(4,.lp nx 0 0 0),(8,ZaM l),(9,dI l.length),(10,dI j)]) nx
  (fun j m1 nx1=>j≤l.length∧nx<nx1∧m1 s=some (stB P R)∧m1 (R F)=some (fB M (ZaZ c F T q j F))∧m1 (R T)=some (fB M (ZaZ c F T q j T))∧m1 nx=some (mvX x)∧∀ id,id<nx→id≠R F→id≠R T→m1 id=m id) (fun j=>l.length-j) 0 ?_ ?_ ?_ ?_
 ·refine⟨Yb0 _,Nat.lt_succ_self _,?_,?_,?_,?_,fun id g1 g2 g3=>?_⟩
  ·simp only[Zak,a1,↓reduceIte];exact hS
  ·simp only[Zak,b1,↓reduceIte];rw[c0];exact hF
  ·simp only[Zak,b2,↓reduceIte];rw[c0];exact hT
  ·simp only[Zak,↓reduceIte]
  ·simp only[Zak];repeat(rw[if_neg (by omega)])
 ·rfl
 ·simp[go_sem]
 rintro j m1 nx1 ⟨hj,hnx,eS,eRF,eRT,eX,hfr⟩
 obtain⟨hw,j0⟩:=Za6 j
 by_cases h1:(j:Int)<l.length
 rotate_left
 ·obtain rfl:j=M:=by omega
  refine aGoM (cj2 Zr h1) ?_
  exact hfr
 have hjM:j<M:=by omega
 have hjM2:(j:Int)<M:=by omega
 have hx:=hq j hjM
 have zqj:=zq j hjM
 have x1:s≠nx1:=by omega
 have x2:R F≠nx1:=by omega
 have x3:R T≠nx1:=by omega
 have x4:nx≠nx1:=by omega
 have x5:nx1≠R F:=by omega
 have x6:nx≠R F:=by omega
 have x7:nx≠R T:=by omega
 have vF:ZaZ c F T q j F j=c F j:=by unfold ZaZ;rw[if_neg (by omega)]
 have vT:ZaZ c F T q j T j=c T j:=by unfold ZaZ;rw[if_neg (by omega)]
 have gRF:=Zid (ZaZ c F T q j F) hjM
 have gRT:=Zid (ZaZ c F T q j T) hjM
 rw[vF]at gRF
 rw[vT]at gRT
 have zF:=zcF j hjM
 have zT:=zcT j hjM
 have k1:=ZvM (c F j) (q j) (by omega) (by omega)
 have k2:=Zjo (c T j) (q j) (by omega) (by omega)
 have uF:(ratL M (ZaZ c F T q j F)).set j (cF (ofQ (c F j-q j)))=ratL M (ZaZ c F T q (j+1) F):=by
  rw[Znc]
  refine ZbP fun u _=>?_
  unfold ZaZ
  by_cases e:u=j
  ·subst e;rw[if_pos rfl,if_pos (by omega),if_neg FT,if_pos rfl]
  ·rw[if_neg e]
   by_cases h:u<j
   ·rw[if_pos h,if_pos (show u<j+1 by omega)]
   ·rw[if_neg h,if_neg (show ¬ u<j+1 by omega)]
 have uT:(ratL M (ZaZ c F T q j T)).set j (cF (ofQ (c T j+q j)))=ratL M (ZaZ c F T q (j+1) T):=by
  rw[Znc]
  refine ZbP fun u _=>?_
  unfold ZaZ
  by_cases e:u=j
  ·subst e;rw[if_pos rfl,if_pos (by omega),if_pos rfl]
  ·rw[if_neg e]
   by_cases h:u<j
   ·rw[if_pos h,if_pos (show u<j+1 by omega)]
   ·rw[if_neg h,if_neg (show ¬ u<j+1 by omega)]
 have lRF:=ZgP M (ZaZ c F T q j F)
 have lRT:=ZgP M (ZaZ c F T q j T)
 generalize ZaZ c F T q j F=CF at eRF gRF uF lRF
 generalize ZaZ c F T q j T=CT at eRT gRT uT lRT
 generalize hC2:ZaZ c F T q (j+1) F=CF2 at uF
 generalize hT2:ZaZ c F T q (j+1) T=CT2 at uT
 generalize c F j=A at k1 gRF uF
 generalize c T j=B at k2 gRT uT
 generalize q j=Q at k1 k2 hx uF uT
 refine aGoM (cj4 Zr eS eRF (cj4 eRT eX hx (cj4 gF gT gRF (cj4 gRT lRF lRT (cj4 hln uF uT (cj4 x1 x2 x3 (cj4 x4 x5 x6 (cj4 x7 sF' sT' (cj4 RFT RTF eF (cj4 eT f0 t0 (cj4 j0 h1 hw (cj4 hjM2 f1 t1 Yb0)))))))))))) ?_
 repeat with_reducible intro K' hK
 refine Za9 (j+1) ⟨by omega,(by show nx<nx1+1;omega),?_,?_,?_,?_,fun id g1 g2 g3=>?_⟩ (by omega) rfl (by simp[go_sem])
 ·simp only[Zak,x1,sF',sT',↓reduceIte];exact eS
 ·simp only[Zak,RFT,↓reduceIte];rw[hC2]
 ·simp only[Zak,↓reduceIte];rw[hT2]
 ·simp only[Zak,x4,x6,x7,↓reduceIte];exact eX
 ·simp only[Zak];repeat(first|rw[if_neg (by omega)]|rw[if_neg (by assumption)])
  exact hfr id g1 g2 g3
theorem ZxP[Ifl](h:ZfQ m s R P M c)(hlt:∀ p,p<P→R p<nx)(ap:Apt s R P)(f0:0≤x.f)(f1:x.f<P)(t0:0≤x.t)(t1:x.t<P)(ne:x.f≠x.t)(hl:l.length=M)(hM:(M:Int)≤6)(hq:∀ k,k<M→l[k]? =some (ofQ (q k)))(zq:∀ k,k<M→szQ (q k)≤4)(zc:∀ p k,p<P→k<M→szQ (c p k)≤1000) :
 EffC Tryz.prog 31 [.ls s 1,.agg (cMv x),ZaM l] m nx ⟨oneD [],[s,R x.f.toNat,R x.t.toNat],[(R x.f.toNat,fB M (ZaZ c x.f.toNat x.t.toNat q M x.f.toNat)),(R x.t.toNat,fB M (ZaZ c x.f.toNat x.t.toNat q M x.t.toNat))],false⟩ nx:=by
 have F1:x.f.toNat<P:=by omega
 have T1:x.t.toNat<P:=by omega
 refine EffC.of ⟨_,_,Tryz.func31,rfl,by kernel_rfl⟩ (fun p hp=>?_) fun m1 NX hN ht=>?_
 ·simp only[List.mem_cons,List.not_mem_nil,or_false]at hp
  rcases hp with rfl|rfl
  ·exact⟨by simp,hlt _ F1⟩
  ·exact⟨by simp,hlt _ T1⟩
 have g1:=(ht s (by simp)).trans h.hs
 have g2:=(ht (R x.f.toNat) (by simp)).trans (h.hr _ F1)
 have g3:=(ht (R x.t.toNat) (by simp)).trans (h.hr _ T1)
 exact Zas.kept2 g2 g3 (ap.rr _ _ F1 T1 (by omega)) rfl (Zy0 _ _) (Zy0 _ _) (ZxQ g1 g2 g3 ap f0 f1 t0 t1 ne hl hM hq zq zc)
end
theorem ZfQ.carried{x:MvD}{m:Mem}{s:Nat}{R:Nat→Nat}{P M:Nat}{c:Nat→Nat→Rat}{q:Nat→Rat}(h:ZfQ m s R P M c)(ap:Apt s R P){F T:Nat}(F1:F<P)(T1:T<P)(ne:F≠T) :
 ZfQ (upd (upd m (R F) (some (fB M (ZaZ c F T q M F)))) (R T) (some (fB M (ZaZ c F T q M T)))) s R P M (ZaZ c F T q M):=by
 refine⟨?_,fun p hp=>?_⟩
 ·rw[Zad _ _ (ap.rs _ T1).symm,Zad _ _ (ap.rs _ F1).symm];exact h.hs
 ·by_cases e1:p=T
  ·subst e1;rw[Zab]
  ·rw[Zad _ _ (ap.rr _ _ hp T1 e1)]
   by_cases e2:p=F
   ·subst e2;rw[Zab]
   ·rw[Zad _ _ (ap.rr _ _ hp F1 e2),h.hr p hp]
    have:ratL M (c p)=ratL M (ZaZ c F T q M p):=ZbP fun k hk=>by unfold ZaZ;rw[if_pos hk,if_neg e1,if_neg e2]
    unfold fB
    rw[this]
theorem Zlf(z:Int)(h1 : -1000000≤z)(h2:z≤1000000):szQ (z:Rat)≤3:=by
 rw[Zet]
 have e1:szZ (z:Rat).num≤1:=Zdy (by simp only[Rat.num_intCast,bp];omega)
 have e2:szZ (((z:Rat).den:Nat):Int)≤1:=Zdy (by simp only[Rat.den_intCast,bp];decide)
 omega
theorem Zq5(p:Int)(p1 : -1000000000000000000≤p)(p2:p≤1000000000000000000):szQ (Rat.divInt p 1000)≤3:=by
 have h1:=Zdz p 1000 (by decide)
 have h2:szZ p≤3:=Zdy (by simp only[bp];omega)
 have h3:szZ 1000≤3:=Zdy (by simp only[bp];decide)
 omega
theorem Zwn{c:Zca}{r day:Int}(h:Zgr c r day=true):szQ (maxQ ((r:Rat)-errQ c r day) 0)≤3∧szQ ((r:Rat)+errQ c r day)≤3:=by
 obtain⟨h1,h2,h3,h4,h5⟩:=Ze9 h
 have e1:(r:Rat)-errQ c r day=Rat.divInt (1000*r-c.p*r-1000*(c.g+c.d*(day-c.f))) 1000:=by
  unfold errQ
  rw[Rat.divInt_eq_div,Rat.divInt_eq_div]
  generalize c.p*r=x
  generalize c.g+c.d*(day-c.f)=y
  simp only[Rat.intCast_sub,Rat.intCast_mul]
  grind
 have e2:(r:Rat)+errQ c r day=Rat.divInt (1000*r+c.p*r+1000*(c.g+c.d*(day-c.f))) 1000:=by
  unfold errQ
  rw[Rat.divInt_eq_div,Rat.divInt_eq_div]
  generalize c.p*r=x
  generalize c.g+c.d*(day-c.f)=y
  simp only[Rat.intCast_add,Rat.intCast_mul]
  grind
 have s1:=Zq5 (1000*r-c.p*r-1000*(c.g+c.d*(day-c.f))) (by omega) (by omega)
 have s2:=Zq5 (1000*r+c.p*r+1000*(c.g+c.d*(day-c.f))) (by omega) (by omega)
 have s0:szQ 0≤3:=by decide +kernel
 rw[e1,e2]
 refine⟨?_,s2⟩
 unfold maxQ
 split
 ·first|exact s1|exact s0
 ·first|exact s0|exact s1
theorem Zzi{e:EvD}{x:MvD}(h:(ivE e x).ok=true):szF (ivE e x).lo≤3∧szF (ivE e x).hi≤3:=by
 unfold ivE at h ⊢
 split at h
 ·cases h
 ·rename_i h1
  rw[if_neg h1]
  unfold intD at h ⊢
  revert h
  cases hf:ZnE e.ce x.s x.d with
  | none=>intro h;cases h
  | some b =>
    obtain⟨_,c,hc,hcov,_⟩:=ZjH hf
    simp only[hc]
    split
    ·intro h;cases h
    ·rename_i hn
     intro _
     simp only[Bool.or_eq_true,Bool.not_eq_true',not_or]at hn
     have ho:Zgr c x.r x.d=true:=by
      unfold Zgr
      rw[hcov]
      cases hb:inB x.r 0 1099511627776
      ·exact absurd hb hn.2
      ·rfl
     exact Zwn ho
theorem Zrd(e:EvD)(i m:Nat):∀ k,(stkE e i m k).length≤k∧∀ t∈stkE e i m k,szF t.f≤3
 | 0=>⟨Ya4 _,fun t ht=>by cases ht⟩
 | k+1=>by
   obtain⟨a,b⟩:=Zrd e i m k
   unfold stkE
   split
   ·rw[List.append_nil];exact⟨by omega,b⟩
   ·refine⟨by rw[Yb9];simp;omega,fun t ht=>?_⟩
    rcases Yd5.1 ht with ht|ht
    ·exact b t ht
    ·rw[List.mem_singleton.1 ht]
     have : -1000000≤sgnE e i k∧sgnE e i k≤1000000:=by unfold sgnE;split<;>(try split)<;>omega
     exact Zlf _ this.1 this.2
theorem Zj2(M:Int)(i:Nat){b own more:Int}(h1 : -1000≤b∧b≤1000)(h2 : -1000≤more∧more≤1000):∀ k,(sumE M i b own more k).length≤k∧∀ t∈sumE M i b own more k,szF t.f≤3
 | 0=>⟨Ya4 _,fun t ht=>by cases ht⟩
 | k+1=>by
   obtain⟨a,c⟩:=Zj2 M i (own:=own) h1 h2 k
   unfold sumE
   split
   ·rw[List.append_nil];exact⟨by omega,c⟩
   ·refine⟨by rw[Yb9];simp;omega,fun t ht=>?_⟩
    rcases Yd5.1 ht with ht|ht
    ·exact c t ht
    ·rw[List.mem_singleton.1 ht]
     have : -1000000≤cofE b own more k∧cofE b own more k≤1000000:=by unfold cofE;split<;>omega
     exact Zlf _ this.1 this.2
theorem ZvF{e:EvD}{x:Nat→Nat→Rat}(h:∀ i m,szQ (x i m)≤4)(p:Int)(m:Nat):∀ k,szQ (stK e x p m k)≤1+k*5
 | 0=>by show szQ 0≤_;have:=sz_0;omega
 | k+1=>by
   have ih:=ZvF (e:=e) h p m k
   have e1:stK e x p m (k+1)=stK e x p m k+(if (mvAt e k).t=p then x k m else if (mvAt e k).f=p then -(x k m)else 0):=rfl
   rw[e1]
   have h2:=ZfA (stK e x p m k) (if (mvAt e k).t=p then x k m else if (mvAt e k).f=p then -(x k m)else 0)
   have h3:szQ (if (mvAt e k).t=p then x k m else if (mvAt e k).f=p then -(x k m)else 0)≤4:=by
    split
    ·exact h k m
    ·split
     ·rw[Zh0];exact h k m
     ·have:=sz_0;omega
   omega
theorem ZvT{h:List (List Zac)}(ho:∀ l∈h,l.all okF=true)(hz:∀ l∈h,∀ f∈l,szF f≤4)(i m:Nat):szQ (hAt h i m)≤4:=by
 unfold hAt
 cases h1:h[i]? with
 | none=>show szQ 0≤_;have:=sz_0;omega
 | some l =>
   rw[Option.getD_some]
   have hl:=Ya7 h1
   cases h2:l[m]? with
   | none=>show szQ 0≤_;have:=sz_0;omega
   | some f =>
     rw[Option.getD_some]
     have hf:=Ya7 h2
     rw[ZbO (Ya6.1 (ho l hl) f hf)]
     exact hz l hl f hf
theorem Zxo{cs:List Zca}{rs:List RecD}{w r d:Int}(h:(intD cs rs w r d).ok=true):okF (intD cs rs w r d).lo=true∧okF (intD cs rs w r d).hi=true:=by
 unfold intD at h ⊢
 split
 ·rename_i h1;rw[h1]at h;cases h
 ·rename_i b h1
  rw[h1]at h
  simp only at h
  split
  ·rename_i h2;rw[h2]at h;cases h
  ·rename_i c h2
   rw[h2]at h
   simp only at h
   split
   ·rename_i h3;rw[if_pos h3]at h;cases h
   ·exact⟨Zbj _,Zbj _⟩
theorem Zeh{e:EvD}{h:List (List Zac)}{n i:Nat}{v:Int}(hs:Zhp e h i=v)(hv:v≠0):Zcq e h (n+1) i=v:=by
 show(if Zhp e h i≠0 then _ else _)=v
 rw[hs,if_pos hv]
theorem Znu{e:EvD}{h:List (List Zac)}{n i:Nat}(hs:Zhp e h i=0):Zcq e h (n+1) i=Zcq e h n (i+1):=by
 show(if Zhp e h i≠0 then _ else _)=_
 rw[hs,if_neg (by simp)]
theorem ZuU(e:EvD)(h:List (List Zac))(L:LenE e)(hmv:e.mv.length≤100)(hh:h.length≤4096)(hl:∀ l∈h,l.length≤4096)(hz:∀ l∈h,∀ f∈l,szF f≤4):Zaa Tryz.prog 9 [Zej e,encH h] (dI (ZgU e h)):=by
 have Zr:=Tryz.results9
 have k1:=ZvW e L
 by_cases h1:Zix e=0
 rotate_left
 ·have h1':(Zix e !=0)=true:=by simpa using h1
  have e0:ZgU e h=1:=by unfold ZgU;rw[if_pos h1]
  rw[e0]
  refine inN Tryz.func9 rfl Tryz.ntmps9 fun I=>?_
  exact aGo (cj2 Zr h1') trivial
 rw[h1]at k1
 have k2:=Zsq e h hh hl hz
 cases h2:Zd7 e h
 ·rw[h2]at k2
  have e0:ZgU e h=2:=by unfold ZgU;rw[if_neg (by simpa using h1),h2];rfl
  rw[e0]
  refine inN Tryz.func9 rfl Tryz.ntmps9 fun I=>?_
  exact aGo Zr trivial
 rw[h2]at k2
 have Ri:=ZfP h1
 have hM:=Ri.m
 have hP:=Ri.lp
 have e0:ZgU e h=Zcq e h e.mv.length 0:=by unfold ZgU;rw[if_neg (by simpa using h1),h2];rfl
 obtain⟨T,hT⟩:∃ T,ZgU e h=T:=⟨_,rfl⟩
 rw[hT]
 rw[hT]at e0
 have hs2:=h2
 simp only[Zd7,Ya2,decide_eq_true_eq,Ya6]at hs2
 obtain⟨hlen,hall⟩:=hs2
 have hlenM:∀ l∈h,l.length=e.m.toNat:=fun l hl=>by have:=(hall l hl).1;omega
 have hok:∀ l∈h,l.all okF=true:=fun l hl=>Ya6.2 (hall l hl).2
 have hsz:=ZvT hok hz
 refine inN Tryz.func9 rfl Tryz.ntmps9 fun I=>?_
 refine aGo Zr ?_
 repeat with_reducible intro K hK
 refine ZdT (Zy2 e ⟨by omega,hM.2⟩ hP _ _) ?_
 rintro d m' nx' ⟨R,rfl,hnx,hS,hR,ap,hfr⟩
 simp only[Nat.reduceAdd]at hnx hS hR ap ⊢
 have hE:m' 0=some (evX e):=(hfr 0 (by decide)).trans rfl
 clear hfr k1 k2 hT
 obtain⟨P,eP⟩:∃ P,e.pl.length=P:=⟨_,rfl⟩
 obtain⟨M,eM⟩:∃ M,e.m.toNat=M:=⟨_,rfl⟩
 have hM6:(M:Int)≤6:=by omega
 rw[eP,eM]at hS
 rw[eP]at hR ap
 refine aGoM (cj2 Zr hE) ?_
 repeat with_reducible intro K' hK
 refine Zho (fun(i:Nat)=>[(1,encH h),(2,.lp 0 0 0 0),(5,.ls 2 1),(20,Zfv e.mv),(21,dI e.mv.length),(22,dI i)]) 0
  (fun i m1 nx1=>i≤e.mv.length∧2<nx1∧m1 0=some (evX e)∧ZfQ m1 2 R P M (fun p k=>stK e (hAt h) (p:Int) k i)∧(∀ p,p<P→2<R p∧R p<nx1)∧Zcq e h (e.mv.length-i) i=T) (fun i=>e.mv.length-i) 0 ?_ ?_ ?_ ?_
 ·exact⟨Yb0 _,hnx,hE,hS,hR,e0.symm⟩
 ·rfl
 ·simp[go_sem]
 clear hnx hE hS hR e0
 rintro i m1 nx1 ⟨hi,hnx,hE,hS,hR,hF⟩
 obtain⟨hw,i0⟩:=Za6 i
 by_cases c1:(i:Int)<e.mv.length
 rotate_left
 ·obtain rfl:i=e.mv.length:=by omega
  rw[Nat.sub_self]at hF
  refine aGoM (cj2 Zr c1) ?_
  exact Zcy hF
 have hin:i<e.mv.length:=by omega
 have hx:e.mv[i]? =some (mvAt e i):=by unfold mvAt;rw[Ya0 hin];rfl
 obtain⟨l,hrow⟩:∃ l,h[i]? =some l:=⟨_,Ya0 (by omega)⟩
 have hlm:=Ya7 hrow
 have hrl:hRow h i=l:=by unfold hRow;rw[hrow];rfl
 have hll:=hlenM l hlm
 have hlo:=hok l hlm
 have hlz:=hz l hlm
 have q1:=neg_c l (by omega) fun f hf=>by have:=hlz f hf;omega
 have hSt:Zhp e h i=(if negL l then 3 else if Zes e (mvAt e i) l (fun m=>stK e (hAt h) (mvAt e i).f m i)≠0 then Zes e (mvAt e i) l (fun m=>stK e (hAt h) (mvAt e i).f m i)else if !ZcM e (mvAt e i) (Zhs l)then 24 else if !ZpR e i l (Zhs l)then 13 else 0):=by
  unfold Zhp;simp only[hrl]
 have hsub:e.mv.length-i=(e.mv.length-(i+1))+1:=by omega
 rw[hsub]at hF
 have x1:(0:Nat)≠nx1:=by omega
 have x2:(2:Nat)≠nx1:=by omega
 have x3:(0:Nat)≠nx1+1:=by omega
 have x4:nx1≠nx1+1:=by omega
 have x5:(2:Nat)≠nx1+1:=by omega
 have hih:(i:Int)<h.length:=by omega
 cases c2:negL l
 rotate_left
 ·rw[c2]at q1
  have e3:T=3:=by rw[← hF];exact Zeh (by rw[hSt,c2];rfl) (by decide)
  refine aGoM (cj4 Zr hE hx (cj4 hrow i0 c1 (cj4 hw x1 x2 hih))) ?_
  exact Zcy e3.symm
 rw[c2]at q1
 have okM:=Ri.mv _ (Ya7 hx)
 have hmf:=okM.f
 have hmt:=okM.t
 have hne:=okM.ne
 rw[eP]at hmf hmt
 have hStk:(fun m=>stK e (hAt h) (mvAt e i).f m i)=(fun(p:Nat) k=>stK e (hAt h) (p:Int) k i) (mvAt e i).f.toNat:=by
  funext m;simp only;rw[Int.toNat_of_nonneg hmf.1]
 rw[hStk]at hSt
 have zst:∀ p k,p<P→k<M→szQ ((fun(p:Nat) k=>stK e (hAt h) (p:Int) k i) p k)≤1000:=fun p k _ _=>by
  have:=ZvF (e:=e) hsz (p:Int) k i
  simp only;omega
 obtain⟨C,hC⟩:∃ C:Nat→Nat→Rat,(fun(p:Nat) k=>stK e (hAt h) (p:Int) k i)=C:=⟨_,rfl⟩
 rw[hC]at hS hSt zst
 obtain⟨x,ex⟩:∃ x,mvAt e i=x:=⟨_,rfl⟩
 rw[ex]at hx hmf hmt hne hSt okM
 have zm:=ZuC hlo hlz
 have q2:=Zzj l (by omega) hlo hlz
 have q3:=ZqT e x (Zhs l) (by have:=Ri.lc;omega) (by have:=Ri.lr;omega) (by omega) (fun hxs v hv ho=>by
  subst hv
  have hiv:ivE e x=intD e.ce e.re x.s x.r x.d:=by unfold ivE;rw[if_neg hxs]
  obtain⟨a,b⟩:=Zxo ho
  have hz3:=Zzi (e:=e) (x:=x) (by rw[hiv];exact ho)
  rw[hiv]at hz3
  exact⟨a,b,by omega,by omega⟩)
 have q4:=ZyS e i l (Zhs l) hlo hlz (by omega) (by have:=Ri.lu;omega) (fun p hp=>by
  have hk:=Ri.pu p hp
  simp only[okPu,idx,Ya2,decide_eq_true_eq]at hk
  omega)
 have hq:∀ k,k<M→l[k]? =some (ofQ (hAt h i k)):=fun k hk=>by
  obtain⟨f,hf⟩:∃ f,l[k]? =some f:=⟨_,Ya0 (by omega)⟩
  have:hAt h i k=qOf f:=by unfold hAt;rw[hrow,Option.getD_some,hf];rfl
  rw[hf,this,← Zc1 (Ya6.1 hlo f (Ya7 hf))]
 generalize hmass:Zhs l=Q at q2 q3 q4 hSt zm
 -- what the move takes
 have keepS:∀ m2:Mem,(∀ id,id<nx1→m2 id=m1 id)→ZfQ m2 2 R P M C:=fun m2 h2=>hS.keep (h2 2 hnx) fun p hp=>h2 _ (hR p hp).2
 have hlM:l.length=M:=hll.trans eM
 have hF1:x.f.toNat<P:=by omega
 have zst2:=fun k hk=>zst x.f.toNat k hF1 hk
 obtain⟨TK,hTK⟩:∃ TK,Zes e x l (C x.f.toNat)=TK:=⟨_,rfl⟩
 rw[hTK,c2,if_neg Yc5]at hSt
 by_cases c3:TK=0
 rotate_left
 ·have c3b:(TK !=0)=true:=by simpa using c3
  have e4:T=TK:=by rw[← hF];exact Zeh (by rw[hSt,if_pos c3]) c3
  refine aGoM (cj4 Zr hE hx (cj4 hrow i0 c1 (cj4 hw x1 x2 (cj4 hih c3b x3 (cj2 x4 x5))))) ?_
  repeat(first|(guard_target =~ ∀ _:St→Prop,_;intro K' hK)|(guard_target =~ ∀ _:List Ev→St→Prop,_;intro KX hX))
  refine Zbk (ZjZ (keepS _ fun id hid=>by simp only[Zak];repeat(rw[if_neg (by omega)])) eP hmf.1 hmf.2 hlM hM6 hlo hlz zst2) ?_
  rw[hTK]
  refine aGoM (cj4 Zr hE hx (cj4 hrow i0 c1 (cj4 hw x1 x2 (cj4 hih c3b x3 (cj2 x4 x5))))) ?_
  exact Zcy e4.symm
 have c3b:(TK !=0)=false:=by simpa using c3
 rw[if_neg (by simpa using c3)]at hSt
 cases c4:ZcM e x Q
 ·rw[c4]at hSt q3
  have e4:T=24:=by rw[← hF];exact Zeh (by rw[hSt];rfl) (by decide)
  refine aGoM (cj4 Zr hE hx (cj4 hrow i0 c1 (cj4 hw x1 x2 (cj4 hih c3b x3 (cj2 x4 x5))))) ?_
  repeat(first|(guard_target =~ ∀ _:St→Prop,_;intro K' hK)|(guard_target =~ ∀ _:List Ev→St→Prop,_;intro KX hX))
  refine Zbk (ZjZ (keepS _ fun id hid=>by simp only[Zak];repeat(rw[if_neg (by omega)])) eP hmf.1 hmf.2 hlM hM6 hlo hlz zst2) ?_
  rw[hTK]
  refine aGoM (cj4 Zr hE hx (cj4 hrow i0 c1 (cj4 hw x1 x2 (cj4 hih c3b x3 (cj2 x4 x5))))) ?_
  exact Zcy e4.symm
 rw[c4,Bool.not_true,if_neg Yc5]at hSt
 rw[c4]at q3
 cases c5:ZpR e i l Q
 ·rw[c5]at hSt q4
  have e4:T=13:=by rw[← hF];exact Zeh (by rw[hSt];rfl) (by decide)
  refine aGoM (cj4 Zr hE hx (cj4 hrow i0 c1 (cj4 hw x1 x2 (cj4 hih c3b x3 (cj2 x4 x5))))) ?_
  repeat(first|(guard_target =~ ∀ _:St→Prop,_;intro K' hK)|(guard_target =~ ∀ _:List Ev→St→Prop,_;intro KX hX))
  refine Zbk (ZjZ (keepS _ fun id hid=>by simp only[Zak];repeat(rw[if_neg (by omega)])) eP hmf.1 hmf.2 hlM hM6 hlo hlz zst2) ?_
  rw[hTK]
  refine aGoM (cj4 Zr hE hx (cj4 hrow i0 c1 (cj4 hw x1 x2 (cj4 hih c3b x3 (cj2 x4 x5))))) ?_
  exact Zcy e4.symm
 rw[c5,Bool.not_true,if_neg Yc5]at hSt
 rw[c5]at q4
 have hF2:Zcq e h (e.mv.length-(i+1)) (i+1)=T:=by rw[← Znu hSt];exact hF
 refine aGoM (cj4 Zr hE hx (cj4 hrow i0 c1 (cj4 hw x1 x2 (cj4 hih c3b x3 (cj2 x4 x5))))) ?_
 repeat(first|(guard_target =~ ∀ _:St→Prop,_;intro K' hK)|(guard_target =~ ∀ _:List Ev→St→Prop,_;intro KX hX))
 refine Zbk (ZjZ (keepS _ fun id hid=>by simp only[Zak];repeat(rw[if_neg (by omega)])) eP hmf.1 hmf.2 hlM hM6 hlo hlz zst2) ?_
 rw[hTK]
 refine aGoM (cj4 Zr hE hx (cj4 hrow i0 c1 (cj4 hw x1 x2 (cj4 hih c3b x3 (cj2 x4 x5))))) ?_
 repeat(first|(guard_target =~ ∀ _:St→Prop,_;intro K' hK)|(guard_target =~ ∀ _:List Ev→St→Prop,_;intro KX hX))
 refine Zbk (ZxP (keepS _ fun id hid=>by simp only[Zak];repeat(rw[if_neg (by omega)])) (fun p hp=>by have:=(hR p hp).2;show R p<nx1+2;omega) ap hmf.1 hmf.2 hmt.1 hmt.2 hne hlM hM6 hq (fun k _=>hsz i k) zst) ?_
 refine aGoM (cj4 Zr hw x1 (cj4 x2 x3 x4 x5)) ?_
 repeat(first|(guard_target =~ ∀ _:St→Prop,_;intro K' hK)|(guard_target =~ ∀ _:List Ev→St→Prop,_;intro KX hX))
 have hT1:x.t.toNat<P:=by omega
 have rF:=(hR _ hF1).1
 have rT:=(hR _ hT1).1
 refine Za9 (i+1) ⟨by omega,(by show 2<nx1+2;omega),?_,?_,fun p hp=>⟨(hR p hp).1,(by have:=(hR p hp).2;show R p<nx1+2;omega)⟩,hF2⟩ (by omega) rfl (by simp[go_sem])
 ·simp only[Zak]
  repeat(rw[if_neg (by omega)])
  exact hE
 ·refine(ZfQ.carried (x:=x) (q:=hAt h i) (keepS _ fun id hid=>?_) ap hF1 hT1 (by omega)).congr fun p k hp hk=>?_
  ·simp only[Zak];repeat(rw[if_neg (by omega)])
  ·have hCp:C p k=stK e (hAt h) (p:Int) k i:=by rw[← hC]
   show stK e (hAt h) (p:Int) k i+(if (mvAt e i).t=(p:Int)then hAt h i k else if (mvAt e i).f=(p:Int)then -(hAt h i k)else 0)=_
   rw[ex,← hCp]
   unfold ZaZ
   rw[if_pos hk]
   by_cases a1:x.t=(p:Int)
   ·rw[if_pos a1,if_pos (by omega)]
   ·rw[if_neg a1,if_neg (show ¬ p=x.t.toNat by omega)]
    by_cases a2:x.f=(p:Int)
    ·rw[if_pos a2,if_pos (by omega)];grind
    ·rw[if_neg a2,if_neg (show ¬ p=x.f.toNat by omega)];grind
section ifl
variable [Ifl]
section
variable {P:Program} {l:List Oper} {o:Oper}
end
section
variable {P:Program} {n:Nat} {Q:Exit→St→Prop} {s:St}
end
end ifl
section ifl
variable [Ifl]
def ZiW(E:Env)(T:Bet→Mem→World→Prop):Prop:=∀ β m w β' m' w',ZaD β m w β' m' w'→Zao (safe E β m) w (safe E β' m') w'→T β m w→T β' m' w'
def AWR(P:Program)(n:Nat)(c:Code)(Q:Exit→St→Prop)(s:St):Prop :=
 ∀ (l:Nat)(E:Env)(T:Bet→Mem→World→Prop),ZiW E T→∀ B β a w,RelA E B n β s a w→T β s.m w→c.wpIn (Fence.wide.inRound l) 0 P (fun e a' w'=>∃ s' β',RelA E B n β' s' a' w'∧T β' s'.m w'∧Q e s') a w
section
variable {P:Program} {n:Nat} {Q:Exit→St→Prop} {s:St}
theorem rSkip(h:Q .normal s):AWR P n .skip Q s:=fun l E T hT B β a w hr ht=>wpIn_skip ⟨s,β,hr,ht,h⟩
theorem rExit{id:Nat}(h:Q (.exit id) s):AWR P n (.exit id) Q s:=fun l E T hT B β a w hr ht=>wpIn_exit ⟨s,β,hr,ht,h⟩
theorem rSeq{x y:Code}(h:∀ K:St→Prop,(∀ s,AWR P n y Q s→K s)→AWR P n x (Zpn K Q) s):AWR P n (.seq x y) Q s:=by
 intro l E T hT B β a w hr ht
 refine wpIn_seq (wpIn_mono (h _ (fun _ h=>h) l E T hT B β a w hr ht) ?_)
 rintro e a' w' ⟨s',β',h1,ht',h2⟩
 cases e with
 | normal=>exact h2 l E T hT B β' a' w' h1 ht'
 | _=>exact⟨s',β',h1,ht',h2⟩
theorem ZyP{id:Nat}{c:Code}(h:AWR P n c (Ze8 id Q) s):AWR P n (.block id c) Q s:=by
 intro l E T hT B β a w hr ht
 refine wpIn_block (wpIn_mono (h l E T hT B β a w hr ht) ?_)
 rintro e a' w' ⟨s',β',h1,ht',h2⟩
 cases e with
 | exit id' =>
   simp only[Exit.inBlock,Ze8]at h2 ⊢
   split
   ·rename_i he;rw[if_pos he]at h2;exact⟨s',β',h1,ht',h2⟩
   ·rename_i he;rw[if_neg he]at h2;exact⟨s',β',h1,ht',h2⟩
 | _=>exact⟨s',β',h1,ht',h2⟩
theorem ZyO{c:Operand}{x y:Code}{b:Bool}(hf:Zc5 n c=true)(hc:rd s.t c = .v (.bool b))(h1:b=true→AWR P n x Q s)(h2:b=false→AWR P n y Q s):AWR P n (.cond c x y) Q s:=by
 intro l E T hT B β a w hr ht
 have hv:Rep β s.m (safe E β s.m) w (a.eval c) (rd s.t c):=Zg7 fun k hk=>hr.tmp k (by rw[hk]at hf;simpa[Zc5]using hf)
 rw[hc]at hv
 refine wpIn_cond_split hv.inv_v (fun hb=>h1 hb l E T hT B β a w hr ht) (fun hb=>h2 hb l E T hT B β a w hr ht)
theorem ZyM{c:Operand}{x y:Code}(hf:Zc5 n c=true)(hc:rd s.t c = .v (.bool true))(h:AWR P n x Q s):AWR P n (.cond c x y) Q s:=ZyO hf hc (fun _=>h) (fun e=>by cases e)
theorem ZyN{c:Operand}{x y:Code}(hf:Zc5 n c=true)(hc:rd s.t c = .v (.bool false))(h:AWR P n y Q s):AWR P n (.cond c x y) Q s:=ZyO hf hc (fun e=>by cases e) (fun _=>h)
end
section
variable {P:Program} {E:Env} {B:Base} {n:Nat} {β:Bet} {s:St} {a:Act} {w:World} {T:Bet→Mem→World→Prop}
theorem RelA.putT(hT:ZiW E T)(h:RelA E B n β s a w)(ht:T β s.m w){dst:Option Tmp}{m':Mem}{nx':Nat}{v:Value}{d:D}{w':World}(ha:Zby E β s.m nx' w m' v d w') :
 ∃ β',RelA E B n β' {s with t:=putT s.t dst d,m:=m',nx:=nx'} (a.put dst v) w'∧T β' m' w':=by
 obtain⟨β',h1,h2,h3,h4⟩:=ha
 refine⟨β',⟨h1,fun k hk=>?_,?_,?_,h.le.trans h2,h.sle.trans h3,h.lo⟩,hT _ _ _ _ _ _ h2 h3 ht⟩
 ·rw[eval_put (by rw[h.width];exact hk)]
  cases dst with
  | none=>rw[if_neg (by simp)];exact(h.tmp k hk).mono h2 h3
  | some j =>
    by_cases e:j=k
    ·subst e;rw[if_pos rfl];simp only[Go.Proofs.YtblamlnjbjaokaaGreat.putT,Zab];exact h4
    ·rw[if_neg (by simpa using e)]
     simp only[Go.Proofs.YtblamlnjbjaokaaGreat.putT,Zad _ _ (Ne.symm e)]
     exact(h.tmp k hk).mono h2 h3
 ·cases dst<;>simp[Act.put,h.width]
 ·rw[Ze4];exact h.defers.le h2
theorem ZwM(l:Nat)(hT:ZiW E T){o:Oper}{K:St→Prop}{K':Act→World→Prop}{Q:Exit→Act→World→Prop}(hf:ZaY n o=true)(h:RelA E B n β s a w)(ht:T β s.m w)(hA:opA P o s K)
 (hK:∀ s' β' a' w',RelA E B n β' s' a' w'→T β' s'.m w'→K s'→K' a' w'):o.wpIn (Fence.wide.inRound l) 0 P a w K' Q:=by
 refine⟨fun _ _=>trivial,?_⟩
 unfold opA at hA
 have hop:=Zij hf h
 split at hA
 ·rename_i r hr
  obtain⟨h1,h2,h3⟩:=hA
  have hnd:∀ c,o.op ≠ .defer c:=fun c e=>by rw[e]at hr;simp[opF]at hr
  have hM:Zay E β s.m (s.nx+r.new.length) w:=h.mem.mono_nx (Nat.le_add_right _ _)
  obtain⟨v,nn,w',g1,g2,g3⟩:=Znf hr h1 hM (fun i hi=>by
   rcases h2 with h2|h2
   ·rw[h2]at hi;simp at hi
   ·rw[h2]at hi ⊢
    simp at hi
    subst hi
    exact⟨h.mem.none,by simp⟩) hop
  rw[show(Fence.wide.inRound l).round=some l from rfl,Oper.semAt_some l _ _ hnd,g1]
  obtain⟨β',h4,h5⟩:=h.putT hT ht (dst:=o.dst) g3
  have:=hK _ β' _ _ h4 h5 h3
  rcases g2 with rfl|⟨rfl,rfl⟩
  ·exact this
  ·exact this
 ·split at hA
  ·rename_i f ds hc
   obtain⟨hb,hA⟩:=hA
   have hnd:∀ c,o.op ≠ .defer c:=fun c e=>by rw[e]at hc;simp[Zfo]at hc
   obtain⟨vs,h1,h2⟩:=ZgA (P:=P) hc hb hop
   rw[show(Fence.wide.inRound l).round=some l from rfl,Oper.semAt_some l _ _ hnd,h2,Oper.uponIn_enter]
   refine⟨fun e=>(by cases e),?_⟩
   refine(CallsIn.inRound l (callsIn_wide.2 (hA E β w vs h.mem h1))).mono ?_
   rintro e w' ⟨v,d,m',nx',rfl,ha,hk⟩
   obtain⟨β',h4,h5⟩:=h.putT hT ht (dst:=o.dst) ha
   exact hK _ β' _ _ h4 h5 hk
  ·exact hA.elim
theorem Zj8(l:Nat)(hT:ZiW E T){ops:Array Oper}{K:St→Prop}{Q:Exit→Act→World→Prop}(hall:ops.all (ZaY n)=true)(hQ:∀ s' β' a' w',RelA E B n β' s' a' w'→T β' s'.m w'→K s'→Q .normal a' w') :
 ∀ (L:List Oper)(s:St)(β:Bet)(a:Act)(w:World),L.all (ZaY n)=true→RelA E B n β s a w→T β s.m w→opsA P ops L s K→wpListIn (Fence.wide.inRound l) 0 P ops Q L a w
 | [],s,β,a,w,_,h,ht,hA=>hQ s β a w h ht hA
 | o ::rest,s,β,a,w,hl,h,ht,hA=>by
   rw[List.all_cons,Ya2]at hl
   unfold opsA at hA
   split at hA
   ·rename_i g hg
    have hw:=ZkC hg (ZlT hall hl.1 h)
    unfold wpListIn
    rw[hw]
    cases g with
    | true =>
      rw[if_pos rfl]
      exact ZwM l hT hl.1 h ht (hA.1 rfl) fun s' β' a' w' h' ht' hk=>Zj8 l hT hall hQ rest s' β' a' w' hl.2 h' ht' hk
    | false =>
      rw[if_neg (by simp)]
      have ha:=Zby.same h.mem (Rep.inv_undef:Rep β s.m (safe E β s.m) w undef (.v undef))
      obtain⟨β',h',ht'⟩:=h.putT hT ht (dst:=o.dst) ha
      exact⟨fun _ _=>trivial,Zj8 l hT hall hQ rest _ β' _ w hl.2 h' ht' (hA.2 rfl)⟩
   ·exact hA.elim
end
theorem rOps{P:Program}{n:Nat}{Q:Exit→St→Prop}{s:St}{id:Nat}{L:List Oper}(ds:List (Option Tmp))(hds:L.map (·.dst)=ds)(hf:L.toArray.all (ZaY n)=true)(h:opsL P ds (L.map ZfB) s (Q .normal)):AWR P n (.region id L.toArray false) Q s:=by
 intro l E T hT B β a w hr ht
 have h:=Zcw (ops:=L.toArray) L s (by subst hds;exact h)
 refine wpIn_region_lit (Zj8 l hT hf (fun s' β' a' w' h1 h2 h3=>⟨s',β',h1,h2,h3⟩) L s β a w ?_ hr ht h)
 rw[← hf];simp
end ifl
section ifl
variable [Ifl]
theorem ZaD.size{β m w β' m' w'}(h:ZaD β m w β' m' w'):w.heap.size≤w'.heap.size:=by
 rcases Nat.eq_zero_or_pos w.heap.size with e|e
 ·omega
 ·have hl:w.heap.size-1<w.heap.size:=by omega
  have ho:w.heap[w.heap.size-1]? =some w.heap[w.heap.size-1]:=Yb5 hl
  have:w.heap.size-1<w'.heap.size:=by
   generalize hq:w.heap[w.heap.size-1]=o at ho
   by_cases hc:∃ cs T fr,o = .cells cs T fr
   ·obtain⟨cs,T,fr,rfl⟩:=hc
    exact Zlt (h.cap _ (.inl cs.size) ⟨cs,T,fr,ho,rfl⟩)
   ·exact(ZeW (h.cap _ (.inr o) ⟨fun cs T fr e=>hc ⟨cs,T,fr,e⟩,o,ho,.inl rfl⟩))
  omega
theorem ZcP.of_mem{b0:Nat}{w:World}:∀ {ds:List Deferred},ZcP b0 ds w→∀ e∈ds,∃ D,e={target:=.collected D,args:=#[]}∧w.heap[D]? =some (.deferred (some []))
 | [],_,_,he=>(by cases he)
 | d ::ds,⟨⟨D,h1,_,h3⟩,_,h5⟩,e,he=>by
   rcases List.mem_cons.1 he with rfl|he
   ·exact⟨D,h1,h3⟩
   ·exact ZcP.of_mem h5 e he
theorem Zon{w:World}{D:Nat}{o o':Obj}(hd:w.heap[D]? =some o)(ho:o.isCells=false∧Zhb o=false) :
 (∀ (b:Nat)(x:Obj),w.heap[b]? =some x→x.isCells=true→(w.putObj D o').heap[b]? =some x)∧(∀ b k,ZcG w b k→ZcG (w.putObj D o') b k) ∧
   ∀ b o u,w.cell? ⟨b,o,none⟩=some u→(w.putObj D o').cell? ⟨b,o,none⟩=some u:=by
 have hcells:∀ (b:Nat)(x:Obj),w.heap[b]? =some x→x.isCells=true→(w.putObj D o').heap[b]? =some x:=fun b x hb hx=>by
  rw[World.putObj_heap_other (fun e=>by subst e;rw[hd]at hb;cases hb;rw[ho.1]at hx;cases hx)]
  exact hb
 refine⟨hcells,fun b k ⟨cs,T,fr,h1,h2⟩=>⟨cs,T,fr,hcells b _ h1 rfl,h2⟩,fun b q u hu=>?_⟩
 by_cases e:b=D
 ·subst e
  have ho:=ho.1
  cases o<;>first|(cases ho;done)|simp[World.cell?,hd]at hu
 ·rw[World.cell?_of_block (w:=w) (a:=⟨b,q,none⟩) (World.putObj_heap_other e)]
  exact hu
theorem Zkk{E:Env}{β:Bet}{m:Mem}{nx:Nat}{w:World}(hM:Zay E β m nx w){D:Nat}{o:Obj}(o':Obj)(hD:E.w0.heap.size≤D)(hd:w.heap[D]? =some o)(ho:o.isCells=false∧Zhb o=false) :
 Zay E β m nx (w.putObj D o')∧Zpj β m w β m (w.putObj D o')∧Zao (safe E β m) w (safe E β m) (w.putObj D o'):=by
 obtain⟨hcells,hc,hcell⟩:=Zon (o':=o') hd ho
 have hs:Zao (safe E β m) w (safe E β m) (w.putObj D o'):=fun b o u h1 h2=>⟨h1,hcell b o u h2⟩
 have hm0:Zpj β m w β m (w.putObj D o'):=⟨fun _ x hx=>⟨x,hx,Ya4 _,fun _=>⟨rfl,rfl,rfl⟩⟩,hc⟩
 refine⟨⟨?_,hM.lt,hM.fz,hM.wid,hM.non,fun id blk b h1 h2=>?_,hM.inj⟩,hm0,hs⟩
 ·exact hM.below.trans ((Below.refl E.w0.heap.size w).grown (grownBy_putObj' w D _) (by have:=(Ya5.1 hd).1;have:=hM.below.size;omega) (fun k e=>by cases e;omega))
 ·obtain⟨h3,cs,h4,h5,h6⟩:=hM.row id blk b h1 h2
  refine⟨h3,cs,?_,h5,fun i j d hd'=>?_⟩
  ·rw[World.putObj_heap_other (fun e=>by
    subst e
    rw[hd]at h4
    have h4:=Option.some.inj h4
    unfold Zfx at h4
    split at h4
    ·rw[h4]at ho;cases ho.1
    ·rw[h4]at ho;cases ho.2)]
   exact h4
  obtain⟨u,h7,h8⟩:=h6 i j d hd'
  exact⟨u,h7,h8.mono0 hm0 hs⟩
theorem ZaD.putObj{β m w0 β' m' w}(h:ZaD β m w0 β' m' w){D:Nat}{o:Obj}(o':Obj)(hD:w0.heap.size≤D)(hd:w.heap[D]? =some o)(ho:o.isCells=false∧Zhb o=false):ZaD β m w0 β' m' (w.putObj D o'):=by
 obtain⟨_,hc,_⟩:=Zon (o':=o') hd ho
 refine⟨h.blk,fun b k hk=>?_⟩
 have hlt:b<w0.heap.size:=ZeW hk
 have hb:(w.putObj D o').heap[b]? =w.heap[b]?:=World.putObj_heap_other (by omega)
 exact ZdB hb (h.cap b k hk)
section
variable {P:Program} {E:Env} {B:Base} {n:Nat} {β:Bet} {s:St} {a:Act} {w:World}
theorem RelA.putObj(hB:E.w0.heap.size≤B.w.heap.size)(h:RelA E B n β s a w){D:Nat}{o:Obj}(o':Obj)(hD:B.w.heap.size≤D)(hd:w.heap[D]? =some o)(ho:o.isCells=false∧Zhb o=false)(hds:ZcP B.w.heap.size a.defers (w.putObj D o')) :
 RelA E B n β s a (w.putObj D o'):=by
 obtain⟨h1,h2,h3⟩:=Zkk h.mem o' (Yc7 hB hD) hd ho
 exact⟨h1,fun k hk=>(h.tmp k hk).mono0 h2 h3,h.width,hds,h.le.putObj o' hD hd ho,h.sle.trans h3,h.lo⟩
end
def Zd3(S:Nat→Nat→Prop)(w:World):Prop:=∀ b o,w.heap.size≤b→S b o
def ZnT(s s':St):Prop:=∀ E B n β a w,RelA E B n β s a w→∃ β',RelA E B n β' s' a w∧Zao (safe E β s.m) w (safe E β' s'.m) w
theorem ZnT.trans{a b c:St}(h:ZnT a b)(k:ZnT b c):ZnT a c:=fun E B n β x w hr=>by
 obtain⟨β1,h1,h2⟩:=h E B n β x w hr
 obtain⟨β2,h3,h4⟩:=k E B n β1 x w h1
 exact⟨β2,h3,h2.trans h4⟩
theorem ZuL{s:St}(l:List (Nat×D))(bl:List (Nat×Blk))(nx:Nat)(ht:∀ p∈l,s.t p.1=p.2)(hm:∀ p∈bl,s.m p.1=some p.2)(hok:∀ p∈l,okD (fun id=>(bl.map (·.1)).contains id) p.2=true)
 (hbk:∀ p∈bl,Zcb (fun id=>(bl.map (·.1)).contains id) p.2) (hnx:∀ p∈bl,p.1<nx) (hlo:s.lo=0∨∀ id,id<s.lo→(bl.map (·.1)).contains id=true):ZnT s ⟨tabT l,tabM bl,nx,s.lo⟩:=by
 intro E B nn β a w h
 have hM:=h.mem
 have hk:∀ id,(bl.map (·.1)).contains id=true→tabM bl id=s.m id:=by
  intro id hid
  rcases ZfX bl id with⟨_,h1⟩|⟨b,h1,h2⟩
  ·exact absurd (List.contains_iff_mem.1 hid) h1
  ·rw[h2];exact(hm _ h1).symm
 have hget:∀ id b,tabM bl id=some b→s.m id=some b∧(id,b)∈bl:=by
  intro id b hb
  rcases ZfX bl id with⟨h1,_⟩|⟨b',h1,h2⟩
  ·rw[h1]at hb;cases hb
  ·rw[h2]at hb;cases hb;exact⟨hm _ h1,h1⟩
 have hs:Zao (safe E β s.m) w (safe E β (tabM bl)) w:=fun b o u h1 h2=>⟨⟨h1.1,fun id blk h3 h4=>h1.2 id blk (hget id blk h3).1 h4⟩,h2⟩
 refine⟨β,⟨⟨hM.below,?_,?_,?_,?_,?_,?_⟩,?_,h.width,h.defers,?_,h.sle.trans hs,h.lo⟩,hs⟩
 ·intro id b hb;exact hnx _ (hget id b hb).2
 ·intro id b hb;exact hM.fz id b (hget id b hb).1
 ·intro id b hb;exact hM.wid id b (hget id b hb).1
 ·intro id b hb;exact hM.non id b (hget id b hb).1
 ·intro id b c hb hc
  obtain⟨h3,cs',h4,h5,h6⟩:=hM.row id b c (hget id b hb).1 hc
  refine⟨h3,cs',h4,h5,fun i j d hd=>?_⟩
  obtain⟨u,h7,h8⟩:=h6 i j d hd
  obtain⟨e,he,hj⟩:=Zaf.1 hd
  exact⟨u,h7,Zg8 hk hs d u (Zgb (hbk _ (hget id b hb).2 e (Ya7 he)) d (Ya7 hj)) h8⟩
 ·intro x1 x2 y1 y2 c h1 h2 h3 h4
  exact hM.inj x1 x2 y1 y2 c (hget _ _ h1).1 (hget _ _ h2).1 h3 h4
 ·intro k hk'
  rcases ZeU l k with h1|⟨d,h1,h2⟩
  ·simp only[h1];exact .junk _
  ·simp only[h2]
   have:=h.tmp k hk'
   rw[ht _ h1]at this
   exact Zg8 hk hs d _ (hok _ h1) this
 ·refine⟨fun id x hx=>?_,h.le.cap⟩
  obtain⟨y,h1,h2,h3⟩:=h.le.blk id x hx
  have hid:=h.lo id x hx
  have hkeep:(bl.map (·.1)).contains id=true:=by
   rcases hlo with h0|h0
   ·omega
   ·exact h0 id hid
  exact⟨y,(hk id hkeep).trans h1,h2,h3⟩
def Zwa{X:Type}(P:Program)(gf:FuncId)(ds:List D)(enc:X→D)(xs:List X):Prop:=Zdl P gf ∧
 ∀ (l:Nat)(S:Nat→Nat→Prop)(W:World)(vs:List Value) (J:(Nat→Nat→Prop)→List X→World→Prop),Zd3 S W→Reps noB noM S W vs ds →
  (∀ S L A B,J S L A→Below A.heap.size A B→J S L B) →
  (∀ S L x t v W',L++x ::t=xs→J S L W'→Zd3 S W'→Rep noB noM S W' v (enc x)→YieldAt Fence.wide 0 P l #[v] W' fun e W''=>e = .returned (.bool true)∧∃ S',J S' (L++[x]) W''∧Zd3 S' W''∧Zao S W' S' W'') →
  J S [] W→CallsIn Fence.wide 0 P gf (#[.func (.yield l) #[] #[]]++vs.toArray) W fun e W'=>(∃ v,e = .returned v)∧∃ S',J S' xs W'
theorem ZaD.obj{β m w β' m' w'}(h:ZaD β m w β' m' w'){b:Nat}{o:Obj}(hc:∀ cs T fr,o ≠ .cells cs T fr)(hm:Zhb o=false)(ho:w.heap[b]? =some o):w'.heap[b]? =some o:=by
 obtain⟨_,o',h1,h2⟩:=h.cap b (.inr o) ⟨hc,o,ho,.inl rfl⟩
 rcases h2 with rfl|⟨h2,_⟩
 ·exact h1
 ·rw[hm]at h2;cases h2
theorem Zhi{E:Env}{S:Nat→Nat→Prop}{D:Nat}{r:Loop}{W':World}:ZiW E fun β m W=>W.heap[D+1]? =some (.loop r)∧W.heap[D]? =some (.deferred (some []))∧Zao S W' (safe E β m) W:=by
 rintro β m w β' m' w' h1 h2 ⟨t1,t2,t3⟩
 exact⟨h1.obj (fun _ _ _ e=>by cases e) rfl t1,h1.obj (fun _ _ _ e=>by cases e) rfl t2,t3.trans h2⟩
theorem ZqI{P:Program}{n:Nat}{Q:Exit→St→Prop}{s:St}{g:Operand}{p:Tmp}{assign body:Code}{gf:FuncId}{ds ds':List D}{X:Type}(enc:X→D)(xs:List X)(l:List (Nat×D))(bl:List X→List (Nat×Blk))(nx lo:Nat)
 (hle:StLe s ⟨tabT l,tabM (bl []),nx,lo⟩) (hfg:Zc5 n g=true) (hg:rd (tabT l) g = .clo gf ds) (hds:toDs ds=some ds') (hI:Zwa P gf ds' enc xs) (hp:p<n)
 (hrg:Ifl.r=true) (hround:∀ L x t,L++x ::t=xs→AWR P n assign (fun e s1=>e = .normal∧AWR P n body (fun e s2=>e = .normal∧ZnT s2 ⟨tabT [],tabM (bl (L++[x])),nx,nx⟩) s1) ⟨upd (tabT l) p (enc x),tabM (bl L),nx,nx⟩)
 (hend:Q .normal ⟨tabT l,tabM (bl xs),nx,lo⟩):AWP P n (.rangeFunc g #[p] assign body) Q s:=by
 intro E B β a w hr
 obtain⟨β1,h1⟩:=hle E B n β a w hr
 have hv:Rep β1 (tabM (bl [])) (safe E β1 (tabM (bl []))) w (a.eval g) (rd (tabT l) g):=Zg7 fun k hk=>h1.tmp k (by rw[hk]at hfg;simpa[Zc5]using hfg)
 rw[hg]at hv
 obtain⟨vs,hev,hvs⟩:=hv.inv_clo
 refine(wpIn_wide (n:=0)).1 (wpIn_rangeFunc fun fn hfn=>?_)
 obtain⟨rec,hrec⟩:∃ rec:LoopState→Option Code→Loop,rec=fun st pe=>{state:=st,pending:=pe,fn,tmps:=a.tmps,params:=#[p],assign,body,defers:=w.heap.size}:=⟨_,rfl⟩
 obtain⟨W1,hW1⟩:∃ W1,(w.alloc (.deferred (some []))).alloc (.loop (rec .ready none))=W1:=⟨_,rfl⟩
 have hL1:W1.heap[w.heap.size+1]? =some (.loop (rec .ready none)):=by
  rw[← hW1];have:=World.alloc_heap_new (w.alloc (.deferred (some []))) (.loop (rec .ready none));rwa [World.size_alloc]at this
 have hK1:W1.heap[w.heap.size]? =some (.deferred (some [])):=by
  rw[← hW1];exact(Below.heap_alloc _ _ _ (by simp)).trans (World.alloc_heap_new w _)
 have hb1:Below w.heap.size w W1:=by rw[← hW1];exact((Below.refl _ w).alloc (Ya4 _) _).alloc (by simp) _
 have hsz1:W1.heap.size=w.heap.size+2:=by rw[← hW1];simp
 obtain⟨gfn,gc,hgf,hgc,hnm⟩:=hI.1
 have hBw:B.w.heap.size≤w.heap.size:=h1.le.size
 have hE0:E.w0.heap.size≤w.heap.size:=h1.mem.below.size
 obtain⟨hM1,hm1,hs1⟩:=ZdK h1.mem hb1
 refine⟨w.heap.size+1,[{target:=.collected w.heap.size,args:=#[]}],W1,{target:=.fn (.func gf) vs.toArray,args:=#[.func (.yield (w.heap.size+1)) #[] #[]]},W1,gf,
  #[.func (.yield (w.heap.size+1)) #[] #[]]++vs.toArray,W1,?_,?_,fun _ _=>trivial,?_,fun e=>(by cases e),?_⟩
 ·rw[← hW1,hrec];exact run_enterLoop_outer _ _ _ _ _
 ·simp only[resolve,hev]
  simp[go_sem]
 ·have hnm' : ¬ gfn.name = "runtime.NumGoroutine" := by simpa using hnm
  simp[invoke,callFunc,hgf,hnm',hgc]
 ·refine(hI.2 (w.heap.size+1) (safe E β1 (tabM (bl []))) W1 vs
   (fun S L W=>∃ β',S=safe E β' (tabM (bl L))∧Zay E β' (tabM (bl L)) nx W∧ZaD β1 (tabM (bl [])) w β' (tabM (bl L)) W∧Zao (safe E β1 (tabM (bl []))) w (safe E β' (tabM (bl L))) W ∧
     W.heap[w.heap.size+1]? =some (.loop (rec .ready none))∧W.heap[w.heap.size]? =some (.deferred (some [])))
   (Ze1 hM1) (Zey _ _ _ hds (Reps.mono hm1 hs1 hvs)) ?_ ?_ ⟨β1,rfl,hM1,hm1,hs1,hL1,hK1⟩).mono ?_
  ·rintro S L A C ⟨β',j0,j1,j2,j3,j4,j5⟩ hb
   obtain⟨g1,g2,g3⟩:=ZdK j1 hb
   exact⟨β',j0,g1,j2.trans g2,j3.trans g3,(hb.block _ (Ya5.1 j4).1).trans j4,(hb.block _ (Ya5.1 j5).1).trans j5⟩
  ·rintro S L x t v W hpre ⟨β',rfl,j1,j2,j3,j4,j5⟩ _ hv
   have hy:=run_yield (P:=P) (args:=#[v]) j4 (by rw[hrec];rfl)
   rw[hrec]at hy
   have ha1:(#[p].zip #[v]).foldl (fun(t:Array Value) (q:Tmp×Value)=>t.setIfInBounds q.1 q.2) a.tmps=a.tmps.setIfInBounds p v:=by simp
   refine⟨_,_,_,_,hy,roundIn_of_wpIn trivial ?_⟩
   have hrel:RelA E ⟨β1,tabM (bl []),w⟩ n β' ⟨upd (tabT l) p (enc x),tabM (bl L),nx,nx⟩ {tmps:=a.tmps.setIfInBounds p v,defers:=[]} W:=by
    refine⟨j1,fun k hk=>?_,by simp[h1.width],trivial,j2,j3,h1.mem.lt⟩
    have hw:=h1.width
    show Rep β' (tabM (bl L)) (safe E β' (tabM (bl L))) W (Act.eval _ (.tmp k)) (upd (tabT l) p (enc x) k)
    by_cases e:k=p
    ·subst e
     rw[show(upd (tabT l) k (enc x)) k=enc x from Zab _ _ _]
     have:Act.eval {tmps:=a.tmps.setIfInBounds k v,defers:=[]} (.tmp k)=v:=by simp[Act.eval,Array.getD_eq_getD_getElem?,hw,hk]
     rw[this]
     exact hv.mono ⟨fun _ _ h=>(by cases h),fun _ _ h=>h⟩ (Zao.refl _ _)
    ·rw[show(upd (tabT l) p (enc x)) k=tabT l k from Zad _ _ e]
     have:Act.eval {tmps:=a.tmps.setIfInBounds p v,defers:=[]} (.tmp k)=a.eval (.tmp k):=by simp[Act.eval,Array.getD_eq_getD_getElem?,Array.getElem?_setIfInBounds_ne (Ne.symm e)]
     rw[this]
     exact(h1.tmp k hk).mono j2 j3
   have hA:=hround L x t hpre (w.heap.size+1) E (fun β m W2=>W2.heap[w.heap.size+1]? =some (.loop (rec .ready none))∧W2.heap[w.heap.size]? =some (.deferred (some []))∧Zao (safe E β' (tabM (bl L))) W (safe E β m) W2) Zhi _ _ _ _ hrel ⟨j4,j5,Zao.refl _ _⟩
   simp only at hy ⊢
   rw[ha1]
   refine wpIn_mono hA ?_
   rintro e a2 W2 ⟨s2,β2,r2,⟨t1,t2,t3⟩,rfl,hbody⟩
   refine⟨_,run_beginRound t1 (by rw[hrec]),?_⟩
   have hlt:w.heap.size+1<W2.heap.size:=(Ya5.1 t1).1
   obtain⟨q1,q2,q3⟩:=Zkk r2.mem (.loop {rec .ready none with state:=.busy}) (by omega:E.w0.heap.size≤w.heap.size+1) t1 ⟨rfl,rfl⟩
   have hm2:ZcP w.heap.size a2.defers (W2.putObj (w.heap.size+1) (.loop {rec .ready none with state:=.busy})):=r2.defers.mono fun D _ hD=>by
    rw[World.putObj_heap_other (fun e=>by subst e;rw[t1]at hD;cases hD)];exact hD
   have r3:=r2.putObj (B:=⟨β1,tabM (bl []),w⟩) hE0 (.loop {rec .ready none with state:=.busy}) (Nat.le_succ _) t1 ⟨rfl,rfl⟩ hm2
   refine wpIn_mono (hbody (w.heap.size+1) E (fun β m W2=>W2.heap[w.heap.size+1]? =some (.loop {rec .ready none with state:=.busy})∧W2.heap[w.heap.size]? =some (.deferred (some []))∧Zao (safe E β' (tabM (bl L))) W (safe E β m) W2) Zhi _ _ _ _ r3
    ⟨World.putObj_heap_same hlt,(World.putObj_heap_other (by omega)).trans t2,t3.trans q3⟩) ?_
   rintro e a3 W3 ⟨s3,β3,r4,⟨u1,u2,u3⟩,rfl,hle3⟩
   obtain⟨β4,r5,hsl4⟩:=hle3 _ _ _ _ _ _ r4
   have hlt3:w.heap.size+1<W3.heap.size:=(Ya5.1 u1).1
   have hend:=run_endRound (P:=P) none u1
   obtain⟨z1,z2,z3⟩:=Zkk r5.mem (.loop {rec .ready none with state:=.ready,pending:=none}) (by omega:E.w0.heap.size≤w.heap.size+1) u1 ⟨rfl,rfl⟩
   refine⟨_,_,hend,rfl,safe E β4 (tabM (bl (L++[x]))),⟨β4,rfl,z1,r5.le.putObj _ (Nat.le_succ _) u1 ⟨rfl,rfl⟩,r5.sle.trans z3,?_,(World.putObj_heap_other (by omega)).trans u2⟩,Ze1 z1,?_⟩
   ·refine(World.putObj_heap_same hlt3).trans ?_
    rw[hrec];rfl
   ·refine Zao.trans u3 (Zao.trans ?_ z3)
    exact hsl4
  ·rintro e W2 ⟨⟨v,rfl⟩,S',β',rfl,j1,j2,j3,j4,j5⟩
   have hlt:w.heap.size+1<W2.heap.size:=(Ya5.1 j4).1
   have hend':=run_endLoop (P:=P) j4 (by rw[hrec];simp)
   refine⟨_,_,hend',?_⟩
   rw[show(rec .ready none).pending=none by rw[hrec]]
   obtain⟨z1,z2,z3⟩:=Zkk j1 (.loop {rec .ready none with state:=.exhausted,pending:=none}) (by omega:E.w0.heap.size≤w.heap.size+1) j4 ⟨rfl,rfl⟩
   refine⟨⟨tabT l,tabM (bl xs),nx,lo⟩,β',⟨z1,fun k hk=>((h1.tmp k hk).mono j2 j3).mono0 z2 z3,h1.width,?_,(h1.le.trans j2).putObj _ (by omega) j4 ⟨rfl,rfl⟩,(h1.sle.trans j3).trans z3,h1.lo⟩,hend⟩
   refine⟨⟨w.heap.size,rfl,⟨hBw,hrg⟩,(World.putObj_heap_other (by omega)).trans j5⟩,?_,?_⟩
   ·intro d hd e
    obtain⟨D,e2,e3⟩:=h1.defers.of_mem d hd
    rw[e]at e2
    simp only[Deferred.mk.injEq,Target.collected.injEq,and_true]at e2
    have:=(Ya5.1 e3).1
    omega
   ·refine(h1.defers.le j2).mono fun D _ hD=>?_
    rw[World.putObj_heap_other (fun e=>by subst e;rw[j4]at hD;cases hD)];exact hD
end ifl
section ifl
variable [Ifl]
theorem wp_in{P:Program}{o:Oper}{a:Act}{w:World}{K:Act→World→Prop}{Q:Exit→Act→World→Prop}(h:o.wp P a w K Q):o.wpIn Fence.wide 0 P a w K Q:=by
 unfold Oper.wp at h
 refine⟨fun _ _=>trivial,?_⟩
 rw[show Fence.wide.round=none from rfl,Oper.semAt_none]
 generalize (execOp a.eval o).run P w=r at *
 cases r with
 | ok n w' =>
   cases n<;>simp only[Oper.upon,Oper.uponIn]at h ⊢<;>first
    | exact h
    | exact⟨fun e=>(by cases e),callsIn_wide.2 h⟩
    | exact⟨fun e=>(by cases e),(fun c cs _=>let ⟨v,w',r,s⟩:=h c cs;⟨v,w',r,stepsIn_wide.2 s⟩)⟩
 | halt x w'=>cases x<;>simp only[Oper.upon,Oper.uponIn]at h ⊢<;>exact h
section
variable {P:Program} {l:List Oper} {o:Oper}
end
end ifl
local instance iflIt:Ifl:=Ifl.it
theorem Rep.monoS{β:Bet}{m:Mem}{S S':Nat→Nat→Prop}{w w':World}{x:Value}{d:D}(hm:∀ id,m id=none)(hs:Zao S w S' w')(h:Rep β m S w x d):Rep β m S' w' x d:=by
 induction h with
 | v x=>exact .v x
 | nil=>exact .nil
 | agg vs l hl _ ih=>exact .agg vs l hl fun i x d h1 h2=>ih i x d h1 h2 hm
 | tup vs l hl _ ih=>exact .tup vs l hl fun i x d h1 h2=>ih i x d h1 h2 hm
 | sl0 a cap hc=>exact .sl0 a cap hc
 | sl b off cap k es val h1 h2 h3 h4 _ ih=>exact .sl b off cap k es val h1 h2 h3 (fun i j d hd=>hs _ _ _ (h4 i j d hd).1 (h4 i j d hd).2) fun i j d hd=>ih i j d hd fun _=>rfl
 | cl a es _ ih=>exact .cl a es (ih fun _=>rfl)
 | ep b off k i o es val h3 h4 _ ih=>exact .ep b off k i o es val h3 (fun i j d hd=>hs _ _ _ (h4 i j d hd).1 (h4 i j d hd).2) fun i j d hd=>ih i j d hd fun _=>rfl
 | ls a n cap id ver blk hb hv hx h=>rw[hm id]at hb;cases hb
 | lp b p id ver i o blk hb hv h=>rw[hm id]at hb;cases hb
 | mp b id ver blk hb hv h=>rw[hm id]at hb;cases hb
 | clo f vs l hl _ ih=>exact .clo f vs l hl fun i x d h1 h2=>ih i x d h1 h2 hm
 | junk x=>exact .junk x
structure SI where
 t:Nat→D
 I:(Nat→Nat→Prop)→World→Prop
structure RelI (S:Nat→Nat→Prop) (n:Nat) (s:SI) (a:Act) (w:World):Prop where
 tmp:∀ k,k<n→Rep noB noM S w (a.eval (.tmp k)) (s.t k)
 width:a.tmps.size=n
 defers:a.defers=[]
 fr:Zd3 S w
 inv:s.I S w
def PostI(n:Nat)(Q:Exit→SI→Prop)(e:Exit)(a:Act)(w:World):Prop:=e ≠ .outgrown∧∃ S s,RelI S n s a w∧Q e s
def AWI(P:Program)(n:Nat)(c:Code)(Q:Exit→SI→Prop)(s:SI):Prop :=
 ∀ S a w,RelI S n s a w→c.wpIn Fence.wide 0 P (PostI n Q) a w
def Stab(I:(Nat→Nat→Prop)→World→Prop):Prop:=∀ S A B,I S A→Below A.heap.size A B→I S B
def ZtM(K:SI→Prop)(Q:Exit→SI→Prop):Exit→SI→Prop
 | .normal,s=>K s
 | e,s=>Q e s
def ZkA(id:Nat)(Q:Exit→SI→Prop):Exit→SI→Prop
 | .exit id',s=>if id'=id then Q .normal s else Q (.exit id') s
 | e,s=>Q e s
section
variable {P:Program} {n:Nat} {Q:Exit→SI→Prop} {s:SI}
theorem Zsj(h:Q .normal s):AWI P n .skip Q s:=fun S a w hr=>wpIn_skip ⟨by simp,S,s,hr,h⟩
theorem Zsk{id:Nat}(h:Q (.exit id) s):AWI P n (.exit id) Q s:=fun S a w hr=>wpIn_exit ⟨by simp,S,s,hr,h⟩
theorem jRet(h:Q .ret s):AWI P n .ret Q s:=fun S a w hr=>wpIn_ret ⟨by simp,S,s,hr,h⟩
theorem jSeq{x y:Code}(h:∀ K:SI→Prop,(∀ s,AWI P n y Q s→K s)→AWI P n x (ZtM K Q) s):AWI P n (.seq x y) Q s:=by
 intro S a w hr
 refine wpIn_seq (wpIn_mono (h _ (fun _ h=>h) S a w hr) ?_)
 rintro e a' w' ⟨ho,S',s',h1,h2⟩
 cases e with
 | normal=>exact h2 S' a' w' h1
 | _=>exact⟨ho,S',s',h1,h2⟩
theorem ZlZ{id:Nat}{c:Code}(h:AWI P n c (ZkA id Q) s):AWI P n (.block id c) Q s:=by
 intro S a w hr
 refine wpIn_block (wpIn_mono (h S a w hr) ?_)
 rintro e a' w' ⟨ho,S',s',h1,h2⟩
 cases e with
 | exit id' =>
   simp only[Exit.inBlock,ZkA]at h2 ⊢
   split
   ·rename_i he;rw[if_pos he]at h2;exact⟨by simp,S',s',h1,h2⟩
   ·rename_i he;rw[if_neg he]at h2;exact⟨by simp,S',s',h1,h2⟩
 | _=>exact⟨ho,S',s',h1,h2⟩
theorem Zzh{c:Operand}{x y:Code}{b:Bool}(hf:Zc5 n c=true)(hc:rd s.t c = .v (.bool b))(h1:b=true→AWI P n x Q s)(h2:b=false→AWI P n y Q s):AWI P n (.cond c x y) Q s:=by
 intro S a w hr
 have hv:Rep noB noM S w (a.eval c) (rd s.t c):=Zg7 fun k hk=>hr.tmp k (by rw[hk]at hf;simpa[Zc5]using hf)
 rw[hc]at hv
 exact wpIn_cond_split hv.inv_v (fun hb=>h1 hb S a w hr) (fun hb=>h2 hb S a w hr)
def LeI(s s':SI):Prop:=(∀ k,s'.t k = .junk∨s'.t k=s.t k)∧∀ S w,s.I S w→s'.I S w
theorem LeI.rel{S:Nat→Nat→Prop}{s s':SI}(h:LeI s s'){a:Act}{w:World}(hr:RelI S n s a w):RelI S n s' a w :=
 ⟨fun k hk=>(h.1 k).elim (fun e=>by rw[e];exact .junk _) (fun e=>by rw[e];exact hr.tmp k hk),hr.width,hr.defers,hr.fr,h.2 S w hr.inv⟩
theorem Zsf{s:SI}(l:List (Nat×D)){I:(Nat→Nat→Prop)→World→Prop}(hI:∀ S w,s.I S w→I S w)(h:∀ p∈l,s.t p.1=p.2):LeI s ⟨tabT l,I⟩:=by
 refine⟨fun k=>?_,hI⟩
 rcases ZeU l k with e|⟨d,h1,h2⟩
 ·exact .inl e
 ·right
  rw[show(SI.mk (tabT l) I).t k=tabT l k from rfl,h2]
  exact(h _ h1).symm
theorem jLoop{c:Code}{X:Type}(H:X→SI)(Pre:X→Prop)(μ:X→Nat)(x0:X)(h0:Pre x0)(hs:LeI s (H x0))
 (h:∀ x,Pre x→AWI P n c (ZtM (fun s2=>∃ y,Pre y∧μ y<μ x∧LeI s2 (H y)) Q) (H x)):AWI P n (.loop c) Q s:=by
 intro S a w hr
 let p:Act→World→Nat→Prop:=fun a w k=>∃ S x,μ x=k∧Pre x∧RelI S n (H x) a w
 refine wpIn_loop (fun a w=>∃ k,p a w k) (fun a w=>Zjy (p a w)) ⟨_,S,x0,rfl,h0,hs.rel hr⟩ ?_
 intro a w hI
 obtain⟨S,x,h1,h2,h3⟩:=(Zef hI).1
 refine wpIn_mono (h x h2 S a w h3) ?_
 rintro e a' w' ⟨ho,S',s',h4,h5⟩
 cases e with
 | normal =>
   obtain⟨y,h6,h7,h8⟩:=h5
   have hp:p a' w' (μ y):=⟨S',y,rfl,h6,h8.rel h4⟩
   refine⟨⟨_,hp⟩,Nat.lt_of_le_of_lt ((Zef ⟨_,hp⟩).2 _ hp) ?_⟩
   rw[← h1];exact h7
 | _=>exact⟨ho,S',s',h4,h5⟩
def envI(S:Nat→Nat→Prop)(w:World)(h:Zd3 S w):@Env Ifl.it:=@Env.mk Ifl.it S w h (fun e=>by cases e)
theorem RelI.up{S:Nat→Nat→Prop}{a:Act}{w:World}(h:RelI S n s a w):@RelA Ifl.it (envI S w h.fr) ⟨noB,noM,w⟩ n noB ⟨s.t,noM,0,0⟩ a w:=by
 refine @RelA.mk Ifl.it _ _ _ _ _ _ _ ⟨Below.refl _ _,fun _ _ h=>(by cases h),fun _ _ h=>(by cases h),fun _ _ h=>(by cases h),fun _ _ h=>(by cases h),fun _ _ _ h=>(by cases h),fun _ _ _ _ _ h=>(by cases h)⟩ (fun k hk=>?_) h.width ?_ (ZaD.refl _ _ _) (Zao.refl _ _) (fun _ _ h=>by cases h)
 ·exact(h.tmp k hk).mono (ZaD.refl _ _ _) fun b o u h1 h2=>⟨⟨h1,fun _ _ h=>by cases h⟩,h2⟩
 ·rw[h.defers];exact trivial
theorem RelI.down{S:Nat→Nat→Prop}{w0 w:World}{a0 a:Act}(h:RelI S n s a0 w0){β:Bet}{t:Nat→D}{nx:Nat}(hI:Stab s.I)
 (hr:@RelA Ifl.it (envI S w0 h.fr) ⟨noB,noM,w0⟩ n β ⟨t,noM,nx,0⟩ a w):RelI S n ⟨t,s.I⟩ a w:=by
 have hb:Below w0.heap.size w0 w:=(@RelA.mem Ifl.it _ _ _ _ _ _ _ hr).below
 refine⟨fun k hk=>?_,@RelA.width Ifl.it _ _ _ _ _ _ _ hr,@ZcP.nil Ifl.it _ _ rfl _ (@RelA.defers Ifl.it _ _ _ _ _ _ _ hr),fun b o h1=>h.fr b o (Yc7 hb.size h1),hI _ _ _ h.inv hb⟩
 exact(@RelA.tmp Ifl.it _ _ _ _ _ _ _ hr k hk).mono ⟨fun _ _ h=>(by cases h),fun _ _ h=>h⟩ fun b o u h1 h2=>⟨h1.1,h2⟩
def endJ(I:Ifl)(J:(Nat→Nat→Prop)→World→Prop)(K:SI→Prop):Exit→St→Prop
 | .normal,s=>∃ t nx,@StLe I s ⟨t,noM,nx,0⟩∧K ⟨t,J⟩
 | _,_=>False
theorem ZcA(I:Ifl){J:(Nat→Nat→Prop)→World→Prop}{K:SI→Prop}{t:Nat→D}{nx:Nat}(h:K ⟨t,J⟩):endJ I J K .normal ⟨t,noM,nx,0⟩:=⟨t,nx,@StLe.refl I _,h⟩
theorem Ziu{c:Code}(hI:Stab s.I)(h:∀ (I:Ifl)(K:SI→Prop),(∀ s,Q .normal s→K s)→@AWP I P n c (endJ I s.I K) ⟨s.t,noM,0,0⟩):AWI P n c Q s:=by
 intro S a w hr
 refine wpIn_wide.2 (wp_mono (h Ifl.it _ (fun _ h=>h) _ _ _ a w hr.up) ?_)
 rintro e a' w' ⟨s',β',h1,h2⟩
 cases e with
 | normal =>
   obtain⟨t,nx,h2,h3⟩:=h2
   obtain⟨β2,h4⟩:=h2 _ _ _ _ _ _ h1
   exact⟨by simp,S,_,hr.down hI h4,h3⟩
 | _=>exact h2.elim
def JOp(P:Program)(n:Nat)(o:Oper)(s:SI)(K:SI→Prop):Prop :=
 ∀ S a w,RelI S n s a w→∀ (K':Act→World→Prop)(Q':Exit→Act→World→Prop),(∀ S' s' a' w',RelI S' n s' a' w'→K s'→K' a' w')→o.wpIn Fence.wide 0 P a w K' Q'
theorem jOp{o:Oper}{K:SI→Prop}(hI:Stab s.I)(hfit:ZaY n o=true)(h:∀ I:Ifl,@opA I P o ⟨s.t,noM,0,0⟩ fun s'=>∃ t nx,@StLe I s' ⟨t,noM,nx,0⟩∧K ⟨t,s.I⟩):JOp P n o s K:=by
 intro S a w hr K' Q' hK
 refine wp_in (@Zga Ifl.it _ _ _ _ _ _ _ _ _ _ _ _ hfit hr.up (h Ifl.it) fun s' β' a' w' h1 ⟨t,nx,h2,h3⟩=>?_)
 obtain⟨β2,h4⟩:=h2 _ _ _ _ _ _ h1
 exact hK _ _ _ _ (hr.down hI h4) h3
def ZvB(P:Program)(f:FuncId)(ds:List D)(I I':(Nat→Nat→Prop)→World→Prop)(d:D):Prop:=Zdl P f ∧
 ∀ S W vs,Zd3 S W→I S W→Reps noB noM S W vs ds→CallsIn Fence.wide 0 P f vs.toArray W fun e W'=>∃ v S',e = .returned v∧Rep noB noM S' W' v d∧I' S' W'∧Zd3 S' W'∧Zao S W S' W'
theorem putI{S S':Nat→Nat→Prop}{a:Act}{w w':World}(hr:RelI S n s a w){dst:Option Tmp}{v:Value}{d:D}{I':(Nat→Nat→Prop)→World→Prop}(hv:Rep noB noM S' w' v d)(hI:I' S' w')(hn:Zd3 S' w')(hs:Zao S w S' w') :
 RelI S' n ⟨Go.Proofs.YtblamlnjbjaokaaGreat.putT s.t dst d,I'⟩ (a.put dst v) w':=by
 refine⟨fun k hk=>?_,by cases dst<;>simp[Act.put,hr.width],by rw[Ze4];exact hr.defers,hn,hI⟩
 rw[eval_put (by rw[hr.width];exact hk)]
 cases dst with
 | none=>rw[if_neg (by simp)];exact(hr.tmp k hk).monoS (fun _=>rfl) hs
 | some j =>
   by_cases e:j=k
   ·subst e;rw[if_pos rfl];simp only[Go.Proofs.YtblamlnjbjaokaaGreat.putT,Zab];exact hv
   ·rw[if_neg (by simpa using e)]
    simp only[Go.Proofs.YtblamlnjbjaokaaGreat.putT,Zad _ _ (Ne.symm e)]
    exact(hr.tmp k hk).monoS (fun _=>rfl) hs
end
local instance iflIt2:Ifl:=Ifl.it
section
variable {P:Program} {n:Nat} {Q:Exit→SI→Prop} {s:SI}
theorem ZoF{c:Operand}{x y:Code}(hf:Zc5 n c=true)(hc:rd s.t c = .v (.bool true))(h:AWI P n x Q s):AWI P n (.cond c x y) Q s:=Zzh hf hc (fun _=>h) (fun e=>by cases e)
theorem ZoG{c:Operand}{x y:Code}(hf:Zc5 n c=true)(hc:rd s.t c = .v (.bool false))(h:AWI P n y Q s):AWI P n (.cond c x y) Q s:=Zzh hf hc (fun e=>by cases e) (fun _=>h)
theorem Zzg{o:Oper}{f x:Operand}{ats:Array TypeId}{l:Nat}{K:SI→Prop}{I':(Nat→Nat→Prop)→World→Prop}
 (ho:o.op = .call {callee:=.value f,args:=#[x],argTypes:=ats}) (hfit:Zc5 n f=true) (hfx:Zc5 n x=true) (hf:rd s.t f = .v (.func (.yield l) #[] #[]))
 (hY:∀ S w v,Zd3 S w→s.I S w→Rep noB noM S w v (rd s.t x)→YieldAt Fence.wide 0 P l #[v] w fun e w'=>e = .returned (.bool true)∧∃ S',I' S' w'∧Zd3 S' w'∧Zao S w S' w')
 (hK:K ⟨Go.Proofs.YtblamlnjbjaokaaGreat.putT s.t o.dst (.v (.bool true)),I'⟩):JOp P n o s K:=by
 intro S a w hr K' Q' hKK
 have hv:Rep noB noM S w (a.eval f) (rd s.t f):=Zg7 fun k hk=>hr.tmp k (by rw[hk]at hfit;simpa[Zc5]using hfit)
 have hx:Rep noB noM S w (a.eval x) (rd s.t x):=Zg7 fun k hk=>hr.tmp k (by rw[hk]at hfx;simpa[Zc5]using hfx)
 rw[hf]at hv
 have hv:=hv.inv_v
 obtain⟨fn,tmps,assign,body,h1,h2⟩:=hY S w (a.eval x) hr.fr hr.inv hx
 refine⟨fun _ _=>trivial,?_⟩
 rw[show Fence.wide.round=none from rfl,Oper.semAt_none]
 have he:(execOp a.eval o).run P w = .ok (.round l fn tmps assign body) w:=by
  unfold execOp
  rw[ho]
  simp[resolve,hv,Deferred.ofValue,invoke,h1]
 rw[he,Oper.uponIn_round]
 refine⟨fun e=>(by cases e),RoundIn.mono h2 ?_⟩
 rintro e w' ⟨rfl,S',g1,g2,g3⟩
 exact hKK _ _ _ _ (putI hr (.v _) g1 g2 g3) hK
theorem jOpL{o:Oper}{K:SI→Prop}(hI:Stab s.I)(hfit:ZaY n o=true)(hg:o.guard=none)(h:∀ (I:Ifl)(KR:St→Prop),(∀ s',endJ I s.I K .normal s'→KR s')→@opsL I P [o.dst] [ZfB o] ⟨s.t,noM,0,0⟩ KR):JOp P n o s K:=by
 refine jOp hI hfit fun I=>?_
 have h4:=@Zcw I P #[o] _ [o] _ (h I _ fun _ h=>h)
 unfold opsA Zev at h4
 rw[hg]at h4
 exact h4.1 rfl
theorem ZvB.inline {f : FuncId} {fn : Func} {c : Code} {ds : List D} {I I' : (Nat → Nat → Prop) → World → Prop} {d : D} (hf : P.funcs[f]? = some fn) (hb : fn.body = some c) (hnm : (fn.name == "runtime.NumGoroutine") = false)
 (hn:decide (ds.length≤fn.ntmps)=true) (Zr:fn.results.toList.all (Zhu fn.ntmps)=true)
 (h:∀ S0 W0,I S0 W0→AWI P fn.ntmps c (fun e s=>(e = .normal∨e = .ret)∧∃ ds',Zfk P ⟨s.t,noM,0,0⟩ fn.results.toList=some ds'∧oneD ds'=d∧∀ S w,s.I S w→I' S w∧Zao S0 W0 S w) ⟨Zht ds,fun S w=>I S w∧Zao S0 W0 S w⟩):ZvB P f ds I I' d:=by
 refine⟨⟨fn,c,hf,hb,hnm⟩,fun S W vs hfr hI hvs=>?_⟩
 have hn:=of_decide_eq_true hn
 have hvl:vs.length=ds.length:=hvs.1
 refine callsIn_of_wp_marks hf hb trivial (wpIn_mono (h S W hI S _ W ⟨fun k hk=>?_,?_,rfl,hfr,hI,Zao.refl _ _⟩) ?_)
 ·simp only[Act.eval,Zht]
  by_cases hkv:k<vs.length
  ·have e:(vs.toArray++Array.replicate (fn.ntmps-vs.toArray.size) undef).getD k undef=vs[k]:=by
    rw[Array.getD_eq_getD_getElem?,Array.getElem?_append_left (by simpa using hkv)]
    simp[hkv]
   rw[e,Ya0 (by omega),Option.getD_some]
   exact hvs.2 k _ _ (Ya0 hkv) (Ya0 (by omega))
  ·have e:(vs.toArray++Array.replicate (fn.ntmps-vs.toArray.size) undef).getD k undef=undef:=by
    rw[Array.getD_eq_getD_getElem?,Array.getElem?_append_right (by simp;omega)]
    rw[Array.getElem?_replicate]
    split<;>rfl
   rw[e,List.getElem?_eq_none (by omega),Option.getD_none]
   exact .v _
 ·simp;omega
 ·rintro e a' w' ⟨ho,S',s',h1,he,ds',h2,rfl,h3⟩
  have done:LeavesInM Fence.wide 0 P fn a'.tmps (fun e W'=>∃ v S',e = .returned v∧Rep noB noM S' W' v (oneD ds')∧I' S' W'∧Zd3 S' W'∧Zao S W S' W') a'.defers .returning w':=by
   rw[h1.defers]
   obtain⟨v,g3,g4⟩:=Zjh (P:=P) h1.up Zr h2
   obtain⟨i1,i2⟩:=h3 _ _ h1.inv
   exact⟨v,g3,v,S',rfl,g4.mono ⟨fun _ _ h=>(by cases h),fun _ _ h=>h⟩ fun b o u q1 q2=>⟨q1.1,q2⟩,i1,h1.fr,i2⟩
  rcases he with rfl|rfl
  ·exact done
  ·exact done
end
local instance iflIt3:Ifl:=Ifl.it
section
variable {P:Program} {n:Nat} {Q:Exit→SI→Prop} {s:SI}
def jOps(P:Program)(n:Nat):List Oper→SI→(SI→Prop)→Prop
 | [],s,K=>K s
 | o ::rest,s,K=>o.guard=none∧JOp P n o s fun s'=>jOps P n rest s' K
theorem ZlY{ops:Array Oper}{K:Exit→Act→World→Prop}:∀ (L:List Oper)(S:Nat→Nat→Prop)(s:SI)(a:Act)(w:World),RelI S n s a w→jOps P n L s (fun s'=>∀ S' a' w',RelI S' n s' a' w'→K .normal a' w')→wpListIn Fence.wide 0 P ops K L a w
 | [],S,s,a,w,hr,h=>h S a w hr
 | o ::rest,S,s,a,w,hr,⟨hg,h⟩=>by
   unfold wpListIn
   have hw:Region.wanted o (yielded ops a.tmps)=true:=by unfold Region.wanted;rw[hg]
   rw[hw,if_pos rfl]
   exact h S a w hr _ _ fun S' s' a' w' h1 h2=>ZlY rest S' s' a' w' h1 h2
theorem jList{id:Nat}{L:List Oper}(h:jOps P n L s (Q .normal)):AWI P n (.region id L.toArray false) Q s:=by
 intro S a w hr
 refine wpIn_region_lit (ZlY L S s a w hr ?_)
 have mono:∀ (L:List Oper)(s:SI)(K K':SI→Prop),(∀ s,K s→K' s)→jOps P n L s K→jOps P n L s K':=by
  intro L
  induction L with
  | nil=>intro s K K' hk h;exact hk s h
  | cons o rest ih =>
    intro s K K' hk h
    exact⟨h.1,fun S a w hr K2 Q2 hK2=>h.2 S a w hr K2 Q2 fun S' s' a' w' h1 h2=>hK2 S' s' a' w' h1 (ih s' K K' hk h2)⟩
 exact mono L s _ _ (fun s' h S' a' w' h1=>⟨by simp,S',s',h1,h⟩) h
end
end Go.Proofs.YtblamlnjbjaokaaGreat
