/-
  What search does next, as data; that it ends (plain).
-/
import Derived.Test.YtjeaacindikplaaGreatWLib
import Derived.Test.YtjeaacindikplaaGreatWT02
import Derived.Test.YtjeaacindikplaaGreatWT01
namespace Go.Proofs.YtjeaacindikplaaGreat
set_option linter.unusedVariables false
set_option linter.unusedSimpArgs false
set_option linter.unusedSectionVars false
open Go Go.RowKit
inductive Out where
 | best
 | row (r:Nat)
 | col (s:Nat)
 | ex (r s:Nat)
def ZbI(d:Dic)(r:Nat):Out:=match pick d.free (fun j=>neg' (d.a r j)) d.n with
 | none=>.row r
 | some s=>.ex r s
def ZbJ(d:Dic)(s:Nat):Out:=match pick d.own (fun i=>pos' (d.a i s)) d.m with
 | none=>.col s
 | some r=>.ex r s
def next(d:Dic):Out:=match pick d.own (fun i=>neg' (d.v i)) d.m,pick d.free (fun j=>pos' (d.g j)) d.n with
 | none,none=>.best
 | some r,none=>ZbI d r
 | some r,some s=>if d.own r<d.free s then ZbI d r else ZbJ d s
 | none,some s=>ZbJ d s
theorem ZnR{p:Rat→Bool}{q:Rat→Prop}(h:∀ r,p r=true↔q r){r:Rat}(hp:p r=false):¬ q r:=fun hq=>by rw[(h r).2 hq]at hp;cases hp
theorem Zsx{d:Dic}{r s:Nat}(hr:pick d.own (fun i=>neg' (d.v i)) d.m=some r)(hg:∀ j,j<d.n→0<d.g j→d.own r<d.free j)(h:ZbI d r = .ex r s):d.Step r s:=by
 unfold ZbI at h
 split at h
 ·cases h
 ·rename_i s' hs
  cases h
  obtain⟨h1,h2,h3⟩:=Zbb hr
  obtain⟨g1,g2,g3⟩:=Zbb hs
  exact .inl ⟨h1,g1,(ZgC _).1 h2,fun i hi hv=>h3 i hi ((ZgC _).2 hv),hg,(ZgC _).1 g2,fun j hj ha=>g3 j hj ((ZgC _).2 ha)⟩
theorem Zsy{d:Dic}{r s:Nat}(hs:pick d.free (fun j=>pos' (d.g j)) d.n=some s)(hv:∀ i,i<d.m→d.v i<0→d.free s<d.own i)(h:ZbJ d s = .ex r s):d.Step r s:=by
 unfold ZbJ at h
 split at h
 ·cases h
 ·rename_i r' hr
  cases h
  obtain⟨h1,h2,h3⟩:=Zbb hr
  obtain⟨g1,g2,g3⟩:=Zbb hs
  exact .inr ⟨h1,g1,(Zgz _).1 g2,fun j hj hg=>g3 j hj ((Zgz _).2 hg),hv,(Zgz _).1 h2,fun i hi ha=>h3 i hi ((Zgz _).2 ha)⟩
theorem Zmt{d:Dic}{r r' s:Nat}(h:ZbI d r = .ex r' s):r'=r:=by
 unfold ZbI at h;split at h<;>cases h;rfl
theorem Znc{d:Dic}{s r s':Nat}(h:ZbJ d s = .ex r s'):s'=s:=by
 unfold ZbJ at h;split at h<;>cases h;rfl
theorem Zez{d:Dic}(hP:d.Part){r s:Nat}(h:next d = .ex r s):d.Step r s:=by
 unfold next at h
 split at h
 ·cases h
 ·rename_i r0 hr hs
  obtain rfl:=Zmt h
  exact Zsx hr (fun j hj hg=>absurd hg (ZnR Zgz (ZdQ hs j hj))) h
 ·rename_i r0 s0 hr hs
  split at h
  ·rename_i hlt
   obtain rfl:=Zmt h
   exact Zsx hr (fun j hj hg=>Nat.lt_of_lt_of_le hlt ((Zbb hs).2.2 j hj ((Zgz _).2 hg))) h
  ·rename_i hlt
   obtain rfl:=Znc h
   refine Zsy hs (fun i hi hv=>?_) h
   have h1:=(Zbb hr).2.2 i hi ((ZgC _).2 hv)
   have h2:=hP.apart i s hi (Zbb hs).1
   omega
 ·rename_i s0 hr hs
  obtain rfl:=Znc h
  exact Zsy hs (fun i hi hv=>absurd hv (ZnR ZgC (ZdQ hr i hi))) h
def iter(d:Dic):Dic:=match next d with
 | .ex r s=>d.ex r s
 | _=>d
def ZhI(d:Dic):Prop:=∀ r s,next d ≠ .ex r s
def Zfe:Nat→Dic→Dic
 | 0,d=>d
 | k+1,d=>Zfe k (iter d)
theorem ZlI{d:Dic}{r s:Nat}(h:next d = .ex r s):iter d=d.ex r s:=by unfold iter;rw[h]
theorem ZmY{d:Dic}(h:ZhI d):iter d=d:=by
 unfold iter;split
 ·rename_i r s hn;exact absurd hn (h r s)
 ·rfl
theorem ZlG{d:Dic}(h:ZhI d):∀ k,Zfe k d=d
 | 0=>rfl
 | k+1=>by rw[Zfe,ZmY h,ZlG h k]
theorem Zfu(d:Dic):∀ k,Zfe (k+1) d=iter (Zfe k d)
 | 0=>rfl
 | k+1=>by rw[Zfe,Zfu (iter d) k];rfl
theorem ZwI{d:Dic}(h:¬ ZhI d):∃ r s,next d = .ex r s:=by
 unfold ZhI at h
 exact Classical.byContradiction fun hn=>h fun r s e=>hn ⟨r,s,e⟩
theorem ZlH{d:Dic}(h:d.Part):(iter d).Part:=by
 unfold iter;split
 ·rename_i r s hn;have:=Zez h hn;exact Dic.ex_part h this.hr this.hs
 ·exact h
theorem Zhl{d:Dic}(h:d.Part):∀ k,(Zfe k d).Part
 | 0=>h
 | k+1=>by rw[Zfu];exact ZlH (Zhl h k)
theorem Zi9{d:Dic}(h:d.Part):∃ k,ZhI (Zfe k d):=by
 refine Classical.byContradiction fun hn=>?_
 have hno:∀ k,∃ r s,next (Zfe k d) = .ex r s:=fun k=>ZwI fun he=>hn ⟨k,he⟩
 have run:Dic.Run (2^(d.n+d.m)) (fun k=>Zfe k d) (fun k=>Classical.choose (hno k)) (fun k=>Classical.choose (Classical.choose_spec (hno k))):=by
  refine⟨h,fun k _=>?_,fun k _=>?_⟩
  ·exact Zez (Zhl h k) (Classical.choose_spec (Classical.choose_spec (hno k)))
  ·show Zfe (k+1) d=_
   rw[Zfu]
   exact ZlI (Classical.choose_spec (Classical.choose_spec (hno k)))
 have:=run.short
 simp only[Zfe]at this
 omega
noncomputable def left (d:Dic):Nat:=ZlD fun k=>ZhI (Zfe k d)
noncomputable def Zfz (d:Dic):Dic:=Zfe (left d) d
theorem ZgH{d:Dic}(h:d.Part){r s:Nat}(hn:next d = .ex r s):left (d.ex r s)<left d:=by
 have h1:=(Zcs (Zi9 h)).1
 have h2:=Zcs (Zi9 (d:=d.ex r s) (by rw[← ZlI hn];exact ZlH h))
 unfold left
 cases hk:ZlD fun k=>ZhI (Zfe k d)with
 | zero=>rw[hk]at h1;exact absurd hn (h1 r s)
 | succ k =>
   rw[hk,Zfe,ZlI hn]at h1
   have:=h2.2 k h1
   omega
theorem Zil{d:Dic}(h:d.Part):ZhI (Zfz d):=(Zcs (Zi9 h)).1
theorem Zhn{d:Dic}(h:d.Part){r s:Nat}(hn:next d = .ex r s):Zfz (d.ex r s)=Zfz d:=by
 have hP:(d.ex r s).Part:=by rw[← ZlI hn];exact ZlH h
 have h1:=ZgH h hn
 have h2:=Zil hP
 have h3:=Zil h
 unfold Zfz at h2 h3 ⊢
 have e1:left d=(left d-1)+1:=by omega
 rw[e1,Zfe,ZlI hn]at h3 ⊢
 have h4:=(Zcs (Zi9 hP)).2 (left d-1) h3
 have h5:left (d.ex r s)≤left d-1:=h4
 have:∀ j k,j≤k→ZhI (Zfe j (d.ex r s))→Zfe k (d.ex r s)=Zfe j (d.ex r s):=by
  intro j k hjk he
  induction k with
  | zero => obtain rfl : j = 0 := by omega
            rfl
  | succ k ih =>
    by_cases e:j=k+1
    ·subst e;rfl
    ·rw[Zfu,ih (by omega),ZmY he]
 exact(this _ _ h5 h2).symm
theorem Zfy{d:Dic}(h:d.Part)(he:ZhI d):Zfz d=d:=ZlG he _
theorem ZmX{d:Dic}(h:d.Part):∀ k,Dic.Same d (Zfe k d)
 | 0=>Dic.Same.refl d
 | k+1=>by
   rw[Zfu]
   refine(ZmX h k).trans ?_
   unfold iter;split
   ·rename_i r s hn
    have:=Zez (Zhl h k) hn
    exact Dic.ex_same this.hr this.hs this.ne
   ·exact Dic.Same.refl _
theorem ZuG{d:Dic}(h:d.Part):(Zfz d).Part:=Zhl h _
theorem Zho{d:Dic}(h:d.Part):Dic.Same d (Zfz d):=ZmX h _
set_option maxRecDepth 100000
set_option maxHeartbeats 32000000
def Zkd:Out→D
 | .best=>.tup [dI (-1),dI (-1)]
 | .row r=>.tup [dI r,dI (-1)]
 | .col s=>.tup [dI (-1),dI s]
 | .ex _ _=>.junk
theorem Znt[Ifl]{I:Ids}{d0:Dic}{src:Nat→Nat×Bool}{m:Mem}{nx:Nat}(h:DicAt m I d0 src)(ap:Apart I d0.m)(hf:d0.First)(hm:(d0.m:Int)≤4096)(hn:(d0.n:Int)≤4096)
 {B t:Nat} (hB1:1≤B) (hB:(Dic.grow B t:Int)≤536870912) (ht:d0.n≤t∨d0.m≤t) (sz:d0.Sized szQ B) :
 ZaN Tryz.prog 137 [.lp I.p 0 0 0] m nx fun d' m' nx'=>d'=Zkd (next (Zfz d0))∧nx≤nx'∧DicAt m' I (Zfz d0) src∧∀ id,id<nx→¬ inD I d0.m id→m' id=m id:=by
 refine ZaN.cl ⟨_,_,Tryz.func137,rfl,by kernel_rfl⟩ fun hcl=>?_
 have hres:=Tryz.results137
 refine inA Tryz.func137 rfl Tryz.ntmps137 ?_
 have lt:∀ id,inD I d0.m id→id<nx:=fun id hi=>h.lt hcl hi
 refine aGoM (cj2 hres ZaR) ?_
 repeat with_reducible intro K hK
 refine ZcW (fun(_:Dic)=>[(1,.lp nx 0 0 0)]) nx (fun E m1 nx1=>E.Part∧Dic.Same d0 E∧Zfz E=Zfz d0∧DicAt m1 I E src∧m1 nx=some (bxB 210 I.p)∧nx<nx1∧∀ id,id<nx→¬ inD I d0.m id→m1 id=m id) left d0 ?_ ?_ ?_ ?_
 ·exact⟨hf.part,Dic.Same.refl _,rfl,h.new fun id hi=>by have:=lt id hi;omega,Zae _ _ _,Nat.lt_succ_self _,fun id h1 _=>Zad _ _ (by omega)⟩
 ·rfl
 ·simp[go_sem]
 ·rintro E m1 nx1 ⟨hP,hS,hfin,hD,hbx,hnx,hfr⟩
  have eM:=hS.m
  have eN:=hS.n
  have lt1:∀ id,inD I E.m id→id<nx1:=fun id hi=>by rw[← eM]at hi;have:=lt id hi;omega
  have hp:=hD.hp
  have hO:=hD.hO
  have hF:=hD.hFr
  have lO:=lt1 _ (.inr (.inr (.inr (.inl rfl))))
  have lF:=lt1 _ (.inr (.inr (.inr (.inr (.inl rfl)))))
  refine aGoM (cj4 hres ZaR hp (cj2 hO hbx)) ?_
  repeat with_reducible intro K hK
  refine ZaT (ZjJ E.m E.own (fun i=>neg' (E.v i)) I.O I.vO _ [.lp nx 0 0 0] _ _ (by omega) hO lO fun i hi m' nx' hn' hf'=>s1_a (hD.keep fun id hid=>hf' id (lt1 id hid)) ((hf' nx hnx).trans hbx) hi) ?_
  rintro _ m2 nx2 ⟨rfl,hn2,hf2⟩
  have hD2:DicAt m2 I E src:=hD.keep fun id hid=>hf2 id (lt1 id hid)
  have hbx2:=(hf2 nx hnx).trans hbx
  obtain⟨pr,hpr⟩:∃ pr,pick E.own (fun i=>neg' (E.v i)) E.m=pr:=⟨_,rfl⟩
  rw[hpr]
  have q1:nx≠nx2:=by omega
  have q2:I.p≠nx2:=by have:=lt1 _ (.inl rfl);omega
  have q3:I.Fr≠nx2:=by omega
  have ne2:∀ id,inD I E.m id→id≠nx2:=fun id hid=>by have:=lt1 id hid;omega
  refine aGoM (cj4 hres ZaR hD2.hp (cj4 hD2.hFr hbx2 q1 (cj2 q2 q3))) ?_
  repeat with_reducible intro K hK
  have hD2':=(hD2.new (x:=nx2) (b:=some (nB 0)) ne2).new (x:=nx2) (b:=some (nB (oI pr))) ne2
  refine ZaT (ZjJ E.n E.free (fun j=>pos' (E.g j)) I.Fr I.vFr _ [.lp nx 0 0 0] _ _ (by omega) hD2'.hFr (by omega) fun i hi m' nx' hn' hf'=>s2_a (hD2'.keep fun id hid=>hf' id (by have:=lt1 id hid;omega)) ((hf' nx (by omega)).trans ((Zad _ _ q1).trans ((Zad _ _ q1).trans hbx2))) hi) ?_
  rintro _ m3 nx3 ⟨rfl,hn3,hf3⟩
  have hD3:DicAt m3 I E src:=hD2'.keep fun id hid=>hf3 id (by have:=lt1 id hid;omega)
  have hbx3:m3 nx=some (bxB 210 I.p):=(hf3 nx (by omega)).trans ((Zad _ _ q1).trans ((Zad _ _ q1).trans hbx2))
  have hr3:m3 nx2=some (nB (oI pr)):=(hf3 nx2 (by omega)).trans (Zae _ _ _)
  have hfr3:∀ id,id<nx→¬ inD I d0.m id→m3 id=m id:=fun id h1 h2=>(hf3 id (by omega)).trans ((Zad _ _ (by omega)).trans ((Zad _ _ (by omega)).trans ((hf2 id (by omega)).trans (hfr id h1 h2))))
  obtain⟨ps,hps⟩:∃ ps,pick E.free (fun j=>pos' (E.g j)) E.n=ps:=⟨_,rfl⟩
  rw[hps]
  have r1:nx≠nx3:=by omega
  have r2:nx2≠nx3:=by omega
  have r3:I.p≠nx3:=by have:=lt1 _ (.inl rfl);omega
  have r4:I.O≠nx3:=by omega
  have r5:I.Fr≠nx3:=by omega
  have r6:nx3≠nx:=by omega
  have r7:nx3≠nx2:=by omega
  have r8:nx2≠nx:=by omega
  have ne3:∀ id,inD I E.m id→id≠nx3:=fun id hid=>by have:=lt1 id hid;omega
  have hp3:=hD3.hp
  have hO3:=hD3.hO
  have hF3:=hD3.hFr
  have oN:oI none = -1:=rfl
  have oS:∀ a,oI (some a)=a:=fun _=>rfl
  have lO3:I.O<nx3:=by omega
  have lF3:I.Fr<nx3:=by omega
  have f0:=cj4 hres ZaR hp3 (cj4 hO3 hF3 hbx3 (cj4 hr3 r1 r2 (cj4 r3 r4 r5 (cj3 r6 r7 r8))))
  cases pr with
  | none =>
    cases ps with
    | none =>
      have hnext:next E = .best:=by unfold next;rw[hpr,hps]
      have hend:ZhI E:=fun r s e=>by rw[hnext]at e;cases e
      have hfE:Zfz d0=E:=hfin.symm.trans (Zfy hP hend)
      have z1:(-1:Int)<0:=by decide
      refine aGoM (cj3 f0 oN z1) ?_
      rw[hfE,hnext]
      refine⟨rfl,by omega,(hD3.new ne3).new ne3,fun id h1 h2=>?_⟩
      rw[if_neg (by omega),if_neg (by omega)]
      exact hfr3 id h1 h2
    | some s =>
      have z0:(-1:Int)<0:=by decide
      have z2:¬ (-1:Int)≥0:=by decide
      have z3:¬ (s:Int)<0:=by omega
      refine aGoM (cj4 f0 oN oS (cj3 z0 z2 z3)) ?_
      repeat with_reducible intro K hK
      have hsn:=(Zbb hps).1
      have hD4:=(hD3.new (x:=nx3) (b:=some (nB 0)) ne3).new (x:=nx3) (b:=some (nB s)) ne3
      refine ZaT (ZjJ E.m E.own (fun i=>pos' (E.a i s)) I.O I.vO _ [.lp nx 0 0 0,.lp nx3 0 0 0] _ _ (by omega) hD4.hO (by omega) fun i hi m' nx' hn' hf'=>s4_a (hD4.keep fun id hid=>hf' id (by have:=lt1 id hid;omega)) ((hf' nx (by omega)).trans ((Zad _ _ r1).trans ((Zad _ _ r1).trans hbx3))) hsn ((hf' nx3 (by omega)).trans (Zae _ _ _)) hi) ?_
      rintro _ m4 nx4 ⟨rfl,hn4,hf4⟩
      have hD4':DicAt m4 I E src:=hD4.keep fun id hid=>hf4 id (by have:=lt1 id hid;omega)
      have hbx4:m4 nx=some (bxB 210 I.p):=(hf4 nx (by omega)).trans ((Zad _ _ r1).trans ((Zad _ _ r1).trans hbx3))
      have hr4:m4 nx2=some (nB (-1)):=(hf4 nx2 (by omega)).trans ((Zad _ _ r2).trans ((Zad _ _ r2).trans hr3))
      have hs4:m4 nx3=some (nB s):=(hf4 nx3 (by omega)).trans (Zae _ _ _)
      have hfr4:∀ id,id<nx→¬ inD I d0.m id→m4 id=m id:=fun id h1 h2=>(hf4 id (by omega)).trans ((Zad _ _ (by omega)).trans ((Zad _ _ (by omega)).trans (hfr3 id h1 h2)))
      obtain⟨pq,hpq⟩:∃ pq,pick E.own (fun i=>pos' (E.a i s)) E.m=pq:=⟨_,rfl⟩
      rw[hpq]
      have hD5:=hD4'.new (x:=nx2) (b:=some (nB (oI pq))) ne2
      have hbx5:(upd m4 nx2 (some (nB (oI pq)))) nx=some (bxB 210 I.p):=(Zad _ _ q1).trans hbx4
      have hfr5:∀ id,id<nx→¬ inD I d0.m id→(upd m4 nx2 (some (nB (oI pq)))) id=m id:=fun id h1 h2=>(Zad _ _ (by omega)).trans (hfr4 id h1 h2)
      have hcol:next E=ZbJ E s:=by unfold next;rw[hpr,hps]
      cases pq with
      | none =>
        have hnext:next E = .col s:=by rw[hcol];unfold ZbJ;rw[hpq]
        have hend:ZhI E:=fun r s e=>by rw[hnext]at e;cases e
        have hfE:Zfz d0=E:=hfin.symm.trans (Zfy hP hend)
        have z1:(-1:Int)<0:=by decide
        refine aGoM (cj4 hres hs4 hr4 (cj4 oN z1 r2 (cj2 r7 oS))) ?_
        rw[hfE,hnext]
        refine⟨rfl,by omega,hD5,fun id h1 h2=>?_⟩
        rw[if_neg (by omega)]
        exact hfr4 id h1 h2
      | some r =>
        have hnext:next E = .ex r s:=by rw[hcol];unfold ZbJ;rw[hpq]
        have z1:¬ (r:Int)<0:=by omega
        refine aGoM (cj4 hres hs4 hr4 (cj4 oS z1 r2 (cj4 r7 hbx4 ZaR (cj2 q1 r8)))) ?_
        repeat with_reducible intro K hK
        have hst:=Zez hP hnext
        have zE:=Dic.small szFn hf hB1 sz hP hS (t:=t) (by omega)
        refine ZaT (Zhp hD5 (eM▸ap) hst.hr hst.hs hst.ne (by omega) (by omega) (Dic.grow_pos hB1 t) hB zE) ?_
        rintro _ m6 nx6 ⟨rfl,hn6,hD6,hf6⟩
        refine aGoM (cj2 hres ZaR) ?_
        repeat with_reducible intro K hK
        have hnin:∀ id,nx≤id→¬ inD I E.m id:=fun id h1 h2=>by have:=lt id (by rw[eM];exact h2);omega
        refine Zas (E.ex r s) ⟨Dic.ex_part hP hst.hr hst.hs,hS.trans (Dic.ex_same hst.hr hst.hs hst.ne),(Zhn hP hnext).trans hfin,hD6,?_,?_,fun id h1 h2=>?_⟩ (ZgH hP hnext) rfl (by simp[go_sem])
        ·exact(hf6 nx (by omega) (hnin nx (Ya4 _))).trans hbx5
        ·show nx<nx6;omega
        ·exact(hf6 id (by omega) (by rw[← eM];exact h2)).trans (hfr5 id h1 h2)
  | some r =>
    have hrm:=(Zbb hpr).1
    have go:=Zbu (fun i=>[dI (E.own i)]) hrm
    have z0:¬ (r:Int)<0:=by omega
    have z1:(r:Int)≥0:=by omega
    have z4:(0:Int)≤r:=by omega
    cases ps with
    | none =>
      have z5:(-1:Int)<0:=by decide
      refine aGoM (cj4 f0 oN oS (cj4 z0 z1 z4 z5)) ?_
      repeat with_reducible intro K hK
      have hrm:=(Zbb hpr).1
      have hD4:=(hD3.new (x:=nx3) (b:=some (nB 0)) ne3).new (x:=nx3) (b:=some (nB (-1))) ne3
      refine ZaT (ZjJ E.n E.free (fun j=>neg' (E.a r j)) I.Fr I.vFr _ [.lp nx 0 0 0,.lp nx2 0 0 0] _ _ (by omega) hD4.hFr (by omega) fun i hi m' nx' hn' hf'=>s3_a (hD4.keep fun id hid=>hf' id (by have:=lt1 id hid;omega)) ((hf' nx (by omega)).trans ((Zad _ _ r1).trans ((Zad _ _ r1).trans hbx3))) hrm ((hf' nx2 (by omega)).trans ((Zad _ _ r2).trans ((Zad _ _ r2).trans hr3))) hi) ?_
      rintro _ m4 nx4 ⟨rfl,hn4,hf4⟩
      have hD4':DicAt m4 I E src:=hD4.keep fun id hid=>hf4 id (by have:=lt1 id hid;omega)
      have hbx4:m4 nx=some (bxB 210 I.p):=(hf4 nx (by omega)).trans ((Zad _ _ r1).trans ((Zad _ _ r1).trans hbx3))
      have hr4:m4 nx2=some (nB r):=(hf4 nx2 (by omega)).trans ((Zad _ _ r2).trans ((Zad _ _ r2).trans hr3))
      have hs4:m4 nx3=some (nB (-1)):=(hf4 nx3 (by omega)).trans (Zae _ _ _)
      have hfr4:∀ id,id<nx→¬ inD I d0.m id→m4 id=m id:=fun id h1 h2=>(hf4 id (by omega)).trans ((Zad _ _ (by omega)).trans ((Zad _ _ (by omega)).trans (hfr3 id h1 h2)))
      obtain⟨pq,hpq⟩:∃ pq,pick E.free (fun j=>neg' (E.a r j)) E.n=pq:=⟨_,rfl⟩
      rw[hpq]
      have hD5:=hD4'.new (x:=nx3) (b:=some (nB (oI pq))) ne3
      have hbx5:(upd m4 nx3 (some (nB (oI pq)))) nx=some (bxB 210 I.p):=(Zad _ _ r1).trans hbx4
      have hfr5:∀ id,id<nx→¬ inD I d0.m id→(upd m4 nx3 (some (nB (oI pq)))) id=m id:=fun id h1 h2=>(Zad _ _ (by omega)).trans (hfr4 id h1 h2)
      have hrow:next E=ZbI E r:=by unfold next;rw[hpr,hps]
      cases pq with
      | none =>
        have hnext:next E = .row r:=by rw[hrow];unfold ZbI;rw[hpq]
        have hend:ZhI E:=fun r s e=>by rw[hnext]at e;cases e
        have hfE:Zfz d0=E:=hfin.symm.trans (Zfy hP hend)
        have z1:(-1:Int)<0:=by decide
        refine aGoM (cj4 hres hs4 hr4 (cj4 oN z1 r2 (cj2 r7 oS))) ?_
        rw[hfE,hnext]
        refine⟨rfl,by omega,hD5,fun id h1 h2=>?_⟩
        rw[if_neg (by omega)]
        exact hfr4 id h1 h2
      | some s =>
        have hnext:next E = .ex r s:=by rw[hrow];unfold ZbI;rw[hpq]
        have z1:¬ (s:Int)<0:=by omega
        refine aGoM (cj4 hres hs4 hr4 (cj4 oS z1 r2 (cj4 r7 hbx4 ZaR (cj2 r1 r6)))) ?_
        repeat with_reducible intro K hK
        have hst:=Zez hP hnext
        have zE:=Dic.small szFn hf hB1 sz hP hS (t:=t) (by omega)
        refine ZaT (Zhp hD5 (eM▸ap) hst.hr hst.hs hst.ne (by omega) (by omega) (Dic.grow_pos hB1 t) hB zE) ?_
        rintro _ m6 nx6 ⟨rfl,hn6,hD6,hf6⟩
        refine aGoM (cj2 hres ZaR) ?_
        repeat with_reducible intro K hK
        have hnin:∀ id,nx≤id→¬ inD I E.m id:=fun id h1 h2=>by have:=lt id (by rw[eM];exact h2);omega
        refine Zas (E.ex r s) ⟨Dic.ex_part hP hst.hr hst.hs,hS.trans (Dic.ex_same hst.hr hst.hs hst.ne),(Zhn hP hnext).trans hfin,hD6,?_,?_,fun id h1 h2=>?_⟩ (ZgH hP hnext) rfl (by simp[go_sem])
        ·exact(hf6 nx (by omega) (hnin nx (Ya4 _))).trans hbx5
        ·show nx<nx6;omega
        ·exact(hf6 id (by omega) (by rw[← eM];exact h2)).trans (hfr5 id h1 h2)
    | some s =>
      have hsn:=(Zbb hps).1
      have gf:=Zbu (fun i=>[dI (E.free i)]) hsn
      have z2:¬ (s:Int)<0:=by omega
      have z3:(0:Int)≤s:=by omega
      by_cases hlt:E.own r<E.free s
      ·have hlt':(E.own r:Int)<E.free s:=by omega
       refine aGoM (cj4 f0 oS go (cj4 z0 z1 z4 (cj4 gf z2 z3 hlt'))) ?_
       repeat with_reducible intro K hK
       have hrm:=(Zbb hpr).1
       have hD4:=(hD3.new (x:=nx3) (b:=some (nB 0)) ne3).new (x:=nx3) (b:=some (nB s)) ne3
       refine ZaT (ZjJ E.n E.free (fun j=>neg' (E.a r j)) I.Fr I.vFr _ [.lp nx 0 0 0,.lp nx2 0 0 0] _ _ (by omega) hD4.hFr (by omega) fun i hi m' nx' hn' hf'=>s3_a (hD4.keep fun id hid=>hf' id (by have:=lt1 id hid;omega)) ((hf' nx (by omega)).trans ((Zad _ _ r1).trans ((Zad _ _ r1).trans hbx3))) hrm ((hf' nx2 (by omega)).trans ((Zad _ _ r2).trans ((Zad _ _ r2).trans hr3))) hi) ?_
       rintro _ m4 nx4 ⟨rfl,hn4,hf4⟩
       have hD4':DicAt m4 I E src:=hD4.keep fun id hid=>hf4 id (by have:=lt1 id hid;omega)
       have hbx4:m4 nx=some (bxB 210 I.p):=(hf4 nx (by omega)).trans ((Zad _ _ r1).trans ((Zad _ _ r1).trans hbx3))
       have hr4:m4 nx2=some (nB r):=(hf4 nx2 (by omega)).trans ((Zad _ _ r2).trans ((Zad _ _ r2).trans hr3))
       have hs4:m4 nx3=some (nB s):=(hf4 nx3 (by omega)).trans (Zae _ _ _)
       have hfr4:∀ id,id<nx→¬ inD I d0.m id→m4 id=m id:=fun id h1 h2=>(hf4 id (by omega)).trans ((Zad _ _ (by omega)).trans ((Zad _ _ (by omega)).trans (hfr3 id h1 h2)))
       obtain⟨pq,hpq⟩:∃ pq,pick E.free (fun j=>neg' (E.a r j)) E.n=pq:=⟨_,rfl⟩
       rw[hpq]
       have hD5:=hD4'.new (x:=nx3) (b:=some (nB (oI pq))) ne3
       have hbx5:(upd m4 nx3 (some (nB (oI pq)))) nx=some (bxB 210 I.p):=(Zad _ _ r1).trans hbx4
       have hfr5:∀ id,id<nx→¬ inD I d0.m id→(upd m4 nx3 (some (nB (oI pq)))) id=m id:=fun id h1 h2=>(Zad _ _ (by omega)).trans (hfr4 id h1 h2)
       have hrow:next E=ZbI E r:=by unfold next;rw[hpr,hps];exact if_pos hlt
       cases pq with
       | none =>
         have hnext:next E = .row r:=by rw[hrow];unfold ZbI;rw[hpq]
         have hend:ZhI E:=fun r s e=>by rw[hnext]at e;cases e
         have hfE:Zfz d0=E:=hfin.symm.trans (Zfy hP hend)
         have z1:(-1:Int)<0:=by decide
         refine aGoM (cj4 hres hs4 hr4 (cj4 oN z1 r2 (cj2 r7 oS))) ?_
         rw[hfE,hnext]
         refine⟨rfl,by omega,hD5,fun id h1 h2=>?_⟩
         rw[if_neg (by omega)]
         exact hfr4 id h1 h2
       | some s' =>
         have hnext:next E = .ex r s':=by rw[hrow];unfold ZbI;rw[hpq]
         have z1:¬ (s':Int)<0:=by omega
         refine aGoM (cj4 hres hs4 hr4 (cj4 oS z1 r2 (cj4 r7 hbx4 ZaR (cj2 r1 r6)))) ?_
         repeat with_reducible intro K hK
         have hst:=Zez hP hnext
         have zE:=Dic.small szFn hf hB1 sz hP hS (t:=t) (by omega)
         refine ZaT (Zhp hD5 (eM▸ap) hst.hr hst.hs hst.ne (by omega) (by omega) (Dic.grow_pos hB1 t) hB zE) ?_
         rintro _ m6 nx6 ⟨rfl,hn6,hD6,hf6⟩
         refine aGoM (cj2 hres ZaR) ?_
         repeat with_reducible intro K hK
         have hnin:∀ id,nx≤id→¬ inD I E.m id:=fun id h1 h2=>by have:=lt id (by rw[eM];exact h2);omega
         refine Zas (E.ex r s') ⟨Dic.ex_part hP hst.hr hst.hs,hS.trans (Dic.ex_same hst.hr hst.hs hst.ne),(Zhn hP hnext).trans hfin,hD6,?_,?_,fun id h1 h2=>?_⟩ (ZgH hP hnext) rfl (by simp[go_sem])
         ·exact(hf6 nx (by omega) (hnin nx (Ya4 _))).trans hbx5
         ·show nx<nx6;omega
         ·exact(hf6 id (by omega) (by rw[← eM];exact h2)).trans (hfr5 id h1 h2)
      ·have hlt':¬ (E.own r:Int)<E.free s:=by omega
       refine aGoM (cj4 f0 oS go (cj4 z0 z1 z4 (cj4 gf z2 z3 hlt'))) ?_
       repeat with_reducible intro K hK
       have hsn:=(Zbb hps).1
       have hD4:=(hD3.new (x:=nx3) (b:=some (nB 0)) ne3).new (x:=nx3) (b:=some (nB s)) ne3
       refine ZaT (ZjJ E.m E.own (fun i=>pos' (E.a i s)) I.O I.vO _ [.lp nx 0 0 0,.lp nx3 0 0 0] _ _ (by omega) hD4.hO (by omega) fun i hi m' nx' hn' hf'=>s4_a (hD4.keep fun id hid=>hf' id (by have:=lt1 id hid;omega)) ((hf' nx (by omega)).trans ((Zad _ _ r1).trans ((Zad _ _ r1).trans hbx3))) hsn ((hf' nx3 (by omega)).trans (Zae _ _ _)) hi) ?_
       rintro _ m4 nx4 ⟨rfl,hn4,hf4⟩
       have hD4':DicAt m4 I E src:=hD4.keep fun id hid=>hf4 id (by have:=lt1 id hid;omega)
       have hbx4:m4 nx=some (bxB 210 I.p):=(hf4 nx (by omega)).trans ((Zad _ _ r1).trans ((Zad _ _ r1).trans hbx3))
       have hr4:m4 nx2=some (nB r):=(hf4 nx2 (by omega)).trans ((Zad _ _ r2).trans ((Zad _ _ r2).trans hr3))
       have hs4:m4 nx3=some (nB s):=(hf4 nx3 (by omega)).trans (Zae _ _ _)
       have hfr4:∀ id,id<nx→¬ inD I d0.m id→m4 id=m id:=fun id h1 h2=>(hf4 id (by omega)).trans ((Zad _ _ (by omega)).trans ((Zad _ _ (by omega)).trans (hfr3 id h1 h2)))
       obtain⟨pq,hpq⟩:∃ pq,pick E.own (fun i=>pos' (E.a i s)) E.m=pq:=⟨_,rfl⟩
       rw[hpq]
       have hD5:=hD4'.new (x:=nx2) (b:=some (nB (oI pq))) ne2
       have hbx5:(upd m4 nx2 (some (nB (oI pq)))) nx=some (bxB 210 I.p):=(Zad _ _ q1).trans hbx4
       have hfr5:∀ id,id<nx→¬ inD I d0.m id→(upd m4 nx2 (some (nB (oI pq)))) id=m id:=fun id h1 h2=>(Zad _ _ (by omega)).trans (hfr4 id h1 h2)
       have hcol:next E=ZbJ E s:=by unfold next;rw[hpr,hps];exact if_neg hlt
       cases pq with
       | none =>
         have hnext:next E = .col s:=by rw[hcol];unfold ZbJ;rw[hpq]
         have hend:ZhI E:=fun r s e=>by rw[hnext]at e;cases e
         have hfE:Zfz d0=E:=hfin.symm.trans (Zfy hP hend)
         have z1:(-1:Int)<0:=by decide
         refine aGoM (cj4 hres hs4 hr4 (cj4 oN z1 r2 (cj2 r7 oS))) ?_
         rw[hfE,hnext]
         refine⟨rfl,by omega,hD5,fun id h1 h2=>?_⟩
         rw[if_neg (by omega)]
         exact hfr4 id h1 h2
       | some r' =>
         have hnext:next E = .ex r' s:=by rw[hcol];unfold ZbJ;rw[hpq]
         have z1:¬ (r':Int)<0:=by omega
         refine aGoM (cj4 hres hs4 hr4 (cj4 oS z1 r2 (cj4 r7 hbx4 ZaR (cj2 q1 r8)))) ?_
         repeat with_reducible intro K hK
         have hst:=Zez hP hnext
         have zE:=Dic.small szFn hf hB1 sz hP hS (t:=t) (by omega)
         refine ZaT (Zhp hD5 (eM▸ap) hst.hr hst.hs hst.ne (by omega) (by omega) (Dic.grow_pos hB1 t) hB zE) ?_
         rintro _ m6 nx6 ⟨rfl,hn6,hD6,hf6⟩
         refine aGoM (cj2 hres ZaR) ?_
         repeat with_reducible intro K hK
         have hnin:∀ id,nx≤id→¬ inD I E.m id:=fun id h1 h2=>by have:=lt id (by rw[eM];exact h2);omega
         refine Zas (E.ex r' s) ⟨Dic.ex_part hP hst.hr hst.hs,hS.trans (Dic.ex_same hst.hr hst.hs hst.ne),(Zhn hP hnext).trans hfin,hD6,?_,?_,fun id h1 h2=>?_⟩ (ZgH hP hnext) rfl (by simp[go_sem])
         ·exact(hf6 nx (by omega) (hnin nx (Ya4 _))).trans hbx5
         ·show nx<nx6;omega
         ·exact(hf6 id (by omega) (by rw[← eM];exact h2)).trans (hfr5 id h1 h2)
set_option maxHeartbeats 16000000
section
variable [Ifl]
theorem ZmR{E:Env}{β:Bet}{m:Mem}{nx:Nat}{w:World}(hM:MemOk E β m nx w){id:Nat}{b:Blk}{es':List (List D)}(hb:m id=some b)(hl:es'.length=b.es.length)
 (hw:∀ (i:Nat)(e':List D),es'[i]? =some e'→∃ e,b.es[i]? =some e∧e'.length=e.length)
 (hc:∀ (i j:Nat)(d':D),cellAt es' i j=some d'→∃ d,cellAt b.es i j=some d∧∀ u,Rep β m (safe E β m) w u d→Rep β m (safe E β m) w u d') :
 MemOk E β (upd m id (some {b with es:=es'})) nx w∧MemLe β m w β (upd m id (some {b with es:=es'})) w∧Zaz (safe E β m) w (safe E β (upd m id (some {b with es:=es'}))) w:=by
 have hm:MemLe β m w β (upd m id (some {b with es:=es'})) w:=by
  refine⟨fun x y hx=>?_,fun _ _ h=>h⟩
  by_cases e:x=id
  ·subst e
   rw[hb]at hx;cases hx
   exact⟨_,Zae _ _ _,Ya4 _,fun _=>⟨rfl,hl,rfl⟩⟩
  ·exact⟨y,by rw[Zad _ _ e];exact hx,Ya4 _,fun _=>⟨rfl,rfl,rfl⟩⟩
 have hget:∀ x y,upd m id (some {b with es:=es'}) x=some y→∃ z,m x=some z∧y.T=z.T∧y.k=z.k∧y.es.length=z.es.length∧y.fz=z.fz∧y.dead=z.dead∧(y.es=z.es∨(z=b∧y.es=es')):=by
  intro x y hx
  by_cases e:x=id
  ·subst e;rw[Zae]at hx;cases hx;exact⟨b,hb,rfl,rfl,hl,rfl,rfl,.inr ⟨rfl,rfl⟩⟩
  ·rw[Zad _ _ e]at hx;exact⟨y,hx,rfl,rfl,rfl,rfl,rfl,.inl rfl⟩
 have hs:Zaz (safe E β m) w (safe E β (upd m id (some {b with es:=es'}))) w:=by
  intro c o u h1 h2
  refine⟨⟨h1.1,fun x y hx hy=>?_⟩,h2⟩
  obtain⟨z,hz,e1,e2,e3,e4,e5,_⟩:=hget x y hx
  rw[e4,e2,e5]
  exact h1.2 x z hz hy
 refine⟨⟨hM.below,?_,?_,?_,?_,?_,?_⟩,hm,hs⟩
 ·intro x y hx
  obtain⟨z,hz,_⟩:=hget x y hx
  exact hM.lt x z hz
 ·intro x y hx
  obtain⟨z,hz,e1,e2,e3,e4,_⟩:=hget x y hx
  rw[e3,e4];exact hM.fz x z hz
 ·intro x y hx i e he
  obtain⟨z,hz,e1,e2,e3,e4,e5,e6⟩:=hget x y hx
  rw[e2]
  rcases e6 with e6|⟨rfl,e6⟩
  ·rw[e6]at he;exact hM.wid x z hz i e he
  ·rw[e6]at he
   obtain⟨e0,h0,hlen⟩:=hw i e he
   rw[hlen];exact hM.wid x z hz i e0 h0
 ·intro x y hx hbx
  obtain⟨z,hz,e1,e2,e3,_⟩:=hget x y hx
  have:=hM.non x z hz hbx
  rw[this]at e3
  exact Ya9 e3
 ·intro x y c hx hbx
  obtain⟨z,hz,e1,e2,e3,e4,e5,e6⟩:=hget x y hx
  obtain⟨h3,cs',h4,h5,h6⟩:=hM.row x z c hz hbx
  rw[e1,e2,e3]
  refine⟨h3,cs',h4,h5,fun i j d hd=>?_⟩
  rcases e6 with e6|⟨rfl,e6⟩
  ·rw[e6]at hd
   obtain⟨u,h7,h8⟩:=h6 i j d hd
   exact⟨u,h7,h8.mono hm hs⟩
  ·rw[e6]at hd
   obtain⟨d0,h7,h70⟩:=hc i j d hd
   obtain⟨u,h8,h9⟩:=h6 i j d0 h7
   exact⟨u,h8,(h70 u h9).mono hm hs⟩
 ·intro x1 x2 y1 y2 c h1 h2 h3 h4
  obtain⟨z1,hz1,_⟩:=hget x1 y1 h1
  obtain⟨z2,hz2,_⟩:=hget x2 y2 h2
  exact hM.inj x1 x2 z1 z2 c hz1 hz2 h3 h4
theorem ZdK{s:St}(id i j T kk:Nat){b:Blk}{e:List D}(hb:s.m id=some b)(he:b.es[i]? =some e)(hj:e[j]? =some .nil) :
 StLe s ⟨s.t,upd (upd s.m s.nx (some ⟨T,0,kk,[],0,false⟩)) id (some {b with es:=b.es.set i (e.set j (.ls s.nx 0))}),s.nx+1,s.lo⟩:=by
 intro E B nn β a w h
 obtain⟨h1,h2,h3⟩:=Zh9 (id:=s.nx) (h.mem.mono_nx (Nat.le_succ _)) (Nat.lt_succ_self _) ⟨T,0,kk,[],0,false⟩ rfl rfl (.inl h.mem.none)
 have hne:id≠s.nx:=by have:=h.mem.lt id b hb;omega
 obtain⟨g1,g2,g3⟩:=ZmR (id:=id) (b:=b) (es':=b.es.set i (e.set j (.ls s.nx 0))) h1 (by rw[Zad _ _ hne];exact hb) (by simp) (fun i' e' hi'=>by
  rw[List.getElem?_set]at hi'
  split at hi'
  ·rename_i hii
   subst hii
   split at hi'
   ·cases hi';exact⟨e,he,by simp⟩
   ·cases hi'
  ·exact⟨e',hi',rfl⟩) (fun i' j' d' hd'=>by
  obtain⟨e',he',hj'⟩:=Zak.1 hd'
  rw[List.getElem?_set]at he'
  split at he'
  ·rename_i hii
   subst hii
   split at he'
   ·cases he'
    rw[List.getElem?_set]at hj'
    split at hj'
    ·rename_i hjj
     subst hjj
     split at hj'
     ·cases hj'
      refine⟨.nil,Zak.2 ⟨e,he,hj⟩,fun u hu=>?_⟩
      rw[hu.inv_nil]
      exact .ls _ _ _ _ _ ⟨T,0,kk,[],0,false⟩ (Zae _ _ _) (Ya4 _) (fun _ _=>rfl) fun _=>⟨rfl,Ya4 _,Yb0 _,.inl ⟨Zae _ _ _,rfl,rfl⟩⟩
     ·cases hj'
    ·exact⟨d',Zak.2 ⟨e,he,hj'⟩,fun _ hu=>hu⟩
   ·cases he'
  ·exact⟨d',Zak.2 ⟨e',he',hj'⟩,fun _ hu=>hu⟩)
 exact⟨_,g1,fun k hk=>((h.tmp k hk).mono h2 h3).mono g2 g3,h.width,h.defers,(h.le.trans h2).trans g2,(h.sle.trans h3).trans g3,h.lo⟩
end
theorem ZpT{n:Int}:∀ (l:List TermD)(last:Int),goR n last l=true→∀ t∈l,last<t.v
 | [],_,_,t,h=>by cases h
 | u ::l,last,h,t,ht=>by
   have h':=ZaE.1 h
   rcases List.mem_cons.1 ht with rfl|ht
   ·exact h'.1
   ·have:=ZpT l u.v h'.2.2.2 t ht;omega
theorem Zm4{n:Int}:∀ (l:List TermD)(last:Int),goR n last l=true→∀ (i:Nat)(t:TermD),l[i]? =some t→dotS (indI t.v) (l.take i)=0
 | [],_,_,i,t,h=>by simp at h
 | u ::l,last,h,0,t,ht=>rfl
 | u ::l,last,h,i+1,t,ht=>by
   have h':=ZaE.1 h
   have h1:=Zm4 l u.v h'.2.2.2 i t (by simpa using ht)
   have h2:=ZpT l u.v h'.2.2.2 t (Ya7 (by simpa using ht))
   rw[List.take_succ_cons]
   simp only[dotS,h1,indI,if_neg (show ¬ u.v=t.v by omega)];grind
theorem ZeN{l:List TermD}{n:Int}(h:Zah l n=true){i:Nat}{t:TermD}(ht:l[i]? =some t)(h0:0≤t.v):Za5 (l.take i) t.v.toNat=0:=by
 simp only[Zah,Ya2]at h
 unfold Za5
 rw[show((t.v.toNat:Nat):Int)=t.v by omega]
 exact Zm4 l (-1) h.2 i t ht
theorem ZfF{l:List TermD}{i:Nat}{t:TermD}(ht:l[i]? =some t)(h0:0≤t.v)(u:Nat):Za5 (l.take (i+1)) u=Za5 (l.take i) u+if u=t.v.toNat then qOf t.f else 0:=by
 unfold Za5
 rw[ZfZ ht]
 simp only[indI]
 by_cases e:u=t.v.toNat
 ·rw[if_pos e,if_pos (by omega)];grind
 ·rw[if_neg e,if_neg (by omega)];grind
theorem Zry{l:List TermD}{n:Int}(h:Zah l n=true){i:Nat}{t:TermD}(ht:l[i]? =some t)(h0:0≤t.v):Za5 l t.v.toNat=qOf t.f:=by
 have h1:∀ k,i+1+k≤l.length→Za5 (l.take (i+1+k)) t.v.toNat=qOf t.f:=by
  intro k
  induction k with
  | zero=>intro _;rw[Nat.add_zero,ZfF ht h0,if_pos rfl,ZeN h ht h0];grind
  | succ k ih =>
    intro hk
    obtain⟨u,hu⟩:=getE (l:=l) (k:=i+1+k) (by omega)
    have hu0:=(Za7 h (ZaI hu)).1
    have hne:t.v.toNat≠u.v.toNat:=fun e=>by
     have hb:=ZeN h hu hu0
     rw[← e,ih (by omega)]at hb
     exact(Za7 h (ZaI ht)).2.2.2 hb
    rw[← Nat.add_assoc,ZfF hu hu0,if_neg hne,ih (by omega)];grind
 have hi:=(Ya3.1 ht).1
 have:=h1 (l.length-(i+1)) (by omega)
 rw[show i+1+(l.length-(i+1))=l.length by omega,List.take_length]at this
 exact this
theorem Cl.none{m:Mem}{nx id:Nat}(h:Cl m nx)(hi:nx≤id):m id=none:=by
 cases hm:m id with
 | none=>rfl
 | some b=>have:=(h id b hm).1;omega
def ZhS(I:Ids)(m x:Nat):Ids:={I with A:=fun k=>if k=m then x else I.A k,vR:=I.vR+1,vO:=I.vO+1,vF:=I.vF+1}
def sgQ'(turned:Bool)(q:Rat):Rat:=if turned then -q else q
def ZeR(d:Dic)(w:RowD)(turned:Bool):Dic :=
 {d with m:=d.m+1,own:=fun k=>if k=d.m then d.n+d.m else d.own k,v:=fun k=>if k=d.m then sgQ' turned (qOf w.v)else d.v k,a:=fun k=>if k=d.m then(fun j=>sgQ' turned (Za5 w.t j))else d.a k}
theorem ZAn{l:List TermD}{n:Nat}{N:Int}(h:Zah l N=true){i:Nat}{t:TermD}(ht:l[i]? =some t)(h0:0≤t.v)(ho:okF t.f=true) :
 (ratL n (Za5 (l.take i))).set t.v.toNat [dI t.f.p.s,Zab t.f.p.d,dI t.f.q.s,Zab t.f.q.d]=ratL n (Za5 (l.take (i+1))):=by
 have e:[dI t.f.p.s,Zab t.f.p.d,dI t.f.q.s,Zab t.f.q.d]=cF (ofQ (qOf t.f)):=by rw[← Zcm ho]
 rw[e,Zdi]
 refine ZaV fun u _=>?_
 rw[ZfF ht h0]
 by_cases e:u=t.v.toNat
 ·subst e;rw[if_pos rfl,if_pos rfl,ZeN h ht h0];grind
 ·rw[if_neg e,if_neg e];grind
def ZkW(l:List TermD)(i:Nat)(u:Nat):Rat:=Za5 l u-2*Za5 (l.take i) u
theorem ZtH(l:List TermD):ZkW l 0=Za5 l:=by funext u;unfold ZkW;simp only[List.take_zero,Za5,dotS];grind
theorem Zvb(l:List TermD):ZkW l l.length=fun u=> -Za5 l u:=by funext u;unfold ZkW;rw[List.take_length];grind
theorem ZyE{l:List TermD}{n:Nat}{N:Int}(h:Zah l N=true){i:Nat}{t:TermD}(ht:l[i]? =some t)(h0:0≤t.v) :
 (ratL n (ZkW l i)).set t.v.toNat (cF (ofQ (-qOf t.f)))=ratL n (ZkW l (i+1)):=by
 rw[Zdi]
 refine ZaV fun u _=>?_
 unfold ZkW
 rw[ZfF ht h0]
 by_cases e:u=t.v.toNat
 ·subst e;rw[if_pos rfl,if_pos rfl,ZeN h ht h0,Zry h ht h0];grind
 ·rw[if_neg e,if_neg e];grind
structure DicFr (fr:List (List D)) (m:Mem) (I:Ids) (d:Dic) (src:Nat→Nat×Bool):Prop where
 hp:m I.p=some (pB I d.n)
 hR:m I.R=some (rB I d.m d.v)
 hG:m I.G=some (fB d.n d.g)
 hO:m I.O=some (iB 3 I.vO d.m d.own)
 hFr:m I.Fr=some ⟨3,I.vFr,1,fr,0,false⟩
 hF:m I.F=some (sB I.vF d.m src)
 hA:∀ k,k<d.m→m (I.A k)=some (fB d.n (d.a k))
theorem DicFr.lt{fr:List (List D)}{m:Mem}{I:Ids}{d:Dic}{src:Nat→Nat×Bool}{nx:Nat}(h:DicFr fr m I d src)(hc:Cl m nx){id:Nat}(hi:inD I d.m id):id<nx:=by
 rcases hi with rfl|rfl|rfl|rfl|rfl|rfl|⟨k,hk,rfl⟩
 ·exact(hc _ _ h.hp).1
 ·exact(hc _ _ h.hR).1
 ·exact(hc _ _ h.hG).1
 ·exact(hc _ _ h.hO).1
 ·exact(hc _ _ h.hFr).1
 ·exact(hc _ _ h.hF).1
 ·exact(hc _ _ (h.hA k hk)).1
theorem DicFr.keep{fr:List (List D)}{m m':Mem}{I:Ids}{d:Dic}{src:Nat→Nat×Bool}(h:DicFr fr m I d src)(hf:∀ id,inD I d.m id→m' id=m id):DicFr fr m' I d src :=
 ⟨(hf _ (.inl rfl)).trans h.hp,(hf _ (.inr (.inl rfl))).trans h.hR,(hf _ (.inr (.inr (.inl rfl)))).trans h.hG,(hf _ (.inr (.inr (.inr (.inl rfl))))).trans h.hO,(hf _ (.inr (.inr (.inr (.inr (.inl rfl)))))).trans h.hFr,
   (hf _ (.inr (.inr (.inr (.inr (.inr (.inl rfl))))))).trans h.hF,fun k hk=>(hf _ (.inr (.inr (.inr (.inr (.inr (.inr ⟨k,hk,rfl⟩))))))).trans (h.hA k hk)⟩
theorem DicFr.at{m:Mem}{I:Ids}{d:Dic}{src:Nat→Nat×Bool}(h:DicFr (tabL d.n fun j=>[dI (d.free j)]) m I d src):DicAt m I d src:=⟨h.hp,h.hR,h.hG,h.hO,h.hFr,h.hF,h.hA⟩
theorem Zkv(k:Nat)(c:Nat→List D):tabL (k+1) c=tabL k c++[c k]:=by unfold tabL;rw[List.range_succ,List.map_append];rfl
theorem DicFr.add{fr:List (List D)}{m m':Mem}{I:Ids}{d:Dic}{src:Nat→Nat×Bool}{nx x:Nat}(h:DicFr fr m I d src)(ap:Apart I d.m)(lt:∀ id,inD I d.m id→id<nx)(w:RowD)(row:Nat)(turned:Bool){c:Nat→Rat}{Q:Rat}
 (h1:m' I.p=some ⟨252,0,6,[[dI d.n,.ls I.R (I.vR+1),.ls I.G 1,.ls I.O (I.vO+1),.ls I.Fr I.vFr,.ls I.F (I.vF+1)]],0,false⟩)
 (h2:m' I.R=some ⟨256,I.vR+1,5,Zjw I d.m d.v++[[dI (ofQ Q).p.s,Zab (ofQ Q).p.d,dI (ofQ Q).q.s,Zab (ofQ Q).q.d,.ls x 1]],0,false⟩)
 (h3:m' I.O=some ⟨3,I.vO+1,1,(tabL d.m fun i=>[dI (d.own i)])++[[dI ((d.n+d.m:Nat):Int)]],0,false⟩)
 (h4:m' I.F=some ⟨264,I.vF+1,2,(tabL d.m fun i=>[dI (src i).1,dB (src i).2])++[[dI (row:Int),dB turned]],0,false⟩)
 (h5:m' x=some (fB d.n c)) (hc:∀ j,j<d.n→c j=sgQ' turned (Za5 w.t j)) (hQ:Q=sgQ' turned (qOf w.v)) (hf:∀ id,id<nx→id≠I.p→id≠I.R→id≠I.O→id≠I.F→m' id=m id) :
 DicFr fr m' (ZhS I d.m x) (ZeR d w turned) (fun k=>if k=d.m then(row,turned)else src k):=by
 refine⟨h1,h2.trans ?_,?_,h3.trans ?_,?_,h4.trans ?_,fun k hk=>?_⟩
 ·unfold rB Zjw
  show _=some (Blk.mk _ _ _ (tabL (d.m+1) _) _ _)
  rw[Zkv]
  refine congrArg (fun l=>some (Blk.mk _ _ _ l 0 false)) (_root_.congr (congrArg HAppend.hAppend (Zbn fun k hk=>?_)) (congrArg (fun x=>[x]) ?_))
  ·simp only[ZeR,ZhS,if_neg (show ¬ k=d.m by omega)]
  ·simp only[ZeR,ZhS,if_pos,← hQ];rfl
 ·exact(hf _ (lt _ (.inr (.inr (.inl rfl)))) ap.pG.symm ap.RG.symm ap.GO ap.GF).trans h.hG
 ·unfold iB
  show _=some (Blk.mk _ _ _ (tabL (d.m+1) _) _ _)
  rw[Zkv]
  refine congrArg (fun l=>some (Blk.mk _ _ _ l 0 false)) (_root_.congr (congrArg HAppend.hAppend (Zbn fun k hk=>?_)) (congrArg (fun x=>[x]) ?_))
  ·simp only[ZeR,if_neg (show ¬ k=d.m by omega)]
  ·simp only[ZeR,if_pos]
 ·exact(hf _ (lt _ (.inr (.inr (.inr (.inr (.inl rfl)))))) ap.pFr.symm ap.RFr.symm ap.OFr.symm ap.FrF).trans h.hFr
 ·unfold sB
  show _=some (Blk.mk _ _ _ (tabL (d.m+1) _) _ _)
  rw[Zkv]
  refine congrArg (fun l=>some (Blk.mk _ _ _ l 0 false)) (_root_.congr (congrArg HAppend.hAppend (Zbn fun k hk=>?_)) (congrArg (fun x=>[x]) ?_))
  ·simp only[if_neg (show ¬ k=d.m by omega)]
  ·simp only[if_pos]
 ·by_cases e:k=d.m
  ·subst e
   simp only[ZhS,ZeR,if_pos]
   refine h5.trans ?_
   unfold fB
   rw[ZaV hc]
  ·have hk2:k<d.m:=by have:k<d.m+1:=hk;omega
   simp only[ZhS,ZeR,if_neg e]
   exact(hf _ (lt _ (.inr (.inr (.inr (.inr (.inr (.inr ⟨k,hk2,rfl⟩))))))) (ap.Ap k hk2) (ap.AR k hk2) (ap.AO k hk2) (ap.AF k hk2)).trans (h.hA k hk2)
theorem put_a[Ifl]{fr:List (List D)}{I:Ids}{d:Dic}{src:Nat→Nat×Bool}{m:Mem}{nx:Nat}(h:DicFr fr m I d src)(ap:Apart I d.m)(row:Nat)(w:RowD)(turned:Bool)(hm:(d.m:Int)≤4000)(hn:(d.n:Int)≤4000)(hrow:(row:Int)≤4096)
 (hr:Zah w.t d.n=true) (hv:okF w.v=true) (sw:smW w) :
 ZaN Tryz.prog 181 [.lp I.p 0 0 0,dI row,encW w,dB turned] m nx fun d' m' nx'=>d'=oneD []∧nx+1<nx'∧DicFr fr m' (ZhS I d.m (nx+1)) (ZeR d w turned) (fun k=>if k=d.m then(row,turned)else src k)∧∀ id,id<nx→¬ inD I d.m id→m' id=m id:=by
 obtain⟨wt,wk,wv⟩:=w
 obtain⟨q,rfl⟩:∃ q,wv=ofQ q:=⟨qOf wv,Zcm hv⟩
 simp only at hr
 refine ZaN.cl ⟨_,_,Tryz.func181,rfl,by kernel_rfl⟩ fun hcl=>?_
 have hres:=Tryz.results181
 refine inA Tryz.func181 rfl Tryz.ntmps181 ?_
 have lt:∀ id,inD I d.m id→id<nx:=fun id hi=>h.lt hcl hi
 have lp:I.p<nx:=lt _ (.inl rfl)
 have n1:I.p≠nx:=by omega
 refine aGoM (cj4 hres ZaR h.hp n1) ?_
 repeat with_reducible intro K hK
 refine Zdq (ZuZ d.n _ _ (by omega) ((Zad _ _ (by omega)).trans (hcl.none (by omega)))) ?_
 have n2:I.p≠nx+1:=by omega
 refine aGoS (cj4 hres ZaR h.hp (cj2 n1 n2)) ?_
 repeat with_reducible intro K hK
 have n3:I.p≠nx+2:=by omega
 with_reducible apply useE
 with_reducible assumption
 exact Zci [I.p,nx,nx+1,nx+2] (by simp[n1,n2,n3]) [([],[]),([1],[]),([],[]),([],[]),([],[]),([0],[]),([2],[2]),([],[]),([3,3],[3]),([3,3],[3])] rfl rfl (by kernel_rfl)
 exact Zay rfl
 have lw:(wt.length:Int)≤4096:=sw.1.1
 have n0:nx≠nx+1:=by omega
 have n4:nx≠nx+2:=by omega
 have n5:nx+1≠nx+2:=by omega
 refine aGoM (cj4 hres ZaR h.hp (cj4 n1 n2 n0 n4)) ?_
 repeat with_reducible intro K hK
 have q0:ratL d.n (Za5 (wt.take 0))=ratL d.n (fun _=>0):=ZaV fun u _=>by simp only[List.take_zero,Za5,dotS]
 refine ZcW (fun(i:Nat)=>[(0,.lp I.p 0 0 0),(1,dI row),(3,dB turned),(6,.lp nx 0 0 0),(8,.lp (nx+2) 0 0 0),(22,Zbh wt),(23,dI wt.length),(24,dI i)]) nx
  (fun i m1 nx1=>i≤wt.length∧nx+2<nx1∧m1 nx=some ⟨153,0,6,[cW ⟨wt,wk,ofQ q⟩],0,false⟩∧m1 (nx+1)=some (fB d.n (Za5 (wt.take i)))∧m1 (nx+2)=some ⟨256,0,5,[[dI (ofQ q).p.s,Zab (ofQ q).p.d,dI (ofQ q).q.s,Zab (ofQ q).q.d,.ls (nx+1) 1]],0,false⟩∧∀ id,id<nx→m1 id=m id) (fun i=>wt.length-i) 0 ?_ ?_ ?_ ?_
 ·refine⟨Yb0 _,Nat.lt_succ_self _,?_,?_,?_,fun id h1=>?_⟩
  ·simp[ZaC]
  ·simp only[ZaC];simp;exact q0.symm
  ·simp[ZaC]
  ·simp only[ZaC];rw[if_neg (by omega),if_neg (by omega),if_neg (by omega),if_neg (by omega)]
 ·rfl
 ·simp[go_sem]
 ·rintro i m1 nx1 ⟨hi,hnx,eW,eA,eL,hfr⟩
  obtain⟨hw,i0⟩:=ZaM i
  by_cases h1:(i:Int)<wt.length
  ·obtain⟨t,ht⟩:=getE (l:=wt) (k:=i) (by omega)
   obtain⟨t0,t1,t2,t3⟩:=Za7 hr (ZaI ht)
   have es:=ZAn (n:=d.n) hr ht t0 t2
   have le:=ZbZ d.n (Za5 (wt.take i))
   have x1:nx≠nx1:=by omega
   have x2:nx+1≠nx1:=by omega
   have x3:nx+2≠nx1:=by omega
   have gi:=Za9 (n:=d.n) (k:=t.v.toNat) (Za5 (wt.take i)) (by omega)
   refine aGoM (cj4 hres eW eA (cj4 eL h1 hw (cj4 i0 ht t0 (cj4 t1 es le (cj4 x1 x2 x3 (cj3 Yb0 n5 gi)))))) ?_
   repeat with_reducible intro K hK
   refine Zas (i+1) ?_ (by omega) rfl (by simp[go_sem])
   refine⟨by omega,Nat.lt_of_lt_of_le hnx (Nat.le_succ _),?_,?_,?_,fun id h=>?_⟩
   ·exact(Zad _ _ (by omega)).trans ((Zad _ _ (by omega)).trans ((Zad _ _ (by omega)).trans eW))
   ·exact Zae _ _ _
   ·exact(Zad _ _ (by omega)).trans ((Zad _ _ (by omega)).trans ((Zad _ _ (by omega)).trans eL))
   ·exact(Zad _ _ (by omega)).trans ((Zad _ _ (by omega)).trans ((Zad _ _ (by omega)).trans (hfr id h)))
  ·obtain rfl:i=wt.length:=by omega
   rw[List.take_length]at eA
   have hD0:True:=trivial
   have hD:DicFr fr m1 I d src:=h.keep fun id hi=>hfr id (lt id hi)
   cases turned with
   | false =>
     have y1:I.O≠nx1:=by have:=lt _ (.inr (.inr (.inr (.inl rfl))));omega
     have y2:I.p≠nx1:=by omega
     have y9:I.R≠nx1:=by have:=lt _ (.inr (.inl rfl));omega
     have y10:I.F≠nx1:=by have:=lt _ (.inr (.inr (.inr (.inr (.inr (.inl rfl))))));omega
     have y11:I.F≠nx1+1:=by have:=lt _ (.inr (.inr (.inr (.inr (.inr (.inl rfl))))));omega
     have y12:I.F≠nx1+2:=by have:=lt _ (.inr (.inr (.inr (.inr (.inr (.inl rfl))))));omega
     have y13:I.R≠nx1+1:=by have:=lt _ (.inr (.inl rfl));omega
     have y14:I.R≠nx1+2:=by have:=lt _ (.inr (.inl rfl));omega
     have y15:I.p≠nx1+1:=by omega
     have y16:I.p≠nx1+2:=by omega
     have y17:nx+2≠I.p:=by omega
     have y18:nx+2≠I.O:=by have:=lt _ (.inr (.inr (.inr (.inl rfl))));omega
     have y19:nx+2≠nx1:=by omega
     have y20:I.R≠I.p:=ap.pR.symm
     have y21:I.R≠I.O:=ap.RO
     have y22:I.F≠I.p:=ap.pF.symm
     have y23:I.F≠I.O:=ap.OF.symm
     have y24:I.F≠I.R:=ap.RF.symm
     have y25:=ap.pR
     have y26:=ap.pF
     have y3:=ap.pO
     have y27:=ap.RF
     have y4:IntKind.i64.wrap ((d.n:Int)+d.m)=((d.n+d.m:Nat):Int):=(ZaD (by omega) (by omega)).trans (by omega)
     have y5:=Zkz I d.m d.v
     have y6:=Zc2 d.m fun k=>[dI (d.own k)]
     have y60:=Zc2 d.m fun k=>[dI (src k).1,dB (src k).2]
     have y7:((d.m+1:Nat):Int)*8≤140737488355328:=by omega
     have y8:((d.m+1:Nat):Int)≤9007199254740992:=by omega
     have y70:((d.m+1:Nat):Int)*72≤140737488355328:=by omega
     have y80:((d.m+1:Nat):Int)*16≤140737488355328:=by omega
     refine aGoS (cj4 hres eL h1 (cj4 hD.hp hD.hO hD.hR (cj4 hD.hF y1 y2 (cj4 y3 y4 y5 (cj4 y6 y7 y8 (cj3 eA trivial Yb0)))))) ?_
     repeat with_reducible intro K hK
     refine⟨by have:=lt _ (.inr (.inr (.inr (.inl rfl))));omega,by omega,?_⟩
     with_reducible apply useE
     with_reducible assumption
     exact Zci [I.p,I.O,nx1,I.R] (by simp[y1,y2,y3,y25,y21,y9,y9.symm,y21.symm,y1.symm,y2.symm]) [([],[]),([],[]),([],[]),([],[]),([0],[]),([],[]),([],[]),([],[]),([0],[]),([],[]),([],[]),([],[]),([0],[]),([3],[]),([],[]),([2,2],[2]),([1,2,1],[1]),([],[]),([],[]),([0,0],[0])] rfl rfl (by kernel_rfl)
     exact Zay rfl
     refine aGoS (cj4 hres eL h1 (cj4 hD.hR hD.hF y2 (cj4 y9 y10 y11 (cj4 y12 y13 y14 (cj4 y15 y16 y17 (cj4 y18 y19 y20 (cj4 y21 y22 y23 (cj4 y24 y25 y26 (cj4 y5 y60 y70 (cj4 y80 y8 Yb0 y27)))))))))) ?_
     repeat with_reducible intro K hK
     refine⟨by have:=lt _ (.inr (.inl rfl));omega,by omega,by have:=lt _ (.inr (.inr (.inr (.inr (.inr (.inl rfl))))));omega,by omega,by omega,?_⟩
     with_reducible apply useE
     with_reducible assumption
     exact Zci [I.p,nx+2,nx1+1,I.R,nx1+2,I.F] (by have lF:=lt _ (.inr (.inr (.inr (.inr (.inr (.inl rfl))))));have lR:=lt _ (.inr (.inl rfl));simp only[List.nodup_cons,List.mem_cons,List.not_mem_nil,not_or,or_false,List.nodup_nil,not_false_eq_true,and_true];omega) [([],[]),([],[]),([],[]),([],[]),([],[]),([0],[]),([1],[]),([2,2],[2]),([3,2,3],[3]),([],[]),([],[]),([],[]),([0],[]),([],[]),([],[]),([],[]),([4,4],[4]),([5,4,5],[5]),([],[]),([],[]),([0,0],[0]),([],[]),([],[]),([0,0],[0])] rfl rfl (by kernel_rfl)
     exact Zay rfl
     have lO:=lt _ (.inr (.inr (.inr (.inl rfl))))
     have lF:=lt _ (.inr (.inr (.inr (.inr (.inr (.inl rfl))))))
     have lR:=lt _ (.inr (.inl rfl))
     refine aGoM (cj4 hres y1 y2 (cj4 y9 y10 y11 (cj4 y12 y13 y14 (cj4 y15 y16 y20 (cj4 y21 y22 y23 (cj4 y24 y25 y26 (cj2 y3 y27))))))) ?_
     refine⟨h.add ap lt ⟨wt,wk,ofQ q⟩ row false (c:=Za5 wt) (Q:=(q)) ?_ ?_ ?_ ?_ ?_ (fun j _=>?_) ?_ (fun id g1 g2 g3 g4 g5=>?_),fun id g1 g2=>?_⟩
     ·simp only[ZaC];repeat(first|rfl|rw[if_pos True.intro]|rw[if_neg (by omega)])
     ·simp only[ZaC];repeat(first|rfl|rw[if_pos True.intro]|rw[if_neg (by omega)])
     ·simp only[ZaC];repeat(first|rfl|rw[if_pos True.intro]|rw[if_neg (by omega)])
     ·simp only[ZaC];repeat(first|rfl|rw[if_pos True.intro]|rw[if_neg (by omega)])
     ·simp only[ZaC];repeat(rw[if_neg (by omega)])
      exact eA
     ·rfl
     ·exact(Zav q).symm
     ·simp only[ZaC];repeat(rw[if_neg (by omega)])
      exact hfr id g1
     ·have u1:id≠I.p:=fun e=>g2 (.inl e)
      have u2:id≠I.R:=fun e=>g2 (.inr (.inl e))
      have u3:id≠I.O:=fun e=>g2 (.inr (.inr (.inr (.inl e))))
      have u4:id≠I.F:=fun e=>g2 (.inr (.inr (.inr (.inr (.inr (.inl e))))))
      try simp only[ZaC]
      repeat(rw[if_neg (by omega)])
      exact hfr id g1
   | true =>
     have zq:(szQ q:Int)≤4194304:=by have h2:(szF (ofQ q):Int)≤4194304:=sw.2;rw[← Zch hv,Zav]at h2;exact h2
     have k1:=ZhM q (by omega)
     refine aGoM (cj4 hres eW eA (cj4 eL h1 n5 (cj4 k1 n4 n0 Yb0))) ?_
     repeat with_reducible intro K hK
     have q1:ratL d.n (ZkW wt 0)=ratL d.n (Za5 wt):=ZaV fun u _=>by rw[ZtH]
     refine ZcW (fun(i:Nat)=>[(0,.lp I.p 0 0 0),(1,dI row),(3,dB true),(6,.lp nx 0 0 0),(8,.lp (nx+2) 0 0 0),(42,Zbh wt),(43,dI wt.length),(44,dI i)]) nx
      (fun i m1 nx1=>i≤wt.length∧nx+2<nx1∧m1 nx=some ⟨153,0,6,[cW ⟨wt,wk,ofQ q⟩],0,false⟩∧m1 (nx+1)=some (fB d.n (ZkW wt i))∧m1 (nx+2)=some ⟨256,0,5,[[dI (ofQ (-q)).p.s,Zab (ofQ (-q)).p.d,dI (ofQ (-q)).q.s,Zab (ofQ (-q)).q.d,.ls (nx+1) 1]],0,false⟩∧∀ id,id<nx→m1 id=m id) (fun i=>wt.length-i) 0 ?_ ?_ ?_ ?_
     ·refine⟨Yb0 _,hnx,?_,?_,?_,fun id h1=>?_⟩
      ·exact(Zad _ _ n4).trans eW
      ·exact(Zad _ _ n5).trans (by unfold fB;rw[q1];exact eA)
      ·exact Zae _ _ _
      ·exact(Zad _ _ (by omega)).trans (hfr id h1)
     ·rfl
     ·simp[go_sem]
     ·rintro i m2 nx2 ⟨hi2,hnx2,eW2,eA2,eL2,hfr2⟩
      obtain⟨hw,i0⟩:=ZaM i
      by_cases h2:(i:Int)<wt.length
      ·obtain⟨⟨tv,tf⟩,ht⟩:∃ e,wt[i]? =some e:=⟨_,Ya0 (by omega)⟩
       obtain⟨t0,t1,t2,t3⟩:=Za7 hr (ZaI ht)
       obtain⟨r,rfl⟩:∃ r,tf=ofQ r:=⟨qOf tf,Zcm t2⟩
       have zr:(szF (ofQ r):Int)≤4194304:=sw.1.2 _ (ZaI ht)
       rw[← Zch t2,Zav]at zr
       have k2:=ZhM r (by omega)
       have es:=ZyE (n:=d.n) hr ht t0
       simp only[Zav]at es
       simp only at t0 t1
       have le:=ZbZ d.n (ZkW wt i)
       have x1:nx≠nx2:=by omega
       have x2:nx+1≠nx2:=by omega
       have x3:nx+2≠nx2:=by omega
       have gi:=Za9 (n:=d.n) (k:=tv.toNat) (ZkW wt i) (by omega)
       refine aGoM (cj4 hres eW2 eA2 (cj4 eL2 h2 hw (cj4 i0 ht t0 (cj4 t1 es le (cj4 x1 x2 x3 (cj4 Yb0 n5 gi k2)))))) ?_
       repeat with_reducible intro K hK
       refine Zas (i+1) ?_ (by omega) rfl (by simp[go_sem])
       refine⟨by omega,Nat.lt_of_lt_of_le hnx2 (Nat.le_succ _),?_,?_,?_,fun id h=>?_⟩
       ·exact(Zad _ _ (by omega)).trans ((Zad _ _ (by omega)).trans ((Zad _ _ (by omega)).trans eW2))
       ·exact Zae _ _ _
       ·exact(Zad _ _ (by omega)).trans ((Zad _ _ (by omega)).trans ((Zad _ _ (by omega)).trans eL2))
       ·exact(Zad _ _ (by omega)).trans ((Zad _ _ (by omega)).trans ((Zad _ _ (by omega)).trans (hfr2 id h)))
      ·obtain rfl:i=wt.length:=by omega
       rw[Zvb]at eA2
       have hD:DicFr fr m2 I d src:=h.keep fun id hi=>hfr2 id (lt id hi)
       clear hfr hD0 eW eA eL
       have y1:I.O≠nx2:=by have:=lt _ (.inr (.inr (.inr (.inl rfl))));omega
       have y2:I.p≠nx2:=by omega
       have y9:I.R≠nx2:=by have:=lt _ (.inr (.inl rfl));omega
       have y10:I.F≠nx2:=by have:=lt _ (.inr (.inr (.inr (.inr (.inr (.inl rfl))))));omega
       have y11:I.F≠nx2+1:=by have:=lt _ (.inr (.inr (.inr (.inr (.inr (.inl rfl))))));omega
       have y12:I.F≠nx2+2:=by have:=lt _ (.inr (.inr (.inr (.inr (.inr (.inl rfl))))));omega
       have y13:I.R≠nx2+1:=by have:=lt _ (.inr (.inl rfl));omega
       have y14:I.R≠nx2+2:=by have:=lt _ (.inr (.inl rfl));omega
       have y15:I.p≠nx2+1:=by omega
       have y16:I.p≠nx2+2:=by omega
       have y17:nx+2≠I.p:=by omega
       have y18:nx+2≠I.O:=by have:=lt _ (.inr (.inr (.inr (.inl rfl))));omega
       have y19:nx+2≠nx2:=by omega
       have y20:I.R≠I.p:=ap.pR.symm
       have y21:I.R≠I.O:=ap.RO
       have y22:I.F≠I.p:=ap.pF.symm
       have y23:I.F≠I.O:=ap.OF.symm
       have y24:I.F≠I.R:=ap.RF.symm
       have y25:=ap.pR
       have y26:=ap.pF
       have y3:=ap.pO
       have y27:=ap.RF
       have y4:IntKind.i64.wrap ((d.n:Int)+d.m)=((d.n+d.m:Nat):Int):=(ZaD (by omega) (by omega)).trans (by omega)
       have y5:=Zkz I d.m d.v
       have y6:=Zc2 d.m fun k=>[dI (d.own k)]
       have y60:=Zc2 d.m fun k=>[dI (src k).1,dB (src k).2]
       have y7:((d.m+1:Nat):Int)*8≤140737488355328:=by omega
       have y8:((d.m+1:Nat):Int)≤9007199254740992:=by omega
       have y70:((d.m+1:Nat):Int)*72≤140737488355328:=by omega
       have y80:((d.m+1:Nat):Int)*16≤140737488355328:=by omega
       refine aGoS (cj4 hres eL2 h2 (cj4 hD.hp hD.hO hD.hR (cj4 hD.hF y1 y2 (cj4 y3 y4 y5 (cj4 y6 y7 y8 (cj3 eA2 trivial Yb0)))))) ?_
       repeat with_reducible intro K hK
       refine⟨by have:=lt _ (.inr (.inr (.inr (.inl rfl))));omega,by omega,?_⟩
       with_reducible apply useE
       with_reducible assumption
       exact Zci [I.p,I.O,nx2,I.R] (by simp[y1,y2,y3,y25,y21,y9,y9.symm,y21.symm,y1.symm,y2.symm]) [([],[]),([],[]),([],[]),([],[]),([0],[]),([],[]),([],[]),([],[]),([0],[]),([],[]),([],[]),([],[]),([0],[]),([3],[]),([],[]),([2,2],[2]),([1,2,1],[1]),([],[]),([],[]),([0,0],[0])] rfl rfl (by kernel_rfl)
       exact Zay rfl
       refine aGoS (cj4 hres eL2 h2 (cj4 hD.hR hD.hF y2 (cj4 y9 y10 y11 (cj4 y12 y13 y14 (cj4 y15 y16 y17 (cj4 y18 y19 y20 (cj4 y21 y22 y23 (cj4 y24 y25 y26 (cj4 y5 y60 y70 (cj4 y80 y8 Yb0 y27)))))))))) ?_
       repeat with_reducible intro K hK
       refine⟨by have:=lt _ (.inr (.inl rfl));omega,by omega,by have:=lt _ (.inr (.inr (.inr (.inr (.inr (.inl rfl))))));omega,by omega,by omega,?_⟩
       with_reducible apply useE
       with_reducible assumption
       exact Zci [I.p,nx+2,nx2+1,I.R,nx2+2,I.F] (by have lF:=lt _ (.inr (.inr (.inr (.inr (.inr (.inl rfl))))));have lR:=lt _ (.inr (.inl rfl));simp only[List.nodup_cons,List.mem_cons,List.not_mem_nil,not_or,or_false,List.nodup_nil,not_false_eq_true,and_true];omega) [([],[]),([],[]),([],[]),([],[]),([],[]),([0],[]),([1],[]),([2,2],[2]),([3,2,3],[3]),([],[]),([],[]),([],[]),([0],[]),([],[]),([],[]),([],[]),([4,4],[4]),([5,4,5],[5]),([],[]),([],[]),([0,0],[0]),([],[]),([],[]),([0,0],[0])] rfl rfl (by kernel_rfl)
       exact Zay rfl
       have lO:=lt _ (.inr (.inr (.inr (.inl rfl))))
       have lF:=lt _ (.inr (.inr (.inr (.inr (.inr (.inl rfl))))))
       have lR:=lt _ (.inr (.inl rfl))
       refine aGoM (cj4 hres y1 y2 (cj4 y9 y10 y11 (cj4 y12 y13 y14 (cj4 y15 y16 y20 (cj4 y21 y22 y23 (cj4 y24 y25 y26 (cj2 y3 y27))))))) ?_
       refine⟨h.add ap lt ⟨wt,wk,ofQ q⟩ row true (c:=fun u=> -Za5 wt u) (Q:=(-q)) ?_ ?_ ?_ ?_ ?_ (fun j _=>?_) ?_ (fun id g1 g2 g3 g4 g5=>?_),fun id g1 g2=>?_⟩
       ·simp only[ZaC];repeat(first|rfl|rw[if_pos True.intro]|rw[if_neg (by omega)])
       ·simp only[ZaC];repeat(first|rfl|rw[if_pos True.intro]|rw[if_neg (by omega)])
       ·simp only[ZaC];repeat(first|rfl|rw[if_pos True.intro]|rw[if_neg (by omega)])
       ·simp only[ZaC];repeat(first|rfl|rw[if_pos True.intro]|rw[if_neg (by omega)])
       ·simp only[ZaC];repeat(rw[if_neg (by omega)])
        exact eA2
       ·rfl
       ·show -q = -(qOf (ofQ q));rw[Zav]
       ·simp only[ZaC];repeat(rw[if_neg (by omega)])
        exact hfr2 id g1
       ·have u1:id≠I.p:=fun e=>g2 (.inl e)
        have u2:id≠I.R:=fun e=>g2 (.inr (.inl e))
        have u3:id≠I.O:=fun e=>g2 (.inr (.inr (.inr (.inl e))))
        have u4:id≠I.F:=fun e=>g2 (.inr (.inr (.inr (.inr (.inr (.inl e))))))
        try simp only[ZaC]
        repeat(rw[if_neg (by omega)])
        exact hfr2 id g1
def dicZ(n:Nat)(g:Nat→Rat):Dic:={m:=0,n:=n,own:=fun _=>0,free:=fun j=>j,v:=fun _=>0,a:=fun _ _=>0,g:=g,z:=0}
def addP(w:RowD)(row:Nat)(turned:Bool)(x:Dic×(Nat→Nat×Bool)):Dic×(Nat→Nat×Bool):=(ZeR x.1 w turned,fun k=>if k=x.1.m then(row,turned)else x.2 k)
def putP(x:Dic×(Nat→Nat×Bool))(row:Nat)(w:RowD):Dic×(Nat→Nat×Bool) :=
 let y:=if w.k=0 then x else addP w row false x
 if w.k=1 then y else addP w row true y
def ZbO(g:Nat→Rat)(s:SysD):Nat→Dic×(Nat→Nat×Bool)
 | 0=>(dicZ s.n.toNat g,fun _=>(0,false))
 | k+1=>match s.r[k]? with
   | some w=>putP (ZbO g s k) k w
   | none=>ZbO g s k
theorem add_m(d:Dic)(w:RowD)(b:Bool):(ZeR d w b).m=d.m+1:=rfl
theorem ZD2(x:Dic×(Nat→Nat×Bool))(row:Nat)(w:RowD):(putP x row w).1.n=x.1.n:=by
 unfold putP addP
 simp only
 split<;>split<;>rfl
theorem ZD3(x:Dic×(Nat→Nat×Bool))(row:Nat)(w:RowD):(putP x row w).1.m≤x.1.m+2:=by
 unfold putP addP
 simp only
 split<;>split<;>simp[add_m]
theorem Zls(g:Nat→Rat)(s:SysD):∀ k,(ZbO g s k).1.n=s.n.toNat
 | 0=>rfl
 | k+1=>by
   simp only[ZbO]
   split
   ·rw[ZD2,Zls]
   ·exact Zls g s k
theorem ZnH(g:Nat→Rat)(s:SysD):∀ k,(ZbO g s k).1.m≤2*k
 | 0=>Ya4 _
 | k+1=>by
   have:=ZnH g s k
   simp only[ZbO]
   split
   ·rename_i w _;have:=ZD3 (ZbO g s k) k w;omega
   ·omega
def Za1(s:SysD)(goal:List TermD):Dic×(Nat→Nat×Bool):=ZbO (fun j=> -Za5 goal j) s s.r.length
def ZhH(l:List TermD)(i:Nat)(u:Nat):Rat:= -Za5 (l.take i) u
theorem ZzT{l:List TermD}{n:Nat}{N:Int}(h:Zah l N=true){i:Nat}{t:TermD}(ht:l[i]? =some t)(h0:0≤t.v) :
 (ratL n (ZhH l i)).set t.v.toNat (cF (ofQ (-qOf t.f)))=ratL n (ZhH l (i+1)):=by
 rw[Zdi]
 refine ZaV fun u _=>?_
 unfold ZhH
 rw[ZfF ht h0]
 by_cases e:u=t.v.toNat
 ·subst e;rw[if_pos rfl,if_pos rfl,ZeN h ht h0];grind
 ·rw[if_neg e,if_neg e];grind
theorem Apart.add{I:Ids}{m x:Nat}(ap:Apart I m)(hp:x≠I.p)(hR:x≠I.R)(hG:x≠I.G)(hO:x≠I.O)(hFr:x≠I.Fr)(hF:x≠I.F)(hA:∀ k,k<m→x≠I.A k):Apart (ZhS I m x) (m+1):=by
 have key:∀ (y:Nat),x≠y→(∀ k,k<m→I.A k≠y)→∀ k,k<m+1→(ZhS I m x).A k≠y:=by
  intro y h1 h2 k hk
  simp only[ZhS]
  by_cases e:k=m
  ·rw[if_pos e];exact h1
  ·rw[if_neg e];exact h2 k (by omega)
 refine⟨ap.pR,ap.pG,ap.pO,ap.pFr,ap.pF,ap.RG,ap.RO,ap.RFr,ap.RF,ap.GO,ap.GFr,ap.GF,ap.OFr,ap.OF,ap.FrF,key _ hp ap.Ap,key _ hR ap.AR,key _ hG ap.AG,key _ hO ap.AO,key _ hFr ap.AFr,key _ hF ap.AF,?_⟩
 intro k l hk hl hkl
 simp only[ZhS]
 by_cases e:k=m
 ·rw[if_pos e,if_neg (by omega)];exact hA l (by omega)
 ·rw[if_neg e]
  by_cases e2:l=m
  ·rw[if_pos e2];exact(hA k (by omega)).symm
  ·rw[if_neg e2];exact ap.AA k l (by omega) (by omega) hkl
abbrev opI(nx:Nat)(A:Nat→Nat)(vR vO vFr vF:Nat):Ids:=⟨nx+2,nx+3,nx+1,nx+4,nx+5,nx+6,A,vR,vO,vFr,vF⟩
def Zgf(nx v:Nat)(fr:List (List D))(b:Nat)(m:Mem)(x:Dic×(Nat→Nat×Bool)):Prop :=
 ∃ A vR vO vF,DicFr fr m (opI nx A vR vO v vF) x.1 x.2∧Apart (opI nx A vR vO v vF) x.1.m∧nx+6<b∧∀ k,k<x.1.m→nx+6<A k∧A k<b
theorem Zwx{nx:Nat}{A:Nat→Nat}{vR vO vFr vF b M:Nat}(hb:nx+6<b)(h:∀ k,k<M→nx+6<A k∧A k<b){id:Nat}(hi:inD (opI nx A vR vO vFr vF) M id):nx<id∧id<b:=by
 rcases hi with rfl|rfl|rfl|rfl|rfl|rfl|⟨k,hk,rfl⟩
 ·exact⟨by show nx<nx+2;omega,by show nx+2<b;omega⟩
 ·exact⟨by show nx<nx+3;omega,by show nx+3<b;omega⟩
 ·exact⟨by show nx<nx+1;omega,by show nx+1<b;omega⟩
 ·exact⟨by show nx<nx+4;omega,by show nx+4<b;omega⟩
 ·exact⟨by show nx<nx+5;omega,by show nx+5<b;omega⟩
 ·exact⟨by show nx<nx+6;omega,by show nx+6<b;omega⟩
 ·have:=h k hk;exact⟨by show nx<A k;omega,by show A k<b;omega⟩
theorem Zy9[Ifl]{nx v:Nat}{fr:List (List D)}{b:Nat}{m:Mem}{x:Dic×(Nat→Nat×Bool)}(h:Zgf nx v fr b m x){nc:Nat}(hb:b≤nc)(row:Nat)(w:RowD)(turned:Bool)(hm:(x.1.m:Int)≤4000)(hn:(x.1.n:Int)≤4000)(hrow:(row:Int)≤4096)
 (hr:Zah w.t x.1.n=true) (hv:okF w.v=true) (sw:smW w) :
 ZaN Tryz.prog 181 [.lp (nx+2) 0 0 0,dI row,encW w,dB turned] m nc fun d' m' nx'=>d'=oneD []∧nc≤nx'∧Zgf nx v fr nx' m' (addP w row turned x)∧∀ id,id<nc→(id≤nx∨b≤id)→m' id=m id:=by
 obtain⟨A,vR,vO,vF,h1,h2,h3,h4⟩:=h
 refine(put_a (nx:=nc) h1 h2 row w turned hm hn hrow hr hv sw).mono ?_
 rintro d' m' nx' ⟨rfl,g1,g2,g3⟩
 refine⟨rfl,by omega,⟨_,_,_,_,g2,?_,by omega,fun k hk=>?_⟩,fun id i1 i2=>g3 id i1 fun hi=>?_⟩
 ·refine h2.add ?_ ?_ ?_ ?_ ?_ ?_ fun k hk=>?_
  ·show nc+1≠nx+2;omega
  ·show nc+1≠nx+3;omega
  ·show nc+1≠nx+1;omega
  ·show nc+1≠nx+4;omega
  ·show nc+1≠nx+5;omega
  ·show nc+1≠nx+6;omega
  ·have:=h4 k hk;show nc+1≠A k;omega
 ·show nx+6<(if k=x.1.m then nc+1 else A k)∧(if k=x.1.m then nc+1 else A k)<nx'
  by_cases e:k=x.1.m
  ·rw[if_pos e];omega
  ·rw[if_neg e]
   have hk2:k<x.1.m+1:=hk
   have:=h4 k (by omega)
   omega
 ·have:=Zwx h3 h4 hi
  omega
theorem Zgf.keep{nx v:Nat}{fr:List (List D)}{b b':Nat}{m m':Mem}{x:Dic×(Nat→Nat×Bool)}(h:Zgf nx v fr b m x)(hb:b≤b')(hk:∀ id,nx<id→id<b→m' id=m id):Zgf nx v fr b' m' x:=by
 obtain⟨A,vR,vO,vF,h1,h2,h3,h4⟩:=h
 exact⟨A,vR,vO,vF,h1.keep fun id hi=>by have:=Zwx h3 h4 hi;exact hk id this.1 this.2,h2,by omega,fun k hk=>by have:=h4 k hk;omega⟩
def setG(x:Dic×(Nat→Nat×Bool))(g:Nat→Rat):Dic×(Nat→Nat×Bool):=({x.1 with g:=g},x.2)
theorem Zgf.g{nx v:Nat}{fr:List (List D)}{b:Nat}{m:Mem}{x:Dic×(Nat→Nat×Bool)}(h:Zgf nx v fr b m x){g:Nat→Rat}(hg:∀ j,j<x.1.n→g j=x.1.g j):Zgf nx v fr b m (setG x g):=by
 obtain⟨A,vR,vO,vF,h1,h2,h3,h4⟩:=h
 refine⟨A,vR,vO,vF,⟨h1.hp,h1.hR,?_,h1.hO,h1.hFr,h1.hF,h1.hA⟩,h2,h3,h4⟩
 have:=h1.hG
 unfold fB at this ⊢
 show _=some (Blk.mk _ _ _ (ratL x.1.n g) _ _)
 rw[ZaV hg];exact this
theorem DicFr.upto{fr fr':List (List D)}{m m':Mem}{nx:Nat}{A:Nat→Nat}{vR vO v v' vF b:Nat}{d:Dic}{src:Nat→Nat×Bool}(h:DicFr fr m (opI nx A vR vO v vF) d src){g:Nat→Rat}
 (hp:m' (nx+2)=some (pB (opI nx A vR vO v' vF) d.n)) (hG:m' (nx+1)=some (fB d.n g)) (hFr:m' (nx+5)=some ⟨3,v',1,fr',0,false⟩) (hk:∀ id,id<b→id≠nx+2→id≠nx+1→id≠nx+5→m' id=m id)
 (hb:nx+6<b) (hA:∀ k,k<d.m→nx+6<A k∧A k<b):DicFr fr' m' (opI nx A vR vO v' vF) {d with g:=g} src :=
 ⟨hp,(hk (nx+3) (by omega) (by omega) (by omega) (by omega)).trans h.hR,hG,(hk (nx+4) (by omega) (by omega) (by omega) (by omega)).trans h.hO,hFr,(hk (nx+6) (by omega) (by omega) (by omega) (by omega)).trans h.hF,
   fun k hk'=>(hk (A k) (hA k hk').2 (by have:=hA k hk';omega) (by have:=hA k hk';omega) (by have:=hA k hk';omega)).trans (h.hA k hk')⟩
theorem Zxt(j:Nat):(tabL j fun i=>[dI (i:Int)])++[[dI (j:Int)]]=tabL (j+1) fun i=>[dI (i:Int)]:=(Zkv j _).symm
theorem ZqT(g g':Nat→Rat)(s:SysD):∀ k,ZbO g s k=setG (ZbO g' s k) g
 | 0=>rfl
 | k+1=>by
   simp only[ZbO]
   split
   ·rename_i w _
    rw[ZqT g g' s k]
    unfold putP
    simp only
    split<;>split<;>rfl
   ·exact ZqT g g' s k
theorem Zhi(g:Nat→Rat)(s:SysD):∀ k,(ZbO g s k).1.free=fun j=>j
 | 0=>rfl
 | k+1=>by
   simp only[ZbO]
   split
   ·rename_i w _
    have:=Zhi g s k
    unfold putP
    simp only
    split<;>split<;>exact this
   ·exact Zhi g s k
theorem ZiK(g:Nat→Rat)(s:SysD):∀ k,(ZbO g s k).1.g=g
 | 0=>rfl
 | k+1=>by
   simp only[ZbO]
   split
   ·rename_i w _
    have:=ZiK g s k
    unfold putP
    simp only
    split<;>split<;>exact this
   ·exact ZiK g s k
theorem Zst(s:SysD)(goal:List TermD):Za1 s goal=setG (ZbO (fun _=>0) s s.r.length) (ZhH goal goal.length):=by
 have e:ZhH goal goal.length=fun j=> -Za5 goal j:=by funext u;unfold ZhH;rw[List.take_length]
 rw[e]
 exact ZqT _ _ _ _
theorem Zwv[Ifl](s:SysD)(goal:List TermD)(m:Mem)(nx:Nat)(hr:Zax s=true)(hg:Zah goal s.n=true)(hs:smS s)(hgs:smT goal)(hl:(s.r.length:Int)≤1900) :
 ZaN Tryz.prog 136 [encS s,Zbh goal] m nx fun d' m' nx'=>∃ I:Ids,d' = .lp I.p 0 0 0∧nx≤nx'∧DicAt m' I (Za1 s goal).1 (Za1 s goal).2∧Apart I (Za1 s goal).1.m∧(∀ id,inD I (Za1 s goal).1.m id→nx≤id)∧∀ id,id<nx→m' id=m id:=by
 obtain⟨sn,sr⟩:=s
 obtain⟨n,rfl⟩:∃ n:Nat,sn=n:=⟨sn.toNat,by simp only[Zax,Ya2,decide_eq_true_eq]at hr;have:=hr.1.1.1;omega⟩
 have hl':(sr.length:Int)≤1900:=hl
 have hn:(n:Int)≤1500:=by simp only[Zax,Ya2,decide_eq_true_eq]at hr;exact hr.1.1.2
 refine ZaN.cl ⟨_,_,Tryz.func136,rfl,by kernel_rfl⟩ fun hcl=>?_
 have hres:=Tryz.results136
 refine inA Tryz.func136 rfl Tryz.ntmps136 ?_
 refine aGoM (cj2 hres ZaR) ?_
 repeat(first|(guard_target =~ ∀ _:St→Prop,_;intro KJ hJ)|(guard_target =~ ∀ _:List Ev→St→Prop,_;intro K hK))
 refine Zdq (ZuZ n _ _ (by omega) ((Zad _ _ (by omega)).trans (hcl.none (by omega)))) ?_
 refine aGoS (cj2 hres ZaR) ?_
 repeat(first|(guard_target =~ ∀ _:St→Prop,_;intro KJ hJ)|(guard_target =~ ∀ _:List Ev→St→Prop,_;intro K hK))
 have n0:nx≠nx+1:=by omega
 have n4:nx≠nx+2:=by omega
 have n5:nx+1≠nx+2:=by omega
 with_reducible apply useE
 with_reducible assumption
 exact Zci [nx,nx+1,nx+2] (by simp) [([],[]),([0],[]),([],[]),([0],[]),([1],[1]),([],[]),([2,2],[2]),([],[])] rfl rfl (by kernel_rfl)
 exact Zay rfl
 refine hJ _ ?_
 refine aLe (ZdK (nx+2) 0 1 256 5 (Zae _ _ _) rfl rfl) ?_
 refine aLe (ZdK (nx+2) 0 3 3 1 (Zae _ _ _) rfl rfl) ?_
 refine aLe (ZdK (nx+2) 0 4 3 1 (Zae _ _ _) rfl rfl) ?_
 refine aLe (ZdK (nx+2) 0 5 264 2 (Zae _ _ _) rfl rfl) ?_
 have n6:nx≠nx+3:=by omega
 have n7:nx≠nx+4:=by omega
 have n8:nx≠nx+5:=by omega
 have n9:nx≠nx+6:=by omega
 refine aGoM (cj4 hres ZaR n0 (cj4 n4 n5 n6 (cj3 n7 n8 n9))) ?_
 repeat(first|(guard_target =~ ∀ _:St→Prop,_;intro KJ hJ)|(guard_target =~ ∀ _:List Ev→St→Prop,_;intro K hK))
 refine ZcW (fun(i:Nat)=>[(1,Zbh goal),(2,.lp nx 0 0 0),(5,.lp (nx+2) 0 0 0),(19,ZAe sr),(20,dI sr.length),(21,dI i)]) nx
  (fun i m1 nx1=>i≤sr.length∧m1 nx=some ⟨99,0,2,[cS ⟨n,sr⟩],0,false⟩∧(∀ id,id<nx→m1 id=m id)∧Zgf nx 0 [] nx1 m1 (ZbO (fun _=>0) ⟨n,sr⟩ i)) (fun i=>sr.length-i) 0 ?_ ?_ ?_ ?_
 ·refine⟨Yb0 _,?_,fun id h1=>?_,⟨fun _=>0,0,0,0,⟨?_,?_,?_,?_,?_,?_,fun k hk=>absurd hk (Nat.not_lt_zero _)⟩,?_,?_,fun k hk=>absurd hk (Nat.not_lt_zero _)⟩⟩
  ·dsimp only
   simp only[ZaC]
   repeat(first|rw[if_pos trivial]|rw[if_neg (by omega)])
  ·dsimp only
   simp only[ZaC]
   repeat(rw[if_neg (by omega)])
  ·simp[ZaC,ZbO,dicZ]
  ·simp[ZaC,ZbO,dicZ,Zjw,tabL]
  ·simp[ZaC,ZbO,dicZ]
  ·simp[ZaC,ZbO,dicZ,tabL]
  ·simp[ZaC,ZbO,dicZ,tabL]
  ·simp[ZaC,ZbO,dicZ,tabL]
  ·constructor<;>first|(intro k hk;exact absurd hk (Nat.not_lt_zero _))|(intro k l hk;exact absurd hk (Nat.not_lt_zero _))|simp
  ·show nx+6<nx+7;omega
 ·rfl
 ·simp[go_sem]
 ·rintro i m1 nx1 ⟨hi,eS,hfr,hO⟩
  obtain⟨hw,i0⟩:=ZaM i
  by_cases h1:(i:Int)<sr.length
  ·obtain⟨w,hwi⟩:=getE (l:=sr) (k:=i) (by omega)
   have x1:nx≠nx1:=by obtain⟨_,_,_,_,_,_,h,_⟩:=hO;omega
   have hO1:Zgf nx 0 [] nx1 (upd (upd m1 nx1 (some ⟨153,0,6,[[.nil,dI 0,dI 0,.nil,dI 0,.nil]],0,false⟩)) nx1 (some ⟨153,0,6,[cW w],0,false⟩)) (ZbO (fun _=>0) ⟨n,sr⟩ i) :=
    hO.keep (Ya4 _) fun id g1 g2=>(Zad _ _ (by omega)).trans (Zad _ _ (by omega))
   have hK1:ZbO (fun _=>0) ⟨n,sr⟩ (i+1)=putP (ZbO (fun _=>0) ⟨n,sr⟩ i) i w:=by simp only[ZbO,hwi]
   have hx1:=Zls (fun _=>0) ⟨n,sr⟩ i
   have hx2:=ZnH (fun _=>0) ⟨n,sr⟩ i
   simp only[Int.toNat_natCast]at hx1
   have hrw:=ZcB hr (ZaI hwi)
   simp only[Int.toNat_natCast]at hrw
   have sw:=hs.2 w (ZaI hwi)
   have hrt:Zah w.t ((ZbO (fun _=>0) ⟨n,sr⟩ i).1.n:Nat)=true:=by rw[hx1];exact hrw.1
   have x0:nx<nx1:=by obtain⟨_,_,_,_,_,_,h,_⟩:=hO;omega
   by_cases k0:w.k=0
   ·have t1:(w.k !=0)=false:=by simp[k0]
    have t2:(w.k !=1)=true:=by simp[k0]
    refine aGoM (cj4 hres eS hwi (cj4 h1 hw i0 (cj4 t1 t2 x1 trivial))) ?_
    repeat with_reducible intro K hK
    refine ZaT (Zy9 hO1 (Nat.le_succ _) i w true (by omega) (by omega) (by omega) hrt hrw.2.2.2 sw) ?_
    rintro _ m2 nx2 ⟨rfl,g1,g2,g3⟩
    refine aGoM (cj4 hres hw i0 trivial) ?_
    repeat with_reducible intro K hK
    refine Zas (i+1) ⟨by omega,?_,fun id h=>?_,?_⟩ (by omega) rfl (by simp[go_sem])
    ·exact(g3 nx (by omega) (.inl (Ya4 _))).trans ((Zad _ _ x1).trans ((Zad _ _ x1).trans eS))
    ·exact(g3 id (by omega) (.inl (by omega))).trans ((Zad _ _ (by omega)).trans ((Zad _ _ (by omega)).trans (hfr id h)))
    ·rw[hK1];unfold putP;simp only[k0];exact g2
   ·have t1:(w.k !=0)=true:=by simp[k0]
    by_cases k1:w.k=1
    ·have t2:(w.k !=1)=false:=by simp[k1]
     refine aGoM (cj4 hres eS hwi (cj4 h1 hw i0 (cj4 t1 t2 x1 trivial))) ?_
     repeat with_reducible intro K hK
     refine ZaT (Zy9 hO1 (Nat.le_succ _) i w false (by omega) (by omega) (by omega) hrt hrw.2.2.2 sw) ?_
     rintro _ m2 nx2 ⟨rfl,g1,g2,g3⟩
     have r1:m2 nx1=some ⟨153,0,6,[cW w],0,false⟩:=(g3 nx1 (Nat.lt_succ_self _) (.inr (Ya4 _))).trans (Zae _ _ _)
     refine aGoM (cj4 hres hw i0 (cj3 r1 t2 trivial)) ?_
     repeat with_reducible intro K hK
     refine Zas (i+1) ⟨by omega,?_,fun id h=>?_,?_⟩ (by omega) rfl (by simp[go_sem])
     ·exact(g3 nx (by omega) (.inl (Ya4 _))).trans ((Zad _ _ x1).trans ((Zad _ _ x1).trans eS))
     ·exact(g3 id (by omega) (.inl (by omega))).trans ((Zad _ _ (by omega)).trans ((Zad _ _ (by omega)).trans (hfr id h)))
     ·rw[hK1];unfold putP;simp only[k1];rw[if_pos trivial,if_neg (by decide)];exact g2
    ·have t2:(w.k !=1)=true:=by simp[k1]
     refine aGoM (cj4 hres eS hwi (cj4 h1 hw i0 (cj4 t1 t2 x1 trivial))) ?_
     repeat with_reducible intro K hK
     refine ZaT (Zy9 hO1 (Nat.le_succ _) i w false (by omega) (by omega) (by omega) hrt hrw.2.2.2 sw) ?_
     rintro _ m2 nx2 ⟨rfl,g1,g2,g3⟩
     have r1:m2 nx1=some ⟨153,0,6,[cW w],0,false⟩:=(g3 nx1 (Nat.lt_succ_self _) (.inr (Ya4 _))).trans (Zae _ _ _)
     refine aGoM (cj4 hres hw i0 (cj3 r1 t2 trivial)) ?_
     repeat with_reducible intro K hK
     refine ZaT (Zy9 g2 (Ya4 _) i w true (by show(((ZbO (fun _=>0) ⟨n,sr⟩ i).1.m+1:Nat):Int)≤4000;omega) (by show(((ZbO (fun _=>0) ⟨n,sr⟩ i).1.n:Nat):Int)≤4000;omega) (by omega) hrt hrw.2.2.2 sw) ?_
     rintro _ m3 nx3 ⟨rfl,f1,f2,f3⟩
     refine aGoM (cj4 hres hw i0 trivial) ?_
     repeat with_reducible intro K hK
     refine Zas (i+1) ⟨by omega,?_,fun id h=>?_,?_⟩ (by omega) rfl (by simp[go_sem])
     ·exact(f3 nx (by omega) (.inl (Ya4 _))).trans ((g3 nx (by omega) (.inl (Ya4 _))).trans ((Zad _ _ x1).trans ((Zad _ _ x1).trans eS)))
     ·exact(f3 id (by omega) (.inl (by omega))).trans ((g3 id (by omega) (.inl (by omega))).trans ((Zad _ _ (by omega)).trans ((Zad _ _ (by omega)).trans (hfr id h))))
     ·rw[hK1];unfold putP;simp only[if_neg k0,if_neg k1];exact f2
  ·obtain rfl:i=sr.length:=by omega
   have hx1:=Zls (fun _=>0) ⟨n,sr⟩ sr.length
   have hx2:=ZnH (fun _=>0) ⟨n,sr⟩ sr.length
   simp only[Int.toNat_natCast]at hx1
   have hfree:=Zhi (fun _=>0) ⟨n,sr⟩ sr.length
   have hgg:=ZiK (fun _=>0) ⟨n,sr⟩ sr.length
   have hoD:=Zst ⟨n,sr⟩ goal
   simp only at hoD
   generalize hD0:ZbO (fun _=>0) ⟨n,sr⟩ sr.length=D0 at hO hx1 hx2 hfree hgg hoD
   have hg0:∀ j,j<D0.1.n→ZhH goal 0 j=D0.1.g j:=fun j _=>by rw[hgg];unfold ZhH;simp only[List.take_zero,Za5,dotS];grind
   have lg:(goal.length:Int)≤4096:=hgs.1
   refine aGoM (cj4 hres hfr h1 trivial) ?_
   repeat with_reducible intro K hK
   refine ZcW (fun(i:Nat)=>[(2,.lp nx 0 0 0),(5,.lp (nx+2) 0 0 0),(41,Zbh goal),(42,dI goal.length),(43,dI i)]) nx
    (fun i m1 nx1=>i≤goal.length∧m1 nx=some ⟨99,0,2,[cS ⟨n,sr⟩],0,false⟩∧(∀ id,id<nx→m1 id=m id)∧Zgf nx 0 [] nx1 m1 (setG D0 (ZhH goal i))) (fun i=>goal.length-i) 0 ?_ ?_ ?_ ?_
   ·exact⟨Yb0 _,eS,hfr,hO.g hg0⟩
   ·rfl
   ·simp[go_sem]
   ·clear hO eS hfr hJ hi hw i0 h1
    rintro i m2 nx2 ⟨hi,eS,hfr,A,vR,vO,vF,h1,h2,h3,h4⟩
    obtain⟨hw,i0⟩:=ZaM i
    have hp:=h1.hp
    have hG:=h1.hG
    have hF:=h1.hFr
    simp only[setG,hx1]at hp hG hF
    by_cases g1:(i:Int)<goal.length
    ·obtain⟨⟨tv,tf⟩,ht⟩:∃ e,goal[i]? =some e:=⟨_,Ya0 (by omega)⟩
     obtain⟨t0,t1,t2,t3⟩:=Za7 hg (ZaI ht)
     obtain⟨r,rfl⟩:∃ r,tf=ofQ r:=⟨qOf tf,Zcm t2⟩
     have zr:(szF (ofQ r):Int)≤4194304:=hgs.2 _ (ZaI ht)
     rw[← Zch t2,Zav]at zr
     have k2:=ZhM r (by omega)
     have es:=ZzT (n:=n) hg ht t0
     simp only[Zav]at es
     simp only at t0 t1
     have le:=ZbZ n (ZhH goal i)
     have x1:nx≠nx2:=by omega
     have x2:nx+1≠nx2:=by omega
     have x3:nx+2≠nx2:=by omega
     have gi:=Za9 (n:=n) (k:=tv.toNat) (ZhH goal i) (by omega)
     refine aGoM (cj4 hres hp hG (cj4 ht g1 hw (cj4 i0 t0 t1 (cj4 es le gi (cj4 x1 x2 x3 (cj4 k2 ZaR n5 Yb0)))))) ?_
     repeat with_reducible intro K hK
     refine Zas (i+1) ⟨by omega,?_,fun id h=>?_,?_⟩ (by omega) rfl (by simp[go_sem])
     ·exact(Zad _ _ (by omega)).trans ((Zad _ _ x1).trans ((Zad _ _ x1).trans eS))
     ·exact(Zad _ _ (by omega)).trans ((Zad _ _ (by omega)).trans ((Zad _ _ (by omega)).trans (hfr id h)))
     ·refine⟨A,vR,vO,vF,h1.upto (b:=nx2) (g:=ZhH goal (i+1)) ?_ ?_ ?_ (fun id q1 q2 q3 q4=>?_) h3 h4,h2,Nat.lt_succ_of_lt h3,fun k hk=>⟨(h4 k hk).1,Nat.lt_succ_of_lt (h4 k hk).2⟩⟩
      ·exact(Zad _ _ (by omega)).trans ((Zad _ _ x3).trans ((Zad _ _ x3).trans h1.hp))
      ·refine(Zae _ _ _).trans ?_
       simp only[setG,hx1]
      ·exact(Zad _ _ (by omega)).trans ((Zad _ _ (by omega)).trans ((Zad _ _ (by omega)).trans h1.hFr))
      ·exact(Zad _ _ q3).trans ((Zad _ _ (by omega)).trans (Zad _ _ (by omega)))
    ·obtain rfl:i=goal.length:=by omega
     refine aGoM (cj4 hres eS g1 trivial) ?_
     repeat with_reducible intro K hK
     refine ZcW (fun(i:Nat)=>[(5,.lp (nx+2) 0 0 0),(59,dI n),(60,dI i)]) nx
      (fun i m1 nx1=>i≤n∧(∀ id,id<nx→m1 id=m id)∧Zgf nx i (tabL i fun j=>[dI j]) nx1 m1 (setG D0 (ZhH goal goal.length))) (fun i=>n-i) 0 ?_ ?_ ?_ ?_
     ·exact⟨Yb0 _,hfr,A,vR,vO,vF,h1,h2,h3,h4⟩
     ·rfl
     ·simp[go_sem]
     ·clear hfr h1 h2 h3 h4 hp hG hF eS hw i0 g1
      rintro i m3 nx3 ⟨hi3,hfr,A,vR,vO,vF,h1,h2,h3,h4⟩
      obtain⟨hw,i0⟩:=ZaM i
      have hp:=h1.hp
      have hG:=h1.hG
      have hF:=h1.hFr
      simp only[setG,hx1]at hp hG hF
      by_cases g1:(i:Int)<n
      ·have fs:=Zxt i
       have x1:nx+5≠nx3:=by omega
       have x2:nx+2≠nx3:=by omega
       have x3:nx+2≠nx+5:=by omega
       have lf:=Zc2 i fun j=>[dI (j:Int)]
       have y7:((i+1:Nat):Int)*8≤140737488355328:=by omega
       have y8:((i+1:Nat):Int)≤9007199254740992:=by omega
       refine aGoM (cj4 hres hp hF (cj4 g1 hw i0 (cj4 fs lf x1 (cj4 x2 x3 y7 (cj3 y8 ZaR Yb0))))) ?_
       repeat with_reducible intro K hK
       refine Zas (i+1) ⟨by omega,fun id h=>?_,A,vR,vO,vF,h1.upto (b:=nx3) (g:=ZhH goal goal.length) ?_ ?_ ?_ (fun id q1 q2 q3 q4=>?_) h3 h4,(by cases h2;constructor<;>assumption),Nat.lt_succ_of_lt h3,fun k hk=>⟨(h4 k hk).1,Nat.lt_succ_of_lt (h4 k hk).2⟩⟩ (by omega) rfl (by simp[go_sem])
       ·dsimp only
        simp only[ZaC]
        repeat(rw[if_neg (by omega)])
        exact hfr id h
       ·refine(Zae _ _ _).trans ?_
        simp only[setG,hx1]
       ·refine Eq.trans ?_ h1.hG
        dsimp only
        simp only[ZaC]
        repeat(rw[if_neg (by omega)])
       ·exact(Zad _ _ (by omega)).trans (Zae _ _ _)
       ·exact(Zad _ _ q2).trans ((Zad _ _ q4).trans (Zad _ _ (by omega)))
      ·obtain rfl:i=n:=by omega
       refine aGoM (cj4 hres hp hF (cj2 g1 ZaR)) ?_
       repeat with_reducible intro K hK
       rw[hoD]
       refine⟨opI nx A vR vO i vF,rfl,by omega,DicFr.at ?_,h2,fun id hi=>Nat.le_of_lt (Zwx h3 h4 hi).1,hfr⟩
       have e:(tabL (setG D0 (ZhH goal goal.length)).1.n fun j=>[dI ((setG D0 (ZhH goal goal.length)).1.free j:Int)])=tabL i fun j=>[dI (j:Int)]:=by
        show(tabL D0.1.n fun j=>[dI (D0.1.free j:Int)])=_
        rw[hx1,hfree]
       rw[e];exact h1
def ZyY(d:Dic):List (List D):=tabL d.m fun k=>cF (ofQ (d.v k))++[.sl (ratL d.n (d.a k))]
abbrev ZcH(d:Dic)(src:Nat→Nat×Bool):D :=
 .ep [[dI d.n,.sl (ZyY d),.sl (ratL d.n d.g),.sl (tabL d.m fun i=>[dI (d.own i)]),.sl (tabL d.n fun j=>[dI (d.free j)]),.sl (tabL d.m fun i=>[dI (src i).1,dB (src i).2])]] 0 0
theorem ZiB(d:Dic){k:Nat}(h:k<d.m):(ZyY d)[k]? =some [dI (ofQ (d.v k)).p.s,Zab (ofQ (d.v k)).p.d,dI (ofQ (d.v k)).q.s,Zab (ofQ (d.v k)).q.d,.sl (ratL d.n (d.a k))]:=Zbu _ h
theorem Zi1(all:Bool)(m:Mem)(k n:Nat)(c:Nat→Rat):(ratL n c).map (List.map (fzT all m (k+1)))=ratL n c:=by
 unfold ratL tabL
 rw[List.map_map]
 exact List.map_congr_left fun u _=>rfl
def Za4(d:Dic):Nat→Nat→Rat
 | 0=>fun _=>0
 | i+1=>fun u=>if d.own i<d.n∧u=d.own i then d.v i else Za4 d i u
theorem Zwl(d:Dic){i:Nat}(h:d.own i<d.n):(ratL d.n (Za4 d i)).set (d.own i) (cF (ofQ (d.v i)))=ratL d.n (Za4 d (i+1)):=by
 rw[Zdi]
 refine ZaV fun u _=>?_
 simp only[Za4]
 by_cases e:u=d.own i
 ·rw[if_pos e,if_pos ⟨h,e⟩]
 ·rw[if_neg e,if_neg (fun h2=>e h2.2)]
theorem Zuh(d:Dic){i:Nat}(h:¬ d.own i<d.n):Za4 d (i+1)=Za4 d i:=by
 funext u
 simp only[Za4]
 rw[if_neg (fun h2=>h h2.1)]
theorem ZnD(d:Dic)(src:Nat→Nat×Bool)(hm:(d.m:Int)≤4096)(hn:(d.n:Int)≤4096):Zaa Tryz.prog 138 [ZcH d src] (.sl (ratL d.n (Za4 d d.m))):=by
 refine Zaa.ofA (fun I=>?_)
 have hres:=Tryz.results138
 refine inA Tryz.func138 rfl Tryz.ntmps138 ?_
 refine aGoM (cj2 hres ZaR) ?_
 repeat with_reducible intro K hK
 refine ZaT (ZaN.made (Zpt d.n _) (ZkS d.n _ _ hn)) ?_
 rintro _ _ _ ⟨rfl,rfl,rfl⟩
 have lo:=Zc2 d.m fun i=>[dI (d.own i)]
 refine aGoM (cj3 hres ZaR lo) ?_
 repeat with_reducible intro K hK
 refine ZcW (fun(i:Nat)=>[(0,ZcH d src),(3,.ls 0 1),(14,.sl (tabL d.m fun i=>[dI (d.own i)])),(15,dI d.m),(16,dI i)]) 0
  (fun i m1 nx1=>i≤d.m∧0<nx1∧m1 0=some (fB d.n (Za4 d i))) (fun i=>d.m-i) 0 ?_ ?_ ?_ ?_
 ·exact⟨Yb0 _,Nat.zero_lt_one,by dsimp only;rw[Zae];try rfl⟩
 ·rfl
 ·simp[go_sem]
 ·rintro i m1 nx1 ⟨hi,hnx,eX⟩
  obtain⟨hw,i0⟩:=ZaM i
  by_cases h1:(i:Int)<d.m
  ·have him:i<d.m:=by omega
   have go:=Zbu (fun i=>[dI (d.own i)]) him
   have gr:=ZiB d him
   by_cases h2:(d.own i:Int)<d.n
   ·have es:=Zwl d (i:=i) (by omega)
    have o0:(0:Int)≤d.own i:=by omega
    have lx:=ZbZ d.n (Za4 d i)
    have gx:=Za9 (Za4 d i) (n:=d.n) (k:=d.own i) (by omega)
    refine aGoM (cj4 hres ZaR eX (cj4 h1 hw i0 (cj4 go gr h2 (cj4 es o0 lx (cj2 gx Yb0))))) ?_
    repeat with_reducible intro K hK
    exact Zas (i+1) ⟨by omega,by show 0<nx1;omega,by dsimp only;rw[Zae]⟩ (by omega) rfl (by simp[go_sem])
   ·refine aGoM (cj4 hres ZaR eX (cj4 h1 hw i0 (cj2 go h2))) ?_
    repeat with_reducible intro K hK
    refine Zas (i+1) ⟨by omega,by show 0<nx1;omega,?_⟩ (by omega) rfl (by simp[go_sem])
    rw[Zuh d (by omega)];exact eX
  ·obtain rfl:i=d.m:=by omega
   refine aGoM (cj4 hres ZaR eX h1) ?_
   repeat with_reducible intro K hK
   simp only[fzT,ZbU,eX,if_pos,Bool.true_or,Zi1]
def rayK(d:Dic)(s:Nat):Nat→Nat→Rat
 | 0=>fun u=>if d.free s<d.n∧u=d.free s then 1 else 0
 | i+1=>fun u=>if d.own i<d.n∧u=d.own i then -d.a i s else rayK d s i u
theorem Zwc(d:Dic)(s:Nat){i:Nat}(h:d.own i<d.n):(ratL d.n (rayK d s i)).set (d.own i) (cF (ofQ (-d.a i s)))=ratL d.n (rayK d s (i+1)):=by
 rw[Zdi]
 refine ZaV fun u _=>?_
 simp only[rayK]
 by_cases e:u=d.own i
 ·rw[if_pos e,if_pos ⟨h,e⟩]
 ·rw[if_neg e,if_neg (fun h2=>e h2.2)]
theorem Zsl(d:Dic)(s:Nat){i:Nat}(h:¬ d.own i<d.n):rayK d s (i+1)=rayK d s i:=by
 funext u
 simp only[rayK]
 rw[if_neg (fun h2=>h h2.1)]
theorem ZBU(d:Dic){s:Nat}(h:d.free s<d.n):(ratL d.n (fun _=>0)).set (d.free s) (cF (ofQ 1))=ratL d.n (rayK d s 0):=by
 rw[Zdi]
 refine ZaV fun u _=>?_
 simp only[rayK]
 by_cases e:u=d.free s
 ·rw[if_pos e,if_pos ⟨h,e⟩]
 ·rw[if_neg e,if_neg (fun h2=>e h2.2)]
theorem Zy6(d:Dic){s:Nat}(h:¬ d.free s<d.n):ratL d.n (fun _=>(0:Rat))=ratL d.n (rayK d s 0) :=
 ZaV fun u _=>by simp only[rayK];rw[if_neg (fun h2=>h h2.1)]
theorem ZDU(d:Dic)(src:Nat→Nat×Bool){s:Nat}(hs:s<d.n)(hm:(d.m:Int)≤4096)(hn:(d.n:Int)≤4096)(za:∀ i,i<d.m→(szQ (d.a i s):Int)≤536870912) :
 Zaa Tryz.prog 139 [ZcH d src,dI s] (.sl (ratL d.n (rayK d s d.m))):=by
 refine Zaa.ofA (fun I=>?_)
 have hres:=Tryz.results139
 refine inA Tryz.func139 rfl Tryz.ntmps139 ?_
 have s0:(0:Int)≤s:=by omega
 refine aGoM (cj3 hres ZaR s0) ?_
 repeat with_reducible intro K hK
 refine ZaT (ZaN.made (Zpt d.n _) (ZkS d.n _ _ hn)) ?_
 rintro _ _ _ ⟨rfl,rfl,rfl⟩
 have lo:=Zc2 d.m fun i=>[dI (d.own i)]
 have gf:=Zbu (fun j=>[dI (d.free j)]) hs
 have k1:=nO_c
 by_cases h0:(d.free s:Int)<d.n
 ·have e1:=ZBU d (s:=s) (by omega)
  have f0:(0:Int)≤d.free s:=by omega
  have lz:=ZbZ d.n fun _=>0
  have gz:=Za9 (fun _=>0) (n:=d.n) (k:=d.free s) (by omega)
  refine aGoM (cj4 hres ZaR lo (cj4 gf s0 h0 (cj4 e1 f0 lz (cj3 gz k1 Yb0)))) ?_
  repeat with_reducible intro K hK
  refine ZcW (fun(i:Nat)=>[(0,ZcH d src),(1,dI s),(5,.ls 0 1),(34,.sl (tabL d.m fun i=>[dI (d.own i)])),(35,dI d.m),(36,dI i)]) 0
   (fun i m1 nx1=>i≤d.m∧0<nx1∧m1 0=some (fB d.n (rayK d s i))) (fun i=>d.m-i) 0 ?_ ?_ ?_ ?_
  ·exact⟨Yb0 _,Nat.zero_lt_one,by dsimp only;rw[Zae];try rfl⟩
  ·rfl
  ·simp[go_sem]
  ·rintro i m1 nx1 ⟨hi,hnx,eX⟩
   obtain⟨hw,i0⟩:=ZaM i
   by_cases h1:(i:Int)<d.m
   ·have him:i<d.m:=by omega
    have go:=Zbu (fun i=>[dI (d.own i)]) him
    have gr:=ZiB d him
    by_cases h2:(d.own i:Int)<d.n
    ·have es:=Zwc d s (i:=i) (by omega)
     have o0:(0:Int)≤d.own i:=by omega
     have lx:=ZbZ d.n (rayK d s i)
     have gx:=Za9 (rayK d s i) (n:=d.n) (k:=d.own i) (by omega)
     have ga:=Za9 (d.a i) hs
     have zz:=za i him
     have k2:=ZhM (d.a i s) (by omega)
     refine aGoM (cj4 hres ZaR eX (cj4 h1 hw i0 (cj4 go gr h2 (cj4 es o0 lx (cj4 gx ga k2 (cj2 s0 Yb0)))))) ?_
     repeat with_reducible intro K hK
     exact Zas (i+1) ⟨by omega,by show 0<nx1;omega,by dsimp only;rw[Zae]⟩ (by omega) rfl (by simp[go_sem])
    ·refine aGoM (cj4 hres ZaR eX (cj4 h1 hw i0 (cj2 go h2))) ?_
     repeat with_reducible intro K hK
     refine Zas (i+1) ⟨by omega,by show 0<nx1;omega,?_⟩ (by omega) rfl (by simp[go_sem])
     rw[Zsl d s (by omega)];exact eX
   ·obtain rfl:i=d.m:=by omega
    refine aGoM (cj4 hres ZaR eX h1) ?_
    repeat with_reducible intro K hK
    simp only[fzT,ZbU,eX,if_pos,Bool.true_or,Zi1]
 ·have e1:=Zy6 d (s:=s) (by omega)
  refine aGoM (cj4 hres ZaR lo (cj4 gf s0 h0 (cj2 k1 Yb0))) ?_
  repeat with_reducible intro K hK
  refine ZcW (fun(i:Nat)=>[(0,ZcH d src),(1,dI s),(5,.ls 0 1),(34,.sl (tabL d.m fun i=>[dI (d.own i)])),(35,dI d.m),(36,dI i)]) 0
   (fun i m1 nx1=>i≤d.m∧0<nx1∧m1 0=some (fB d.n (rayK d s i))) (fun i=>d.m-i) 0 ?_ ?_ ?_ ?_
  ·refine⟨Yb0 _,Nat.zero_lt_one,?_⟩
   dsimp only
   rw[Zae]
   unfold fB;rw[e1]
  ·rfl
  ·simp[go_sem]
  ·rintro i m1 nx1 ⟨hi,hnx,eX⟩
   obtain⟨hw,i0⟩:=ZaM i
   by_cases h1:(i:Int)<d.m
   ·have him:i<d.m:=by omega
    have go:=Zbu (fun i=>[dI (d.own i)]) him
    have gr:=ZiB d him
    by_cases h2:(d.own i:Int)<d.n
    ·have es:=Zwc d s (i:=i) (by omega)
     have o0:(0:Int)≤d.own i:=by omega
     have lx:=ZbZ d.n (rayK d s i)
     have gx:=Za9 (rayK d s i) (n:=d.n) (k:=d.own i) (by omega)
     have ga:=Za9 (d.a i) hs
     have zz:=za i him
     have k2:=ZhM (d.a i s) (by omega)
     refine aGoM (cj4 hres ZaR eX (cj4 h1 hw i0 (cj4 go gr h2 (cj4 es o0 lx (cj4 gx ga k2 (cj2 s0 Yb0)))))) ?_
     repeat with_reducible intro K hK
     exact Zas (i+1) ⟨by omega,by show 0<nx1;omega,by dsimp only;rw[Zae]⟩ (by omega) rfl (by simp[go_sem])
    ·refine aGoM (cj4 hres ZaR eX (cj4 h1 hw i0 (cj2 go h2))) ?_
     repeat with_reducible intro K hK
     refine Zas (i+1) ⟨by omega,by show 0<nx1;omega,?_⟩ (by omega) rfl (by simp[go_sem])
     rw[Zsl d s (by omega)];exact eX
   ·obtain rfl:i=d.m:=by omega
    refine aGoM (cj4 hres ZaR eX h1) ?_
    repeat with_reducible intro K hK
    simp only[fzT,ZbU,eX,if_pos,Bool.true_or,Zi1]
theorem sz_0:szQ 0≤1:=by decide +kernel
theorem sz_1:szQ 1≤1:=by decide +kernel
def Zcy(src:Nat→Nat×Bool)(y:Nat→Rat)(k:Nat)(p:Rat):Nat→Rat:=fun u=>if u=(src k).1 then y u+(if (src k).2 then p else -p)else y u
theorem Zhw(src:Nat→Nat×Bool)(y:Nat→Rat)(k:Nat)(p:Rat)(M:Nat){q:Rat}(hq:q=if (src k).2 then p else -p):(ratL M y).set (src k).1 (cF (ofQ (y (src k).1+q)))=ratL M (Zcy src y k p):=by
 subst hq
 rw[Zdi]
 refine ZaV fun u _=>?_
 unfold Zcy
 by_cases e:u=(src k).1
 ·rw[if_pos e,if_pos e,e]
 ·rw[if_neg e,if_neg e]
theorem ZAq[Ifl](d:Dic)(src:Nat→Nat×Bool)(M Y k:Nat)(y:Nat→Rat)(p:Rat)(m:Mem)(nx:Nat)(hk:k<d.m)(hM:(src k).1<M)(hY:m Y=some (fB M y))(zy:(szQ (y (src k).1):Int)≤549755813888)(zp:(szQ p:Int)≤4294967296) :
 ZaN Tryz.prog 189 [ZcH d src,.ls Y 1,dI k,encF (ofQ p)] m nx fun d' m' nx'=>d'=oneD []∧nx≤nx'∧m' Y=some (fB M (Zcy src y k p))∧∀ id,id<nx→id≠Y→m' id=m id:=by
 refine ZaN.cl ⟨_,_,Tryz.func189,rfl,by kernel_rfl⟩ fun hcl=>?_
 have hres:=Tryz.results189
 have lY:=(hcl Y _ hY).1
 refine inA Tryz.func189 rfl Tryz.ntmps189 ?_
 have gs:=Zbu (fun i=>[dI (src i).1,dB (src i).2]) hk
 have k0:(0:Int)≤k:=by omega
 have s0:(0:Int)≤(src k).1:=by omega
 have gy:=Za9 y hM
 have ly:=ZbZ M y
 have n1:Y≠nx:=by omega
 have n2:Y≠nx+1:=by omega
 have n3:nx≠nx+1:=by omega
 have n4:nx+1≠nx:=by omega
 have np:(szQ (-p):Int)≤4294967296:=by rw[Zde];exact zp
 cases ht:(src k).2 with
 | true =>
   have k2:=ZgD (y (src k).1) p (by omega) (by omega)
   have es:=Zhw src y k p M (q:=p) (by rw[ht];rfl)
   rw[ht]at gs
   refine aGoS (cj4 hres ZaR hY (cj4 gs k0 s0 (cj4 gy ly n1 (cj4 n2 n3 k2 (cj2 es Yb0))))) ?_
   repeat with_reducible intro K hK
   with_reducible apply useE
   with_reducible assumption
   exact Zci [nx,nx+1,Y] (by simp[n1.symm,n2.symm]) [([],[]),([],[]),([1],[]),([],[]),([],[]),([1],[]),([2],[]),([2],[]),([0],[]),([],[]),([],[]),([],[]),([],[]),([2],[]),([2,2],[2])] rfl rfl (by kernel_rfl)
   exact Zay rfl
   refine aGoM (cj3 hres n1 n2) ?_
   exact fun id g1 g2=>by repeat(rw[if_neg (by omega)])
 | false =>
   have k1:=ZhM p (by omega)
   have k2:=ZgD (y (src k).1) (-p) (by omega) (by omega)
   have es:=Zhw src y k p M (q:= -p) (by rw[ht];rfl)
   rw[ht]at gs
   refine aGoS (cj4 hres ZaR hY (cj4 gs k0 s0 (cj4 gy ly n1 (cj4 n2 n3 k2 (cj4 es k1 n4 Yb0))))) ?_
   repeat with_reducible intro K hK
   with_reducible apply useE
   with_reducible assumption
   exact Zci [nx,nx+1,Y] (by simp[n1.symm,n2.symm]) [([],[]),([],[]),([1],[]),([],[]),([],[]),([1],[]),([2],[]),([2],[]),([0],[]),([],[]),([],[]),([],[]),([],[]),([2],[]),([2,2],[2])] rfl rfl (by kernel_rfl)
   exact Zay rfl
   refine aGoM (cj3 hres n1 n2) ?_
   exact fun id g1 g2=>by repeat(rw[if_neg (by omega)])
theorem ZkO[Ifl](d:Dic)(src:Nat→Nat×Bool)(M Y k:Nat)(y:Nat→Rat)(p:Rat)(m:Mem)(nx:Nat)(hk:k<d.m)(hM:(src k).1<M)(hY:m Y=some (fB M y))(hl:Y<nx)(zy:(szQ (y (src k).1):Int)≤549755813888)(zp:(szQ p:Int)≤4294967296) :
 EffC Tryz.prog 189 [ZcH d src,.ls Y 1,dI k,encF (ofQ p)] m nx ⟨oneD [],[Y],[(Y,fB M (Zcy src y k p))],false⟩ nx :=
 EffC.of ⟨_,_,Tryz.func189,rfl,by kernel_rfl⟩ (fun q hq=>by simp only[List.mem_singleton]at hq;subst hq;exact⟨by simp,hl⟩) fun m1 NX hN ht =>
  ZaN.kept ((ht Y (by simp)).trans hY) rfl (Zpt M _) (ZAq d src M Y k y p m1 NX hk hM ((ht Y (by simp)).trans hY) zy zp)
def Zbk(d:Dic)(src:Nat→Nat×Bool):Nat→Nat→Rat
 | 0=>fun _=>0
 | j+1=>if d.n≤d.free j then Zcy src (Zbk d src j) (d.free j-d.n) (-d.g j)else Zbk d src j
theorem ZlZ(src:Nat→Nat×Bool)(y:Nat→Rat)(k:Nat)(p:Rat){Z B:Nat}(hy:∀ u,szQ (y u)≤Z)(hp:szQ p≤B)(u:Nat):szQ (Zcy src y k p u)≤Z+(B+1):=by
 unfold Zcy
 split
 ·have h1:=Zfb (y u) (if (src k).2 then p else -p)
  have h2:szQ (if (src k).2 then p else -p)=szQ p:=by split;rfl;exact Zde p
  have:=hy u
  omega
 ·have:=hy u;omega
theorem ZiI(d:Dic)(src:Nat→Nat×Bool){B:Nat}(hg:∀ j,j<d.n→szQ (d.g j)≤B):∀ j,j≤d.n→∀ u,szQ (Zbk d src j u)≤1+j*(B+1)
 | 0, _, u => by have : szQ 0 ≤ 1 := by decide +kernel
                 simp only[Zbk];omega
 | j+1,hj,u=>by
   have ih:=ZiI d src hg j (by omega)
   rw[Nat.add_mul,Nat.one_mul,← Nat.add_assoc]
   simp only[Zbk]
   split
   ·exact ZlZ src _ _ _ ih (by rw[Zde];exact hg j (by omega)) u
   ·have:=ih u;omega
theorem Zzb(d:Dic)(src:Nat→Nat×Bool)(M:Nat)(hm:(d.m:Int)≤4096)(hn:(d.n:Int)≤1500)(hMl:(M:Int)≤4096)(hfree:∀ j,j<d.n→d.free j<d.n+d.m)(hsrc:∀ i,i<d.m→(src i).1<M)(zg:∀ j,j<d.n→szQ (d.g j)≤268435456) :
 Zaa Tryz.prog 141 [ZcH d src,dI M] (.sl (ratL M (Zbk d src d.n))):=by
 refine Zaa.ofA (fun I=>?_)
 have hres:=Tryz.results141
 refine inA Tryz.func141 rfl Tryz.ntmps141 ?_
 refine aGoM (cj2 hres ZaR) ?_
 repeat with_reducible intro K hK
 refine ZaT (ZaN.made (Zpt M _) (ZkS M _ _ hMl)) ?_
 rintro _ _ _ ⟨rfl,rfl,rfl⟩
 have lf:=Zc2 d.n fun j=>[dI (d.free j)]
 refine aGoM (cj3 hres ZaR lf) ?_
 repeat with_reducible intro K hK
 refine ZcW (fun(i:Nat)=>[(0,ZcH d src),(5,.ls 0 1),(13,.sl (tabL d.n fun j=>[dI (d.free j)])),(14,dI d.n),(15,dI i)]) 0
  (fun i m1 nx1=>i≤d.n∧0<nx1∧m1 0=some (fB M (Zbk d src i))) (fun i=>d.n-i) 0 ?_ ?_ ?_ ?_
 ·exact⟨Yb0 _,Nat.zero_lt_one,by dsimp only;rw[Zae];try rfl⟩
 ·rfl
 ·simp[go_sem]
 ·rintro i m1 nx1 ⟨hi,hnx,eX⟩
  obtain⟨hw,i0⟩:=ZaM i
  by_cases h1:(i:Int)<d.n
  ·have hin:i<d.n:=by omega
   have gf:=Zbu (fun j=>[dI (d.free j)]) hin
   have fl:=hfree i hin
   by_cases h2:(d.n:Int)≤d.free i
   ·have gg:=Za9 d.g hin
    have zi:=zg i hin
    have k1:=ZhM (d.g i) (by omega)
    have hs:IntKind.i64.wrap ((d.free i:Int)-d.n)=((d.free i-d.n:Nat):Int):=(ZaD (by omega) (by omega)).trans (by omega)
    refine aGoM (cj4 hres ZaR eX (cj4 h1 hw i0 (cj4 gf h2 gg (cj3 k1 hs Yb0)))) ?_
    repeat with_reducible intro K hK
    have zy:=ZiI d src zg i hi (src (d.free i-d.n)).1
    have hmul:i*(268435456+1)≤1500*(268435456+1):=Nat.mul_le_mul_right _ (by omega)
    refine Zdq (ZkO d src M 0 (d.free i-d.n) (Zbk d src i) (-d.g i) _ _ (by omega) (hsrc _ (by omega)) eX hnx (by have:=Int.ofNat_le.2 (Nat.le_trans zy (Nat.add_le_add_left hmul 1));omega) (by rw[Zde];omega)) ?_
    refine aGoM (cj3 hres ZaR hw) ?_
    repeat with_reducible intro K hK
    refine Zas (i+1) ⟨by omega,by show 0<nx1;omega,?_⟩ (by omega) rfl (by simp[go_sem])
    dsimp only
    rw[Zae]
    simp only[Zbk]
    rw[if_pos (by omega)]
   ·refine aGoM (cj4 hres ZaR eX (cj4 h1 hw i0 (cj2 gf h2))) ?_
    repeat with_reducible intro K hK
    refine Zas (i+1) ⟨by omega,by show 0<nx1;omega,?_⟩ (by omega) rfl (by simp[go_sem])
    simp only[Zbk]
    rw[if_neg (by omega)];exact eX
  ·obtain rfl:i=d.n:=by omega
   refine aGoM (cj4 hres ZaR eX h1) ?_
   repeat with_reducible intro K hK
   simp only[fzT,ZbU,eX,if_pos,Bool.true_or,Zi1]
def refK(d:Dic)(src:Nat→Nat×Bool)(r:Nat):Nat→Nat→Rat
 | 0=>if d.n≤d.own r then Zcy src (fun _=>0) (d.own r-d.n) 1 else fun _=>0
 | j+1=>if d.n≤d.free j then Zcy src (refK d src r j) (d.free j-d.n) (d.a r j)else refK d src r j
theorem Zsi(d:Dic)(src:Nat→Nat×Bool)(r:Nat){B:Nat}(hB:1≤B)(hg:∀ j,j<d.n→szQ (d.a r j)≤B):∀ j,j≤d.n→∀ u,szQ (refK d src r j u)≤1+(j+1)*(B+1)
 | 0,_,u=>by
   have h0:∀ u:Nat,szQ ((fun _=>0:Nat→Rat) u)≤1:=fun _=>sz_0
   have h1:szQ 1≤B:=Nat.le_trans sz_1 hB
   simp only[refK]
   split
   ·have:=ZlZ src (fun _=>0) (d.own r-d.n) 1 h0 h1 u;omega
   ·have:szQ ((fun _=>0:Nat→Rat) u)≤1:=sz_0
    omega
 | j+1,hj,u=>by
   have ih:=Zsi d src r hB hg j (by omega)
   rw[Nat.add_mul (j+1) 1,Nat.one_mul,← Nat.add_assoc]
   simp only[refK]
   split
   ·exact ZlZ src _ _ _ ih (hg j (by omega)) u
   ·have:=ih u;omega
theorem Zj1(d:Dic)(src:Nat→Nat×Bool)(M r:Nat)(hr:r<d.m)(hm:(d.m:Int)≤4096)(hn:(d.n:Int)≤1500)(hMl:(M:Int)≤4096)(hown:d.own r<d.n+d.m)(hfree:∀ j,j<d.n→d.free j<d.n+d.m)(hsrc:∀ i,i<d.m→(src i).1<M)(zg:∀ j,j<d.n→szQ (d.a r j)≤268435456) :
 Zaa Tryz.prog 140 [ZcH d src,dI M,dI r] (.sl (ratL M (refK d src r d.n))):=by
 refine Zaa.ofA (fun I=>?_)
 have hres:=Tryz.results140
 refine inA Tryz.func140 rfl Tryz.ntmps140 ?_
 have r0:(0:Int)≤r:=by omega
 have gr:=ZiB d hr
 have go:=Zbu (fun i=>[dI (d.own i)]) hr
 have lf:=Zc2 d.n fun j=>[dI (d.free j)]
 have k1:=nO_c
 refine aGoM (cj3 hres ZaR r0) ?_
 repeat with_reducible intro K hK
 refine ZaT (ZaN.made (Zpt M _) (ZkS M _ _ hMl)) ?_
 rintro _ _ _ ⟨rfl,rfl,rfl⟩
 by_cases h0:(d.n:Int)≤d.own r
 ·have hs:IntKind.i64.wrap ((d.own r:Int)-d.n)=((d.own r-d.n:Nat):Int):=(ZaD (by omega) (by omega)).trans (by omega)
  refine aGoM (cj4 hres ZaR lf (cj4 go r0 h0 (cj3 k1 hs Yb0))) ?_
  repeat with_reducible intro K hK
  have hY0:upd noM 0 (some (fB M fun _=>0)) 0=some (fB M fun _=>(0:Rat)):=by rw[Zae]
  have z0:=sz_0
  have z1:=sz_1
  refine Zdq (ZkO d src M 0 (d.own r-d.n) (fun _=>0) 1 _ _ (by omega) (hsrc _ (by omega)) hY0 Nat.zero_lt_one (by show(szQ 0:Int)≤_;omega) (by omega)) ?_
  refine aGoM (cj4 hres ZaR lf (cj2 r0 Yb0)) ?_
  repeat with_reducible intro K hK
  have e0:Zcy src (fun _=>0) (d.own r-d.n) 1=refK d src r 0:=by simp only[refK];rw[if_pos (by omega)]
  refine ZcW (fun(i:Nat)=>[(0,ZcH d src),(2,dI r),(7,.ls 0 1),(39,.sl (tabL d.n fun j=>[dI (d.free j)])),(40,dI d.n),(41,dI i)]) 0
   (fun i m1 nx1=>i≤d.n∧0<nx1∧m1 0=some (fB M (refK d src r i))) (fun i=>d.n-i) 0 ?_ ?_ ?_ ?_
  ·exact⟨Yb0 _,Nat.zero_lt_one,by dsimp only;rw[Zae,e0]⟩
  ·rfl
  ·simp[go_sem]
  ·rintro i m1 nx1 ⟨hi,hnx,eX⟩
   obtain⟨hw,i0⟩:=ZaM i
   by_cases h1:(i:Int)<d.n
   ·have hin:i<d.n:=by omega
    have gf:=Zbu (fun j=>[dI (d.free j)]) hin
    have fl:=hfree i hin
    by_cases h2:(d.n:Int)≤d.free i
    ·have gg:=Za9 (d.a r) hin
     have zi:=zg i hin
     have hs:IntKind.i64.wrap ((d.free i:Int)-d.n)=((d.free i-d.n:Nat):Int):=(ZaD (by omega) (by omega)).trans (by omega)
     refine aGoM (cj4 hres ZaR eX (cj4 h1 hw i0 (cj4 gf h2 gg (cj4 hs gr r0 Yb0)))) ?_
     repeat with_reducible intro K hK
     have zy:=Zsi d src r (B:=268435456) (by decide) zg i hi (src (d.free i-d.n)).1
     have hmul:(i+1)*(268435456+1)≤1500*(268435456+1):=Nat.mul_le_mul_right _ (by omega)
     refine Zdq (ZkO d src M 0 (d.free i-d.n) (refK d src r i) (d.a r i) _ _ (by omega) (hsrc _ (by omega)) eX hnx (by have:=Int.ofNat_le.2 (Nat.le_trans zy (Nat.add_le_add_left hmul 1));omega) (by omega)) ?_
     refine aGoM (cj3 hres ZaR hw) ?_
     repeat with_reducible intro K hK
     refine Zas (i+1) ⟨by omega,by show 0<nx1;omega,?_⟩ (by omega) rfl (by simp[go_sem])
     dsimp only
     rw[Zae]
     simp only[refK]
     rw[if_pos (by omega)]
    ·refine aGoM (cj4 hres ZaR eX (cj4 h1 hw i0 (cj2 gf h2))) ?_
     repeat with_reducible intro K hK
     refine Zas (i+1) ⟨by omega,by show 0<nx1;omega,?_⟩ (by omega) rfl (by simp[go_sem])
     simp only[refK]
     rw[if_neg (by omega)];exact eX
   ·obtain rfl:i=d.n:=by omega
    refine aGoM (cj4 hres ZaR eX h1) ?_
    repeat with_reducible intro K hK
    simp only[fzT,ZbU,eX,if_pos,Bool.true_or,Zi1]
 ·refine aGoM (cj4 hres ZaR lf (cj4 go r0 h0 (cj2 k1 Yb0))) ?_
  repeat with_reducible intro K hK
  have e0:(fun _=>0)=refK d src r 0:=by simp only[refK];rw[if_neg (by omega)]
  refine ZcW (fun(i:Nat)=>[(0,ZcH d src),(2,dI r),(7,.ls 0 1),(39,.sl (tabL d.n fun j=>[dI (d.free j)])),(40,dI d.n),(41,dI i)]) 0
   (fun i m1 nx1=>i≤d.n∧0<nx1∧m1 0=some (fB M (refK d src r i))) (fun i=>d.n-i) 0 ?_ ?_ ?_ ?_
  ·exact⟨Yb0 _,Nat.zero_lt_one,by dsimp only;rw[Zae,e0]⟩
  ·rfl
  ·simp[go_sem]
  ·rintro i m1 nx1 ⟨hi,hnx,eX⟩
   obtain⟨hw,i0⟩:=ZaM i
   by_cases h1:(i:Int)<d.n
   ·have hin:i<d.n:=by omega
    have gf:=Zbu (fun j=>[dI (d.free j)]) hin
    have fl:=hfree i hin
    by_cases h2:(d.n:Int)≤d.free i
    ·have gg:=Za9 (d.a r) hin
     have zi:=zg i hin
     have hs:IntKind.i64.wrap ((d.free i:Int)-d.n)=((d.free i-d.n:Nat):Int):=(ZaD (by omega) (by omega)).trans (by omega)
     refine aGoM (cj4 hres ZaR eX (cj4 h1 hw i0 (cj4 gf h2 gg (cj4 hs gr r0 Yb0)))) ?_
     repeat with_reducible intro K hK
     have zy:=Zsi d src r (B:=268435456) (by decide) zg i hi (src (d.free i-d.n)).1
     have hmul:(i+1)*(268435456+1)≤1500*(268435456+1):=Nat.mul_le_mul_right _ (by omega)
     refine Zdq (ZkO d src M 0 (d.free i-d.n) (refK d src r i) (d.a r i) _ _ (by omega) (hsrc _ (by omega)) eX hnx (by have:=Int.ofNat_le.2 (Nat.le_trans zy (Nat.add_le_add_left hmul 1));omega) (by omega)) ?_
     refine aGoM (cj3 hres ZaR hw) ?_
     repeat with_reducible intro K hK
     refine Zas (i+1) ⟨by omega,by show 0<nx1;omega,?_⟩ (by omega) rfl (by simp[go_sem])
     dsimp only
     rw[Zae]
     simp only[refK]
     rw[if_pos (by omega)]
    ·refine aGoM (cj4 hres ZaR eX (cj4 h1 hw i0 (cj2 gf h2))) ?_
     repeat with_reducible intro K hK
     refine Zas (i+1) ⟨by omega,by show 0<nx1;omega,?_⟩ (by omega) rfl (by simp[go_sem])
     simp only[refK]
     rw[if_neg (by omega)];exact eX
   ·obtain rfl:i=d.n:=by omega
    refine aGoM (cj4 hres ZaR eX h1) ?_
    repeat with_reducible intro K hK
    simp only[fzT,ZbU,eX,if_pos,Bool.true_or,Zi1]
theorem ZiV:∀ (l:List Nat)(m:Mem)(id:Nat)(b:Blk),m id=some b→ov m (Zb1 l m) id=some (if id∈l then {b with dead:=true} else b)
 | [],m,id,b,h=>by simp only[Zb1,ov,h,List.not_mem_nil,if_false]
 | x ::l,m,id,b,h=>by
   by_cases e:x=id
   ·subst e
    simp only[Zb1,h,ov]
    rw[ZiV l _ x {b with dead:=true} (Zae _ _ _)]
    simp only[List.mem_cons,true_or,if_true,ite_self]
   ·simp only[Zb1]
    cases hx:m x with
    | none =>
      simp only
      rw[ZiV l m id b h]
      simp only[List.mem_cons,Ne.symm e,false_or]
    | some c =>
      simp only[ov]
      rw[ZiV l _ id b ((Zad _ _ (Ne.symm e)).trans h)]
      simp only[List.mem_cons,Ne.symm e,false_or]
def idsL(I:Ids)(m:Nat):List Nat:=[I.p,I.R,I.G,I.O,I.Fr,I.F]++(List.range m).map I.A
theorem ZsH{I:Ids}{m id:Nat}:id∈idsL I m↔inD I m id:=by
 unfold idsL inD
 simp only[List.mem_append,List.mem_cons,List.not_mem_nil,or_false,List.mem_map,List.mem_range]
 constructor
 ·rintro((h|h|h|h|h|h)|⟨k,hk,rfl⟩)
  ·exact .inl h
  ·exact .inr (.inl h)
  ·exact .inr (.inr (.inl h))
  ·exact .inr (.inr (.inr (.inl h)))
  ·exact .inr (.inr (.inr (.inr (.inl h))))
  ·exact .inr (.inr (.inr (.inr (.inr (.inl h)))))
  ·exact .inr (.inr (.inr (.inr (.inr (.inr ⟨k,hk,rfl⟩)))))
 ·rintro(h|h|h|h|h|h|⟨k,hk,rfl⟩)
  ·exact .inl (.inl h)
  ·exact .inl (.inr (.inl h))
  ·exact .inl (.inr (.inr (.inl h)))
  ·exact .inl (.inr (.inr (.inr (.inl h))))
  ·exact .inl (.inr (.inr (.inr (.inr (.inl h)))))
  ·exact .inl (.inr (.inr (.inr (.inr (.inr h)))))
  ·exact .inr ⟨k,hk,rfl⟩
theorem ZEs{m M:Mem}{I:Ids}{d:Dic}{src:Nat→Nat×Bool}(h:DicAt m I d src)(hd:∀ id,inD I d.m id→∀ b,m id=some b→M id=some {b with dead:=true}):fzT false M 7 (.lp I.p 0 0 0)=ZcH d src:=by
 have hp:=hd _ (.inl rfl) _ h.hp
 have hR:=hd _ (.inr (.inl rfl)) _ h.hR
 have hG:=hd _ (.inr (.inr (.inl rfl))) _ h.hG
 have hO:=hd _ (.inr (.inr (.inr (.inl rfl)))) _ h.hO
 have hFr:=hd _ (.inr (.inr (.inr (.inr (.inl rfl))))) _ h.hFr
 have hF:=hd _ (.inr (.inr (.inr (.inr (.inr (.inl rfl)))))) _ h.hF
 have hA:=fun k hk=>hd _ (.inr (.inr (.inr (.inr (.inr (.inr ⟨k,hk,rfl⟩)))))) _ (h.hA k hk)
 have er:(Zjw I d.m d.v).map (List.map (fzT false M 5))=ZyY d:=by
  unfold Zjw ZyY tabL
  rw[List.map_map]
  refine List.map_congr_left fun k hk=>?_
  have hk:=List.mem_range.1 hk
  simp only[Function.comp,List.map_append,List.map_cons,List.map_nil,fzT,ZbU,hA k hk,if_pos,Bool.false_or,Zi1]
 have eo:(tabL d.m fun i=>[dI (d.own i:Int)]).map (List.map (fzT false M 5))=tabL d.m fun i=>[dI (d.own i:Int)]:=by
  unfold tabL;rw[List.map_map];exact List.map_congr_left fun u _=>rfl
 have ef:(tabL d.n fun i=>[dI (d.free i:Int)]).map (List.map (fzT false M 5))=tabL d.n fun i=>[dI (d.free i:Int)]:=by
  unfold tabL;rw[List.map_map];exact List.map_congr_left fun u _=>rfl
 have es:(tabL d.m fun i=>[dI ((src i).1:Int),dB (src i).2]).map (List.map (fzT false M 5))=tabL d.m fun i=>[dI ((src i).1:Int),dB (src i).2]:=by
  unfold tabL;rw[List.map_map];exact List.map_congr_left fun u _=>rfl
 simp only[fzT,ZbU,hp,hR,hG,hO,hFr,hF,if_pos,Bool.false_or,List.map_cons,List.map_nil,Zi1,er,eo,ef,es]
theorem ZeD[Ifl]{s:St}{I:Ids}{d:Dic}{src:Nat→Nat×Bool}(h:DicAt s.m I d src)(k:Nat)(hk:s.t k = .lp I.p 0 0 0)(l:List (Nat×D))(M:Mem)(n':Nat)(hM:∀ id b,M id=some b→s.m id=some b∧id<n'∧¬ inD I d.m id)
 (hc:∀ id b,M id=some b→Zap (fun i=>(M i).isSome) b) (ht:∀ p∈l,p.1≠k∧s.t p.1=p.2∧okD (fun i=>(M i).isSome) p.2=true) (hlo:s.lo=0):StLe s ⟨tabT ((k,ZcH d src) ::l),M,n',0⟩:=by
 refine(ZzO (idsL I d.m)).trans ?_
 refine(Zn6 k 7).trans ?_
 have e:fzT false (ov s.m (Zb1 (idsL I d.m) s.m)) 7 (s.t k)=ZcH d src:=by
  rw[hk]
  exact ZEs h fun id hi b hb=>by rw[ZiV _ _ _ _ hb,if_pos (ZsH.2 hi)]
 rw[← hlo]
 refine ZEk _ M n' ⟨fun id b hb=>?_,hc⟩ (fun p hp=>?_) (fun p hp=>?_) (fun id hi=>?_)
 ·obtain⟨h1,h2,h3⟩:=hM id b hb
  refine⟨?_,h2⟩
  show ov s.m (Zb1 (idsL I d.m) s.m) id=some b
  rw[ZiV _ _ _ _ h1,if_neg fun h4=>h3 (ZsH.1 h4)]
 ·rcases List.mem_cons.1 hp with rfl|hp
  ·exact(Zae _ _ _).trans e
  ·exact(Zad _ _ (ht p hp).1).trans (ht p hp).2.1
 ·rcases List.mem_cons.1 hp with rfl|hp
  ·rfl
  ·exact(ht p hp).2.2
 ·have:id<0:=hlo▸hi
  omega
def Zaj(n:Nat)(c:Nat→Rat):List FracD:=(List.range n).map fun u=>ofQ (c u)
theorem Zs4(n:Nat)(c:Nat→Rat):(Zaj n c).map cF=ratL n c:=by unfold Zaj ratL tabL;rw[List.map_map];rfl
theorem Zdl(n:Nat)(c:Nat→Rat):D.sl (ratL n c)=ZaQ (Zaj n c):=by show _=D.sl ((Zaj n c).map cF);rw[Zs4]
theorem ZeH(n:Nat)(c:Nat→Rat):(Zaj n c).length=n:=by simp[Zaj]
theorem Zi2{n:Nat}{c:Nat→Rat}{f:FracD}(h:f∈Zaj n c):∃ u,u<n∧f=ofQ (c u):=by
 obtain⟨u,hu,rfl⟩:=List.mem_map.1 h
 exact⟨u,List.mem_range.1 hu,rfl⟩
theorem Zcn(n:Nat)(c:Nat→Rat):okP (Zaj n c)=true:=by
 refine Ya6.2 fun f hf=>?_
 obtain⟨u,_,rfl⟩:=Zi2 hf
 exact Zbw _
noncomputable def fin (s:SysD) (goal:List TermD):Dic:=Zfz (Za1 s goal).1
abbrev ZbE(s:SysD)(goal:List TermD):Nat→Nat×Bool:=(Za1 s goal).2
noncomputable def ZaH (s:SysD) (goal:List TermD):OptD:=match next (fin s goal)with
 | .best=>⟨0,(ZbX goal (Zaj s.n.toNat (Za4 (fin s goal) (fin s goal).m))).1,Zaj s.n.toNat (Za4 (fin s goal) (fin s goal).m),Zaj s.r.length (Zbk (fin s goal) (ZbE s goal) s.n.toNat),[]⟩
 | .row r=>⟨1,zF,[],Zaj s.r.length (refK (fin s goal) (ZbE s goal) r s.n.toNat),[]⟩
 | .col c=>match next (fin s [])with
   | .row r=>⟨1,zF,[],Zaj s.r.length (refK (fin s []) (ZbE s []) r s.n.toNat),[]⟩
   | _=>⟨2,zF,Zaj s.n.toNat (Za4 (fin s []) (fin s []).m),[],Zaj s.n.toNat (rayK (fin s goal) c (fin s goal).m)⟩
 | .ex _ _=>⟨0,zF,[],[],[]⟩
noncomputable def ZbV (s:SysD) (goal:List TermD):OptD×Int:=if Zax s&&Zah goal s.n then(ZaH s goal,0)else(⟨0,zF,[],[],[]⟩,1)
structure Fit (s:SysD) (goal:List TermD) (B:Nat:=2) (T:Nat:=6):Prop where
 l:s.r.length≤32
 n:Zax s=true→s.n≤16
 t:Zax s=true→s.n≤T∨(ZbO (fun _=>0) s s.r.length).1.m≤T
 w:∀ w∈s.r,w.t.length≤64∧szF w.v≤B∧∀ t∈w.t,szF t.f≤B
 g:goal.length≤16∧∀ t∈goal,szF t.f≤B
 b:1≤B
 gl:Dic.grow B T+B+1≤262144
theorem ZlK(B:Nat):∀ t,B≤Dic.grow B t
 | 0=>Ya4 _
 | t+1=>by have:=ZlK B t;simp only[Dic.grow];omega
section
variable {s:SysD} {goal:List TermD} {B T:Nat}
theorem Fit.tn(h:Fit s goal B T):tnS s:=⟨by have:=h.l;omega,fun w hw=>⟨⟨by have:=(h.w w hw).1;omega,fun t ht=>by have:=(h.w w hw).2.2 t ht;have:=h.gl;unfold tnF;omega⟩,by have:=(h.w w hw).2.1;have:=h.gl;unfold tnF;omega⟩⟩
theorem Fit.gt(h:Fit s goal B T):tnT goal:=⟨by have:=h.g.1;omega,fun t ht=>by have:=h.g.2 t ht;have:=h.gl;unfold tnF;omega⟩
theorem Fit.nil(h:Fit s goal B T):Fit s [] B T:=⟨h.l,h.n,h.t,h.w,⟨by simp,fun t ht=>by cases ht⟩,h.b,h.gl⟩
end
theorem Zhh(P:Dic×(Nat→Nat×Bool)→Prop)(g:Nat→Rat)(s:SysD)(h0:P (dicZ s.n.toNat g,fun _=>(0,false)))(h:∀ x k w b,P x→s.r[k]? =some w→P (addP w k b x)):∀ k,P (ZbO g s k)
 | 0=>h0
 | k+1=>by
   have ih:=Zhh P g s h0 h k
   simp only[ZbO]
   split
   ·rename_i w hw
    unfold putP
    simp only
    split<;>split
    ·exact ih
    ·exact h _ _ _ _ ih hw
    ·exact h _ _ _ _ ih hw
    ·exact h _ _ _ _ (h _ _ _ _ ih hw) hw
   ·exact ih
theorem Zbd(s:SysD)(goal:List TermD):(Za1 s goal).1.First:=by
 refine⟨?_,fun j _=>by unfold Za1;rw[Zhi]⟩
 refine Zhh (fun x=>∀ i,i<x.1.m→x.1.own i=x.1.n+i) _ s (fun i hi=>absurd hi (Nat.not_lt_zero _)) (fun x k w b ih _ i hi=>?_) s.r.length
 simp only[addP,ZeR]at hi ⊢
 by_cases e:i=x.1.m
 ·rw[if_pos e,e]
 ·rw[if_neg e];exact ih i (by omega)
theorem ZgA(s:SysD)(goal:List TermD):∀ i,i<(Za1 s goal).1.m→((Za1 s goal).2 i).1<s.r.length:=by
 refine Zhh (fun x=>∀ i,i<x.1.m→(x.2 i).1<s.r.length) _ s (fun i hi=>absurd hi (Nat.not_lt_zero _)) (fun x k w b ih hw i hi=>?_) s.r.length
 simp only[addP,ZeR]at hi ⊢
 by_cases e:i=x.1.m
 ·rw[if_pos e];exact(Ya3.1 hw).1
 ·rw[if_neg e];exact ih i (by omega)
theorem ZdZ(s:SysD)(goal:List TermD):(Za1 s goal).1.n=s.n.toNat:=Zls _ _ _
theorem ZnJ(s:SysD)(goal:List TermD):(Za1 s goal).1.m=(ZbO (fun _=>0) s s.r.length).1.m:=by rw[Zst];rfl
theorem ZnI(s:SysD)(goal:List TermD):(Za1 s goal).1.m≤2*s.r.length:=ZnH _ _ _
theorem Zx0{l:List TermD}{n:Int}(h:Zah l n=true){B:Nat}(hB:1≤B)(hs:∀ t∈l,szF t.f≤B)(u:Nat):szQ (Za5 l u)≤B:=by
 by_cases he:∃ t∈l,t.v.toNat=u
 ·obtain⟨t,ht,rfl⟩:=he
  obtain⟨i,hi⟩:=List.getElem?_of_mem ht
  obtain⟨h0,h1,h2,h3⟩:=Za7 h ht
  rw[Zry h hi h0,Zch h2];exact hs t ht
 ·have h0:∀ k,k≤l.length→Za5 (l.take k) u=0:=by
   intro k
   induction k with
   | zero=>intro _;simp only[List.take_zero,Za5,dotS]
   | succ k ih =>
     intro hk
     obtain⟨t,ht⟩:=getE (l:=l) (k:=k) (by omega)
     have ht0:=(Za7 h (ZaI ht)).1
     rw[ZfF ht ht0,ih (by omega),if_neg (fun e=>he ⟨t,ZaI ht,e.symm⟩)];grind
  have:=h0 l.length (Ya4 _)
  rw[List.take_length]at this
  rw[this];have:=sz_0;omega
theorem ZfW{s:SysD}{goal:List TermD}{B T:Nat}(h:Fit s goal B T)(hr:Zax s=true)(hg:Zah goal s.n=true):(Za1 s goal).1.Sized szQ B:=by
 have hB:=h.b
 have key:(∀ i,i<(Za1 s goal).1.m→szQ ((Za1 s goal).1.v i)≤B)∧∀ i j,i<(Za1 s goal).1.m→szQ ((Za1 s goal).1.a i j)≤B:=by
  refine Zhh (fun x=>(∀ i,i<x.1.m→szQ (x.1.v i)≤B)∧∀ i j,i<x.1.m→szQ (x.1.a i j)≤B) _ s ⟨fun i hi=>absurd hi (Nat.not_lt_zero _),fun i j hi=>absurd hi (Nat.not_lt_zero _)⟩ (fun x k w b ih hw=>?_) s.r.length
  have hm:=ZaI hw
  have h1:=ZcB hr hm
  have h2:=h.w w hm
  refine⟨fun i hi=>?_,fun i j hi=>?_⟩
  ·simp only[addP,ZeR]at hi ⊢
   by_cases e:i=x.1.m
   ·rw[if_pos e]
    have:szQ (qOf w.v)≤B:=by rw[Zch h1.2.2.2];exact h2.2.1
    unfold sgQ';split
    ·rw[Zde];exact this
    ·exact this
   ·rw[if_neg e];exact ih.1 i (by omega)
  ·simp only[addP,ZeR]at hi ⊢
   by_cases e:i=x.1.m
   ·rw[if_pos e]
    have:=Zx0 h1.1 (B:=B) hB h2.2.2 j
    unfold sgQ';split
    ·rw[Zde];exact this
    ·exact this
   ·rw[if_neg e];exact ih.2 i j (by omega)
 refine⟨key.1,fun i j hi _=>key.2 i j hi,fun j _=>?_⟩
 unfold Za1
 rw[ZiK]
 rw[Zde]
 exact Zx0 hg hB h.g.2 j
theorem Zd2(s:SysD)(goal:List TermD):(fin s goal).m=(Za1 s goal).1.m:=(Zho (Zbd s goal).part).m.symm
theorem ZcO(s:SysD)(goal:List TermD):(fin s goal).n=s.n.toNat:=(Zho (Zbd s goal).part).n.symm.trans (ZdZ s goal)
theorem Zco(s:SysD)(goal:List TermD):(fin s goal).Part:=ZuG (Zbd s goal).part
theorem ZfA(s:SysD)(goal:List TermD):ZhI (fin s goal):=Zil (Zbd s goal).part
theorem ZcV{s:SysD}{goal:List TermD}{B T:Nat}(h:Fit s goal B T)(hr:Zax s=true)(hg:Zah goal s.n=true):(fin s goal).Sized szQ (Dic.grow B T):=by
 have h0:=Zb9 hr
 exact Dic.small szFn (Zbd s goal) h.b (ZfW h hr hg) (Zco s goal) (Zho (Zbd s goal).part) (t:=T) (by
  rw[ZcO,Zd2,ZnJ]
  rcases h.t hr with h1|h1
  ·exact .inl (by omega)
  ·exact .inr h1)
theorem Zhf{s:SysD}{goal:List TermD}{B T:Nat}(h:Fit s goal B T)(hr:Zax s=true)(hg:Zah goal s.n=true):∀ i,i≤(fin s goal).m→∀ u,szQ (Za4 (fin s goal) i u)≤Dic.grow B T
 | 0,_,u=>by have:=sz_0;have:=h.b;have:=ZlK B T;simp only[Za4];omega
 | i+1,hi,u=>by
   simp only[Za4]
   split
   ·exact(ZcV h hr hg).v i (by omega)
   ·exact Zhf h hr hg i (by omega) u
theorem ZAK{s:SysD}{goal:List TermD}{B T:Nat}(h:Fit s goal B T)(hr:Zax s=true)(hg:Zah goal s.n=true){c:Nat}(hc:c<(fin s goal).n):∀ i,i≤(fin s goal).m→∀ u,szQ (rayK (fin s goal) c i u)≤Dic.grow B T
 | 0,_,u=>by
   have:=h.b
   have:=ZlK B T
   have h0:=sz_0
   have h1:=sz_1
   simp only[rayK]
   split<;>omega
 | i+1,hi,u=>by
   simp only[rayK]
   split
   ·rw[Zde];exact(ZcV h hr hg).a i c (by omega) hc
   ·exact ZAK h hr hg hc i (by omega) u
theorem ZfN{n:Nat}{c:Nat→Rat}(hn:n≤64)(h:∀ u,szQ (c u)≤262144):tnFs (Zaj n c):=by
 refine⟨by rw[ZeH];omega,fun f hf=>?_⟩
 obtain⟨u,_,rfl⟩:=Zi2 hf
 have:=h u
 unfold szQ at this
 unfold tnF;omega
end Go.Proofs.YtjeaacindikplaaGreat
