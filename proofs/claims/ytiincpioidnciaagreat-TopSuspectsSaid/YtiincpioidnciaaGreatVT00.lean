/-
  What an argument's reading tells, for whatever type of ints, bools, strings, slices and structs: it shows data of the type's shape.
-/
import Derived.Test.YtiincpioidnciaaGreatVLib
import Derived.Test.YtiincpioidnciaaGreatVConv
import Derived.Test.YtiincpioidnciaaGreatRows
import Derived.ProofKit
import Derived.OpenShut
import Derived.ChangeOld
import Derived.Lib.SmallJoins
import Derived.Deep.Slices
import Derived.Test.YtiincpioidnciaaGreatVRefB
import Derived.Test.YtiincpioidnciaaGreatVRefA
namespace Go.Proofs.YtiincpioidnciaaGreat
set_option linter.unusedVariables false
set_option linter.unusedSimpArgs false
set_option linter.unusedSectionVars false
open Go.RowKit Go.ChangeShapes Go.WideShapes Go.ChangeAt
section
variable {H:Type} {enc:TypeId×Value→H} {P:Program} {w:World} {base:Nat} {spare:Nat→Bool} {held:Bool}
end
open Go Go.RowKit
section ifl
variable [Ifl]
section
variable {β β':Bet} {m m':Mem} {S S':Nat→Nat→Prop} {w:World} {keep:Nat→Bool}
mutual
theorem Zcr(hm:∀ id,keep id=true→m' id=m id∧β' id=β id)(hs:Zac S w S' w):∀ (d:D)(x:Value),okD keep d=true→Rep β m S w x d→Rep β' m' S' w x d
 | .v y,x,_,h=>by rw[h.inv_v];exact .v _
 | .nil,x,_,h=>by rw[h.inv_nil];exact .nil
 | .agg l,x,ho,h=>by
   obtain⟨vs,rfl,h1,h2⟩:=h.inv_agg
   exact(Zbf hm hs l vs (by simpa[okD]using ho) ⟨h1,h2⟩).rep_agg
 | .tup l,x,ho,h=>by
   obtain⟨vs,rfl,h1,h2⟩:=h.inv_tup
   exact(Zbf hm hs l vs (by simpa[okD]using ho) ⟨h1,h2⟩).rep_tup
 | .sl es,x,_,h=>(h.sl_no.mono (Zah.refl _ _ _) hs).lift
 | .cl es,x,_,h=>by obtain⟨a,rfl,h1⟩:=h.inv_cl;exact .cl a es (h1.mono (Zah.refl _ _ _) hs)
 | .ep es i o,x,_,h=>(h.ep_no.mono (Zah.refl _ _ _) hs).lift
 | .ls id ver,x,ho,h=>by
   obtain⟨a,n,cap,blk,rfl,h1,h2,hx,h3⟩:=h.inv_lsx
   have hk:=hm id (by simpa[okD]using ho)
   exact .ls a n cap id ver blk (hk.1.trans h1) h2 hx (fun e=>by rw[hk.2];exact h3 e)
 | .lp id ver i o,x,ho,h=>by
   obtain⟨b,p,blk,rfl,h1,h2,h3⟩:=h.inv_lp
   have hk:=hm id (by simpa[okD]using ho)
   exact .lp b p id ver i o blk (hk.1.trans h1) h2 (fun e=>by rw[hk.2];exact h3 e)
 | .clo f l,x,ho,h=>by
   obtain⟨vs,rfl,h1,h2⟩:=h.inv_clo
   have:=Zbf hm hs l vs (by simpa[okD]using ho) ⟨h1,h2⟩
   exact .clo f vs l this.1 this.2
 | .junk,x,_,_=>.junk _
theorem Zbf(hm:∀ id,keep id=true→m' id=m id∧β' id=β id)(hs:Zac S w S' w):∀ (l:List D)(vs:List Value),okDs keep l=true→Reps β m S w vs l→Reps β' m' S' w vs l
 | [],vs,_,h=>by
   obtain rfl:vs=[]:=Ya9 h.1
   exact Reps.nil
 | d ::l,vs,ho,h=>by
   simp only[okDs,Ya2]at ho
   match vs,h with
   | [],h=>exact absurd h.1 (by simp)
   | v ::vs,h =>
     exact Reps.cons (Zcr hm hs d v ho.1 (h.2 0 v d rfl rfl)) (Zbf hm hs l vs ho.2 ⟨by simpa using h.1,fun i y e hy he=>h.2 (i+1) y e (by simpa using hy) (by simpa using he)⟩)
end
end
theorem Rep.names{β:Bet}{m:Mem}{S:Nat→Nat→Prop}{w:World}{x:Value}{d:D}(h:Rep β m S w x d):okD (fun i=>(m i).isSome) d=true:=by
 have lists:∀ {m:Mem} {l:List D} {vs:List Value},vs.length=l.length→(∀ (i:Nat)(x:Value)(d:D),vs[i]? =some x→l[i]? =some d→okD (fun i=>(m i).isSome) d=true)→okDs (fun i=>(m i).isSome) l=true:=by
  intro m l
  induction l with
  | nil=>intro _ _ _;rfl
  | cons d l ih =>
    intro vs hl h
    match vs,hl with
    | v ::vs,hl =>
      simp only[okDs,Ya2]
      exact⟨h 0 v d rfl rfl,ih (by simpa using hl) fun i x e hx he=>h (i+1) x e (by simpa using hx) (by simpa using he)⟩
 induction h with
 | agg vs l hl _ ih=>simp only[okD];exact lists hl ih
 | tup vs l hl _ ih=>simp only[okD];exact lists hl ih
 | clo f vs l hl _ ih=>simp only[okD];exact lists hl ih
 | ls a n cap id ver blk hm _ _ _=>simp only[okD,hm];rfl
 | lp b p id ver i o blk hm _ _=>simp only[okD,hm];rfl
 | _=>rfl
structure SubM (m' m:Mem) (n':Nat):Prop where
 sub:∀ id b,m' id=some b→m id=some b∧id<n'
 cl:∀ id b,m' id=some b→Zb0 (fun i=>(m' i).isSome) b
section
variable {E:Env} {β:Bet} {m m':Mem} {nx n':Nat} {w:World}
theorem SubM.safe(h:SubM m' m n'):Zac (safe E β m) w (Go.Proofs.YtiincpioidnciaaGreat.safe E β m') w :=
 fun b o u h1 h2=>⟨⟨h1.1,fun id blk h3 h4=>h1.2 id blk (h.sub id blk h3).1 h4⟩,h2⟩
theorem SubM.keep(h:SubM m' m n'):∀ id,(m' id).isSome=true→m' id=m id:=by
 intro id hid
 cases hm:m' id with
 | none=>rw[hm]at hid;cases hid
 | some b=>rw[(h.sub id b hm).1]
theorem SubM.mem(h:SubM m' m n')(hM:Zag E β m nx w):Zag E β m' n' w:=by
 refine⟨hM.below,fun id b hb=>(h.sub id b hb).2,fun id b hb=>hM.fz id b (h.sub id b hb).1,fun id b hb=>hM.wid id b (h.sub id b hb).1,fun id b hb=>hM.non id b (h.sub id b hb).1,?_,?_⟩
 ·intro id b c hb hc
  obtain⟨h3,cs',h4,h5,h6⟩:=hM.row id b c (h.sub id b hb).1 hc
  refine⟨h3,cs',h4,h5,fun i j d hd=>?_⟩
  obtain⟨u,h7,h8⟩:=h6 i j d hd
  obtain⟨e,he,hj⟩:=Zaf.1 hd
  exact⟨u,h7,ZcF h.keep h.safe d u (ZbZ (h.cl id b hb e (Ya7 he)) d (Ya7 hj)) h8⟩
 ·intro x1 x2 y1 y2 c h1 h2 h3 h4
  exact hM.inj x1 x2 y1 y2 c (h.sub _ _ h1).1 (h.sub _ _ h2).1 h3 h4
end
theorem le_sub{s:St}(l:List (Nat×D))(m':Mem)(n':Nat)(h:SubM m' s.m n')(ht:∀ p∈l,s.t p.1=p.2)(hok:∀ p∈l,okD (fun i=>(m' i).isSome) p.2=true)(hlo:∀ id,id<s.lo→m' id=s.m id):StLe s ⟨tabT l,m',n',s.lo⟩:=by
 intro E B nn β a w hr
 refine⟨β,h.mem hr.mem,fun k hk=>?_,hr.width,hr.defers,⟨fun id x hx=>?_,hr.le.cap⟩,hr.sle.trans h.safe,hr.lo⟩
 ·rcases ZbV l k with h1|⟨d,h1,h2⟩
  ·simp only[h1];exact .junk _
  ·simp only[h2]
   have:=hr.tmp k hk
   rw[ht _ h1]at this
   exact ZcF h.keep h.safe d _ (hok _ h1) this
 ·obtain⟨y,h1,h2,h3⟩:=hr.le.blk id x hx
  exact⟨y,(hlo id (hr.lo id x hx)).trans h1,h2,h3⟩
theorem Zaj.sub{P:Program}{f:FuncId}{ds:List D}{m:Mem}{nx:Nat}{K:D→Mem→Nat→Prop}
 (h:Zaj P f ds m nx fun d m' nx'=>∃ M N,SubM M m' N∧okD (fun i=>(M i).isSome) d=true∧(∀ id,(m id).isSome=true→M id=m' id)∧K d M N):Zaj P f ds m nx K:=by
 refine⟨h.1,fun E β w vs hM hvs=>(h.2 E β w vs hM hvs).mono ?_⟩
 rintro e w' ⟨v,d,m',nx',rfl,⟨β',h1,h2,h3,h4⟩,M,N,h5,h6,h7,hK⟩
 refine⟨v,d,M,N,rfl,⟨β',h5.mem h1,⟨fun id x hx=>?_,h2.cap⟩,h3.trans h5.safe,ZcF h5.keep h5.safe d v h6 h4⟩,hK⟩
 obtain⟨y,h8,h9⟩:=h2.blk id x hx
 exact⟨y,(h7 id (by rw[hx];rfl)).trans h8,h9⟩
theorem ZaX.rename{E:Env}{β:Bet}{m:Mem}{NX NY:Nat}{w w':World}{v:Value}{x y ver:Nat}{blk:Blk}(h:ZaX E β m NY w (upd m y (some blk)) v (.ls y ver) w')(hM:Zag E β m NX w)(hy:m y=none)(hx:m x=none)(hxN:x<NX)
 (hb:Zb0 (fun _=>false) blk):ZaX E β m NX w (upd m x (some blk)) v (.ls x ver) w':=by
 obtain⟨β',h1,h2,h3,h4⟩:=h
 have hne:∀ id b,m id=some b→id≠y∧id≠x:=fun id b hi=>⟨fun e=>(by subst e;rw[hi]at hy;cases hy),fun e=>(by subst e;rw[hi]at hx;cases hx)⟩
 have hold:∀ id b,m id=some b→upd m y (some blk) id=some b:=fun id b hi=>by rw[Zab _ _ (hne id b hi).1];exact hi
 have hB:∀ id b,m id=some b→upd β' x (β' y) id=β' id:=fun id b hi=>Zab _ _ (hne id b hi).2
 have hcase:∀ id b,upd m x (some blk) id=some b→(id=x∧b=blk)∨m id=some b:=fun id b hi=>by
  by_cases e:id=x
  ·subst e;rw[Zaa]at hi;cases hi;exact .inl ⟨rfl,rfl⟩
  ·rw[Zab _ _ e]at hi;exact .inr hi
 have hyb:=Zaa m y (some blk)
 have hs:Zac (safe E β' (upd m y (some blk))) w' (safe E (upd β' x (β' y)) (upd m x (some blk))) w':=by
  intro c o u g1 g2
  refine⟨⟨g1.1,fun id b g3 g4=>?_⟩,g2⟩
  rcases hcase id b g3 with⟨rfl,rfl⟩|g5
  ·rw[Zaa]at g4;exact g1.2 y _ hyb g4
  ·rw[hB id b g5]at g4;exact g1.2 id b (hold id b g5) g4
 have hml:Zah β m w (upd β' x (β' y)) (upd m x (some blk)) w':=by
  refine⟨fun id b hi=>?_,h2.cap⟩
  obtain⟨z,g1,g2,g3⟩:=h2.blk id b hi
  rw[hold id b hi]at g1;cases g1
  exact⟨b,by rw[Zab _ _ (hne id b hi).2];exact hi,Ya4 _,fun _=>⟨rfl,rfl,by rw[hB id b hi];exact(g3 rfl).2.2⟩⟩
 refine⟨upd β' x (β' y),⟨h1.below,?_,?_,?_,?_,?_,?_⟩,hml,h3.trans hs,?_⟩
 ·intro id b hi
  rcases hcase id b hi with⟨rfl,rfl⟩|hi
  ·exact hxN
  ·exact hM.lt id b hi
 ·intro id b hi
  rcases hcase id b hi with⟨rfl,rfl⟩|hi
  ·exact h1.fz y _ hyb
  ·exact h1.fz id b (hold id b hi)
 ·intro id b hi
  rcases hcase id b hi with⟨rfl,rfl⟩|hi
  ·exact h1.wid y _ hyb
  ·exact h1.wid id b (hold id b hi)
 ·intro id b hi hn
  rcases hcase id b hi with⟨rfl,rfl⟩|hi
  ·rw[Zaa]at hn;exact h1.non y _ hyb hn
  ·rw[hB id b hi]at hn;exact h1.non id b (hold id b hi) hn
 ·intro id b c hi hc
  rcases hcase id b hi with⟨rfl,rfl⟩|hi
  ·rw[Zaa]at hc
   obtain⟨g1,cs,g2,g3,g4⟩:=h1.row y _ c hyb hc
   refine⟨g1,cs,g2,g3,fun i j d hd=>?_⟩
   obtain⟨u,g5,g6⟩:=g4 i j d hd
   obtain⟨e,he,hj⟩:=Zaf.1 hd
   exact⟨u,g5,Zcr (keep:=fun _=>false) (fun _ h=>by cases h) hs d u (ZbZ (hb e (Ya7 he)) d (Ya7 hj)) g6⟩
  ·rw[hB id b hi]at hc
   obtain⟨g1,cs,g2,g3,g4⟩:=h1.row id b c (hold id b hi) hc
   refine⟨g1,cs,g2,g3,fun i j d hd=>?_⟩
   obtain⟨u,g5,g6⟩:=g4 i j d hd
   refine⟨u,g5,Zcr (keep:=fun i=>(m i).isSome) (fun k hk=>?_) hs d u ?_ g6⟩
   ·cases hmk:m k with
    | none=>rw[hmk]at hk;cases hk
    | some z=>exact⟨by rw[hold k z hmk,Zab _ _ (hne k z hmk).2,hmk],hB k z hmk⟩
   ·cases hbt:β id with
    | none =>
      obtain⟨e,he,_⟩:=Zaf.1 hd
      rw[hM.non id b hi hbt]at he;simp at he
    | some c0 =>
      obtain⟨_,cs0,_,_,g7⟩:=hM.row id b c0 hi hbt
      obtain⟨u0,_,g8⟩:=g7 i j d hd
      exact g8.names
 ·intro x1 x2 y1 y2 c g1 g2 g3 g4
  rcases hcase x1 y1 g1 with⟨rfl,rfl⟩|g5<;>rcases hcase x2 y2 g2 with⟨rfl,rfl⟩|g6
  ·rfl
  ·rw[Zaa]at g3
   rw[hB x2 y2 g6]at g4
   exact absurd (h1.inj y x2 _ _ c hyb (hold x2 y2 g6) g3 g4) (fun e=>(hne x2 y2 g6).1 e.symm)
  ·rw[Zaa]at g4
   rw[hB x1 y1 g5]at g3
   exact absurd (h1.inj x1 y _ _ c (hold x1 y1 g5) hyb g3 g4) (hne x1 y1 g5).1
  ·rw[hB x1 y1 g5]at g3
   rw[hB x2 y2 g6]at g4
   exact h1.inj x1 x2 _ _ c (hold x1 y1 g5) (hold x2 y2 g6) g3 g4
 ·obtain⟨a,n,cap,b,rfl,g1,g2,gx,g3⟩:=h4.inv_lsx
  rw[hyb]at g1;cases g1
  exact .ls a n cap x ver blk (Zaa _ _ _) g2 gx (fun e=>by
   obtain⟨q1,q2,q3,q4⟩:=g3 e
   refine⟨q1,q2,q3,?_⟩
   rw[Zaa];exact q4)
theorem EffC.made{P:Program}{f:FuncId}{ds:List D}{m:Mem}{nx ver:Nat}{blk:Blk}(hm:m nx=none)(hb:Zb0 (fun _=>false) blk)
 (h:∀ (m1:Mem)(NX:Nat),Zaj P f ds m1 NX fun d m' nx'=>d = .ls NX ver∧m'=upd m1 NX (some blk)∧nx'=NX+1):EffC P f ds m nx ⟨.ls nx ver,[nx],[(nx,blk)],false⟩ (nx+1):=by
 refine⟨(h noM 0).1,rfl,Nat.le_succ _,fun p hp=>?_,fun E β m1 NX w vs hN hM ht hvs=>?_⟩
 ·simp only[List.mem_singleton]at hp;subst hp;exact⟨by simp,Nat.lt_succ_self _⟩
 ·refine((h m1 NX).2 E β w vs hM hvs).mono ?_
  rintro e w' ⟨v,d,m',nx',rfl,ha,rfl,rfl,rfl⟩
  exact⟨v,rfl,ha.rename hM hM.none ((ht nx (by simp)).trans hm) (by omega) hb⟩
end ifl
set_option maxRecDepth 100000
set_option maxHeartbeats 8000000
section
variable {f:FuncId} {P:Program}
end
set_option maxHeartbeats 2000000
structure Zae where
 v:Int
 f:Zad
structure RowD where
 t:List Zae
 k:Int
 v:Zad
structure SysD where
 n:Int
 r:List RowD
abbrev cT(t:Zae):List D:=[dI t.v,dI t.f.p.s,ZaN t.f.p.d,dI t.f.q.s,ZaN t.f.q.d]
abbrev encTs(l:List Zae):D:=.sl (l.map cT)
abbrev cW(w:RowD):List D:=[encTs w.t,dI w.k,dI w.v.p.s,ZaN w.v.p.d,dI w.v.q.s,ZaN w.v.q.d]
def smF(f:Zad):Prop:=(szF f:Int)≤4194304
def smT(l:List Zae):Prop:=(l.length:Int)≤4096∧∀ t∈l,smF t.f
def smW(w:RowD):Prop:=smT w.t∧smF w.v
def smS(s:SysD):Prop:=(s.r.length:Int)≤4096∧∀ w∈s.r,smW w
def goR(n:Int):Int→List Zae→Bool
 | _,[]=>true
 | last,t ::l=>decide (last<t.v)&&decide (t.v<n)&&(sgnD t.f !=0)&&goR n t.v l
def Zai(l:List Zae)(n:Int):Bool:=decide (0≤n)&&goR n (-1) l
theorem ZeX{α:Type}{l:List α}{k:Nat}{x:α}(h:l[k]? =some x):x∈l:=Ya7 h
set_option linter.constructorNameAsVariable false
section
variable {n:Nat} {x:List D}
end
structure ZaW where
 s:Int
 f:Int
 u:Int
 g:Int
 p:Int
 d:Int
structure RecD where
 s:Int
 d:Int
abbrev cC(c:ZaW):List D:=[dI c.s,dI c.f,dI c.u,dI c.g,dI c.p,dI c.d]
abbrev encCs(l:List ZaW):D:=.sl (l.map cC)
abbrev cRe(r:RecD):List D:=[dI r.s,dI r.d]
abbrev Zgj(l:List RecD):D:=.sl (l.map cRe)
def inB(n lo hi:Int):Bool:=decide (lo≤n)&&decide (n≤hi)
def Zf5(c:ZaW):Bool:=decide (0≤c.f)&&decide (c.f≤c.u)&&decide (c.u≤100000)&&inB c.s 0 29&&inB c.g 0 1099511627776&&inB c.p 0 1000&&inB c.d 0 10000000
def Zfz(c:ZaW)(day:Int):Bool:=Zf5 c&&decide (c.f≤day)&&decide (day≤c.u)
def ownC(c:ZaW)(s day:Int):Bool:=c.s==s&&Zfz c day
def ZfZ(l:List ZaW)(o:Option Nat)(c:ZaW):Bool:=match o with
 | none=>true
 | some b=>match l[b]? with
   | some x=>decide (c.f≥x.f)
   | none=>true
def ZeG(l:List ZaW)(s day:Int):Nat→Option Nat
 | 0=>none
 | k+1=>match l[k]? with
   | none=>ZeG l s day k
   | some c=>if ownC c s day&&ZfZ l (ZeG l s day k) c then some k else ZeG l s day k
def findC(l:List ZaW)(s day:Int):Option Nat:=ZeG l s day l.length
section
variable {l:List ZaW} {s day:Int} {k b:Nat} {c x:ZaW}
end
def hitR(s day:Int)(r:RecD):Bool:=r.s==s&&decide (r.d≤day)
def recC(l:List RecD)(s day:Int):Bool:=l.any (hitR s day)
def errQ(c:ZaW)(reading day:Int):Rat:=Rat.divInt (c.p*reading) 1000+((c.g+c.d*(day-c.f):Int):Rat)
structure IntD where
 lo:Zad
 hi:Zad
 ok:Bool
def noI:IntD:=⟨zF,zF,false⟩
def okI(r e:Rat):IntD:=⟨ofQ (maxQ (r-e) 0),ofQ (r+e),true⟩
def intD(cs:List ZaW)(rs:List RecD)(which reading day:Int):IntD :=
 match findC cs which day with
 | none=>noI
 | some b=>match cs[b]? with
   | none=>noI
   | some c=>if recC rs which day || !inB reading 0 1099511627776 then noI else okI (reading:Int) (errQ c reading day)
theorem Zdv{f:Zad}(h:okF f=false):sgnD f=0:=by simp[sgnD,h]
def ZdA(n:Int)(w:RowD):Bool:=Zai w.t n&&decide (0≤w.k)&&decide (w.k<3)&&okF w.v
def Zar(s:SysD):Bool:=decide (0≤s.n)&&decide (s.n≤1500)&&decide ((s.r.length:Int)≤6000)&&s.r.all (ZdA s.n)
def okP(x:List Zad):Bool:=x.all okF
def atP(x:List Zad)(v:Int):Rat:=qOf ((x[v.toNat]?).getD zF)
def dotD(l:List Zae)(x:List Zad):Rat:=l.foldl (fun a t=>a+qOf t.f*atP x t.v) 0
theorem ZdQ{n:Int}:∀ (l:List Zae)(last:Int),-1≤last→goR n last l=true→∀ t∈l,0≤t.v∧t.v<n∧sgnD t.f≠0
 | [],_,_,_,t,ht=>by cases ht
 | u ::l,last,h0,h,t,ht=>by
   simp only[goR,Ya2,decide_eq_true_eq,bne_iff_ne]at h
   rcases List.mem_cons.1 ht with rfl|ht
   ·exact⟨by omega,h.1.1.2,h.1.2⟩
   ·exact ZdQ l u.v (by omega) h.2 t ht
theorem ZbG{l:List Zae}{n:Int}(h:Zai l n=true){t:Zae}(ht:t∈l):0≤t.v∧t.v<n∧okF t.f=true∧qOf t.f≠0:=by
 simp only[Zai,Ya2]at h
 obtain⟨h1,h2,h3⟩:=ZdQ l (-1) (Int.le_refl _) h.2 t ht
 cases ho:okF t.f
 ·exact absurd (Zdv ho) h3
 ·refine⟨h1,h2,rfl,fun h0=>h3 ?_⟩
  simp[sgnD,ho,h0,sgQ]
def ZeF(k c:Int):Bool:=c==0||(decide (c>0)&&k==0)||(decide (c<0)&&k==1)
def Ze0(w:RowD)(x:List Zad):Bool:=ZeF w.k (sgQ (dotD w.t x-qOf w.v))
def ZdH(x:List Zad):Bool:=x.all fun f=>decide (0≤sgnD f)
def ZaM(s:SysD)(x:List Zad):Bool:=Zar s&&decide ((x.length:Int)=s.n)&&okP x&&ZdH x&&s.r.all (fun w=>Ze0 w x)
theorem Zc6{s:SysD}(h:Zar s=true){w:RowD}(hw:w∈s.r):ZdA s.n w=true:=by
 simp only[Zar,Ya2]at h
 exact Ya6.1 h.2 w hw
structure PlusX where
 a:List Zae
 b:List Zae
 o:List Zae
set_option maxHeartbeats 4000000
structure PlusI where
 i:Nat
 k:Nat
 o:List Zae
abbrev q1(n:Int):Rat:=Rat.divInt n 1
end Go.Proofs.YtiincpioidnciaaGreat
