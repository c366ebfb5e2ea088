/-
  What an argument's reading tells, for whatever type of ints, bools, strings, slices and structs: it shows data of the type's shape.
-/
import Derived.Test.YtjeaacindikplaaGreatXLib
import Derived.Test.YtjeaacindikplaaGreatXConv
import Derived.Test.YtjeaacindikplaaGreatRows
import Derived.ProofKit
import Derived.OpenShut
import Derived.ChangeOld
import Derived.Lib.SmallJoins
import Derived.Deep.Slices
import Derived.Test.YtjeaacindikplaaGreatXRefB
import Derived.Test.YtjeaacindikplaaGreatXRefA
namespace Go.Proofs.YtjeaacindikplaaGreat
set_option linter.unusedVariables false
set_option linter.unusedSimpArgs false
set_option linter.unusedSectionVars false
open Go.RowKit Go.ChangeShapes Go.WideShapes Go.ChangeAt
def ZpC(P:Program):Nat→List Field→Nat→Bool
 | at',[],tot=>at'==tot
 | at',f ::fs,tot=>f.offset==at'&&ZpC P (at'+P.cellsOf f.type) fs tot
def ZuM(P:Program):Nat→TypeId→Bool
 | 0,_=>false
 | n+1,T=>match P.underlying T with
   | some .bool=>true
   | some (.int _)=>true
   | some .string=>true
   | some (.slice e)=>decide (0<P.cellsOf e)&&ZuM P n e
   | some (.struct fs)=>ZpC P 0 fs.toList (P.cellsOf T)&&fs.toList.all (fun f=>ZuM P n f.type)
   | _=>false
def ZcU(P:Program):Nat→TypeId→List D→Prop
 | 0,_,_=>False
 | n+1,T,ds=>match P.underlying T with
   | some .bool=>∃ b,ds=[.v (.bool b)]
   | some (.int k)=>∃ x,ds=[.v (.int k x)]∧(Lit.int k x).wf=true
   | some .string=>∃ s,ds=[.v (.string s)]∧s.size≤maxLen
   | some (.slice e)=>∃ es:List (List D),ds=[.sl es]∧(es.length:Int)≤maxLen∧∀ x∈es,ZcU P n e x
   | some (.struct fs)=>fs.toList.foldr (fun f K ds=>∃ a b,ds=a++b∧ZcU P n f.type a∧K b) (fun ds=>ds=[]) ds
   | _=>False
abbrev allS:Nat→Nat→Prop:=fun _ _=>True
abbrev RepA(w:World)(v:Value)(d:D):Prop:=Rep noB noM allS w v d
abbrev ZrI(w:World)(vs:List Value)(ds:List D):Prop:=Reps noB noM allS w vs ds
theorem Zo2{w:World}{vs us:List Value}{ds es:List D}(h:ZrI w vs ds)(k:ZrI w us es):ZrI w (vs++us) (ds++es):=by
 refine⟨by rw[Yb9,Yb9,h.1,k.1],fun i x d hx hd=>?_⟩
 have hl:vs.length=ds.length:=h.1
 by_cases hi:i<vs.length
 ·rw[Yc3 hi]at hx
  rw[Yc3 (by omega)]at hd
  exact h.2 i x d hx hd
 ·rw[Yc4 (by omega)]at hx
  rw[Yc4 (by omega),← hl]at hd
  exact k.2 _ x d hx hd
theorem Zfo{w:World}{x:Value}{d:D}(h:RepA w x d):ZrI w [x] [d]:=Reps.cons h Reps.nil
section
variable {H:Type} {enc:TypeId×Value→H} {P:Program} {w:World} {base:Nat} {spare:Nat→Bool} {held:Bool}
theorem ZqE:∀ (n:Nat)(T:TypeId)(fuel:Nat)(cs:List Value)(y:DataW H×List MemPlace),ZuM P n T=true→DataW.trod enc P w base spare held fuel T cs=some y→∃ ds,ZcU P n T ds∧ZrI w cs ds:=by
 intro n
 induction n with
 | zero=>intro T fuel cs y h;cases h
 | succ n ih =>
   intro T fuel cs y hg h
   unfold ZuM at hg
   unfold ZcU
   split at hg
   ·rename_i ht
    obtain⟨b,rfl,_⟩:=DataW.trod_bool ht h
    exact⟨[.v (.bool b)],by exact⟨b,rfl⟩,Zfo (.v _)⟩
   ·rename_i k ht
    obtain⟨x,rfl,_,hw⟩:=DataW.trod_int ht h
    exact⟨[.v (.int k x)],by exact⟨x,rfl,hw⟩,Zfo (.v _)⟩
   ·rename_i ht
    obtain⟨s,rfl,_,hw⟩:=DataW.trod_string ht h
    exact⟨[.v (.string s)],by exact⟨s,rfl,hw⟩,Zfo (.v _)⟩
   ·rename_i e ht
    rw[Ya2,decide_eq_true_eq]at hg
    obtain⟨hk,hg⟩:=hg
    rcases Go.Deep.open_slice ht h with⟨rfl,_⟩|⟨ad,len,cap,m,fl,Dd,Pl,rfl,hb,hl,hm,hmm,_,hx⟩
    ·exact⟨[.sl []],by exact⟨[],rfl,by simp,fun x hx=>by cases hx⟩,Zfo (.sl0 _ _ (Yb0 _))⟩
    ·by_cases hz:len=0
     ·subst hz
      exact⟨[.sl []],by exact⟨[],rfl,by simp,fun x hx=>by cases hx⟩,Zfo (.sl0 _ _ hm)⟩
     have hmle:len≤m:=by rw[hmm];split<;>omega
     obtain⟨f,hf⟩:=Go.Deep.choose_lt (n:=len) (p:=fun i (x:List D)=>∃ cs,ZcU P n e x∧ZrI w cs x∧cs.length=P.cellsOf e∧∀ j,j<P.cellsOf e→w.cell? ((ad.add (i*P.cellsOf e)).add j)=cs[j]?) (fun i hi=>by
      obtain⟨cs,h1,h2⟩:=hx i (by omega)
      obtain⟨_,hcl,hcell⟩:=World.cells?_some h1
      obtain⟨ds,h3,h4⟩:=ih e fl cs _ hg h2
      exact⟨ds,cs,h3,h4,hcl,hcell⟩)
     obtain⟨b,off,spot⟩:=ad
     obtain⟨cs0,_,_,hl0,hc0⟩:=hf 0 (by omega)
     have hc00:=hc0 0 hk
     rw[Ya0 (by omega)]at hc00
     have hsp:spot=none:=by simpa[Addr.add]using World.cell?_spot hc00
     subst hsp
     have hadd:∀ i j,((⟨b,off,none⟩:Addr).add i).add j=⟨b,off+i+j,none⟩:=fun i j=>by
      rw[Go.Deep.add_add]
      unfold Addr.add
      split
      ·rename_i h;simp;try omega
      ·simp;try omega
     have hget:∀ (i:Nat)(x:List D),((List.range len).map f)[i]? =some x→i<len∧x=f i:=by
      intro i x hi
      obtain⟨hil,hix⟩:=Ya3.1 hi
      simp only[Yc0,List.length_range]at hil
      simp only[List.getElem_map,List.getElem_range]at hix
      exact⟨hil,hix.symm⟩
     refine⟨[.sl ((List.range len).map f)],by
      refine⟨_,rfl,by simp;omega,fun x hx=>?_⟩
      obtain⟨i,hi,rfl⟩:=Yc6.1 hx
      obtain⟨cs,h1,_⟩:=hf i (by simpa using hi)
      exact h1,Zfo ?_⟩
     have:=ZmA (β:=noB) (m:=noM) (S:=allS) (w:=w) (b:=b) (off:=off) (k:=P.cellsOf e) (cap:=cap) (es:=(List.range len).map f) ⟨fun i x hi=>?_,fun i j d hd=>?_⟩ (by simpa using hl) hm
     ·simpa using this
     ·obtain⟨hil,rfl⟩:=hget i x hi
      obtain⟨cs,_,h2,h3,_⟩:=hf i hil
      exact h2.1.symm.trans h3
     ·obtain⟨x,hx,hj⟩:=Zal.1 hd
      obtain⟨hil,rfl⟩:=hget i x hx
      obtain⟨cs,_,h2,h3,h4⟩:=hf i hil
      have hjl:j<cs.length:=by rw[h2.1];exact(Ya3.1 hj).1
      have hcj:cs[j]? =some cs[j]:=Ya0 hjl
      refine⟨cs[j],trivial,?_,h2.2 j _ d hcj hj⟩
      have:=h4 j (by omega)
      rw[hadd,hcj]at this
      exact this
   ·rename_i fs ht
    rw[Ya2,Ya6]at hg
    obtain⟨hlaid,hgood⟩:=hg
    obtain⟨xs,fl,_,_,hlen,hxs,hf⟩:=DataW.trod_struct ht h
    have key : ∀ (l : List Field) (at' : Nat), ZpC P at' l (P.cellsOf T) = true → at' ≤ cs.length → (∀ f ∈ l, ZuM P n f.type = true ∧ ∃ y, DataW.trod enc P w base spare held fl f.type ((cs.drop f.offset).take (P.cellsOf f.type)) = some y) →
        ∃ ds,l.foldr (fun f K ds=>∃ a b,ds=a++b∧ZcU P n f.type a∧K b) (fun ds=>ds=[]) ds∧ZrI w (cs.drop at') ds:=by
     intro l
     induction l with
     | nil =>
       intro at' hat hle _
       simp only[ZpC,beq_iff_eq]at hat
       refine⟨[],rfl,?_⟩
       rw[hat,← hlen,List.drop_length]
       exact Reps.nil
     | cons f l ihl =>
       intro at' hat hle hall
       simp only[ZpC,Ya2,beq_iff_eq]at hat
       obtain⟨ho,hrest⟩:=hat
       obtain⟨hgf,y,hy⟩:=hall f Yb7
       obtain⟨a,ha,hra⟩:=ih f.type fl _ y hgf hy
       rw[ho]at hra
       have htot:∀ (l:List Field)(k:Nat),ZpC P k l (P.cellsOf T)=true→k≤P.cellsOf T:=by
        intro l
        induction l with
        | nil=>intro k hk;simp only[ZpC,beq_iff_eq]at hk;omega
        | cons g l ihg=>intro k hk;simp only[ZpC,Ya2]at hk;have:=ihg _ hk.2;omega
       obtain⟨b,hb,hrb⟩:=ihl (at'+P.cellsOf f.type) hrest (by rw[hlen];exact htot l _ hrest) (fun g hg=>hall g (Yb6 _ hg))
       refine⟨a++b,⟨a,b,rfl,ha,hb⟩,?_⟩
       have:=Zo2 hra hrb
       rwa [← List.drop_drop,List.take_append_drop]at this
    obtain⟨ds,h1,h2⟩:=key fs.toList 0 hlaid (Yb0 _) (fun f hf'=>by
     obtain⟨i,hi,hfi⟩:=List.mem_iff_getElem.1 hf'
     refine⟨hgood f hf',?_⟩
     have h3:=hf i f (by rw[← Array.getElem?_toList];rw[Ya0 hi,hfi])
     have hi':i<xs.length:=by rw[hxs];simpa using hi
     exact⟨xs[i],by rw[h3,Ya0 hi']⟩)
    exact⟨ds,h1,by simpa using h2⟩
   ·cases hg
theorem ZqF{n:Nat}{T:TypeId}{fs:Array Field}{r:Reach}{b0:Nat}{v:Value}{d:DataW H}{p:List MemPlace}(ht:P.underlying T=some (.struct fs))(hg:ZuM P n T=true)
 (hv:Value.okWide P w r b0 T v) (h:DataW.Trod enc P w base spare held T v d p):∃ ds,ZcU P n T ds∧RepA w v (.agg ds):=by
 obtain⟨cs,rfl,_⟩:=okWide_struct ht hv
 obtain⟨fuel,hf⟩:=h
 obtain⟨ds,h1,h2⟩:=ZqE n T fuel _ _ hg hf
 refine⟨ds,h1,?_⟩
 have:=Reps.rep_agg h2
 simpa[Value.cells]using this
end
theorem ZmS{α:Type}{f:α→List D}:∀ {es:List (List D)},(∀ x∈es,∃ a,x=f a)→∃ l:List α,es=l.map f
 | [],_=>⟨[],rfl⟩
 | x ::es,h=>by
   obtain⟨a,ha⟩:=h x Yb7
   obtain⟨l,hl⟩:=ZmS (es:=es) fun y hy=>h y (Yb6 _ hy)
   exact⟨a ::l,by rw[ha,hl];rfl⟩
open Go Go.RowKit
section ifl
variable [Ifl]
section
variable {β β':Bet} {m m':Mem} {S S':Nat→Nat→Prop} {w:World} {keep:Nat→Bool}
mutual
theorem ZqX(hm:∀ id,keep id=true→m' id=m id∧β' id=β id)(hs:ZaA S w S' w):∀ (d:D)(x:Value),okD keep d=true→Rep β m S w x d→Rep β' m' S' w x d
 | .v y,x,_,h=>by rw[h.inv_v];exact .v _
 | .nil,x,_,h=>by rw[h.inv_nil];exact .nil
 | .agg l,x,ho,h=>by
   obtain⟨vs,rfl,h1,h2⟩:=h.inv_agg
   exact(ZkD hm hs l vs (by simpa[okD]using ho) ⟨h1,h2⟩).rep_agg
 | .tup l,x,ho,h=>by
   obtain⟨vs,rfl,h1,h2⟩:=h.inv_tup
   exact(ZkD hm hs l vs (by simpa[okD]using ho) ⟨h1,h2⟩).rep_tup
 | .sl es,x,_,h=>(h.sl_no.mono (Zbf.refl _ _ _) hs).lift
 | .cl es,x,_,h=>by obtain⟨a,rfl,h1⟩:=h.inv_cl;exact .cl a es (h1.mono (Zbf.refl _ _ _) hs)
 | .ep es i o,x,_,h=>(h.ep_no.mono (Zbf.refl _ _ _) hs).lift
 | .ls id ver,x,ho,h=>by
   obtain⟨a,n,cap,blk,rfl,h1,h2,hx,h3⟩:=h.inv_lsx
   have hk:=hm id (by simpa[okD]using ho)
   exact .ls a n cap id ver blk (hk.1.trans h1) h2 hx (fun e=>by rw[hk.2];exact h3 e)
 | .lp id ver i o,x,ho,h=>by
   obtain⟨b,p,blk,rfl,h1,h2,h3⟩:=h.inv_lp
   have hk:=hm id (by simpa[okD]using ho)
   exact .lp b p id ver i o blk (hk.1.trans h1) h2 (fun e=>by rw[hk.2];exact h3 e)
 | .clo f l,x,ho,h=>by
   obtain⟨vs,rfl,h1,h2⟩:=h.inv_clo
   have:=ZkD hm hs l vs (by simpa[okD]using ho) ⟨h1,h2⟩
   exact .clo f vs l this.1 this.2
 | .junk,x,_,_=>.junk _
theorem ZkD(hm:∀ id,keep id=true→m' id=m id∧β' id=β id)(hs:ZaA S w S' w):∀ (l:List D)(vs:List Value),okDs keep l=true→Reps β m S w vs l→Reps β' m' S' w vs l
 | [],vs,_,h=>by
   obtain rfl:vs=[]:=Ya9 h.1
   exact Reps.nil
 | d ::l,vs,ho,h=>by
   simp only[okDs,Ya2]at ho
   match vs,h with
   | [],h=>exact absurd h.1 (by simp)
   | v ::vs,h =>
     exact Reps.cons (ZqX hm hs d v ho.1 (h.2 0 v d rfl rfl)) (ZkD hm hs l vs ho.2 ⟨by simpa using h.1,fun i y e hy he=>h.2 (i+1) y e (by simpa using hy) (by simpa using he)⟩)
end
end
theorem Rep.names{β:Bet}{m:Mem}{S:Nat→Nat→Prop}{w:World}{x:Value}{d:D}(h:Rep β m S w x d):okD (fun i=>(m i).isSome) d=true:=by
 have lists:∀ {m:Mem} {l:List D} {vs:List Value},vs.length=l.length→(∀ (i:Nat)(x:Value)(d:D),vs[i]? =some x→l[i]? =some d→okD (fun i=>(m i).isSome) d=true)→okDs (fun i=>(m i).isSome) l=true:=by
  intro m l
  induction l with
  | nil=>intro _ _ _;rfl
  | cons d l ih =>
    intro vs hl h
    match vs,hl with
    | v ::vs,hl =>
      simp only[okDs,Ya2]
      exact⟨h 0 v d rfl rfl,ih (by simpa using hl) fun i x e hx he=>h (i+1) x e (by simpa using hx) (by simpa using he)⟩
 induction h with
 | agg vs l hl _ ih=>simp only[okD];exact lists hl ih
 | tup vs l hl _ ih=>simp only[okD];exact lists hl ih
 | clo f vs l hl _ ih=>simp only[okD];exact lists hl ih
 | ls a n cap id ver blk hm _ _ _=>simp only[okD,hm];rfl
 | lp b p id ver i o blk hm _ _=>simp only[okD,hm];rfl
 | _=>rfl
structure SubM (m' m:Mem) (n':Nat):Prop where
 sub:∀ id b,m' id=some b→m id=some b∧id<n'
 cl:∀ id b,m' id=some b→Zav (fun i=>(m' i).isSome) b
section
variable {E:Env} {β:Bet} {m m':Mem} {nx n':Nat} {w:World}
theorem SubM.safe(h:SubM m' m n'):ZaA (safe E β m) w (Go.Proofs.YtjeaacindikplaaGreat.safe E β m') w :=
 fun b o u h1 h2=>⟨⟨h1.1,fun id blk h3 h4=>h1.2 id blk (h.sub id blk h3).1 h4⟩,h2⟩
theorem SubM.keep(h:SubM m' m n'):∀ id,(m' id).isSome=true→m' id=m id:=by
 intro id hid
 cases hm:m' id with
 | none=>rw[hm]at hid;cases hid
 | some b=>rw[(h.sub id b hm).1]
theorem SubM.mem(h:SubM m' m n')(hM:ZaU E β m nx w):ZaU E β m' n' w:=by
 refine⟨hM.below,fun id b hb=>(h.sub id b hb).2,fun id b hb=>hM.fz id b (h.sub id b hb).1,fun id b hb=>hM.wid id b (h.sub id b hb).1,fun id b hb=>hM.non id b (h.sub id b hb).1,?_,?_⟩
 ·intro id b c hb hc
  obtain⟨h3,cs',h4,h5,h6⟩:=hM.row id b c (h.sub id b hb).1 hc
  refine⟨h3,cs',h4,h5,fun i j d hd=>?_⟩
  obtain⟨u,h7,h8⟩:=h6 i j d hd
  obtain⟨e,he,hj⟩:=Zal.1 hd
  exact⟨u,h7,Zj6 h.keep h.safe d u (ZiN (h.cl id b hb e (Ya7 he)) d (Ya7 hj)) h8⟩
 ·intro x1 x2 y1 y2 c h1 h2 h3 h4
  exact hM.inj x1 x2 y1 y2 c (h.sub _ _ h1).1 (h.sub _ _ h2).1 h3 h4
end
theorem ZEO{s:St}(l:List (Nat×D))(m':Mem)(n':Nat)(h:SubM m' s.m n')(ht:∀ p∈l,s.t p.1=p.2)(hok:∀ p∈l,okD (fun i=>(m' i).isSome) p.2=true)(hlo:∀ id,id<s.lo→m' id=s.m id):StLe s ⟨tabT l,m',n',s.lo⟩:=by
 intro E B nn β a w hr
 refine⟨β,h.mem hr.mem,fun k hk=>?_,hr.width,hr.defers,⟨fun id x hx=>?_,hr.le.cap⟩,hr.sle.trans h.safe,hr.lo⟩
 ·rcases Zg7 l k with h1|⟨d,h1,h2⟩
  ·simp only[h1];exact .junk _
  ·simp only[h2]
   have:=hr.tmp k hk
   rw[ht _ h1]at this
   exact Zj6 h.keep h.safe d _ (hok _ h1) this
 ·obtain⟨y,h1,h2,h3⟩:=hr.le.blk id x hx
  exact⟨y,(hlo id (hr.lo id x hx)).trans h1,h2,h3⟩
theorem ZaM.sub{P:Program}{f:FuncId}{ds:List D}{m:Mem}{nx:Nat}{K:D→Mem→Nat→Prop}
 (h:ZaM P f ds m nx fun d m' nx'=>∃ M N,SubM M m' N∧okD (fun i=>(M i).isSome) d=true∧(∀ id,(m id).isSome=true→M id=m' id)∧K d M N):ZaM P f ds m nx K:=by
 refine⟨h.1,fun E β w vs hM hvs=>(h.2 E β w vs hM hvs).mono ?_⟩
 rintro e w' ⟨v,d,m',nx',rfl,⟨β',h1,h2,h3,h4⟩,M,N,h5,h6,h7,hK⟩
 refine⟨v,d,M,N,rfl,⟨β',h5.mem h1,⟨fun id x hx=>?_,h2.cap⟩,h3.trans h5.safe,Zj6 h5.keep h5.safe d v h6 h4⟩,hK⟩
 obtain⟨y,h8,h9⟩:=h2.blk id x hx
 exact⟨y,(h7 id (by rw[hx];rfl)).trans h8,h9⟩
theorem Zz5{s:St}(l:List Nat):StLe s {s with m:=ov s.m (ZbZ l s.m)}:=by
 intro E B nn β a w h
 obtain⟨h1,h2,h3⟩:=ZlG l s.m h.mem
 exact⟨β,h1,fun j hj=>(h.tmp j hj).mono h2 h3,h.width,h.defers,h.le.trans h2,h.sle.trans h3,h.lo⟩
theorem Zb3.rename{E:Env}{β:Bet}{m:Mem}{NX NY:Nat}{w w':World}{v:Value}{x y ver:Nat}{blk:Blk}(h:Zb3 E β m NY w (upd m y (some blk)) v (.ls y ver) w')(hM:ZaU E β m NX w)(hy:m y=none)(hx:m x=none)(hxN:x<NX)
 (hb:Zav (fun _=>false) blk):Zb3 E β m NX w (upd m x (some blk)) v (.ls x ver) w':=by
 obtain⟨β',h1,h2,h3,h4⟩:=h
 have hne:∀ id b,m id=some b→id≠y∧id≠x:=fun id b hi=>⟨fun e=>(by subst e;rw[hi]at hy;cases hy),fun e=>(by subst e;rw[hi]at hx;cases hx)⟩
 have hold:∀ id b,m id=some b→upd m y (some blk) id=some b:=fun id b hi=>by rw[Zac _ _ (hne id b hi).1];exact hi
 have hB:∀ id b,m id=some b→upd β' x (β' y) id=β' id:=fun id b hi=>Zac _ _ (hne id b hi).2
 have hcase:∀ id b,upd m x (some blk) id=some b→(id=x∧b=blk)∨m id=some b:=fun id b hi=>by
  by_cases e:id=x
  ·subst e;rw[Zae]at hi;cases hi;exact .inl ⟨rfl,rfl⟩
  ·rw[Zac _ _ e]at hi;exact .inr hi
 have hyb:=Zae m y (some blk)
 have hs:ZaA (safe E β' (upd m y (some blk))) w' (safe E (upd β' x (β' y)) (upd m x (some blk))) w':=by
  intro c o u g1 g2
  refine⟨⟨g1.1,fun id b g3 g4=>?_⟩,g2⟩
  rcases hcase id b g3 with⟨rfl,rfl⟩|g5
  ·rw[Zae]at g4;exact g1.2 y _ hyb g4
  ·rw[hB id b g5]at g4;exact g1.2 id b (hold id b g5) g4
 have hml:Zbf β m w (upd β' x (β' y)) (upd m x (some blk)) w':=by
  refine⟨fun id b hi=>?_,h2.cap⟩
  obtain⟨z,g1,g2,g3⟩:=h2.blk id b hi
  rw[hold id b hi]at g1;cases g1
  exact⟨b,by rw[Zac _ _ (hne id b hi).2];exact hi,Ya4 _,fun _=>⟨rfl,rfl,by rw[hB id b hi];exact(g3 rfl).2.2⟩⟩
 refine⟨upd β' x (β' y),⟨h1.below,?_,?_,?_,?_,?_,?_⟩,hml,h3.trans hs,?_⟩
 ·intro id b hi
  rcases hcase id b hi with⟨rfl,rfl⟩|hi
  ·exact hxN
  ·exact hM.lt id b hi
 ·intro id b hi
  rcases hcase id b hi with⟨rfl,rfl⟩|hi
  ·exact h1.fz y _ hyb
  ·exact h1.fz id b (hold id b hi)
 ·intro id b hi
  rcases hcase id b hi with⟨rfl,rfl⟩|hi
  ·exact h1.wid y _ hyb
  ·exact h1.wid id b (hold id b hi)
 ·intro id b hi hn
  rcases hcase id b hi with⟨rfl,rfl⟩|hi
  ·rw[Zae]at hn;exact h1.non y _ hyb hn
  ·rw[hB id b hi]at hn;exact h1.non id b (hold id b hi) hn
 ·intro id b c hi hc
  rcases hcase id b hi with⟨rfl,rfl⟩|hi
  ·rw[Zae]at hc
   obtain⟨g1,cs,g2,g3,g4⟩:=h1.row y _ c hyb hc
   refine⟨g1,cs,g2,g3,fun i j d hd=>?_⟩
   obtain⟨u,g5,g6⟩:=g4 i j d hd
   obtain⟨e,he,hj⟩:=Zal.1 hd
   exact⟨u,g5,ZqX (keep:=fun _=>false) (fun _ h=>by cases h) hs d u (ZiN (hb e (Ya7 he)) d (Ya7 hj)) g6⟩
  ·rw[hB id b hi]at hc
   obtain⟨g1,cs,g2,g3,g4⟩:=h1.row id b c (hold id b hi) hc
   refine⟨g1,cs,g2,g3,fun i j d hd=>?_⟩
   obtain⟨u,g5,g6⟩:=g4 i j d hd
   refine⟨u,g5,ZqX (keep:=fun i=>(m i).isSome) (fun k hk=>?_) hs d u ?_ g6⟩
   ·cases hmk:m k with
    | none=>rw[hmk]at hk;cases hk
    | some z=>exact⟨by rw[hold k z hmk,Zac _ _ (hne k z hmk).2,hmk],hB k z hmk⟩
   ·cases hbt:β id with
    | none =>
      obtain⟨e,he,_⟩:=Zal.1 hd
      rw[hM.non id b hi hbt]at he;simp at he
    | some c0 =>
      obtain⟨_,cs0,_,_,g7⟩:=hM.row id b c0 hi hbt
      obtain⟨u0,_,g8⟩:=g7 i j d hd
      exact g8.names
 ·intro x1 x2 y1 y2 c g1 g2 g3 g4
  rcases hcase x1 y1 g1 with⟨rfl,rfl⟩|g5<;>rcases hcase x2 y2 g2 with⟨rfl,rfl⟩|g6
  ·rfl
  ·rw[Zae]at g3
   rw[hB x2 y2 g6]at g4
   exact absurd (h1.inj y x2 _ _ c hyb (hold x2 y2 g6) g3 g4) (fun e=>(hne x2 y2 g6).1 e.symm)
  ·rw[Zae]at g4
   rw[hB x1 y1 g5]at g3
   exact absurd (h1.inj x1 y _ _ c (hold x1 y1 g5) hyb g3 g4) (hne x1 y1 g5).1
  ·rw[hB x1 y1 g5]at g3
   rw[hB x2 y2 g6]at g4
   exact h1.inj x1 x2 _ _ c (hold x1 y1 g5) (hold x2 y2 g6) g3 g4
 ·obtain⟨a,n,cap,b,rfl,g1,g2,gx,g3⟩:=h4.inv_lsx
  rw[hyb]at g1;cases g1
  exact .ls a n cap x ver blk (Zae _ _ _) g2 gx (fun e=>by
   obtain⟨q1,q2,q3,q4⟩:=g3 e
   refine⟨q1,q2,q3,?_⟩
   rw[Zae];exact q4)
theorem EffC.made{P:Program}{f:FuncId}{ds:List D}{m:Mem}{nx ver:Nat}{blk:Blk}(hm:m nx=none)(hb:Zav (fun _=>false) blk)
 (h:∀ (m1:Mem)(NX:Nat),ZaM P f ds m1 NX fun d m' nx'=>d = .ls NX ver∧m'=upd m1 NX (some blk)∧nx'=NX+1):EffC P f ds m nx ⟨.ls nx ver,[nx],[(nx,blk)],false⟩ (nx+1):=by
 refine⟨(h noM 0).1,rfl,Nat.le_succ _,fun p hp=>?_,fun E β m1 NX w vs hN hM ht hvs=>?_⟩
 ·simp only[List.mem_singleton]at hp;subst hp;exact⟨by simp,Nat.lt_succ_self _⟩
 ·refine((h m1 NX).2 E β w vs hM hvs).mono ?_
  rintro e w' ⟨v,d,m',nx',rfl,ha,rfl,rfl,rfl⟩
  exact⟨v,rfl,ha.rename hM hM.none ((ht nx (by simp)).trans hm) (by omega) hb⟩
theorem EffC.of{P:Program}{f:FuncId}{ds:List D}{m:Mem}{nx:Nat}{d:D}{touch:List Nat}{wr:List (Nat×Blk)}(hb:ZfK P f)(hw:∀ p∈wr,p.1∈touch∧p.1<nx)
 (h:∀ (m1:Mem)(NX:Nat),nx≤NX→(∀ id∈touch,m1 id=m id)→ZaM P f ds m1 NX fun d' m' nx'=>d'=d∧m'=ov m1 wr∧nx'=NX):EffC P f ds m nx ⟨d,touch,wr,false⟩ nx:=by
 refine⟨hb,rfl,Ya4 _,hw,fun E β m1 NX w vs hN hM ht hvs=>?_⟩
 refine((h m1 NX hN ht).2 E β w vs hM hvs).mono ?_
 rintro e w' ⟨v,d',m',nx',rfl,ha,rfl,rfl,rfl⟩
 exact⟨v,rfl,ha⟩
end ifl
set_option maxRecDepth 100000
set_option maxHeartbeats 8000000
section
variable {f:FuncId} {P:Program}
theorem Zyl{a:BigD}{x:Value}(hb:ZfK P f)(h:∀ w v,BigV w v a→Calls P f #[v] w fun e w'=>e = .returned x∧Below w.heap.size w w'):Zaa P f [encB a] (.v x):=by
 refine⟨hb,fun S w vs hf hvs=>?_⟩
 obtain⟨v,rfl,h1⟩:=ZqD hvs
 refine(h w v (Zrw h1)).mono ?_
 rintro e w' ⟨rfl,h2⟩
 exact⟨_,rfl,h2,.v _⟩
end
theorem ZnG(a:BigD):Zaa Tryz.prog 76 [encB a] (dB (okB a)) :=
 Zyl ⟨_,_,Tryz.func76,rfl,by kernel_rfl⟩ fun w v h=>ZiC a v w h
theorem ZCP(a b:List Int)(da:Dig a)(db:Dig b)(la:(a.length:Int)≤4398046511104)(lb:(b.length:Int)≤4398046511104):Zaa Tryz.prog 131 [Zab a,Zab b] (Zab (digs (val a+val b).toNat)) :=
 Zrs ⟨_,_,Tryz.func131,rfl,by kernel_rfl⟩ fun w v u h1 h2=>ZDF v u a b w h1 h2 da db la lb
theorem ZwU(a b:List Int)(da:Dig a)(db:Dig b)(hl:b.length≤a.length)(hle:val b≤val a)(la:(a.length:Int)≤4398046511104):Zaa Tryz.prog 132 [Zab a,Zab b] (Zab (digs (val a-val b).toNat)) :=
 Zrs ⟨_,_,Tryz.func132,rfl,by kernel_rfl⟩ fun w v u h1 h2=>ZBY v u a b w h1 h2 da db hl hle la
theorem ZCO(a b:List Int)(da:Dig a)(db:Dig b)(la:(a.length:Int)≤4398046511104)(lb:(b.length:Int)≤4398046511104):Zaa Tryz.prog 177 [Zab a,Zab b] (Zab (digs (val a*val b).toNat)) :=
 Zrs ⟨_,_,Tryz.func177,rfl,by kernel_rfl⟩ fun w v u h1 h2=>ZnK v u a b w h1 h2 da db la lb
theorem ZnI(a:List Int)(la:(a.length:Int)≤8796093022208):Zaa Tryz.prog 123 [Zab a] (Zab a) :=
 ZDw ⟨_,_,Tryz.func123,rfl,by kernel_rfl⟩ fun w v h1=>ZfH v a w h1 la
theorem ZwV(A B:Nat)(la:((digs A).length:Int)≤2199023255552)(hB:0<B):Zaa Tryz.prog 124 [Zab (digs A),Zab (digs B)] (.tup [Zab (digs (A / B)),Zab (digs (A%B))]):=by
 refine⟨⟨_,_,Tryz.func124,rfl,by kernel_rfl⟩,fun S w vs hf hvs=>?_⟩
 obtain⟨v,u,rfl,h1,h2⟩:=Zuj hvs
 refine(Zx5 A B v u w (Zbz h1) (Zbz h2) la hB).mono ?_
 rintro e w' ⟨x,y,rfl,h3,h4,h5⟩
 exact⟨_,rfl,h5,(Reps.cons (ZfV h3 hf) (Reps.cons (ZfV h4 hf) Reps.nil)).rep_tup⟩
theorem Zul{S:Nat→Nat→Prop}{w:World}{a:Option Addr}{cap k:Nat}{es:List (List D)}(h:Rep noB noM S w (.slice a es.length cap) (.sl es))(hk:k≤es.length):Rep noB noM S w (.slice a k cap) (.sl (es.take k)):=by
 obtain⟨a',cap',e,h1,h2,h3⟩:=h.inv_sl
 simp only[Value.slice.injEq,true_and]at e
 obtain⟨rfl,rfl⟩:=e
 have hl:(es.take k).length=k:=by rw[Yc1];omega
 rcases h3 with rfl|⟨b,off,kk,rfl,h4,h5⟩
 ·obtain rfl:k=0:=by simpa using hk
  exact .sl0 _ _ h1
 ·have:=ZmA (β:=noB) (m:=noM) (S:=S) (w:=w) (b:=b) (off:=off) (k:=kk) (cap:=cap) (es:=es.take k) ⟨fun i e he=>?_,fun i j d hd=>?_⟩ (by omega) h1
  ·rw[hl]at this;exact this
  ·rw[List.getElem?_take]at he
   split at he
   ·exact h4 i e he
   ·cases he
  ·obtain⟨e,he,hj⟩:=Zal.1 hd
   rw[List.getElem?_take]at he
   split at he
   ·exact h5 i j d (Zal.2 ⟨e,he,hj⟩)
   ·cases he
theorem ZCH(l:List Int):Zaa Tryz.prog 176 [Zab l] (Zab (Zbe l)):=by
 refine⟨⟨_,_,Tryz.func176,rfl,by kernel_rfl⟩,fun S w vs hf hvs=>?_⟩
 obtain⟨v,rfl,h1⟩:=ZqD hvs
 have h2:=Zbz h1
 obtain⟨A,ca,rfl,hla,hca⟩:=h2.shape
 refine(ZdE A ca l w h2).mono ?_
 rintro e w' ⟨rfl,rfl⟩
 refine⟨_,rfl,Below.refl _ _,?_⟩
 have h3:=Zul (k:=(Zbe l).length) (es:=l.map fun x=>[dI x]) (by rw[Yc0];exact h1) (by rw[Yc0];exact Zds l)
 rw[← List.map_take,← Zgp]at h3
 exact h3
theorem nor_c(x y:Int):Zaa Tryz.prog 130 [Zab [x,y]] (dI (orI x y)):=by
 refine⟨⟨_,_,Tryz.func130,rfl,by kernel_rfl⟩,fun S w vs hf hvs=>?_⟩
 obtain⟨v,rfl,h1⟩:=ZqD hvs
 refine(ZEA v x y w (Zbz h1)).mono ?_
 rintro e w' ⟨rfl,rfl⟩
 exact⟨_,rfl,Below.refl _ _,.v _⟩
theorem ZmL(a b:List Int)(na:Norm a)(nb:Norm b):Zaa Tryz.prog 128 [Zab a,Zab b] (dI (val a-val b).sign):=by
 refine⟨⟨_,_,Tryz.func128,rfl,by kernel_rfl⟩,fun S w vs hf hvs=>?_⟩
 obtain⟨v,u,rfl,h1,h2⟩:=Zuj hvs
 refine(ZeJ v u a b w (Zbz h1) (Zbz h2) na nb).mono ?_
 rintro e w' ⟨rfl,h3⟩
 exact⟨_,rfl,h3,.v _⟩
theorem Zpo(s:Int)(l:List Int):Zaa Tryz.prog 125 [dI s,Zab l] (encB (sgnd s l)):=by
 have k1:=ZCH l
 have Zr:=Tryz.results125
 refine inN Tryz.func125 rfl Tryz.ntmps125 fun I=>?_
 by_cases h:(Zbe l).length=0
 ·have h2:Zbe l=[]:=Ya9 h
  rw[show sgnd s l=zB by unfold sgnd;rw[h2];rfl]
  rw[h2]at k1
  refine aGo Zr ?_
  rfl
 ·have h2:(((Zbe l).length:Int)==0)=false:=by simpa using h
  rw[show sgnd s l=⟨s,Zbe l⟩ by unfold sgnd;rw[if_neg];simpa using fun e=>h (by rw[e];rfl)]
  exact aGo (cj2 Zr h2) trivial
theorem ZjH(x:BigD):Zaa Tryz.prog 122 [dB true,encB x] (.tup [encB x,dI 0]):=by
 have Zr:=Tryz.results122
 refine inN Tryz.func122 rfl Tryz.ntmps122 fun I=>?_
 exact aGo Zr trivial
abbrev encZ(a:Int):D:=encB ⟨a.sign,digs a.natAbs⟩
theorem Zbt(a:Int):Zaa Tryz.prog 76 [encZ a] (dB true):=by
 have:=ZnG (ofZ a);rw[ZjF]at this;exact this
theorem Zda{s:Int}{n:Nat}{z:Int}(h:sgnd s (digs n)=ofZ z):Zaa Tryz.prog 125 [dI s,Zab (digs n)] (encZ z):=by
 have:=Zpo s (digs n);rw[h]at this;exact this
theorem ZEH(a b:Int)(la:(szZ a:Int)≤1099511627776)(lb:(szZ b:Int)≤1099511627776):Zaa Tryz.prog 129 [encZ a,encZ b] (.tup [encZ (a*b),dI 0]):=by
 obtain⟨sb1,sb2⟩:=ZbH a b
 have sbw:IntKind.i64.wrap (a.sign*b.sign)=a.sign*b.sign:=Zax (by omega) (by omega)
 have k1:=Zbt a
 have k2:=Zbt b
 have k3:=ZCO (digs a.natAbs) (digs b.natAbs) (Zar _).1 (Zar _).1 (by unfold szZ at la;omega) (by unfold szZ at lb;omega)
 have k4:=Zda (Zsa a b)
 have k5:=ZjH ⟨(a*b).sign,digs (a*b).natAbs⟩
 have Zr:=Tryz.results129
 refine inN Tryz.func129 rfl Tryz.ntmps129 fun I=>?_
 exact aGo (cj2 Zr sbw) trivial
theorem ZmM(a:Int)(la:(szZ a:Int)≤4398046511104):Zaa Tryz.prog 82 [encZ a] (encZ (-a)):=by
 obtain⟨sb1,sb2⟩:=Zbx a
 have sbw:IntKind.i64.wrap (0-a.sign) = -a.sign:=by rw[Zax (by omega) (by omega)];omega
 have k1:=Zbt a
 have k3:=ZnI (digs a.natAbs) (by unfold szZ at la;omega)
 have k4:=Zda (Zr9 a)
 have Zr:=Tryz.results82
 refine inN Tryz.func82 rfl Tryz.ntmps82 fun I=>?_
 exact aGo (cj2 Zr sbw) trivial
theorem ZEJ(a b:Int)(la:(szZ a:Int)≤4398046511104)(lb:(szZ b:Int)≤4398046511104):Zaa Tryz.prog 83 [encZ a,encZ b] (.tup [encZ (a+b),dI 0]):=by
 obtain⟨sb1,sb2⟩:=ZbH a b
 have sbw:IntKind.i64.wrap (a.sign*b.sign)=a.sign*b.sign:=Zax (by omega) (by omega)
 have k1:=Zbt a
 have k2:=Zbt b
 have k3:=nor_c a.sign b.sign
 have k5:=ZjH ⟨(a+b).sign,digs (a+b).natAbs⟩
 have k6:=ZmL (digs a.natAbs) (digs b.natAbs) (Zar _) (Zar _)
 rw[Zau,Zau]at k6
 have Zr:=Tryz.results83
 refine inN Tryz.func83 rfl Tryz.ntmps83 fun I=>?_
 by_cases h:0≤a.sign*b.sign
 ·have k7:=ZCP (digs a.natAbs) (digs b.natAbs) (Zar _).1 (Zar _).1 (by unfold szZ at la;omega) (by unfold szZ at lb;omega)
  rw[Zau,Zau]at k7
  have k8:=Zda (Zy7 h)
  have h':a.sign*b.sign≥0:=h
  exact aGo (cj3 Zr sbw h') trivial
 ·have h':¬ a.sign*b.sign≥0:=h
  by_cases hlt:(a.natAbs:Int)<b.natAbs
  ·have k7:=ZwU (digs b.natAbs) (digs a.natAbs) (Zar _).1 (Zar _).1 (Ziq (by omega)) (by rw[Zau,Zau];omega) (by unfold szZ at lb;omega)
   rw[Zau,Zau,show((b.natAbs:Int)-a.natAbs).toNat=b.natAbs-a.natAbs by omega]at k7
   have k8:=Zda (ZvT h hlt)
   have h2:((a.natAbs:Int)-b.natAbs).sign<0:=by rw[Yb3 (by omega)];decide
   exact aGo (cj4 Zr sbw h' h2) trivial
  ·have k7:=ZwU (digs a.natAbs) (digs b.natAbs) (Zar _).1 (Zar _).1 (Ziq (by omega)) (by rw[Zau,Zau];omega) (by unfold szZ at la;omega)
   rw[Zau,Zau,show((a.natAbs:Int)-b.natAbs).toNat=a.natAbs-b.natAbs by omega]at k7
   have k8:=Zda (ZvS h hlt)
   have h2:¬ ((a.natAbs:Int)-b.natAbs).sign<0:=by have:=Int.sign_nonneg_iff.2 (show(0:Int)≤(a.natAbs:Int)-b.natAbs by omega);omega
   exact aGo (cj4 Zr sbw h' h2) trivial
theorem ZwW(a b:Int)(la:(szZ a:Int)≤2199023255552)(lb:(szZ b:Int)≤2199023255552):Zaa Tryz.prog 77 [encZ a,encZ b] (.tup [encZ (Nat.gcd a.natAbs b.natAbs:Nat),dI 0]):=by
 have k1:=Zbt a
 have k2:=Zbt b
 have k3:=ZnI (digs a.natAbs) (by unfold szZ at la;omega)
 have Zr:=Tryz.results77
 refine inN Tryz.func77 rfl Tryz.ntmps77 fun I=>?_
 refine aGo Zr ?_
 repeat with_reducible intro K hK
 refine Zas (fun(p:Nat×Nat)=>[(4,.lp 2 0 0 0),(6,Zab (digs p.1)),(7,Zab (digs p.2))]) (fun _=>[(2,⟨51,0,2,[[dI 0,.nil]],0,false⟩)]) 3 0 (fun p=>Nat.gcd p.1 p.2=Nat.gcd a.natAbs b.natAbs∧((digs p.1).length:Int)≤2199023255552∧((digs p.2).length:Int)≤2199023255552) (fun p=>p.2) (a.natAbs,b.natAbs) ⟨rfl,la,lb⟩ ?_ ?_
 ·exact leGo Zr
 ·rintro⟨X,Y⟩ ⟨hg,hX,hY⟩
  simp only at hg hX hY ⊢
  by_cases h:Y=0
  ·subst h
   rw[Za1,Nat.gcd_zero_right]at *
   subst hg
   have c3:=ZnI (digs (Nat.gcd a.natAbs b.natAbs)) (by omega)
   have c4:=Zda (Zr8 (Nat.gcd a.natAbs b.natAbs))
   have c5:=ZjH ⟨((Nat.gcd a.natAbs b.natAbs:Nat):Int).sign,digs ((Nat.gcd a.natAbs b.natAbs:Nat):Int).natAbs⟩
   exact aGo Zr trivial
  ·have h1:((digs Y).length:Int)>0:=by
    have:digs Y≠[]:=fun e=>h (ZdT.1 e)
    have:=List.length_pos_iff.2 this
    omega
   have c3:=ZwV X Y hX (by omega)
   refine aGo (cj2 Zr h1) ?_
   repeat with_reducible intro K hK
   refine Zad (Y,X%Y) ⟨?_,hY,?_⟩ ?_ ?_
   ·rw[← hg,Nat.gcd_comm Y,← Nat.gcd_rec,Nat.gcd_comm]
   ·have:=Ziq (Nat.le_of_lt (Nat.mod_lt X (by omega:Y>0)))
    show((digs (X%Y)).length:Int)≤_
    omega
   ·exact Nat.mod_lt X (by omega)
   ·exact leGo Zr
theorem ZsH(a b c:Int)(hb:0<b)(hac:a=b*c)(la:(szZ a:Int)≤2199023255552):Zaa Tryz.prog 133 [encZ a,encZ b] (.tup [encZ c,encB zB,dI 0]):=by
 obtain⟨sb1,sb2⟩:=ZbH a b
 have sbw:IntKind.i64.wrap (a.sign*b.sign)=a.sign*b.sign:=Zax (by omega) (by omega)
 have k1:=Zbt a
 have k2:=Zbt b
 have hb1:(b.sign==0)=false:=by rw[Yb2 hb];rfl
 have k3:=ZwV a.natAbs b.natAbs la (by omega)
 have hm:a.natAbs%b.natAbs=0:=by rw[hac,Int.natAbs_mul];exact Nat.mul_mod_right _ _
 rw[hm,Za1]at k3
 have k4:=Zda (Zy6 hb hac)
 have k5:=Zpo a.sign []
 rw[show sgnd a.sign []=zB by rw[← Za1];exact Zy5 _]at k5
 have Zr:=Tryz.results133
 refine inN Tryz.func133 rfl Tryz.ntmps133 fun I=>?_
 by_cases h:a.sign*b.sign<0
 ·exact aGo (cj4 Zr sbw hb1 h) trivial
 ·exact aGo (cj4 Zr sbw hb1 h) trivial
theorem ZEE(n:Nat):Zaa Tryz.prog 78 [encZ n] (dB (decide ((n:Int)=1))) :=
 Zyl ⟨_,_,Tryz.func78,rfl,by kernel_rfl⟩ fun w v h=>ZA9 n (by omega) v w h
theorem Zuz(P Q:Int)(zP:(szZ P:Int)≤549755813888)(zQ:(szZ Q:Int)≤549755813888):Zaa Tryz.prog 31 [.agg [dI P.sign,Zab (digs P.natAbs),dI Q.sign,Zab (digs Q.natAbs)]] (dB (okF ⟨ofZ P,ofZ Q⟩)):=by
 have k1:=Zbt P
 have k2:=Zbt Q
 have k3:=ZwW P Q (by omega) (by omega)
 have k4:=ZEE (Nat.gcd P.natAbs Q.natAbs)
 rw[Zpm]
 have Zr:=Tryz.results31
 refine inN Tryz.func31 rfl Tryz.ntmps31 fun I=>?_
 by_cases hs:Q.sign=1
 ·have hs1:(Q.sign !=1)=false:=by simp[hs]
  rw[show((ofZ Q).s==1)=true by simpa[ofZ]using hs,Bool.true_and]
  exact aGo (cj2 Zr hs1) trivial
 ·have hs1:(Q.sign !=1)=true:=by simp[hs]
  rw[show((ofZ Q).s==1)=false by simpa[ofZ]using hs,Bool.false_and]
  exact aGo (cj2 Zr hs1) trivial
theorem ZcV(a:Zag)(za:(szF a:Int)≤549755813888):Zaa Tryz.prog 31 [encF a] (dB (okF a)):=by
 obtain⟨p,q⟩:=a
 have k1:=ZnG p
 have k2:=ZnG q
 cases hp:okB p
 ·rw[hp]at k1
  rw[show okF ⟨p,q⟩=false by unfold okF;rw[hp];rfl]
  have Zr:=Tryz.results31
  refine inN Tryz.func31 rfl Tryz.ntmps31 fun I=>?_
  exact aGo Zr trivial
 cases hq:okB q
 ·rw[hp]at k1
  rw[hq]at k2
  rw[show okF ⟨p,q⟩=false by unfold okF;rw[hp,hq];rfl]
  have Zr:=Tryz.results31
  refine inN Tryz.func31 rfl Tryz.ntmps31 fun I=>?_
  exact aGo Zr trivial
 obtain⟨P,rfl⟩:=ZjG.1 hp
 obtain⟨Q,rfl⟩:=ZjG.1 hq
 unfold szF at za
 simp only[Zh0]at za
 exact Zuz P Q (by omega) (by omega)
theorem ZeD(a:Zag)(za:(szF a:Int)≤549755813888):Zaa Tryz.prog 35 [encF a] (dI (sgnD a)):=by
 have k1:=ZcV a za
 have Zr:=Tryz.results35
 refine inN Tryz.func35 rfl Tryz.ntmps35 fun I=>?_
 cases ha:okF a
 ·rw[ha]at k1
  rw[show sgnD a=0 by simp[sgnD,ha]]
  exact aGo Zr trivial
 ·rw[ha]at k1
  rw[show sgnD a=a.p.s by obtain⟨r,rfl⟩:=ZfZ.1 ha;rw[ZbN];rfl]
  exact aGo Zr trivial
abbrev encQ(r:Rat):D:=.agg [dI r.num.sign,Zab (digs r.num.natAbs),dI (r.den:Int).sign,Zab (digs (r.den:Int).natAbs)]
theorem ZbY(a:Rat)(za:(szQ a:Int)≤549755813888):Zaa Tryz.prog 31 [encQ a] (dB true):=by
 have:=ZcV (ofQ a) (by rw[Ze8];exact za);rw[Zby]at this;exact this
theorem ZzN(p q:Int)(hq:0<q)(la:(szZ p:Int)≤2199023255552)(lb:(szZ q:Int)≤2199023255552):Zaa Tryz.prog 84 [encZ p,encZ q] (.tup [encF (ofQ (Rat.divInt p q)),dI 0]):=by
 obtain⟨c,f,hpc,hqf,hof,hg0⟩:=ZgW (p:=p) hq
 have hlg:=Zvu (p:=p) (q:=q)
 have k1:=Zbt p
 have k2:=Zbt q
 have k3:=ZwW p q la lb
 have k4:=ZsH p (Nat.gcd p.natAbs q.natAbs:Nat) c hg0 hpc la
 have k5:=ZsH q (Nat.gcd p.natAbs q.natAbs:Nat) f hg0 hqf lb
 rw[hof]
 generalize Nat.gcd p.natAbs q.natAbs=G at *
 have hs:(q.sign==0)=false:=by rw[Yb2 hq];rfl
 have hs2:¬ q.sign<0:=by rw[Yb2 hq];decide
 have Zr:=Tryz.results84
 refine inN Tryz.func84 rfl Tryz.ntmps84 fun I=>?_
 refine aGo (cj3 Zr hs hs2) ?_
 rfl
theorem ZzO(p q:Int)(hq:q<0)(la:(szZ p:Int)≤2199023255552)(lb:(szZ q:Int)≤2199023255552):Zaa Tryz.prog 84 [encZ p,encZ q] (.tup [encF (ofQ (Rat.divInt p q)),dI 0]):=by
 have hof0:Rat.divInt p q=Rat.divInt (-p) (-q):=(Rat.neg_divInt_neg p q).symm
 have lp:szZ (-p)=szZ p:=by unfold szZ;rw[Int.natAbs_neg]
 have lq:szZ (-q)=szZ q:=by unfold szZ;rw[Int.natAbs_neg]
 have m1:=ZmM p (by omega)
 have m2:=ZmM q (by omega)
 rw[hof0]
 have k1:=Zbt p
 have k2:=Zbt q
 have hs:(q.sign==0)=false:=by rw[Yb3 hq];rfl
 have hs2:q.sign<0:=by rw[Yb3 hq];decide
 have hq':0 < -q:=by omega
 generalize hp1 : -p=p1 at *
 generalize hq1 : -q=q1 at *
 obtain⟨c,f,hpc,hqf,hof,hg0⟩:=ZgW (p:=p1) hq'
 have hlg:=Zvu (p:=p1) (q:=q1)
 have k3:=ZwW p1 q1 (by omega) (by omega)
 have k4:=ZsH p1 (Nat.gcd p1.natAbs q1.natAbs:Nat) c hg0 hpc (by omega)
 have k5:=ZsH q1 (Nat.gcd p1.natAbs q1.natAbs:Nat) f hg0 hqf (by omega)
 rw[hof]
 generalize Nat.gcd p1.natAbs q1.natAbs=G at *
 have Zr:=Tryz.results84
 refine inN Tryz.func84 rfl Tryz.ntmps84 fun I=>?_
 refine aGo (cj3 Zr hs hs2) ?_
 rfl
theorem ZsG(p q:Int)(hq:q≠0)(la:(szZ p:Int)≤2199023255552)(lb:(szZ q:Int)≤2199023255552):Zaa Tryz.prog 84 [encZ p,encZ q] (.tup [encF (ofQ (Rat.divInt p q)),dI 0]):=by
 rcases Int.lt_or_gt_of_ne hq with h|h
 ·exact ZzO p q h la lb
 ·exact ZzN p q h la lb
theorem Zd5(a b:Int)(la:(szZ a:Int)≤1099511627776)(lb:(szZ b:Int)≤1099511627776):Zaa Tryz.prog 81 [encZ a,encZ b] (encZ (a*b)):=by
 have k1:=ZEH a b la lb
 have Zr:=Tryz.results81
 refine inN Tryz.func81 rfl Tryz.ntmps81 fun I=>?_
 exact aGo Zr trivial
theorem ZCR(a:Int)(la:(szZ a:Int)≤4398046511104):Zaa Tryz.prog 200 [encZ a] (encZ a):=by
 have lp:szZ (-a)=szZ a:=by unfold szZ;rw[Int.natAbs_neg]
 have k1:=ZmM a la
 have k2:=ZmM (-a) (by omega)
 rw[Int.neg_neg]at k2
 have Zr:=Tryz.results200
 refine inN Tryz.func200 rfl Tryz.ntmps200 fun I=>?_
 exact aGo Zr trivial
theorem ZCL(a b:Rat)(za:(szQ a:Int)≤549755813888)(zb:(szQ b:Int)≤549755813888):Zaa Tryz.prog 164 [encQ a,encQ b] (.tup [encF (ofQ (a*b)),dI 0]):=by
 have zpa:=ZbF a
 have zpb:=ZbF b
 have k1:=ZbY a za
 have k2:=ZbY b zb
 have m1:=Zcq a.num b.num
 have m2:=Zcq (a.den:Int) b.den
 have k3:=Zd5 a.num b.num (by omega) (by omega)
 have k4:=Zd5 a.den b.den (by omega) (by omega)
 have k5:=ZsG (a.num*b.num) (a.den*b.den) (Int.mul_ne_zero (Zgj a) (Zgj b)) (by omega) (by omega)
 rw[← ZmN]at k5
 have Zr:=Tryz.results164
 refine inN Tryz.func164 rfl Tryz.ntmps164 fun I=>?_
 exact aGo Zr trivial
theorem ZwR(a b:Rat)(za:(szQ a:Int)≤549755813888)(zb:(szQ b:Int)≤549755813888):Zaa Tryz.prog 39 [encQ a,encQ b] (.tup [encF (ofQ (a+b)),dI 0]):=by
 have zpa:=ZbF a
 have zpb:=ZbF b
 have k1:=ZbY a za
 have k2:=ZbY b zb
 have m1:=Zcq a.num b.den
 have m2:=Zcq b.num a.den
 have m3:=Zcq (a.den:Int) b.den
 have m4:=Zqm (a.num*b.den) (b.num*a.den)
 have k3:=Zd5 a.num b.den (by omega) (by omega)
 have k4:=Zd5 b.num a.den (by omega) (by omega)
 have k6:=Zd5 a.den b.den (by omega) (by omega)
 have k7:=ZEJ (a.num*b.den) (b.num*a.den) (by omega) (by omega)
 have k5:=ZsG (a.num*b.den+b.num*a.den) (a.den*b.den) (Int.mul_ne_zero (Zgj a) (Zgj b)) (by omega) (by omega)
 rw[← Zng]at k5
 have Zr:=Tryz.results39
 refine inN Tryz.func39 rfl Tryz.ntmps39 fun I=>?_
 exact aGo Zr trivial
theorem ZCJ(a b:Rat)(za:(szQ a:Int)≤549755813888)(zb:(szQ b:Int)≤549755813888):Zaa Tryz.prog 38 [encQ a,encQ b] (.tup [encF (ofQ (a-b)),dI 0]):=by
 have zpa:=ZbF a
 have zpb:=ZbF b
 have k1:=ZbY a (by omega)
 have k2:=ZbY b (by omega)
 have k3:=ZmM b.num (by omega)
 have e:szQ (-b)=szQ b:=Zdt b
 have k4:=ZwR a (-b) (by omega) (by omega)
 rw[show a + -b=a-b from(Rat.sub_eq_add_neg a b).symm]at k4
 unfold encQ at k4
 rw[Rat.neg_num,Rat.neg_den]at k4
 have Zr:=Tryz.results38
 refine inN Tryz.func38 rfl Tryz.ntmps38 fun I=>?_
 exact aGo Zr trivial
theorem ZCM(a b:Rat)(hb:b≠0)(za:(szQ a:Int)≤549755813888)(zb:(szQ b:Int)≤549755813888):Zaa Tryz.prog 210 [encQ a,encQ b] (.tup [encF (ofQ (a / b)),dI 0]):=by
 have zpa:=ZbF a
 have zpb:=ZbF b
 have k1:=ZbY a za
 have k2:=ZbY b zb
 have hn:b.num≠0:=fun e=>hb (Rat.num_eq_zero.1 e)
 have hs:(b.num.sign==0)=false:=by
  cases h:b.num.sign==0
  ·rfl
  ·exact absurd (Int.sign_eq_zero_iff_zero.1 (by simpa using h)) hn
 have m1:=Zcq a.num b.den
 have m2:=Zcq (a.den:Int) b.num
 have k3:=Zd5 a.num b.den (by omega) (by omega)
 have k4:=Zd5 a.den b.num (by omega) (by omega)
 have k5:=ZsG (a.num*b.den) (a.den*b.num) (Int.mul_ne_zero (Zgj a) hn) (by omega) (by omega)
 rw[← Zm8]at k5
 have Zr:=Tryz.results210
 refine inN Tryz.func210 rfl Tryz.ntmps210 fun I=>?_
 exact aGo (cj2 Zr hs) trivial
theorem ZCK(a:Rat)(za:(szQ a:Int)≤549755813888):Zaa Tryz.prog 182 [encQ a] (encF (ofQ (-a))):=by
 have zpa:=ZbF a
 have k1:=ZbY a za
 have k3:=ZmM a.num (by omega)
 have k4:=ZCR a.den (by omega)
 have e:encF (ofQ (-a)) = .agg [dI (-a.num).sign,Zab (digs (-a.num).natAbs),dI (a.den:Int).sign,Zab (digs (a.den:Int).natAbs)]:=by
  show encQ (-a)=_
  unfold encQ;rw[Rat.neg_num,Rat.neg_den]
 rw[e]
 have Zr:=Tryz.results182
 refine inN Tryz.func182 rfl Tryz.ntmps182 fun I=>?_
 exact aGo Zr trivial
theorem ZDT{n:Int}(h0:0≤n)(h1:n<18446744073709551616):IntKind.u64.wrap n=n:=by
 simp only[IntKind.wrap,IntKind.bits,IntKind.signed]
 simp;omega
theorem ZBe(n:Nat)(g:Int)(hg:g=1∨(g = -1∧0<n))(h:(n:Int)≤9223372036854775808)(h1:g=1→(n:Int)≤9223372036854775807):Zaa Tryz.prog 79 [dI (g*n)] (encZ (g*n)):=by
 have h5:(digs n).length≤4:=Za8 (by simp only[bp];omega)
 have k4:=Zda (Zdc (s:=g) (n:=n) (g*n) rfl (by rcases hg with h|h;exact .inl h;exact .inr (.inl h.1)))
 have Zr:=Tryz.results79
 refine inN Tryz.func79 rfl Tryz.ntmps79 fun I=>?_
 by_cases c2:g*(n:Int)<0
 rotate_left
 have eg:g=1:=by rcases hg with rfl|⟨rfl,h⟩<;>omega
 have hu:IntKind.u64.wrap (g*(n:Int))=n:=by rw[ZDT (by omega) (by subst eg;omega)];subst eg;omega
 refine aGo (cj3 Zr c2 hu) ?_
 rotate_left
 have eg:g = -1:=by rcases hg with rfl|h<;>omega
 have hu:IntKind.u64.wrap (g*(n:Int))=18446744073709551616-n:=by subst eg;simp only[IntKind.wrap,IntKind.bits,IntKind.signed];simp;omega
 have hu2:IntKind.u64.wrap (0-(18446744073709551616-(n:Int)))=n:=by simp only[IntKind.wrap,IntKind.bits,IntKind.signed];simp;omega
 refine aGo (cj4 Zr c2 hu hu2) ?_
 all_goals
  repeat with_reducible intro K hK
  refine aLe (Zcs 5 3 1 rfl) ?_
  refine Zas (fun(p:Nat×List Int×Nat)=>[(2,.lp 0 0 0 0),(3,dI g),(4,.v (.int .u64 p.1)),(5,.ls 1 p.2.2)]) (fun p=>[(0,⟨51,0,2,[[dI 0,.nil]],0,false⟩),(1,⟨3,p.2.2,1,p.2.1.map (fun x=>[dI x]),0,false⟩)]) 2 0 (fun p=>p.2.1++digs p.1=digs n∧p.1≤n∧p.2.1.length+(digs p.1).length≤4) (fun p=>p.1) (n,[],0) ⟨rfl,Ya4 _,by simpa using h5⟩ ?_ ?_
  ·exact leGo (cj2 Zr eg)
  rintro⟨k,l,ver⟩ ⟨hl,hk,h4⟩
  simp only at hl hk h4 ⊢
  have j1:(l.map fun x=>[dI x]).map (List.map datJ)=l.map fun x=>[dI x]:=by rw[List.map_map];exact List.map_congr_left fun x _=>rfl
  by_cases h0:k=0
  ·subst h0
   rw[Za1,List.append_nil]at hl
   subst hl
   have hc:¬ ((0:Nat):Int)>0:=by decide
   exact aGo (cj3 Zr hc j1) trivial
  ·have hc:(k:Int)>0:=by omega
   have hd:=Zf6 h0
   have ha:IntKind.u64.wrap ((BitVec.ofInt IntKind.u64.bits (k:Int) &&& BitVec.ofInt IntKind.u64.bits 1048575).toNat:Nat)=((k%1048576:Nat):Int):=(ZjX k).trans (by omega)
   have hcv:IntKind.i64.wrap ((k%1048576:Nat):Int)=((k%1048576:Nat):Int):=Zax (by omega) (by omega)
   have hsh:(k:Int).fdiv (2^min 20 IntKind.u64.bits)=((k / 1048576:Nat):Int):=by
    show(k:Int).fdiv 1048576=_
    rw[Int.fdiv_eq_ediv_of_nonneg _ (by decide)];omega
   have h20:(0:Int)≤20:=by decide
   refine aGo (cj4 Zr hc ha (cj4 hcv hsh h20 trivial)) ?_
   repeat with_reducible intro K hK
   refine Zad (k / 1048576,l++[((k%1048576:Nat):Int)],ver+1) ⟨?_,?_,?_⟩ (Nat.div_lt_self (by omega) (by decide)) ?_
   ·rw[← hl,hd,Yd3];rfl
   ·have:=Nat.div_le_self k 1048576
    show k / 1048576≤n
    omega
   ·rw[hd]at h4
    simp only[Yb9,List.length_cons,List.length_nil]at h4 ⊢
    omega
   ·have ha2:=(congrArg IntKind.i64.wrap ha).trans hcv
    simp[IntKind.bits]at ha2
    refine Zak _ _ _ ?_ ?_ ?_ ?_ ?_ (.inl rfl)<;>simp[go_sem,okD,okDs,Zav]
    ·rw[Int.fdiv_eq_ediv_of_nonneg _ (by decide)]
    ·exact ha2
    ·intro _ h;rcases h with⟨_,_,rfl⟩|rfl<;>simp[okD,okDs]
theorem ZzM(n:Int)(h1 : -9223372036854775808≤n)(h2:n≤9223372036854775807):Zaa Tryz.prog 79 [dI n] (encZ n):=by
 by_cases h:n<0
 ·have:=ZBe n.natAbs (-1) (.inr ⟨rfl,by omega⟩) (by omega) (by omega)
  rwa [show -1*(n.natAbs:Int)=n by omega]at this
 ·have:=ZBe n.natAbs 1 (.inl rfl) (by omega) (by omega)
  rwa [show 1*(n.natAbs:Int)=n by omega]at this
theorem ZiS(n:Int)(h1 : -9223372036854775808≤n)(h2:n≤9223372036854775807):Zaa Tryz.prog 32 [dI n] (encF (ofQ (n:Rat))):=by
 have k1:=ZzM n h1 h2
 have k2:=ZzM 1 (by decide) (by decide)
 rw[ZCF]
 have Zr:=Tryz.results32
 refine inN Tryz.func32 rfl Tryz.ntmps32 fun I=>?_
 refine aGo Zr ?_
 rfl
theorem Zso(n:Nat)(r:Rat)(h:((n:Int):Rat)=r)(hn:(n:Int)≤9223372036854775807):Zaa Tryz.prog 32 [dI n] (encF (ofQ r)):=h▸ZiS n (by omega) hn
theorem nZ_c:Zaa Tryz.prog 32 [dI 0] (encF (ofQ 0)):=Zso 0 0 rfl (by decide)
theorem nO_c:Zaa Tryz.prog 32 [dI 1] (encF (ofQ 1)):=Zso 1 1 rfl (by decide)
theorem ZsB(a b:Rat)(za:(szQ a:Int)≤549755813888)(zb:(szQ b:Int)≤549755813888):Zaa Tryz.prog 164 [encF (ofQ a),encF (ofQ b)] (.tup [encF (ofQ (a*b)),dI 0]):=ZCL a b za zb
theorem ZhT(a b:Rat)(za:(szQ a:Int)≤549755813888)(zb:(szQ b:Int)≤549755813888):Zaa Tryz.prog 39 [encF (ofQ a),encF (ofQ b)] (.tup [encF (ofQ (a+b)),dI 0]):=ZwR a b za zb
theorem ZBc(a b:Rat)(za:(szQ a:Int)≤549755813888)(zb:(szQ b:Int)≤549755813888):Zaa Tryz.prog 38 [encF (ofQ a),encF (ofQ b)] (.tup [encF (ofQ (a-b)),dI 0]):=ZCJ a b za zb
theorem ZEG(a b:Rat)(hb:b≠0)(za:(szQ a:Int)≤549755813888)(zb:(szQ b:Int)≤549755813888):Zaa Tryz.prog 210 [encF (ofQ a),encF (ofQ b)] (.tup [encF (ofQ (a / b)),dI 0]):=ZCM a b hb za zb
theorem ZhS(a:Rat)(za:(szQ a:Int)≤549755813888):Zaa Tryz.prog 182 [encF (ofQ a)] (encF (ofQ (-a))):=ZCK a za
theorem Zy8(b:Rat):((ofQ b).p.s==0)=decide (b=0):=by
 rw[Bool.eq_iff_iff,ZoS,decide_eq_true_eq]
theorem ZkZ(b:Rat):Zaa Tryz.prog 204 [encF (ofQ b)] (dB (decide (b=0))):=by
 rw[← Zy8]
 have Zr:=Tryz.results204
 refine inN Tryz.func204 rfl Tryz.ntmps204 fun I=>?_
 exact aGo Zr trivial
theorem Zqt(a b:Rat)(hb:b≠0)(za:(szQ a:Int)≤549755813888)(zb:(szQ b:Int)≤549755813888):Zaa Tryz.prog 203 [encF (ofQ a),encF (ofQ b)] (encF (ofQ (a / b))):=by
 have k1:=ZEG a b hb za zb
 have Zr:=Tryz.results203
 refine inN Tryz.func203 rfl Tryz.ntmps203 fun I=>?_
 exact aGo Zr trivial
theorem Zqv(a b c:Rat)(za:(szQ a:Int)≤137438953472)(zb:(szQ b:Int)≤137438953472)(zc:(szQ c:Int)≤137438953472):Zaa Tryz.prog 205 [encF (ofQ a),encF (ofQ b),encF (ofQ c)] (encF (ofQ (a-b*c))):=by
 have z1:=Zgv b c
 have k1:=ZkZ b
 have k2:=ZkZ c
 have k3:=ZsB b c (by omega) (by omega)
 have k4:=ZBc a (b*c) (by omega) (by omega)
 have Zr:=Tryz.results205
 refine inN Tryz.func205 rfl Tryz.ntmps205 fun I=>?_
 by_cases h1:b=0
 ·rw[decide_eq_true h1]at k1
  subst h1
  rw[show a-0*c=a by grind]
  exact aGo Zr trivial
 ·rw[decide_eq_false h1]at k1
  by_cases h2:c=0
  ·rw[decide_eq_true h2]at k2
   subst h2
   rw[show a-b*0=a by grind]
   exact aGo Zr trivial
  ·rw[decide_eq_false h2]at k2
   exact aGo Zr trivial
theorem ZxH(a b:Zag)(za:(szF a:Int)≤549755813888)(zb:(szF b:Int)≤549755813888):Zah Tryz.prog 164 [encF a,encF b] (.tup [encF (mulD a b).1,dI (mulD a b).2]):=by
 have k1:=ZcV a za
 have k2:=ZcV b zb
 cases ha:okF a
 ·rw[ha]at k1
  rw[show mulD a b=(zF,1) by simp[mulD,ha]]
  have Zr:=Tryz.results164
  refine inC Tryz.func164 rfl Tryz.ntmps164 ?_
  refine aGo Zr ?_
  rfl
 cases hb:okF b
 ·rw[ha]at k1
  rw[hb]at k2
  rw[show mulD a b=(zF,1) by simp[mulD,hb]]
  have Zr:=Tryz.results164
  refine inC Tryz.func164 rfl Tryz.ntmps164 ?_
  refine aGo Zr ?_
  rfl
 obtain⟨r,rfl⟩:=ZfZ.1 ha
 obtain⟨t,rfl⟩:=ZfZ.1 hb
 rw[ZsJ]
 exact(ZsB r t za zb).all
theorem ZxN(a b:Zag)(za:(szF a:Int)≤549755813888)(zb:(szF b:Int)≤549755813888):Zah Tryz.prog 39 [encF a,encF b] (.tup [encF (addD a b).1,dI (addD a b).2]):=by
 have k1:=ZcV a za
 have k2:=ZcV b zb
 cases ha:okF a
 ·rw[ha]at k1
  rw[show addD a b=(zF,1) by simp[addD,ha]]
  have Zr:=Tryz.results39
  refine inC Tryz.func39 rfl Tryz.ntmps39 ?_
  refine aGo Zr ?_
  rfl
 cases hb:okF b
 ·rw[ha]at k1
  rw[hb]at k2
  rw[show addD a b=(zF,1) by simp[addD,hb]]
  have Zr:=Tryz.results39
  refine inC Tryz.func39 rfl Tryz.ntmps39 ?_
  refine aGo Zr ?_
  rfl
 obtain⟨r,rfl⟩:=ZfZ.1 ha
 obtain⟨t,rfl⟩:=ZfZ.1 hb
 rw[Zou]
 exact(ZhT r t za zb).all
theorem ZBo(a:Zag)(za:(szF a:Int)≤549755813888):Zah Tryz.prog 182 [encF a] (encF (negD a)):=by
 have k1:=ZcV a za
 cases ha:okF a
 ·rw[ha]at k1
  rw[show negD a=zF by simp[negD,ha]]
  have Zr:=Tryz.results182
  refine inC Tryz.func182 rfl Tryz.ntmps182 ?_
  refine aGo Zr ?_
  rfl
 obtain⟨r,rfl⟩:=ZfZ.1 ha
 rw[ZsE]
 exact(ZhS r za).all
theorem ZCQ(x y:Int):Zaa Tryz.prog 127 [dI x,dI y] (dI (x-y).sign):=by
 refine⟨⟨_,_,Tryz.func127,rfl,by kernel_rfl⟩,fun S w vs hf hvs=>?_⟩
 obtain⟨v,u,rfl,h1,h2⟩:=Zuj hvs
 rw[h1.inv_v,h2.inv_v]
 refine(Zoq x y w).mono ?_
 rintro e w' ⟨rfl,rfl⟩
 exact⟨_,rfl,Below.refl _ _,.v _⟩
theorem ZEI(a b:Int):Zaa Tryz.prog 80 [encZ a,encZ b] (dI (a-b).sign):=by
 have k1:=Zbt a
 have k2:=Zbt b
 by_cases h:a.sign=b.sign
 ·have k3:=ZmL (digs a.natAbs) (digs b.natAbs) (Zar _) (Zar _)
  rw[Zau,Zau]at k3
  have e:=ZtD h
  have h1:(a.sign !=b.sign)=false:=by simp[h]
  have hw:IntKind.i64.wrap (a.sign*((a.natAbs:Int)-b.natAbs).sign)=(a-b).sign:=by
   rw[e];exact Zax (by have:=Zbx (a-b);omega) (by have:=Zbx (a-b);omega)
  have Zr:=Tryz.results80
  refine inN Tryz.func80 rfl Tryz.ntmps80 fun I=>?_
  exact aGo (cj3 Zr h1 hw) trivial
 ·have e:=(ZtC a b).resolve_right h
  have k3:=ZCQ a.sign b.sign
  rw[e]at k3
  have h1:(a.sign !=b.sign)=true:=by simp[h]
  have Zr:=Tryz.results80
  refine inN Tryz.func80 rfl Tryz.ntmps80 fun I=>?_
  exact aGo (cj2 Zr h1) trivial
theorem ZCN(a b:Rat)(za:(szQ a:Int)≤549755813888)(zb:(szQ b:Int)≤549755813888):Zaa Tryz.prog 34 [encQ a,encQ b] (dI (sgQ (a-b))):=by
 have zpa:=ZbF a
 have zpb:=ZbF b
 have k1:=ZbY a za
 have k2:=ZbY b zb
 have k3:=Zd5 a.num b.den (by omega) (by omega)
 have k4:=Zd5 b.num a.den (by omega) (by omega)
 have k5:=ZEI (a.num*b.den) (b.num*a.den)
 rw[← ZvU]at k5
 have Zr:=Tryz.results34
 refine inN Tryz.func34 rfl Tryz.ntmps34 fun I=>?_
 exact aGo Zr trivial
theorem Zeh(a b:Zag)(za:(szF a:Int)≤549755813888)(zb:(szF b:Int)≤549755813888):Zaa Tryz.prog 34 [encF a,encF b] (dI (cmpD a b)):=by
 have k1:=ZcV a za
 have k2:=ZcV b zb
 cases ha:okF a
 ·rw[ha]at k1
  rw[show cmpD a b=0 by simp[cmpD,ha]]
  have Zr:=Tryz.results34
  refine inN Tryz.func34 rfl Tryz.ntmps34 fun I=>?_
  exact aGo Zr trivial
 cases hb:okF b
 ·rw[ha]at k1
  rw[hb]at k2
  rw[show cmpD a b=0 by simp[cmpD,hb]]
  have Zr:=Tryz.results34
  refine inN Tryz.func34 rfl Tryz.ntmps34 fun I=>?_
  exact aGo Zr trivial
 obtain⟨r,rfl⟩:=ZfZ.1 ha
 obtain⟨t,rfl⟩:=ZfZ.1 hb
 rw[ZAH]
 exact ZCN r t za zb
theorem ZpL(n:Int)(h1 : -9223372036854775808≤n)(h2:n≤9223372036854775807):Zah Tryz.prog 32 [dI n] (encF (ofQ (n:Rat))):=(ZiS n h1 h2).all
theorem ZE2(p q:Int)(hq:q≠0)(p1 : -9223372036854775808≤p)(p2:p≤9223372036854775807)(q1 : -9223372036854775808≤q)(q2:q≤9223372036854775807):Zah Tryz.prog 163 [dI p,dI q] (.tup [encF (ofQ (Rat.divInt p q)),dI 0]):=by
 have k1:=ZzM p p1 p2
 have k2:=ZzM q q1 q2
 have z1:szZ p≤4:=ZhO (by simp only[bp];omega)
 have z2:szZ q≤4:=ZhO (by simp only[bp];omega)
 have k3:=ZsG p q hq (by omega) (by omega)
 have Zr:=Tryz.results163
 refine inC Tryz.func163 rfl Tryz.ntmps163 ?_
 exact aGo Zr trivial
set_option maxHeartbeats 2000000
theorem Zdl{P:Program}{n:Nat}{Q:Exit→St→Prop}{s:St}{l:Array Oper}{b:Bool}(id:Nat)(h:AWP P n (.region id l b) Q s):AWP P n (.region id l b) Q s:=h
structure Zaf where
 v:Int
 f:Zag
structure RowD where
 t:List Zaf
 k:Int
 v:Zag
structure SysD where
 n:Int
 r:List RowD
abbrev cT(t:Zaf):List D:=[dI t.v,dI t.f.p.s,Zab t.f.p.d,dI t.f.q.s,Zab t.f.q.d]
abbrev Zbk(l:List Zaf):D:=.sl (l.map cT)
abbrev Za0(l:List Zag):D:=.sl (l.map cF)
abbrev cW(w:RowD):List D:=[Zbk w.t,dI w.k,dI w.v.p.s,Zab w.v.p.d,dI w.v.q.s,Zab w.v.q.d]
abbrev encW(w:RowD):D:=.agg (cW w)
abbrev ZAy(l:List RowD):D:=.sl (l.map cW)
abbrev cS(s:SysD):List D:=[dI s.n,ZAy s.r]
abbrev encS(s:SysD):D:=.agg (cS s)
def smF(f:Zag):Prop:=(szF f:Int)≤4194304
def smT(l:List Zaf):Prop:=(l.length:Int)≤4096∧∀ t∈l,smF t.f
def smFs(l:List Zag):Prop:=(l.length:Int)≤4096∧∀ f∈l,smF f
def smW(w:RowD):Prop:=smT w.t∧smF w.v
def smS(s:SysD):Prop:=(s.r.length:Int)≤4096∧∀ w∈s.r,smW w
theorem Zk6{l:List Zaf}(h:smT l):(l.length:Int)≤4096:=h.1
theorem Zix{l:List Zag}(h:smFs l):(l.length:Int)≤4096:=h.1
theorem ZvO{s:SysD}(h:smS s):(s.r.length:Int)≤4096:=h.1
def goR(n:Int):Int→List Zaf→Bool
 | _,[]=>true
 | last,t ::l=>decide (last<t.v)&&decide (t.v<n)&&(sgnD t.f !=0)&&goR n t.v l
def Zai(l:List Zaf)(n:Int):Bool:=decide (0≤n)&&goR n (-1) l
def Zq9(l:List Zaf)(k:Nat):Int:=match k with
 | 0=> -1
 | k+1=>match l[k]? with
   | some t=>t.v
   | none=> -1
theorem ZmV{l:List Zaf}{k:Nat}{t:Zaf}(h:l[k]? =some t):Zq9 l (k+1)=t.v:=by simp[Zq9,h]
theorem ZlN{n:Int}:∀ (l m:List Zaf)(last:Int),goR n last (l++m)=(goR n last l&&goR n ((l.getLast?.map (·.v)).getD last) m)
 | [],m,last=>by simp[goR]
 | t ::l,m,last=>by
   rw[Yc9,goR,goR,ZlN l m t.v]
   have:((t ::l).getLast?.map (·.v)).getD last=(l.getLast?.map (·.v)).getD t.v:=by
    cases l with
    | nil=>rfl
    | cons u l=>rw[List.getLast?_cons_cons];rw[List.getLast?_eq_some_getLast (by simp:(u ::l)≠[])];rfl
   rw[this]
   simp only[Bool.and_assoc]
theorem ZuG{l:List Zaf}{k:Nat}(hk:k≤l.length):((l.take k).getLast?.map (·.v)).getD (-1)=Zq9 l k:=by
 cases k with
 | zero=>rfl
 | succ k =>
   obtain⟨t,hx⟩:=getE (l:=l) (k:=k) (by omega)
   rw[ZmV hx,Yb4,hx]
   simp
theorem ZAe{n:Int}{l:List Zaf}{k:Nat}{t:Zaf}(hx:l[k]? =some t):goR n (-1) (l.take (k+1))=(goR n (-1) (l.take k)&&(decide (Zq9 l k<t.v)&&decide (t.v<n)&&(sgnD t.f !=0))):=by
 have hk:k<l.length:=(Ya3.1 hx).1
 rw[Yb4,hx,Option.toList_some,ZlN,ZuG (Nat.le_of_lt hk)]
 simp[goR]
theorem Zn6{n:Int}{l:List Zaf}{k:Nat}(h:goR n (-1) (l.take k)=false):goR n (-1) l=false:=by
 have:=ZlN (n:=n) (l.take k) (l.drop k) (-1)
 rw[List.take_append_drop,h]at this
 simpa using this
theorem ZaL{α:Type}{l:List α}{k:Nat}{x:α}(h:l[k]? =some x):x∈l:=Ya7 h
theorem Zgw{f:Zag}(h:smF f):(szF f:Int)≤549755813888:=by unfold smF at h;omega
theorem Ze3(l:List Zaf)(n:Int)(hs:smT l):Zaa Tryz.prog 135 [Zbk l,dI n] (dB (Zai l n)):=by
 refine Zah.toN ?_ rfl
 refine inC Tryz.func135 rfl Tryz.ntmps135 ?_
 have Zr:=Tryz.results135
 have hl:=Zk6 hs
 by_cases hn:n<0
 ·refine aGo (cj2 Zr hn) ?_
  repeat with_reducible intro K hK
  exact Zaj (by simp[Zai];omega)
 refine aGo (cj2 Zr hn) ?_
 repeat with_reducible intro K hK
 refine Zas (fun(k:Nat)=>[(0,Zbk l),(1,dI n),(5,dI (Zq9 l k)),(10,Zbk l),(11,dI l.length),(12,dI k)]) (fun _=>[]) 0 0 (fun k=>k≤l.length∧goR n (-1) (l.take k)=true) (fun k=>l.length-k) 0 ⟨by omega,rfl⟩ ?_ ?_
 ·refine Zak _ _ _ ?_ ?_ ?_ ?_ ?_ (.inl rfl)<;>simp[go_sem,okD,okDs,Zav,Zq9]<;>(first|(intros;subst_vars;simp[okD,okDs];done)|(intro _ h;rcases h with⟨_,_,rfl⟩|rfl<;>simp[okD,okDs];done)|(intros;rename_i h;rcases h with⟨_,_,rfl⟩|rfl<;>simp[okD,okDs]))
 ·rintro k ⟨hk,hg⟩
  obtain⟨hw,h0⟩:=ZaO k
  by_cases h1:(k:Int)<l.length
  ·obtain⟨t,hx⟩:=getE (l:=l) (k:=k) (by omega)
   have hc:=ZeD t.f (Zgw (hs.2 t (ZaL hx)))
   have hstep:=ZAe (n:=n) hx
   rw[hg,Bool.true_and]at hstep
   have hla:=ZmV hx
   by_cases h2:t.v≤Zq9 l k
   ·refine aGo (cj4 Zr h0 h1 (cj2 hx h2)) ?_
    repeat with_reducible intro K hK
    refine Zaj (Eq.symm ?_)
    have:goR n (-1) (l.take (k+1))=false:=by rw[hstep];simp;omega
    simp[Zai,Zn6 this]
   by_cases h3:t.v≥n
   ·refine aGo (cj4 Zr h0 h1 (cj3 hx h2 h3)) ?_
    repeat with_reducible intro K hK
    refine Zaj (Eq.symm ?_)
    have:goR n (-1) (l.take (k+1))=false:=by rw[hstep];simp;omega
    simp[Zai,Zn6 this]
   cases h4:sgnD t.f==0
   ·refine aGo (cj4 Zr h0 h1 (cj4 hx h2 h3 (cj2 h4 hw))) ?_
    repeat with_reducible intro K hK
    refine Zad (k+1) ⟨by omega,?_⟩ (by omega) (by exact leGo hla)
    rw[hstep]
    simp at h4
    simp[h4];omega
   ·refine aGo (cj4 Zr h0 h1 (cj4 hx h2 h3 (cj2 h4 hw))) ?_
    repeat with_reducible intro K hK
    refine Zaj (Eq.symm ?_)
    have:goR n (-1) (l.take (k+1))=false:=by rw[hstep];simp at h4;simp[h4]
    simp[Zai,Zn6 this]
  ·refine aGo (cj2 Zr h1) ?_
   repeat with_reducible intro K hK
   rw[Ya8 (by omega)]at hg
   exact Zaj (by simp[Zai,hg];omega)
set_option linter.constructorNameAsVariable false
section
variable {n:Nat} {x:List D}
theorem ZbV(h:ZcU Tryz.prog (n+1) 3 x):∃ a,x=[dI a]:=by
 unfold ZcU at h
 simp only[Tryz.underlying3]at h
 obtain⟨a,rfl,_⟩:=h
 exact⟨a,rfl⟩
end
structure ZdD where
 s:Int
 f:Int
 u:Int
 g:Int
 p:Int
 d:Int
structure RecD where
 s:Int
 d:Int
abbrev cC(c:ZdD):List D:=[dI c.s,dI c.f,dI c.u,dI c.g,dI c.p,dI c.d]
abbrev encC(c:ZdD):D:=.agg (cC c)
abbrev ZpV(l:List ZdD):D:=.sl (l.map cC)
abbrev cRe(r:RecD):List D:=[dI r.s,dI r.d]
abbrev encRe(r:RecD):D:=.agg (cRe r)
abbrev Zjb(l:List RecD):D:=.sl (l.map cRe)
def inB(n lo hi:Int):Bool:=decide (lo≤n)&&decide (n≤hi)
def Zfn(c:ZdD):Bool:=decide (0≤c.f)&&decide (c.f≤c.u)&&decide (c.u≤100000)&&inB c.s 0 29&&inB c.g 0 1099511627776&&inB c.p 0 1000&&inB c.d 0 10000000
def ZeI(c:ZdD)(day:Int):Bool:=Zfn c&&decide (c.f≤day)&&decide (day≤c.u)
theorem Zuh{c:ZdD}:Zfn c=true↔0≤c.f∧c.f≤c.u∧c.u≤100000∧(0≤c.s∧c.s≤29)∧(0≤c.g∧c.g≤1099511627776)∧(0≤c.p∧c.p≤1000)∧(0≤c.d∧c.d≤10000000):=by
 simp[Zfn,inB,and_assoc]
theorem ZaP(n m:Int):Zaa Tryz.prog 168 [dI n,dI m] (dB (inB n 0 m)):=by
 refine Zah.toN ?_ rfl
 refine inC Tryz.func168 rfl Tryz.ntmps168 ?_
 have Zr:=Tryz.results168
 by_cases h1:n≥0
 rotate_left
 ·refine aGo (cj2 Zr h1) ?_
  repeat with_reducible intro K hK
  exact Zaj (by simp[inB,h1])
 by_cases h2:n≤m
 rotate_left
 ·refine aGo (cj3 Zr h1 h2) ?_
  repeat with_reducible intro K hK
  exact Zaj (by simp[inB,h1,h2])
 refine aGo (cj3 Zr h1 h2) ?_
 repeat with_reducible intro K hK
 exact Zaj (by simp[inB,h1,h2])
theorem Zky(c:ZdD):Zaa Tryz.prog 198 [encC c] (dB (Zfn c)):=by
 refine Zah.toN ?_ rfl
 refine inC Tryz.func198 rfl Tryz.ntmps198 ?_
 have Zr:=Tryz.results198
 by_cases h1:0≤c.f
 rotate_left
 ·repeat(first
   | (refine hK _ ?_;clear hK;clear K)
   | (refine aSeq fun K hK=>?_)
   | (refine ZcJ ?_)
   | (refine ZeU ?_)
   | (refine ZeW ?_)
   | (refine aRet ?_)
   | (refine aOps _ rfl (by kernel_rfl) ?_)
   | (refine ZeV _ rfl ZdX (by kernel_rfl) (by kernel_rfl) fun KE hE=>?_)
   | (refine hE _ _ (by kernel_rfl) (ZaC rfl) ?_;clear hE;clear KE)
   | (refine hE _ _ (by kernel_rfl) (Za7 ?hi ?hj) ?_;(case hi=>(repeat(refine Zan rfl ?_));exact Zaq);(case hj=>simp);clear hE;clear KE)
   | (refine ZcH rfl ?hc ?_;case hc=>simp only[go_sem,↓reduceIte,Zr,h1])
   | (refine ZcI rfl ?hc ?_;case hc=>simp only[go_sem,↓reduceIte,Zr,h1])
   | (refine Zdk (ZaP _ _) ?_ ?_;rotate_left;(repeat(refine Zan rfl ?_));exact Zaq)
   | (refine Zb1 (ZaP _ _) ?_)
   | (refine ZdI (ZaP _ _) rfl ?_)
   | (refine ZbR (ZaP _ _) rfl ?_)
   | (simp only[go_sem,↓reduceIte,Zr,h1])
   | (refine And.intro ?ho ?_;(case ho=>omega))
   | (clear hK;clear K))
  exact Zaj (by simp[Zfn,h1])
 by_cases h2:c.f≤c.u
 rotate_left
 ·repeat(first
   | (refine hK _ ?_;clear hK;clear K)
   | (refine aSeq fun K hK=>?_)
   | (refine ZcJ ?_)
   | (refine ZeU ?_)
   | (refine ZeW ?_)
   | (refine aRet ?_)
   | (refine aOps _ rfl (by kernel_rfl) ?_)
   | (refine ZeV _ rfl ZdX (by kernel_rfl) (by kernel_rfl) fun KE hE=>?_)
   | (refine hE _ _ (by kernel_rfl) (ZaC rfl) ?_;clear hE;clear KE)
   | (refine hE _ _ (by kernel_rfl) (Za7 ?hi ?hj) ?_;(case hi=>(repeat(refine Zan rfl ?_));exact Zaq);(case hj=>simp);clear hE;clear KE)
   | (refine ZcH rfl ?hc ?_;case hc=>simp only[go_sem,↓reduceIte,Zr,h1,h2])
   | (refine ZcI rfl ?hc ?_;case hc=>simp only[go_sem,↓reduceIte,Zr,h1,h2])
   | (refine Zdk (ZaP _ _) ?_ ?_;rotate_left;(repeat(refine Zan rfl ?_));exact Zaq)
   | (refine Zb1 (ZaP _ _) ?_)
   | (refine ZdI (ZaP _ _) rfl ?_)
   | (refine ZbR (ZaP _ _) rfl ?_)
   | (simp only[go_sem,↓reduceIte,Zr,h1,h2])
   | (refine And.intro ?ho ?_;(case ho=>omega))
   | (clear hK;clear K))
  exact Zaj (by simp[Zfn,h1,h2])
 by_cases h3:c.u≤100000
 rotate_left
 ·repeat(first
   | (refine hK _ ?_;clear hK;clear K)
   | (refine aSeq fun K hK=>?_)
   | (refine ZcJ ?_)
   | (refine ZeU ?_)
   | (refine ZeW ?_)
   | (refine aRet ?_)
   | (refine aOps _ rfl (by kernel_rfl) ?_)
   | (refine ZeV _ rfl ZdX (by kernel_rfl) (by kernel_rfl) fun KE hE=>?_)
   | (refine hE _ _ (by kernel_rfl) (ZaC rfl) ?_;clear hE;clear KE)
   | (refine hE _ _ (by kernel_rfl) (Za7 ?hi ?hj) ?_;(case hi=>(repeat(refine Zan rfl ?_));exact Zaq);(case hj=>simp);clear hE;clear KE)
   | (refine ZcH rfl ?hc ?_;case hc=>simp only[go_sem,↓reduceIte,Zr,h1,h2,h3])
   | (refine ZcI rfl ?hc ?_;case hc=>simp only[go_sem,↓reduceIte,Zr,h1,h2,h3])
   | (refine Zdk (ZaP _ _) ?_ ?_;rotate_left;(repeat(refine Zan rfl ?_));exact Zaq)
   | (refine Zb1 (ZaP _ _) ?_)
   | (refine ZdI (ZaP _ _) rfl ?_)
   | (refine ZbR (ZaP _ _) rfl ?_)
   | (simp only[go_sem,↓reduceIte,Zr,h1,h2,h3])
   | (refine And.intro ?ho ?_;(case ho=>omega))
   | (clear hK;clear K))
  exact Zaj (by simp[Zfn,h1,h2,h3])
 by_cases h4:inB c.s 0 29=true
 rotate_left
 ·repeat(first
   | (refine hK _ ?_;clear hK;clear K)
   | (refine aSeq fun K hK=>?_)
   | (refine ZcJ ?_)
   | (refine ZeU ?_)
   | (refine ZeW ?_)
   | (refine aRet ?_)
   | (refine aOps _ rfl (by kernel_rfl) ?_)
   | (refine ZeV _ rfl ZdX (by kernel_rfl) (by kernel_rfl) fun KE hE=>?_)
   | (refine hE _ _ (by kernel_rfl) (ZaC rfl) ?_;clear hE;clear KE)
   | (refine hE _ _ (by kernel_rfl) (Za7 ?hi ?hj) ?_;(case hi=>(repeat(refine Zan rfl ?_));exact Zaq);(case hj=>simp);clear hE;clear KE)
   | (refine ZcH rfl ?hc ?_;case hc=>simp only[go_sem,↓reduceIte,Zr,h1,h2,h3,h4])
   | (refine ZcI rfl ?hc ?_;case hc=>simp only[go_sem,↓reduceIte,Zr,h1,h2,h3,h4])
   | (refine Zdk (ZaP _ _) ?_ ?_;rotate_left;(repeat(refine Zan rfl ?_));exact Zaq)
   | (refine Zb1 (ZaP _ _) ?_)
   | (refine ZdI (ZaP _ _) rfl ?_)
   | (refine ZbR (ZaP _ _) rfl ?_)
   | (simp only[go_sem,↓reduceIte,Zr,h1,h2,h3,h4])
   | (refine And.intro ?ho ?_;(case ho=>omega))
   | (clear hK;clear K))
  exact Zaj (by simp[Zfn,h1,h2,h3,h4])
 by_cases h5:inB c.g 0 1099511627776=true
 rotate_left
 ·repeat(first
   | (refine hK _ ?_;clear hK;clear K)
   | (refine aSeq fun K hK=>?_)
   | (refine ZcJ ?_)
   | (refine ZeU ?_)
   | (refine ZeW ?_)
   | (refine aRet ?_)
   | (refine aOps _ rfl (by kernel_rfl) ?_)
   | (refine ZeV _ rfl ZdX (by kernel_rfl) (by kernel_rfl) fun KE hE=>?_)
   | (refine hE _ _ (by kernel_rfl) (ZaC rfl) ?_;clear hE;clear KE)
   | (refine hE _ _ (by kernel_rfl) (Za7 ?hi ?hj) ?_;(case hi=>(repeat(refine Zan rfl ?_));exact Zaq);(case hj=>simp);clear hE;clear KE)
   | (refine ZcH rfl ?hc ?_;case hc=>simp only[go_sem,↓reduceIte,Zr,h1,h2,h3,h4,h5])
   | (refine ZcI rfl ?hc ?_;case hc=>simp only[go_sem,↓reduceIte,Zr,h1,h2,h3,h4,h5])
   | (refine Zdk (ZaP _ _) ?_ ?_;rotate_left;(repeat(refine Zan rfl ?_));exact Zaq)
   | (refine Zb1 (ZaP _ _) ?_)
   | (refine ZdI (ZaP _ _) rfl ?_)
   | (refine ZbR (ZaP _ _) rfl ?_)
   | (simp only[go_sem,↓reduceIte,Zr,h1,h2,h3,h4,h5])
   | (refine And.intro ?ho ?_;(case ho=>omega))
   | (clear hK;clear K))
  exact Zaj (by simp[Zfn,h1,h2,h3,h4,h5])
 by_cases h6:inB c.p 0 1000=true
 rotate_left
 ·repeat(first
   | (refine hK _ ?_;clear hK;clear K)
   | (refine aSeq fun K hK=>?_)
   | (refine ZcJ ?_)
   | (refine ZeU ?_)
   | (refine ZeW ?_)
   | (refine aRet ?_)
   | (refine aOps _ rfl (by kernel_rfl) ?_)
   | (refine ZeV _ rfl ZdX (by kernel_rfl) (by kernel_rfl) fun KE hE=>?_)
   | (refine hE _ _ (by kernel_rfl) (ZaC rfl) ?_;clear hE;clear KE)
   | (refine hE _ _ (by kernel_rfl) (Za7 ?hi ?hj) ?_;(case hi=>(repeat(refine Zan rfl ?_));exact Zaq);(case hj=>simp);clear hE;clear KE)
   | (refine ZcH rfl ?hc ?_;case hc=>simp only[go_sem,↓reduceIte,Zr,h1,h2,h3,h4,h5,h6])
   | (refine ZcI rfl ?hc ?_;case hc=>simp only[go_sem,↓reduceIte,Zr,h1,h2,h3,h4,h5,h6])
   | (refine Zdk (ZaP _ _) ?_ ?_;rotate_left;(repeat(refine Zan rfl ?_));exact Zaq)
   | (refine Zb1 (ZaP _ _) ?_)
   | (refine ZdI (ZaP _ _) rfl ?_)
   | (refine ZbR (ZaP _ _) rfl ?_)
   | (simp only[go_sem,↓reduceIte,Zr,h1,h2,h3,h4,h5,h6])
   | (refine And.intro ?ho ?_;(case ho=>omega))
   | (clear hK;clear K))
  exact Zaj (by simp[Zfn,h1,h2,h3,h4,h5,h6])
 by_cases h7:inB c.d 0 10000000=true
 rotate_left
 ·repeat(first
   | (refine hK _ ?_;clear hK;clear K)
   | (refine aSeq fun K hK=>?_)
   | (refine ZcJ ?_)
   | (refine ZeU ?_)
   | (refine ZeW ?_)
   | (refine aRet ?_)
   | (refine aOps _ rfl (by kernel_rfl) ?_)
   | (refine ZeV _ rfl ZdX (by kernel_rfl) (by kernel_rfl) fun KE hE=>?_)
   | (refine hE _ _ (by kernel_rfl) (ZaC rfl) ?_;clear hE;clear KE)
   | (refine hE _ _ (by kernel_rfl) (Za7 ?hi ?hj) ?_;(case hi=>(repeat(refine Zan rfl ?_));exact Zaq);(case hj=>simp);clear hE;clear KE)
   | (refine ZcH rfl ?hc ?_;case hc=>simp only[go_sem,↓reduceIte,Zr,h1,h2,h3,h4,h5,h6,h7])
   | (refine ZcI rfl ?hc ?_;case hc=>simp only[go_sem,↓reduceIte,Zr,h1,h2,h3,h4,h5,h6,h7])
   | (refine Zdk (ZaP _ _) ?_ ?_;rotate_left;(repeat(refine Zan rfl ?_));exact Zaq)
   | (refine Zb1 (ZaP _ _) ?_)
   | (refine ZdI (ZaP _ _) rfl ?_)
   | (refine ZbR (ZaP _ _) rfl ?_)
   | (simp only[go_sem,↓reduceIte,Zr,h1,h2,h3,h4,h5,h6,h7])
   | (refine And.intro ?ho ?_;(case ho=>omega))
   | (clear hK;clear K))
  exact Zaj (by simp[Zfn,h1,h2,h3,h4,h5,h6,h7])
 repeat (first
     | (refine hK _ ?_;clear hK;clear K)
     | (refine aSeq fun K hK=>?_)
     | (refine ZcJ ?_)
     | (refine ZeU ?_)
     | (refine ZeW ?_)
     | (refine aRet ?_)
     | (refine aOps _ rfl (by kernel_rfl) ?_)
     | (refine ZeV _ rfl ZdX (by kernel_rfl) (by kernel_rfl) fun KE hE=>?_)
     | (refine hE _ _ (by kernel_rfl) (ZaC rfl) ?_;clear hE;clear KE)
     | (refine hE _ _ (by kernel_rfl) (Za7 ?hi ?hj) ?_;(case hi=>(repeat(refine Zan rfl ?_));exact Zaq);(case hj=>simp);clear hE;clear KE)
     | (refine ZcH rfl ?hc ?_;case hc=>simp only[go_sem,↓reduceIte,Zr,h1,h2,h3,h4,h5,h6,h7])
     | (refine ZcI rfl ?hc ?_;case hc=>simp only[go_sem,↓reduceIte,Zr,h1,h2,h3,h4,h5,h6,h7])
     | (refine Zdk (ZaP _ _) ?_ ?_;rotate_left;(repeat(refine Zan rfl ?_));exact Zaq)
     | (refine Zb1 (ZaP _ _) ?_)
     | (refine ZdI (ZaP _ _) rfl ?_)
     | (refine ZbR (ZaP _ _) rfl ?_)
     | (simp only[go_sem,↓reduceIte,Zr,h1,h2,h3,h4,h5,h6,h7])
     | (refine And.intro ?ho ?_;(case ho=>omega))
     | (clear hK;clear K))
 exact Zaj (by simp[Zfn,h1,h2,h3,h4,h5,h6,h7])
theorem Zty(c:ZdD)(day:Int):Zaa Tryz.prog 165 [encC c,dI day] (dB (ZeI c day)):=by
 refine Zah.toN ?_ rfl
 refine inC Tryz.func165 rfl Tryz.ntmps165 ?_
 have Zr:=Tryz.results165
 by_cases h1:Zfn c=true
 rotate_left
 ·have hq0:=Zky c
  refine aGo (cj2 Zr h1) ?_
  repeat with_reducible intro K hK
  exact Zaj (by simp[ZeI,h1])
 by_cases h2:c.f≤day
 rotate_left
 ·have hq0:=Zky c
  refine aGo (cj3 Zr h1 h2) ?_
  repeat with_reducible intro K hK
  exact Zaj (by simp[ZeI,h1,h2])
 by_cases h3:day≤c.u
 rotate_left
 ·have hq0:=Zky c
  refine aGo (cj4 Zr h1 h2 h3) ?_
  repeat with_reducible intro K hK
  exact Zaj (by simp[ZeI,h1,h2,h3])
 have hq0:=Zky c
 refine aGo (cj4 Zr h1 h2 h3) ?_
 repeat with_reducible intro K hK
 exact Zaj (by simp[ZeI,h1,h2,h3])
def ownC(c:ZdD)(s day:Int):Bool:=c.s==s&&ZeI c day
def ZoJ(l:List ZdD)(o:Option Nat)(c:ZdD):Bool:=match o with
 | none=>true
 | some b=>match l[b]? with
   | some x=>decide (c.f≥x.f)
   | none=>true
def Zfy(l:List ZdD)(s day:Int):Nat→Option Nat
 | 0=>none
 | k+1=>match l[k]? with
   | none=>Zfy l s day k
   | some c=>if ownC c s day&&ZoJ l (Zfy l s day k) c then some k else Zfy l s day k
def ZpO(l:List ZdD)(s day:Int):Option Nat:=Zfy l s day l.length
section
variable {l:List ZdD} {s day:Int} {k b:Nat} {c x:ZdD}
theorem ZpM(hx:l[k]? =some c)(h:ownC c s day=false):Zfy l s day (k+1)=Zfy l s day k:=by simp[Zfy,hx,h]
theorem Zm5(hx:l[k]? =some c)(h:ownC c s day=true)(ht:ZoJ l (Zfy l s day k) c=true):Zfy l s day (k+1)=some k:=by simp[Zfy,hx,h,ht]
theorem ZuQ(hx:l[k]? =some c)(ht:ZoJ l (Zfy l s day k) c=false):Zfy l s day (k+1)=Zfy l s day k:=by simp[Zfy,hx,ht]
theorem Ztg(k:Nat):∀ b,Zfy l s day k=some b→b<k∧∃ c,l[b]? =some c∧ownC c s day=true:=by
 induction k with
 | zero=>intro b h;cases h
 | succ k ih =>
   intro b h
   unfold Zfy at h
   split at h
   ·have:=ih b h;exact⟨by omega,this.2⟩
   ·next c hc =>
    split at h
    ·next hb =>
     cases h
     simp only[Ya2]at hb
     exact⟨by omega,c,hc,hb.1⟩
    ·have:=ih b h;exact⟨by omega,this.2⟩
end
theorem ZE5(l:List ZdD)(s day:Int)(hl:(l.length:Int)≤1099511627776):Zaa Tryz.prog 112 [ZpV l,dI s,dI day] (.tup [dI ((ZpO l s day).getD 0),dB (ZpO l s day).isSome]):=by
 refine Zah.toN ?_ rfl
 refine inC Tryz.func112 rfl Tryz.ntmps112 ?_
 have Zr:=Tryz.results112
 refine aGo Zr ?_
 repeat with_reducible intro K hK
 refine Zas (fun(k:Nat)=>[(0,ZpV l),(1,dI s),(2,dI day),(8,dI ((Zfy l s day k).getD 0)),(9,dB (Zfy l s day k).isSome),(12,ZpV l),(13,dI l.length),(14,dI k)]) (fun _=>[]) 0 0 (fun k=>k≤l.length) (fun k=>l.length-k) 0 (by omega) ?_ ?_
 ·refine Zak _ _ _ ?_ ?_ ?_ ?_ ?_ (.inl rfl)<;>simp[go_sem,okD,okDs,Zav,Zfy]<;>(first|(intros;subst_vars;simp[okD,okDs];done)|(intro _ h;rcases h with⟨_,_,rfl⟩|rfl<;>simp[okD,okDs];done)|(intros;rename_i h;rcases h with⟨_,_,rfl⟩|rfl<;>simp[okD,okDs]))
 ·rintro k hk
  obtain⟨hw,h0⟩:=ZaO k
  by_cases h1:(k:Int)<l.length
  ·obtain⟨c,hx⟩:=getE (l:=l) (k:=k) (by omega)
   have hcv:=Zty c day
   cases h2:c.s==s
   ·have hn:=ZpM (day:=day) hx (s:=s) (by simp[ownC,h2])
    refine aGo (cj4 Zr h0 h1 (cj3 hx h2 hw)) ?_
    repeat with_reducible intro K hK
    exact Zad (k+1) (by omega) (by omega) (by exact leGo hn)
   cases h3:ZeI c day
   ·have hn:=ZpM hx (s:=s) (day:=day) (by simp[ownC,h3])
    rw[h3]at hcv
    refine aGo (cj4 Zr h0 h1 (cj3 hx h2 hw)) ?_
    repeat with_reducible intro K hK
    exact Zad (k+1) (by omega) (by omega) (by exact leGo hn)
   rw[h3]at hcv
   have ho:ownC c s day=true:=by simp[ownC,h2,h3]
   cases h4:Zfy l s day k with
   | none =>
     have hn:=Zm5 hx ho (by rw[h4];rfl)
     refine aGo (cj4 Zr h0 h1 (cj4 hx h2 hw h4)) ?_
     repeat with_reducible intro K hK
     exact Zad (k+1) (by omega) (by omega) (by exact leGo hn)
   | some b =>
     obtain⟨hb,x,hy,_⟩:=Ztg k b h4
     have h5:(0:Int)≤b:=by omega
     have h6:(b:Int)<l.length:=by omega
     by_cases h7:c.f≥x.f
     ·have hn:=Zm5 hx ho (by simp[h4,ZoJ,hy,h7])
      refine aGo (cj4 Zr h0 h1 (cj4 hx h2 hw (cj4 h4 h5 h6 (cj2 h7 hy)))) ?_
      repeat with_reducible intro K hK
      exact Zad (k+1) (by omega) (by omega) (by exact leGo hn)
     ·have hn:=ZuQ (s:=s) (day:=day) hx (by simp[h4,ZoJ,hy];omega)
      refine aGo (cj4 Zr h0 h1 (cj4 hx h2 hw (cj4 h4 h5 h6 (cj2 h7 hy)))) ?_
      repeat with_reducible intro K hK
      exact Zad (k+1) (by omega) (by omega) (by exact leGo (cj2 hn h4))
  ·have e:k=l.length:=by omega
   subst e
   refine aGo (cj2 Zr h1) ?_
   repeat with_reducible intro K hK
   rfl
def hitR(s day:Int)(r:RecD):Bool:=r.s==s&&decide (r.d≤day)
def recC(l:List RecD)(s day:Int):Bool:=l.any (hitR s day)
theorem Zdm{α:Type}{p:α→Bool}{l:List α}{k:Nat}{x:α}(hx:l[k]? =some x)(h:(l.take k).any p=false)(hp:p x=false):(l.take (k+1)).any p=false:=by
 rw[Yb4,hx];simp[List.any_append,h,hp]
theorem ZBF{α:Type}{p:α→Bool}{l:List α}{k:Nat}{x:α}(hx:l[k]? =some x)(hp:p x=true):l.any p=true :=
 List.any_eq_true.2 ⟨x,Ya7 hx,hp⟩
abbrev cloR(s day:Int):D:=.clo 167 [.ep [[dI s]] 0 0,.ep [[dI day]] 0 0]
theorem hit_c(r:RecD)(s day:Int):Zaa Tryz.prog 167 [encRe r,.ep [[dI s]] 0 0,.ep [[dI day]] 0 0] (dB (hitR s day r)):=by
 refine Zah.toN ?_ rfl
 refine inC Tryz.func167 rfl Tryz.ntmps167 ?_
 have Zr:=Tryz.results167
 cases h2:r.s==s
 ·refine aGo (cj2 Zr h2) ?_
  repeat with_reducible intro K hK
  exact Zaj (by simp[hitR,h2])
 by_cases h3:r.d≤day
 ·refine aGo (cj3 Zr h2 h3) ?_
  repeat with_reducible intro K hK
  exact Zaj (by simp[hitR,h2,h3])
 ·refine aGo (cj3 Zr h2 h3) ?_
  repeat with_reducible intro K hK
  exact Zaj (by simp[hitR,h2,h3])
theorem ZuR{α:Type}{p:α→Bool}{l:List α}{k:Nat}{x:α}(hx:l[k]? =some x)(h:(l.take k).any p=false)(hp:p x=true):l.findIdx p=k:=by
 obtain⟨hk,rfl⟩:=Ya3.1 hx
 refine(List.findIdx_eq hk).2 ⟨hp,fun j hj=>?_⟩
 rw[List.any_eq_false]at h
 have:=h l[j] (List.mem_take_iff_getElem.2 ⟨j,by omega,rfl⟩)
 simpa using this
def idxI{α:Type}(p:α→Bool)(l:List α):Int:=if l.any p then l.findIdx p else -1
theorem Zrg{α:Type}{p:α→Bool}{l:List α}{k:Nat}{x:α}(hx:l[k]? =some x)(h:(l.take k).any p=false)(hp:p x=true):idxI p l=k:=by
 unfold idxI;rw[ZBF hx hp,ZuR hx h hp];rfl
theorem Zre{α:Type}{p:α→Bool}{l:List α}(h:l.any p=false):idxI p l = -1:=by unfold idxI;rw[h];rfl
theorem Zrf{α:Type}(p:α→Bool)(l:List α):decide (idxI p l≥0)=l.any p:=by
 unfold idxI
 cases l.any p
 ·rfl
 ·simp only[if_true];exact decide_eq_true (by omega)
theorem ZC6(l:List RecD)(s day:Int)(hl:(l.length:Int)≤1099511627776):Zaa Tryz.prog 199 [Zjb l,cloR s day] (dI (idxI (hitR s day) l)):=by
 refine Zah.toN ?_ rfl
 refine inC Tryz.func199 rfl Tryz.ntmps199 ?_
 have Zr:=Tryz.results199
 refine aGo Zr ?_
 repeat with_reducible intro K hK
 refine Zas (fun(k:Nat)=>[(0,Zjb l),(1,cloR s day),(7,dI l.length),(8,dI k)]) (fun _=>[]) 0 0 (fun k=>k≤l.length∧(l.take k).any (hitR s day)=false) (fun k=>l.length-k) 0 ⟨by omega,rfl⟩ ?_ ?_
 ·exact leGo trivial
 ·rintro k ⟨hk,hn⟩
  obtain⟨hw,h0⟩:=ZaO k
  by_cases h1:(k:Int)<l.length
  ·obtain⟨r,hx⟩:=getE (l:=l) (k:=k) (by omega)
   have hc:=hit_c r s day
   cases h2:hitR s day r
   ·rw[h2]at hc
    refine aGo (cj4 Zr h0 h1 (cj2 hx hw)) ?_
    repeat with_reducible intro K hK
    exact Zad (k+1) ⟨by omega,Zdm hx hn h2⟩ (by omega) (by exact leGo trivial)
   ·rw[h2]at hc
    refine aGo (cj4 Zr h0 h1 (cj2 hx hw)) ?_
    repeat with_reducible intro K hK
    exact ZbA (Zrg hx hn h2).symm
  ·refine aGo (cj2 Zr h1) ?_
   repeat with_reducible intro K hK
   rw[Ya8 (by omega)]at hn
   exact ZbA (Zre hn).symm
theorem ZuY(l:List RecD)(s day:Int)(hl:(l.length:Int)≤1099511627776):Zaa Tryz.prog 166 [Zjb l,cloR s day] (dB (recC l s day)):=by
 refine Zah.toN ?_ rfl
 refine inC Tryz.func166 rfl Tryz.ntmps166 ?_
 have Zr:=Tryz.results166
 have hc:=ZC6 l s day hl
 refine aGo Zr ?_
 repeat with_reducible intro K hK
 exact Zaj (Zrf _ _)
theorem Zum(l:List RecD)(s day:Int)(hl:(l.length:Int)≤1099511627776):Zaa Tryz.prog 113 [Zjb l,dI s,dI day] (dB (recC l s day)):=by
 refine Zah.toN ?_ rfl
 refine inC Tryz.func113 rfl Tryz.ntmps113 ?_
 have Zr:=Tryz.results113
 have hc:=ZuY l s day hl
 exact aGo Zr trivial
def errQ(c:ZdD)(reading day:Int):Rat:=Rat.divInt (c.p*reading) 1000+((c.g+c.d*(day-c.f):Int):Rat)
def Zin(c:ZdD)(reading day:Int):Bool:=ZeI c day&&inB reading 0 1099511627776
def errD(c:ZdD)(reading day:Int):Zag×Bool:=if Zin c reading day then(ofQ (errQ c reading day),true)else(zF,false)
theorem ZrQ{f:Zag×Bool}{b:Bool}(h:f=(zF,b)):D.tup [encF zF,dB b]=D.tup [encF f.1,dB f.2]:=by rw[h]
theorem Zvp{f:Zag×Bool}{q:Rat}{b:Bool}(h:f=(ofQ q,b)):D.tup [encF (ofQ q),dB b]=D.tup [encF f.1,dB f.2]:=by rw[h]
theorem ZC7{n a b:Int}:inB n a b=true↔a≤n∧n≤b:=by simp[inB]
theorem Zw1{a b A B:Int}(h1:0≤a)(h2:a≤A)(h3:0≤b)(h4:b≤B):0≤a*b∧a*b≤A*B :=
 ⟨Int.mul_nonneg h1 h3,Int.le_trans (Int.mul_le_mul_of_nonneg_right h2 h3) (Yd1 h4 (Int.le_trans h1 h2))⟩
theorem ZfF{c:ZdD}{reading day:Int}(h:Zin c reading day=true):(0≤c.p*reading∧c.p*reading≤1099511627776000)∧(0≤day-c.f∧day-c.f≤100000)∧(0≤c.d*(day-c.f)∧c.d*(day-c.f)≤1000000000000)∧(0≤c.g∧c.g≤1099511627776)∧(0≤reading∧reading≤1099511627776):=by
 simp only[Zin,ZeI,Ya2,Zuh,ZC7,decide_eq_true_eq]at h
 obtain⟨⟨⟨⟨f0,f1,f2,s1,g1,p1,d1⟩,h1⟩,h2⟩,h3,h4⟩:=h
 have hd:0≤day-c.f∧day-c.f≤100000:=by omega
 exact⟨Zw1 p1.1 p1.2 h3 h4,hd,Zw1 d1.1 d1.2 hd.1 hd.2,g1,h3,h4⟩
theorem Zkx(p q:Int)(hq:q≠0)(p1 : -9223372036854775808≤p)(p2:p≤9223372036854775807)(q1 : -9223372036854775808≤q)(q2:q≤9223372036854775807):szQ (Rat.divInt p q)≤4:=by
 have h1:=Zfj p q hq
 have h2:szZ p≤4:=ZhO (by simp only[bp];omega)
 have h3:szZ q≤4:=ZhO (by simp only[bp];omega)
 omega
theorem ZBR{c:ZdD}{reading day:Int}(h:Zin c reading day=true):szQ (errQ c reading day)≤9:=by
 obtain⟨h1,h2,h3,h4,h5⟩:=ZfF h
 have e1:=Zkx (c.p*reading) 1000 (by decide) (by omega) (by omega) (by decide) (by decide)
 have e2:=ZdU (c.g+c.d*(day-c.f)) (by omega) (by omega)
 have e3:=ZfP (Rat.divInt (c.p*reading) 1000) ((c.g+c.d*(day-c.f):Int):Rat)
 unfold errQ
 omega
theorem err_c(c:ZdD)(reading day:Int):Zah Tryz.prog 114 [encC c,dI reading,dI day] (.tup [encF (errD c reading day).1,dB (errD c reading day).2]):=by
 have Zr:=Tryz.results114
 have hw:=ZaP reading 1099511627776
 have hv:=Zty c day
 cases h1:ZeI c day
 ·rw[h1]at hv
  refine inC Tryz.func114 rfl Tryz.ntmps114 ?_
  refine aGo Zr ?_
  repeat with_reducible intro K hK
  exact ZrQ (by simp[errD,Zin,h1])
 rw[h1]at hv
 cases h2:inB reading 0 1099511627776
 ·rw[h2]at hw
  refine inC Tryz.func114 rfl Tryz.ntmps114 ?_
  refine aGo Zr ?_
  repeat with_reducible intro K hK
  exact ZrQ (by simp[errD,Zin,h1,h2])
 rw[h2]at hw
 have hok:Zin c reading day=true:=by simp[Zin,h1,h2]
 obtain⟨b1,b2,b3,b4,b5⟩:=ZfF hok
 have e1:=Zkx (c.p*reading) 1000 (by decide) (by omega) (by omega) (by decide) (by decide)
 have e2:=ZdU (c.g+c.d*(day-c.f)) (by omega) (by omega)
 have w1:IntKind.i64.wrap (c.p*reading)=c.p*reading:=Zax (by omega) (by omega)
 have w2:IntKind.i64.wrap (day-c.f)=day-c.f:=Zax (by omega) (by omega)
 have w3:IntKind.i64.wrap (c.d*(day-c.f))=c.d*(day-c.f):=Zax (by omega) (by omega)
 have w4:IntKind.i64.wrap (c.g+c.d*(day-c.f))=c.g+c.d*(day-c.f):=Zax (by omega) (by omega)
 have k1:=ZE2 (c.p*reading) 1000 (by decide) (by omega) (by omega) (by decide) (by decide)
 have k2:=ZpL (c.g+c.d*(day-c.f)) (by omega) (by omega)
 have k3:=ZhT (Rat.divInt (c.p*reading) 1000) ((c.g+c.d*(day-c.f):Int):Rat) (by omega) (by omega)
 refine inC Tryz.func114 rfl Tryz.ntmps114 ?_
 refine aGo (cj4 Zr w1 w2 (cj2 w3 w4)) ?_
 repeat with_reducible intro K hK
 exact Zvp (by simp[errD,hok,errQ])
structure IntD where
 lo:Zag
 hi:Zag
 ok:Bool
def noI:IntD:=⟨zF,zF,false⟩
def okI(r e:Rat):IntD:=⟨ofQ (maxQ (r-e) 0),ofQ (r+e),true⟩
def intD(cs:List ZdD)(rs:List RecD)(which reading day:Int):IntD :=
 match ZpO cs which day with
 | none=>noI
 | some b=>match cs[b]? with
   | none=>noI
   | some c=>if recC rs which day || !inB reading 0 1099511627776 then noI else okI (reading:Int) (errQ c reading day)
abbrev encI(x:IntD):D:=.tup [encF x.lo,encF x.hi,dB x.ok]
theorem Znj{x y:IntD}(h:x=y):encI y=encI x:=by rw[h]
theorem ZjT{cs:List ZdD}{s day:Int}{b:Nat}(h:ZpO cs s day=some b):b<cs.length∧∃ c,cs[b]? =some c∧ZeI c day=true∧c.s=s:=by
 obtain⟨h1,c,h2,h3⟩:=Ztg _ b h
 simp only[ownC,Ya2,beq_iff_eq]at h3
 exact⟨h1,c,h2,h3.2,h3.1⟩
theorem Zxm(cs:List ZdD)(rs:List RecD)(which reading day:Int)(hc:(cs.length:Int)≤1099511627776)(hl:(rs.length:Int)≤1099511627776):Zah Tryz.prog 60 [ZpV cs,Zjb rs,dI which,dI reading,dI day] (encI (intD cs rs which reading day)):=by
 have Zr:=Tryz.results60
 have hf:=ZE5 cs which day hc
 have hr:=Zum rs which day hl
 cases h1:ZpO cs which day with
 | none =>
   rw[h1]at hf
   refine inC Tryz.func60 rfl Tryz.ntmps60 ?_
   refine aGo Zr ?_
   repeat with_reducible intro K hK
   exact Znj (y:=noI) (by simp[intD,h1])
 | some b =>
   rw[h1]at hf
   obtain⟨hb,c,hx,hcv,_⟩:=ZjT h1
   have h5:(0:Int)≤b:=by omega
   have h6:(b:Int)<cs.length:=by omega
   cases h2:recC rs which day
   rotate_left
   ·rw[h2]at hr
    refine inC Tryz.func60 rfl Tryz.ntmps60 ?_
    refine aGo Zr ?_
    repeat with_reducible intro K hK
    exact Znj (y:=noI) (by simp[intD,h1,hx,h2])
   rw[h2]at hr
   have he:=err_c c reading day
   cases h3:inB reading 0 1099511627776
   ·rw[show errD c reading day=(zF,false) by simp[errD,Zin,h3]]at he
    refine inC Tryz.func60 rfl Tryz.ntmps60 ?_
    refine aGo (cj4 Zr hx h5 h6) ?_
    repeat with_reducible intro K hK
    exact Znj (y:=noI) (by simp[intD,h1,hx,h2,h3])
   have hok:Zin c reading day=true:=by simp[Zin,hcv,h3]
   have hz:=ZBR hok
   obtain⟨b1,b2,b3,b4,b5⟩:=ZfF hok
   rw[show errD c reading day=(ofQ (errQ c reading day),true) by simp[errD,hok]]at he
   have hid:intD cs rs which reading day=okI reading (errQ c reading day):=by simp[intD,h1,hx,h2,h3]
   rw[hid]
   generalize errQ c reading day=e at *
   have z1:=ZdU reading (by omega) (by omega)
   have z2:=Zvv (reading:Rat) e
   have z3:=ZdU 0 (by decide) (by decide)
   have k1:=ZpL reading (by omega) (by omega)
   have k2:=ZBc (reading:Rat) e (by omega) (by omega)
   have k3:=ZhT (reading:Rat) e (by omega) (by omega)
   have k0:=ZpL 0 (by decide) (by decide)
   have k4:=ZE3 ((reading:Rat)-e) ((0:Int):Rat) (by omega) (by omega)
   refine inC Tryz.func60 rfl Tryz.ntmps60 ?_
   refine aGo (cj4 Zr hx h5 h6) ?_
   repeat with_reducible intro K hK
   exact Znj (y:=⟨ofQ (maxQ (reading-e) ((0:Int):Rat)),ofQ (reading+e),true⟩) rfl
theorem Zqy{f:Zag}(h:okF f=false):sgnD f=0:=by simp[sgnD,h]
def Zdq(n:Int)(w:RowD):Bool:=Zai w.t n&&decide (0≤w.k)&&decide (w.k<3)&&okF w.v
def ZaB(s:SysD):Bool:=decide (0≤s.n)&&decide (s.n≤1500)&&decide ((s.r.length:Int)≤6000)&&s.r.all (Zdq s.n)
theorem ZaW{α:Type}{p:α→Bool}{l:List α}{k:Nat}{x:α}(hx:l[k]? =some x)(h:(l.take k).all p=true)(hp:p x=true):(l.take (k+1)).all p=true:=by
 rw[Yb4,hx];simp[List.all_append,h,hp]
theorem ZeP{α:Type}{p:α→Bool}{l:List α}{k:Nat}{x:α}(hx:l[k]? =some x)(hp:p x=false):l.all p=false:=by
 rw[List.all_eq_false]
 exact⟨x,Ya7 hx,by simp[hp]⟩
theorem ZiX(s:SysD)(hs:smS s):Zaa Tryz.prog 134 [encS s] (dB (ZaB s)):=by
 refine Zah.toN ?_ rfl
 have Zr:=Tryz.results134
 have hl:=ZvO hs
 refine inC Tryz.func134 rfl Tryz.ntmps134 ?_
 by_cases h1:s.n<0
 ·refine aGo (cj2 Zr h1) ?_
  repeat with_reducible intro K hK
  exact Zaj (by simp[ZaB];omega)
 by_cases h2:s.n>1500
 ·refine aGo (cj3 Zr h1 h2) ?_
  repeat with_reducible intro K hK
  exact Zaj (by simp[ZaB];omega)
 by_cases h3:(s.r.length:Int)>6000
 ·refine aGo (cj4 Zr h1 h2 h3) ?_
  repeat with_reducible intro K hK
  exact Zaj (by simp[ZaB];omega)
 refine aGo (cj4 Zr h1 h2 h3) ?_
 repeat with_reducible intro K hK
 refine Zas (fun(k:Nat)=>[(1,.lp 0 0 0 0),(20,ZAy s.r),(21,dI s.r.length),(22,dI k)]) (fun _=>[(0,⟨99,0,2,[cS s],0,false⟩)]) 1 0 (fun k=>k≤s.r.length∧(s.r.take k).all (Zdq s.n)=true) (fun k=>s.r.length-k) 0 ⟨by omega,rfl⟩ ?_ ?_
 ·exact leGo trivial
 ·rintro k ⟨hk,hg⟩
  obtain⟨hw,h0⟩:=ZaO k
  by_cases h4:(k:Int)<s.r.length
  ·obtain⟨w,hx⟩:=getE (l:=s.r) (k:=k) (by omega)
   have sm:=hs.2 w (ZaL hx)
   have k1:=Ze3 w.t s.n sm.1
   have k2:=ZcV w.v (Zgw sm.2)
   have bad:Zdq s.n w=false→D.v (.bool false)=dB (ZaB s):=fun h=>Zaj (by simp[ZaB,ZeP hx h])
   cases h5:Zai w.t s.n
   ·rw[h5]at k1
    refine aGo (cj4 Zr h0 h4 (cj2 hx hw)) ?_
    repeat with_reducible intro K hK
    exact bad (by simp[Zdq,h5])
   rw[h5]at k1
   by_cases h6:w.k<0
   ·refine aGo (cj4 Zr h0 h4 (cj3 hx hw h6)) ?_
    repeat with_reducible intro K hK
    exact bad (by simp[Zdq];omega)
   by_cases h7:w.k≥3
   ·refine aGo (cj4 Zr h0 h4 (cj4 hx hw h6 h7)) ?_
    repeat with_reducible intro K hK
    exact bad (by simp[Zdq];omega)
   cases h8:okF w.v
   ·rw[h8]at k2
    refine aGo (cj4 Zr h0 h4 (cj4 hx hw h6 h7)) ?_
    repeat with_reducible intro K hK
    exact bad (by simp[Zdq,h8])
   rw[h8]at k2
   refine aGo (cj4 Zr h0 h4 (cj4 hx hw h6 h7)) ?_
   repeat with_reducible intro K hK
   exact Zad (k+1) ⟨by omega,ZaW hx hg (by simp[Zdq,h5,h8];omega)⟩ (by omega) (by exact leGo trivial)
  ·refine aGo (cj2 Zr h4) ?_
   repeat with_reducible intro K hK
   rw[Ya8 (by omega)]at hg
   exact Zaj (by simp[ZaB,hg];omega)
def okP(x:List Zag):Bool:=x.all okF
theorem Zry{α:Type}{p:α→Bool}{l:List α}{k:Nat}{x:α}(hx:l[k]? =some x)(h:(l.take k).all p=true)(hp:p x=false):l.findIdx (fun y=> !p y)=k:=by
 obtain⟨hk,rfl⟩:=Ya3.1 hx
 refine(List.findIdx_eq hk).2 ⟨by simp[hp],fun j hj=>?_⟩
 rw[Ya6]at h
 simp[h l[j] (List.mem_take_iff_getElem.2 ⟨j,by omega,rfl⟩)]
def ZkT(x:List Zag):Int:=if okP x then -1 else x.findIdx (fun y=> !okF y)
theorem Zvd(x:List Zag):decide (ZkT x≥0) = !okP x:=by
 unfold ZkT
 cases okP x
 ·simp only[Bool.false_eq_true,if_false,Bool.not_false];exact decide_eq_true (by omega)
 ·rfl
theorem ZyO(f:Zag)(hs:smF f):Zaa Tryz.prog 191 [encF f] (dB (!okF f)):=by
 refine Zah.toN ?_ rfl
 have hc:=ZcV f (Zgw hs)
 refine inC Tryz.func191 rfl Tryz.ntmps191 ?_
 have Zr:=Tryz.results191
 exact aGo Zr trivial
theorem Zz9(x:List Zag)(hs:smFs x):Zaa Tryz.prog 207 [Za0 x,.clo 191 []] (dI (ZkT x)):=by
 refine Zah.toN ?_ rfl
 have hl:=Zix hs
 refine inC Tryz.func207 rfl Tryz.ntmps207 ?_
 have Zr:=Tryz.results207
 refine aGo Zr ?_
 repeat with_reducible intro K hK
 refine Zas (fun(k:Nat)=>[(0,Za0 x),(1,.clo 191 []),(7,dI x.length),(8,dI k)]) (fun _=>[]) 0 0 (fun k=>k≤x.length∧(x.take k).all okF=true) (fun k=>x.length-k) 0 ⟨by omega,rfl⟩ ?_ ?_
 ·exact leGo trivial
 ·rintro k ⟨hk,hn⟩
  obtain⟨hw,h0⟩:=ZaO k
  by_cases h1:(k:Int)<x.length
  ·obtain⟨f,hx⟩:=getE (l:=x) (k:=k) (by omega)
   have hc:=ZyO f (hs.2 f (ZaL hx))
   cases h2:okF f
   ·rw[h2]at hc
    refine aGo (cj4 Zr h0 h1 (cj2 hx hw)) ?_
    repeat with_reducible intro K hK
    have:ZkT x=k:=by
     have h3:okP x=false:=ZeP hx h2
     simp only[ZkT,h3,Zry hx hn h2];rfl
    rw[this]
   ·rw[h2]at hc
    refine aGo (cj4 Zr h0 h1 (cj2 hx hw)) ?_
    repeat with_reducible intro K hK
    exact Zad (k+1) ⟨by omega,ZaW hx hn h2⟩ (by omega) (by exact leGo trivial)
  ·refine aGo (cj2 Zr h1) ?_
   repeat with_reducible intro K hK
   rw[Ya8 (by omega)]at hn
   have:ZkT x = -1:=by have h3:okP x=true:=hn;simp only[ZkT,h3];rfl
   rw[this]
theorem Zrp(x:List Zag)(hs:smFs x):Zaa Tryz.prog 190 [Za0 x,.clo 191 []] (dB (!okP x)):=by
 refine Zah.toN ?_ rfl
 refine inC Tryz.func190 rfl Tryz.ntmps190 ?_
 have Zr:=Tryz.results190
 have hc:=Zz9 x hs
 refine aGo Zr ?_
 repeat with_reducible intro K hK
 exact Zaj (Zvd _)
theorem ZsX(x:List Zag)(hs:smFs x):Zaa Tryz.prog 143 [Za0 x] (dB (okP x)):=by
 refine Zah.toN ?_ rfl
 refine inC Tryz.func143 rfl Tryz.ntmps143 ?_
 have Zr:=Tryz.results143
 have hc:=Zrp x hs
 refine aGo Zr ?_
 repeat with_reducible intro K hK
 exact Zaj (by simp)
def atP(x:List Zag)(v:Int):Rat:=qOf ((x[v.toNat]?).getD zF)
def dotD(l:List Zaf)(x:List Zag):Rat:=l.foldl (fun a t=>a+qOf t.f*atP x t.v) 0
def ZbW(l:List Zaf)(x:List Zag):Zag×Bool:=if Zai l x.length&&okP x then(ofQ (dotD l x),true)else(zF,false)
theorem Zxw{n:Int}:∀ (l:List Zaf)(last:Int),-1≤last→goR n last l=true→∀ t∈l,0≤t.v∧t.v<n∧sgnD t.f≠0
 | [],_,_,_,t,ht=>by cases ht
 | u ::l,last,h0,h,t,ht=>by
   simp only[goR,Ya2,decide_eq_true_eq,bne_iff_ne]at h
   rcases List.mem_cons.1 ht with rfl|ht
   ·exact⟨by omega,h.1.1.2,h.1.2⟩
   ·exact Zxw l u.v (by omega) h.2 t ht
theorem Za6{l:List Zaf}{n:Int}(h:Zai l n=true){t:Zaf}(ht:t∈l):0≤t.v∧t.v<n∧okF t.f=true∧qOf t.f≠0:=by
 simp only[Zai,Ya2]at h
 obtain⟨h1,h2,h3⟩:=Zxw l (-1) (Int.le_refl _) h.2 t ht
 cases ho:okF t.f
 ·exact absurd (Zqy ho) h3
 ·refine⟨h1,h2,rfl,fun h0=>h3 ?_⟩
  simp[sgnD,ho,h0,sgQ]
theorem ZEg{x:List Zag}{A:Int}(h0:0≤A)(hx:∀ f∈x,(szF f:Int)≤A)(ho:okP x=true){v:Int}(h1:0≤v)(h2:v<x.length):∃ f,x[v.toNat]? =some f∧okF f=true∧(szF f:Int)≤A∧atP x v=qOf f:=by
 obtain⟨f,hf⟩:=getE (l:=x) (k:=v.toNat) (by omega)
 have hm:=Ya7 hf
 exact⟨f,hf,(Ya6.1 ho) f hm,hx f hm,by simp[atP,hf]⟩
theorem ZpY{l:List Zaf}{x:List Zag}{k:Nat}{t:Zaf}(hx:l[k]? =some t):dotD (l.take (k+1)) x=dotD (l.take k) x+qOf t.f*atP x t.v:=by
 unfold dotD
 rw[Yb4,hx]
 simp
theorem ZBS{l:List Zaf}{x:List Zag}{A B:Nat}(hl:∀ t∈l,szF t.f≤A)(hx:∀ f∈x,szF f≤B)(hr:Zai l x.length=true)(ho:okP x=true):∀ k,k≤l.length→szQ (dotD (l.take k) x)≤4+k*(A+B+1):=by
 intro k
 induction k with
 | zero=>intro _;rw[Nat.zero_mul];exact Yc7 (ZdU 0 (by decide) (by decide)) (by omega)
 | succ k ih =>
   intro hk
   obtain⟨t,ht⟩:=getE (l:=l) (k:=k) (by omega)
   rw[ZpY ht]
   have hm:=Ya7 ht
   obtain⟨h1,h2,h3,_⟩:=Za6 hr hm
   obtain⟨f,hf⟩:=getE (l:=x) (k:=t.v.toNat) (by omega)
   have hmf:=Ya7 hf
   have hof:=(Ya6.1 ho) f hmf
   have e:atP x t.v=qOf f:=by simp[atP,hf]
   rw[e]
   have i1:=ih (by omega)
   have i2:=ZfP (dotD (l.take k) x) (qOf t.f*qOf f)
   have i3:=Zgv (qOf t.f) (qOf f)
   rw[Zcl h3,Zcl hof]at i3
   have i4:=hl t hm
   have i5:=hx f hmf
   rw[Nat.add_mul,Nat.one_mul]
   omega
theorem ZEh{f:Zag}(h:smF f):szF f≤2048*2048:=by unfold smF at h;omega
theorem ZrU{l:List Zaf}{x:List Zag}(hl:smT l)(hx:smFs x)(hr:Zai l x.length=true)(ho:okP x=true){k:Nat}(hk:k≤l.length):(szQ (dotD (l.take k) x):Int)≤34359750000:=by
 have h:=ZBS (A:=2048*2048) (B:=2048*2048) (fun t ht=>ZEh (hl.2 t ht)) (fun f hf=>ZEh (hx.2 f hf)) hr ho k hk
 have hk2:(k:Int)≤4096:=by have:=hl.1;omega
 have h2:(szQ (dotD (l.take k) x):Int)≤4+(k:Int)*8388609:=by
  have:=Int.ofNat_le.2 h
  simp only[Int.natCast_add,Int.natCast_mul]at this
  omega
 omega
theorem ZsU(l:List Zaf)(x:List Zag)(hs:smT l)(hxs:smFs x)(hr:Zai l x.length=true)(ho:okP x=true):Zah Tryz.prog 144 [Zbk l,Za0 x] (encF (ofQ (dotD l x))):=by
 have hl:=Zk6 hs
 have hlx:=Zix hxs
 have hz:=nZ_c
 refine inC Tryz.func144 rfl Tryz.ntmps144 ?_
 have Zr:=Tryz.results144
 refine aGo Zr ?_
 repeat with_reducible intro K hK
 refine Zas (fun(k:Nat)=>[(0,Zbk l),(1,Za0 x),(4,.lp 0 0 0 0),(5,.lp 1 0 0 0),(11,Zbk l),(12,dI l.length),(13,dI k)]) (fun k=>[(0,⟨53,0,4,[[dI 0,.nil,dI 0,.nil]],0,false⟩),(1,⟨53,0,4,[cF (ofQ (dotD (l.take k) x))],0,false⟩)]) 2 0 (fun k=>k≤l.length) (fun k=>l.length-k) 0 (by omega) ?_ ?_
 ·refine Zak _ _ _ ?_ ?_ ?_ ?_ ?_ (.inl rfl)<;>simp[go_sem,okD,okDs,Zav,dotD]<;>(first|(intros;subst_vars;simp[okD,okDs];done)|(intro _ h;rcases h with⟨_,_,rfl⟩|rfl<;>simp[okD,okDs];done)|(intros;rename_i h;rcases h with⟨_,_,rfl⟩|rfl<;>simp[okD,okDs]))
 ·rintro k hk
  obtain⟨hw,h0⟩:=ZaO k
  by_cases h1:(k:Int)<l.length
  ·obtain⟨t,ht⟩:=getE (l:=l) (k:=k) (by omega)
   obtain⟨h2,h3,h4,_⟩:=Za6 hr (ZaL ht)
   obtain⟨f,h5,h6,h7,h8⟩:=ZEg (A:=4194304) (by decide) hxs.2 ho h2 h3
   have hd:=ZpY (x:=x) ht
   rw[h8]at hd
   have k1:=ZxH t.f f (Zgw (hs.2 t (ZaL ht))) (by omega)
   rw[show mulD t.f f=(ofQ (qOf t.f*qOf f),0) by simp[mulD,h4,h6]]at k1
   have z1:=ZrU hs hxs hr ho hk
   have z2:=Zgv (qOf t.f) (qOf f)
   rw[Zcl h4,Zcl h6]at z2
   have z3:(szF t.f:Int)≤4194304:=hs.2 t (ZaL ht)
   have k2:=ZxN (ofQ (dotD (l.take k) x)) (ofQ (qOf t.f*qOf f)) (by rw[Ze8];omega) (by rw[Ze8];omega)
   rw[Zou]at k2
   refine aGo (cj4 Zr h0 h1 (cj4 ht h2 h3 (cj2 h5 hw))) ?_
   repeat with_reducible intro K hK
   exact Zad (k+1) (by omega) (by omega) (by exact leGo hd)
  ·refine aGo (cj2 Zr h1) ?_
   repeat with_reducible intro K hK
   rw[Ya8 (by omega)]
theorem Zvo{l:List Zaf}{x:List Zag}(h:(Zai l x.length&&okP x)=false):D.tup [encF zF,dB false]=D.tup [encF (ZbW l x).1,dB (ZbW l x).2]:=by
 unfold ZbW;rw[h];rfl
theorem ZyS{l:List Zaf}{x:List Zag}(h1:Zai l x.length=true)(h2:okP x=true):D.tup [encF (ofQ (dotD l x)),dB true]=D.tup [encF (ZbW l x).1,dB (ZbW l x).2]:=by
 unfold ZbW;rw[h1,h2];rfl
theorem ZnY(l:List Zaf)(x:List Zag)(hs:smT l)(hxs:smFs x):Zah Tryz.prog 120 [Zbk l,Za0 x] (.tup [encF (ZbW l x).1,dB (ZbW l x).2]):=by
 have Zr:=Tryz.results120
 have k1:=Ze3 l x.length hs
 have k2:=ZsX x hxs
 cases h1:Zai l x.length
 ·rw[h1]at k1
  refine inC Tryz.func120 rfl Tryz.ntmps120 ?_
  refine aGo Zr ?_
  repeat with_reducible intro K hK
  exact Zvo (by rw[h1];rfl)
 rw[h1]at k1
 cases h2:okP x
 ·rw[h2]at k2
  refine inC Tryz.func120 rfl Tryz.ntmps120 ?_
  refine aGo Zr ?_
  repeat with_reducible intro K hK
  exact Zvo (by rw[h2,Bool.and_false])
 rw[h2]at k2
 have k3:=ZsU l x hs hxs h1 h2
 refine inC Tryz.func120 rfl Tryz.ntmps120 ?_
 refine aGo Zr ?_
 repeat with_reducible intro K hK
 exact ZyS h1 h2
def ZjR(k c:Int):Bool:=c==0||(decide (c>0)&&k==0)||(decide (c<0)&&k==1)
def ZeC(w:RowD)(x:List Zag):Bool:=ZjR w.k (sgQ (dotD w.t x-qOf w.v))
def ZhR(x:List Zag):Bool:=x.all fun f=>decide (0≤sgnD f)
def Zap(s:SysD)(x:List Zag):Bool:=ZaB s&&decide ((x.length:Int)=s.n)&&okP x&&ZhR x&&s.r.all (fun w=>ZeC w x)
theorem ZjB{s:SysD}(h:ZaB s=true){w:RowD}(hw:w∈s.r):Zdq s.n w=true:=by
 simp only[ZaB,Ya2]at h
 exact Ya6.1 h.2 w hw
theorem Zvw(w:RowD)(x:List Zag)(hs:smT w.t)(hx:smFs x)(hr:Zai w.t x.length=true)(ho:okP x=true):(szF (ofQ (dotD w.t x)):Int)≤34359750000:=by
 have:=ZrU hs hx hr ho (Ya4 _)
 rw[Yc2]at this
 exact this
end Go.Proofs.YtjeaacindikplaaGreat
