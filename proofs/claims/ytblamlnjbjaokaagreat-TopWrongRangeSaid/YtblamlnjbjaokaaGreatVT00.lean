/-
  What an argument's reading tells, for whatever type of ints, bools, strings, slices and structs: it shows data of the type's shape.
-/
import Derived.Test.YtblamlnjbjaokaaGreatVLib
import Derived.Test.YtblamlnjbjaokaaGreatVConv
import Derived.Test.YtblamlnjbjaokaaGreatRows
import Derived.ProofKit
import Derived.OpenShut
import Derived.ChangeOld
import Derived.Lib.SmallJoins
import Derived.Deep.Slices
import Derived.Test.YtblamlnjbjaokaaGreatVRefB
import Derived.Test.YtblamlnjbjaokaaGreatVRefA
namespace Go.Proofs.YtblamlnjbjaokaaGreat
set_option linter.unusedVariables false
set_option linter.unusedSimpArgs false
set_option linter.unusedSectionVars false
open Go.RowKit Go.ChangeShapes Go.WideShapes Go.ChangeAt
def ZlW(P:Program):Nat→List Field→Nat→Bool
 | at',[],tot=>at'==tot
 | at',f ::fs,tot=>f.offset==at'&&ZlW P (at'+P.cellsOf f.type) fs tot
def Znz(P:Program):Nat→TypeId→Bool
 | 0,_=>false
 | n+1,T=>match P.underlying T with
   | some .bool=>true
   | some (.int _)=>true
   | some .string=>true
   | some (.slice e)=>decide (0<P.cellsOf e)&&Znz P n e
   | some (.struct fs)=>ZlW P 0 fs.toList (P.cellsOf T)&&fs.toList.all (fun f=>Znz P n f.type)
   | _=>false
def Zbh(P:Program):Nat→TypeId→List D→Prop
 | 0,_,_=>False
 | n+1,T,ds=>match P.underlying T with
   | some .bool=>∃ b,ds=[.v (.bool b)]
   | some (.int k)=>∃ x,ds=[.v (.int k x)]∧(Lit.int k x).wf=true
   | some .string=>∃ s,ds=[.v (.string s)]∧s.size≤maxLen
   | some (.slice e)=>∃ es:List (List D),ds=[.sl es]∧(es.length:Int)≤maxLen∧∀ x∈es,Zbh P n e x
   | some (.struct fs)=>fs.toList.foldr (fun f K ds=>∃ a b,ds=a++b∧Zbh P n f.type a∧K b) (fun ds=>ds=[]) ds
   | _=>False
abbrev allS:Nat→Nat→Prop:=fun _ _=>True
abbrev RepA(w:World)(v:Value)(d:D):Prop:=Rep noB noM allS w v d
abbrev ZnW(w:World)(vs:List Value)(ds:List D):Prop:=Reps noB noM allS w vs ds
theorem Zlw{w:World}{vs us:List Value}{ds es:List D}(h:ZnW w vs ds)(k:ZnW w us es):ZnW w (vs++us) (ds++es):=by
 refine⟨by rw[Yb9,Yb9,h.1,k.1],fun i x d hx hd=>?_⟩
 have hl:vs.length=ds.length:=h.1
 by_cases hi:i<vs.length
 ·rw[Yc3 hi]at hx
  rw[Yc3 (by omega)]at hd
  exact h.2 i x d hx hd
 ·rw[Yc4 (by omega)]at hx
  rw[Yc4 (by omega),← hl]at hd
  exact k.2 _ x d hx hd
theorem ZdG{w:World}{x:Value}{d:D}(h:RepA w x d):ZnW w [x] [d]:=Reps.cons h Reps.nil
section
variable {H:Type} {enc:TypeId×Value→H} {P:Program} {w:World} {base:Nat} {spare:Nat→Bool} {held:Bool}
theorem Zia:∀ (n:Nat)(T:TypeId)(fuel:Nat)(cs:List Value)(y:DataW H×List MemPlace),Znz P n T=true→DataW.trod enc P w base spare held fuel T cs=some y→∃ ds,Zbh P n T ds∧ZnW w cs ds:=by
 intro n
 induction n with
 | zero=>intro T fuel cs y h;cases h
 | succ n ih =>
   intro T fuel cs y hg h
   unfold Znz at hg
   unfold Zbh
   split at hg
   ·rename_i ht
    obtain⟨b,rfl,_⟩:=DataW.trod_bool ht h
    exact⟨[.v (.bool b)],by exact⟨b,rfl⟩,ZdG (.v _)⟩
   ·rename_i k ht
    obtain⟨x,rfl,_,hw⟩:=DataW.trod_int ht h
    exact⟨[.v (.int k x)],by exact⟨x,rfl,hw⟩,ZdG (.v _)⟩
   ·rename_i ht
    obtain⟨s,rfl,_,hw⟩:=DataW.trod_string ht h
    exact⟨[.v (.string s)],by exact⟨s,rfl,hw⟩,ZdG (.v _)⟩
   ·rename_i e ht
    rw[Ya2,decide_eq_true_eq]at hg
    obtain⟨hk,hg⟩:=hg
    rcases Go.Deep.open_slice ht h with⟨rfl,_⟩|⟨ad,len,cap,m,fl,Dd,Pl,rfl,hb,hl,hm,hmm,_,hx⟩
    ·exact⟨[.sl []],by exact⟨[],rfl,by simp,fun x hx=>by cases hx⟩,ZdG (.sl0 _ _ (Yb0 _))⟩
    ·by_cases hz:len=0
     ·subst hz
      exact⟨[.sl []],by exact⟨[],rfl,by simp,fun x hx=>by cases hx⟩,ZdG (.sl0 _ _ hm)⟩
     have hmle:len≤m:=by rw[hmm];split<;>omega
     obtain⟨f,hf⟩:=Go.Deep.choose_lt (n:=len) (p:=fun i (x:List D)=>∃ cs,Zbh P n e x∧ZnW w cs x∧cs.length=P.cellsOf e∧∀ j,j<P.cellsOf e→w.cell? ((ad.add (i*P.cellsOf e)).add j)=cs[j]?) (fun i hi=>by
      obtain⟨cs,h1,h2⟩:=hx i (by omega)
      obtain⟨_,hcl,hcell⟩:=World.cells?_some h1
      obtain⟨ds,h3,h4⟩:=ih e fl cs _ hg h2
      exact⟨ds,cs,h3,h4,hcl,hcell⟩)
     obtain⟨b,off,spot⟩:=ad
     obtain⟨cs0,_,_,hl0,hc0⟩:=hf 0 (by omega)
     have hc00:=hc0 0 hk
     rw[Ya0 (by omega)]at hc00
     have hsp:spot=none:=by simpa[Addr.add]using World.cell?_spot hc00
     subst hsp
     have hadd:∀ i j,((⟨b,off,none⟩:Addr).add i).add j=⟨b,off+i+j,none⟩:=fun i j=>by
      rw[Go.Deep.add_add]
      unfold Addr.add
      split
      ·rename_i h;simp;try omega
      ·simp;try omega
     have hget:∀ (i:Nat)(x:List D),((List.range len).map f)[i]? =some x→i<len∧x=f i:=by
      intro i x hi
      obtain⟨hil,hix⟩:=Ya3.1 hi
      simp only[Yc0,List.length_range]at hil
      simp only[List.getElem_map,List.getElem_range]at hix
      exact⟨hil,hix.symm⟩
     refine⟨[.sl ((List.range len).map f)],by
      refine⟨_,rfl,by simp;omega,fun x hx=>?_⟩
      obtain⟨i,hi,rfl⟩:=Yc6.1 hx
      obtain⟨cs,h1,_⟩:=hf i (by simpa using hi)
      exact h1,ZdG ?_⟩
     have:=Zh8 (β:=noB) (m:=noM) (S:=allS) (w:=w) (b:=b) (off:=off) (k:=P.cellsOf e) (cap:=cap) (es:=(List.range len).map f) ⟨fun i x hi=>?_,fun i j d hd=>?_⟩ (by simpa using hl) hm
     ·simpa using this
     ·obtain⟨hil,rfl⟩:=hget i x hi
      obtain⟨cs,_,h2,h3,_⟩:=hf i hil
      exact h2.1.symm.trans h3
     ·obtain⟨x,hx,hj⟩:=Zaf.1 hd
      obtain⟨hil,rfl⟩:=hget i x hx
      obtain⟨cs,_,h2,h3,h4⟩:=hf i hil
      have hjl:j<cs.length:=by rw[h2.1];exact(Ya3.1 hj).1
      have hcj:cs[j]? =some cs[j]:=Ya0 hjl
      refine⟨cs[j],trivial,?_,h2.2 j _ d hcj hj⟩
      have:=h4 j (by omega)
      rw[hadd,hcj]at this
      exact this
   ·rename_i fs ht
    rw[Ya2,Ya6]at hg
    obtain⟨hlaid,hgood⟩:=hg
    obtain⟨xs,fl,_,_,hlen,hxs,hf⟩:=DataW.trod_struct ht h
    have key : ∀ (l : List Field) (at' : Nat), ZlW P at' l (P.cellsOf T) = true → at' ≤ cs.length → (∀ f ∈ l, Znz P n f.type = true ∧ ∃ y, DataW.trod enc P w base spare held fl f.type ((cs.drop f.offset).take (P.cellsOf f.type)) = some y) →
        ∃ ds,l.foldr (fun f K ds=>∃ a b,ds=a++b∧Zbh P n f.type a∧K b) (fun ds=>ds=[]) ds∧ZnW w (cs.drop at') ds:=by
     intro l
     induction l with
     | nil =>
       intro at' hat hle _
       simp only[ZlW,beq_iff_eq]at hat
       refine⟨[],rfl,?_⟩
       rw[hat,← hlen,List.drop_length]
       exact Reps.nil
     | cons f l ihl =>
       intro at' hat hle hall
       simp only[ZlW,Ya2,beq_iff_eq]at hat
       obtain⟨ho,hrest⟩:=hat
       obtain⟨hgf,y,hy⟩:=hall f Yb7
       obtain⟨a,ha,hra⟩:=ih f.type fl _ y hgf hy
       rw[ho]at hra
       have htot:∀ (l:List Field)(k:Nat),ZlW P k l (P.cellsOf T)=true→k≤P.cellsOf T:=by
        intro l
        induction l with
        | nil=>intro k hk;simp only[ZlW,beq_iff_eq]at hk;omega
        | cons g l ihg=>intro k hk;simp only[ZlW,Ya2]at hk;have:=ihg _ hk.2;omega
       obtain⟨b,hb,hrb⟩:=ihl (at'+P.cellsOf f.type) hrest (by rw[hlen];exact htot l _ hrest) (fun g hg=>hall g (Yb6 _ hg))
       refine⟨a++b,⟨a,b,rfl,ha,hb⟩,?_⟩
       have:=Zlw hra hrb
       rwa [← List.drop_drop,List.take_append_drop]at this
    obtain⟨ds,h1,h2⟩:=key fs.toList 0 hlaid (Yb0 _) (fun f hf'=>by
     obtain⟨i,hi,hfi⟩:=List.mem_iff_getElem.1 hf'
     refine⟨hgood f hf',?_⟩
     have h3:=hf i f (by rw[← Array.getElem?_toList];rw[Ya0 hi,hfi])
     have hi':i<xs.length:=by rw[hxs];simpa using hi
     exact⟨xs[i],by rw[h3,Ya0 hi']⟩)
    exact⟨ds,h1,by simpa using h2⟩
   ·cases hg
theorem Zic{n:Nat}{T:TypeId}{fs:Array Field}{r:Reach}{b0:Nat}{v:Value}{d:DataW H}{p:List MemPlace}(ht:P.underlying T=some (.struct fs))(hg:Znz P n T=true)
 (hv:Value.okWide P w r b0 T v) (h:DataW.Trod enc P w base spare held T v d p):∃ ds,Zbh P n T ds∧RepA w v (.agg ds):=by
 obtain⟨cs,rfl,_⟩:=okWide_struct ht hv
 obtain⟨fuel,hf⟩:=h
 obtain⟨ds,h1,h2⟩:=Zia n T fuel _ _ hg hf
 refine⟨ds,h1,?_⟩
 have:=Reps.rep_agg h2
 simpa[Value.cells]using this
theorem ZgO{n:Nat}{T e:TypeId}{r:Reach}{b0:Nat}{v:Value}{d:DataW H}{p:List MemPlace}(ht:P.underlying T=some (.slice e))(hg:Znz P (n+1) T=true)
 (hv:Value.okWide P w r b0 T v) (h:DataW.Trod enc P w base spare held T v d p):∃ es:List (List D),(es.length:Int)≤maxLen∧(∀ x∈es,Zbh P n e x)∧RepA w v (.sl es):=by
 obtain⟨a,len,cap,rfl⟩:=okWide_slice ht hv
 obtain⟨fuel,hf⟩:=h
 obtain⟨ds,h1,h2⟩:=Zia (n+1) T fuel _ _ hg hf
 unfold Zbh at h1
 rw[ht]at h1
 obtain⟨es,rfl,h3,h4⟩:=h1
 refine⟨es,h3,h4,?_⟩
 exact h2.2 0 _ _ (by simp[Value.cells]) rfl
end
theorem Zcj{α:Type}{f:α→List D}:∀ {es:List (List D)},(∀ x∈es,∃ a,x=f a)→∃ l:List α,es=l.map f
 | [],_=>⟨[],rfl⟩
 | x ::es,h=>by
   obtain⟨a,ha⟩:=h x Yb7
   obtain⟨l,hl⟩:=Zcj (es:=es) fun y hy=>h y (Yb6 _ hy)
   exact⟨a ::l,by rw[ha,hl];rfl⟩
open Go Go.RowKit
section ifl
variable [Ifl]
section
variable {β β':Bet} {m m':Mem} {S S':Nat→Nat→Prop} {w:World} {keep:Nat→Bool}
mutual
theorem Zng(hm:∀ id,keep id=true→m' id=m id∧β' id=β id)(hs:Zao S w S' w):∀ (d:D)(x:Value),okD keep d=true→Rep β m S w x d→Rep β' m' S' w x d
 | .v y,x,_,h=>by rw[h.inv_v];exact .v _
 | .nil,x,_,h=>by rw[h.inv_nil];exact .nil
 | .agg l,x,ho,h=>by
   obtain⟨vs,rfl,h1,h2⟩:=h.inv_agg
   exact(ZhA hm hs l vs (by simpa[okD]using ho) ⟨h1,h2⟩).rep_agg
 | .tup l,x,ho,h=>by
   obtain⟨vs,rfl,h1,h2⟩:=h.inv_tup
   exact(ZhA hm hs l vs (by simpa[okD]using ho) ⟨h1,h2⟩).rep_tup
 | .sl es,x,_,h=>(h.sl_no.mono (ZaD.refl _ _ _) hs).lift
 | .cl es,x,_,h=>by obtain⟨a,rfl,h1⟩:=h.inv_cl;exact .cl a es (h1.mono (ZaD.refl _ _ _) hs)
 | .ep es i o,x,_,h=>(h.ep_no.mono (ZaD.refl _ _ _) hs).lift
 | .ls id ver,x,ho,h=>by
   obtain⟨a,n,cap,blk,rfl,h1,h2,hx,h3⟩:=h.inv_lsx
   have hk:=hm id (by simpa[okD]using ho)
   exact .ls a n cap id ver blk (hk.1.trans h1) h2 hx (fun e=>by rw[hk.2];exact h3 e)
 | .lp id ver i o,x,ho,h=>by
   obtain⟨b,p,blk,rfl,h1,h2,h3⟩:=h.inv_lp
   have hk:=hm id (by simpa[okD]using ho)
   exact .lp b p id ver i o blk (hk.1.trans h1) h2 (fun e=>by rw[hk.2];exact h3 e)
 | .mp id ver,x,ho,h=>by
   obtain⟨b,blk,rfl,h1,h2,h3⟩:=h.inv_mp
   have hk:=hm id (by simpa[okD]using ho)
   exact .mp b id ver blk (hk.1.trans h1) h2 (fun e=>by rw[hk.2];exact h3 e)
 | .clo f l,x,ho,h=>by
   obtain⟨vs,rfl,h1,h2⟩:=h.inv_clo
   have:=ZhA hm hs l vs (by simpa[okD]using ho) ⟨h1,h2⟩
   exact .clo f vs l this.1 this.2
 | .junk,x,_,_=>.junk _
theorem ZhA(hm:∀ id,keep id=true→m' id=m id∧β' id=β id)(hs:Zao S w S' w):∀ (l:List D)(vs:List Value),okDs keep l=true→Reps β m S w vs l→Reps β' m' S' w vs l
 | [],vs,_,h=>by
   obtain rfl:vs=[]:=Ya9 h.1
   exact Reps.nil
 | d ::l,vs,ho,h=>by
   simp only[okDs,Ya2]at ho
   match vs,h with
   | [],h=>exact absurd h.1 (by simp)
   | v ::vs,h =>
     exact Reps.cons (Zng hm hs d v ho.1 (h.2 0 v d rfl rfl)) (ZhA hm hs l vs ho.2 ⟨by simpa using h.1,fun i y e hy he=>h.2 (i+1) y e (by simpa using hy) (by simpa using he)⟩)
end
end
theorem Rep.names{β:Bet}{m:Mem}{S:Nat→Nat→Prop}{w:World}{x:Value}{d:D}(h:Rep β m S w x d):okD (fun i=>(m i).isSome) d=true:=by
 have lists:∀ {m:Mem} {l:List D} {vs:List Value},vs.length=l.length→(∀ (i:Nat)(x:Value)(d:D),vs[i]? =some x→l[i]? =some d→okD (fun i=>(m i).isSome) d=true)→okDs (fun i=>(m i).isSome) l=true:=by
  intro m l
  induction l with
  | nil=>intro _ _ _;rfl
  | cons d l ih =>
    intro vs hl h
    match vs,hl with
    | v ::vs,hl =>
      simp only[okDs,Ya2]
      exact⟨h 0 v d rfl rfl,ih (by simpa using hl) fun i x e hx he=>h (i+1) x e (by simpa using hx) (by simpa using he)⟩
 induction h with
 | agg vs l hl _ ih=>simp only[okD];exact lists hl ih
 | tup vs l hl _ ih=>simp only[okD];exact lists hl ih
 | clo f vs l hl _ ih=>simp only[okD];exact lists hl ih
 | ls a n cap id ver blk hm _ _ _=>simp only[okD,hm];rfl
 | lp b p id ver i o blk hm _ _=>simp only[okD,hm];rfl
 | mp b id ver blk hm _ _=>simp only[okD,hm];rfl
 | _=>rfl
structure SubM (m' m:Mem) (n':Nat):Prop where
 sub:∀ id b,m' id=some b→m id=some b∧id<n'
 cl:∀ id b,m' id=some b→Zcb (fun i=>(m' i).isSome) b
section
variable {E:Env} {β:Bet} {m m':Mem} {nx n':Nat} {w:World}
theorem SubM.safe(h:SubM m' m n'):Zao (safe E β m) w (Go.Proofs.YtblamlnjbjaokaaGreat.safe E β m') w :=
 fun b o u h1 h2=>⟨⟨h1.1,fun id blk h3 h4=>h1.2 id blk (h.sub id blk h3).1 h4⟩,h2⟩
theorem SubM.keep(h:SubM m' m n'):∀ id,(m' id).isSome=true→m' id=m id:=by
 intro id hid
 cases hm:m' id with
 | none=>rw[hm]at hid;cases hid
 | some b=>rw[(h.sub id b hm).1]
theorem SubM.mem(h:SubM m' m n')(hM:Zay E β m nx w):Zay E β m' n' w:=by
 refine⟨hM.below,fun id b hb=>(h.sub id b hb).2,fun id b hb=>hM.fz id b (h.sub id b hb).1,fun id b hb=>hM.wid id b (h.sub id b hb).1,fun id b hb=>hM.non id b (h.sub id b hb).1,?_,?_⟩
 ·intro id b c hb hc
  obtain⟨h3,cs',h4,h5,h6⟩:=hM.row id b c (h.sub id b hb).1 hc
  refine⟨h3,cs',h4,h5,fun i j d hd=>?_⟩
  obtain⟨u,h7,h8⟩:=h6 i j d hd
  obtain⟨e,he,hj⟩:=Zaf.1 hd
  exact⟨u,h7,Zg8 h.keep h.safe d u (Zgb (h.cl id b hb e (Ya7 he)) d (Ya7 hj)) h8⟩
 ·intro x1 x2 y1 y2 c h1 h2 h3 h4
  exact hM.inj x1 x2 y1 y2 c (h.sub _ _ h1).1 (h.sub _ _ h2).1 h3 h4
end
theorem le_sub{s:St}(l:List (Nat×D))(m':Mem)(n':Nat)(h:SubM m' s.m n')(ht:∀ p∈l,s.t p.1=p.2)(hok:∀ p∈l,okD (fun i=>(m' i).isSome) p.2=true)(hlo:∀ id,id<s.lo→m' id=s.m id):StLe s ⟨tabT l,m',n',s.lo⟩:=by
 intro E B nn β a w hr
 refine⟨β,h.mem hr.mem,fun k hk=>?_,hr.width,hr.defers,⟨fun id x hx=>?_,hr.le.cap⟩,hr.sle.trans h.safe,hr.lo⟩
 ·rcases ZeU l k with h1|⟨d,h1,h2⟩
  ·simp only[h1];exact .junk _
  ·simp only[h2]
   have:=hr.tmp k hk
   rw[ht _ h1]at this
   exact Zg8 h.keep h.safe d _ (hok _ h1) this
 ·obtain⟨y,h1,h2,h3⟩:=hr.le.blk id x hx
  exact⟨y,(hlo id (hr.lo id x hx)).trans h1,h2,h3⟩
theorem Zas.sub{P:Program}{f:FuncId}{ds:List D}{m:Mem}{nx:Nat}{K:D→Mem→Nat→Prop}
 (h:Zas P f ds m nx fun d m' nx'=>∃ M N,SubM M m' N∧okD (fun i=>(M i).isSome) d=true∧(∀ id,(m id).isSome=true→M id=m' id)∧K d M N):Zas P f ds m nx K:=by
 refine⟨h.1,fun E β w vs hM hvs=>(h.2 E β w vs hM hvs).mono ?_⟩
 rintro e w' ⟨v,d,m',nx',rfl,⟨β',h1,h2,h3,h4⟩,M,N,h5,h6,h7,hK⟩
 refine⟨v,d,M,N,rfl,⟨β',h5.mem h1,⟨fun id x hx=>?_,h2.cap⟩,h3.trans h5.safe,Zg8 h5.keep h5.safe d v h6 h4⟩,hK⟩
 obtain⟨y,h8,h9⟩:=h2.blk id x hx
 exact⟨y,(h7 id (by rw[hx];rfl)).trans h8,h9⟩
theorem ZuK{s:St}(l:List Nat):StLe s {s with m:=ov s.m (Zbm l s.m)}:=by
 intro E B nn β a w h
 obtain⟨h1,h2,h3⟩:=Zit l s.m h.mem
 exact⟨β,h1,fun j hj=>(h.tmp j hj).mono h2 h3,h.width,h.defers,h.le.trans h2,h.sle.trans h3,h.lo⟩
theorem Zby.rename{E:Env}{β:Bet}{m:Mem}{NX NY:Nat}{w w':World}{v:Value}{x y ver:Nat}{blk:Blk}(h:Zby E β m NY w (upd m y (some blk)) v (.ls y ver) w')(hM:Zay E β m NX w)(hy:m y=none)(hx:m x=none)(hxN:x<NX)
 (hb:Zcb (fun _=>false) blk):Zby E β m NX w (upd m x (some blk)) v (.ls x ver) w':=by
 obtain⟨β',h1,h2,h3,h4⟩:=h
 have hne:∀ id b,m id=some b→id≠y∧id≠x:=fun id b hi=>⟨fun e=>(by subst e;rw[hi]at hy;cases hy),fun e=>(by subst e;rw[hi]at hx;cases hx)⟩
 have hold:∀ id b,m id=some b→upd m y (some blk) id=some b:=fun id b hi=>by rw[Zad _ _ (hne id b hi).1];exact hi
 have hB:∀ id b,m id=some b→upd β' x (β' y) id=β' id:=fun id b hi=>Zad _ _ (hne id b hi).2
 have hcase:∀ id b,upd m x (some blk) id=some b→(id=x∧b=blk)∨m id=some b:=fun id b hi=>by
  by_cases e:id=x
  ·subst e;rw[Zab]at hi;cases hi;exact .inl ⟨rfl,rfl⟩
  ·rw[Zad _ _ e]at hi;exact .inr hi
 have hyb:=Zab m y (some blk)
 have hs:Zao (safe E β' (upd m y (some blk))) w' (safe E (upd β' x (β' y)) (upd m x (some blk))) w':=by
  intro c o u g1 g2
  refine⟨⟨g1.1,fun id b g3 g4=>?_⟩,g2⟩
  rcases hcase id b g3 with⟨rfl,rfl⟩|g5
  ·rw[Zab]at g4;exact g1.2 y _ hyb g4
  ·rw[hB id b g5]at g4;exact g1.2 id b (hold id b g5) g4
 have hml:ZaD β m w (upd β' x (β' y)) (upd m x (some blk)) w':=by
  refine⟨fun id b hi=>?_,h2.cap⟩
  obtain⟨z,g1,g2,g3⟩:=h2.blk id b hi
  rw[hold id b hi]at g1;cases g1
  exact⟨b,by rw[Zad _ _ (hne id b hi).2];exact hi,Ya4 _,fun _=>⟨rfl,rfl,by rw[hB id b hi];exact(g3 rfl).2.2⟩⟩
 refine⟨upd β' x (β' y),⟨h1.below,?_,?_,?_,?_,?_,?_⟩,hml,h3.trans hs,?_⟩
 ·intro id b hi
  rcases hcase id b hi with⟨rfl,rfl⟩|hi
  ·exact hxN
  ·exact hM.lt id b hi
 ·intro id b hi
  rcases hcase id b hi with⟨rfl,rfl⟩|hi
  ·exact h1.fz y _ hyb
  ·exact h1.fz id b (hold id b hi)
 ·intro id b hi
  rcases hcase id b hi with⟨rfl,rfl⟩|hi
  ·exact h1.wid y _ hyb
  ·exact h1.wid id b (hold id b hi)
 ·intro id b hi hn
  rcases hcase id b hi with⟨rfl,rfl⟩|hi
  ·rw[Zab]at hn;exact h1.non y _ hyb hn
  ·rw[hB id b hi]at hn;exact h1.non id b (hold id b hi) hn
 ·intro id b c hi hc
  rcases hcase id b hi with⟨rfl,rfl⟩|hi
  ·rw[Zab]at hc
   obtain⟨g1,cs,g2,g3,g4⟩:=h1.row y _ c hyb hc
   refine⟨g1,cs,g2,g3,fun i j d hd=>?_⟩
   obtain⟨u,g5,g6⟩:=g4 i j d hd
   obtain⟨e,he,hj⟩:=Zaf.1 hd
   exact⟨u,g5,Zng (keep:=fun _=>false) (fun _ h=>by cases h) hs d u (Zgb (hb e (Ya7 he)) d (Ya7 hj)) g6⟩
  ·rw[hB id b hi]at hc
   obtain⟨g1,cs,g2,g3,g4⟩:=h1.row id b c (hold id b hi) hc
   refine⟨g1,cs,g2,g3,fun i j d hd=>?_⟩
   obtain⟨u,g5,g6⟩:=g4 i j d hd
   refine⟨u,g5,Zng (keep:=fun i=>(m i).isSome) (fun k hk=>?_) hs d u ?_ g6⟩
   ·cases hmk:m k with
    | none=>rw[hmk]at hk;cases hk
    | some z=>exact⟨by rw[hold k z hmk,Zad _ _ (hne k z hmk).2,hmk],hB k z hmk⟩
   ·cases hbt:β id with
    | none =>
      obtain⟨e,he,_⟩:=Zaf.1 hd
      rw[hM.non id b hi hbt]at he;simp at he
    | some c0 =>
      obtain⟨_,cs0,_,_,g7⟩:=hM.row id b c0 hi hbt
      obtain⟨u0,_,g8⟩:=g7 i j d hd
      exact g8.names
 ·intro x1 x2 y1 y2 c g1 g2 g3 g4
  rcases hcase x1 y1 g1 with⟨rfl,rfl⟩|g5<;>rcases hcase x2 y2 g2 with⟨rfl,rfl⟩|g6
  ·rfl
  ·rw[Zab]at g3
   rw[hB x2 y2 g6]at g4
   exact absurd (h1.inj y x2 _ _ c hyb (hold x2 y2 g6) g3 g4) (fun e=>(hne x2 y2 g6).1 e.symm)
  ·rw[Zab]at g4
   rw[hB x1 y1 g5]at g3
   exact absurd (h1.inj x1 y _ _ c (hold x1 y1 g5) hyb g3 g4) (hne x1 y1 g5).1
  ·rw[hB x1 y1 g5]at g3
   rw[hB x2 y2 g6]at g4
   exact h1.inj x1 x2 _ _ c (hold x1 y1 g5) (hold x2 y2 g6) g3 g4
 ·obtain⟨a,n,cap,b,rfl,g1,g2,gx,g3⟩:=h4.inv_lsx
  rw[hyb]at g1;cases g1
  exact .ls a n cap x ver blk (Zab _ _ _) g2 gx (fun e=>by
   obtain⟨q1,q2,q3,q4⟩:=g3 e
   refine⟨q1,q2,q3,?_⟩
   rw[Zab];exact q4)
theorem EffC.made{P:Program}{f:FuncId}{ds:List D}{m:Mem}{nx ver:Nat}{blk:Blk}(hm:m nx=none)(hb:Zcb (fun _=>false) blk)
 (h:∀ (m1:Mem)(NX:Nat),Zas P f ds m1 NX fun d m' nx'=>d = .ls NX ver∧m'=upd m1 NX (some blk)∧nx'=NX+1):EffC P f ds m nx ⟨.ls nx ver,[nx],[(nx,blk)],false⟩ (nx+1):=by
 refine⟨(h noM 0).1,rfl,Nat.le_succ _,fun p hp=>?_,fun E β m1 NX w vs hN hM ht hvs=>?_⟩
 ·simp only[List.mem_singleton]at hp;subst hp;exact⟨by simp,Nat.lt_succ_self _⟩
 ·refine((h m1 NX).2 E β w vs hM hvs).mono ?_
  rintro e w' ⟨v,d,m',nx',rfl,ha,rfl,rfl,rfl⟩
  exact⟨v,rfl,ha.rename hM hM.none ((ht.1 nx (by simp)).trans hm) (by omega) hb⟩
theorem EffC.of{P:Program}{f:FuncId}{ds:List D}{m:Mem}{nx:Nat}{d:D}{touch:List Nat}{wr:List (Nat×Blk)}(hb:Zdl P f)(hw:∀ p∈wr,p.1∈touch∧p.1<nx)
 (h:∀ (m1:Mem)(NX:Nat),nx≤NX→(∀ id∈touch,m1 id=m id)→Zas P f ds m1 NX fun d' m' nx'=>d'=d∧m'=ov m1 wr∧nx'=NX):EffC P f ds m nx ⟨d,touch,wr,false⟩ nx:=by
 refine⟨hb,rfl,Ya4 _,hw,fun E β m1 NX w vs hN hM ht hvs=>?_⟩
 refine((h m1 NX hN ht.1).2 E β w vs hM hvs).mono ?_
 rintro e w' ⟨v,d',m',nx',rfl,ha,rfl,rfl,rfl⟩
 exact⟨v,rfl,ha⟩
end ifl
set_option maxRecDepth 100000
set_option maxHeartbeats 8000000
section
variable {f:FuncId} {P:Program}
theorem Ztc{a:BigD}{x:Value}(hb:Zdl P f)(h:∀ w v,BigV w v a→Calls P f #[v] w fun e w'=>e = .returned x∧Below w.heap.size w w'):Zaa P f [encB a] (.v x):=by
 refine⟨hb,fun S w vs hf hvs=>?_⟩
 obtain⟨v,rfl,h1⟩:=ZpJ hvs
 refine(h w v (ZnP h1)).mono ?_
 rintro e w' ⟨rfl,h2⟩
 exact⟨_,rfl,h2,.v _⟩
end
theorem Zke(a:BigD):Zaa Tryz.prog 86 [encB a] (dB (okB a)) :=
 Ztc ⟨_,_,Tryz.func86,rfl,by kernel_rfl⟩ fun w v h=>Zf4 a v w h
theorem Zw3(a b:List Int)(da:Dig a)(db:Dig b)(la:(a.length:Int)≤4398046511104)(lb:(b.length:Int)≤4398046511104):Zaa Tryz.prog 132 [Zah a,Zah b] (Zah (digs (val a+val b).toNat)) :=
 ZnN ⟨_,_,Tryz.func132,rfl,by kernel_rfl⟩ fun w v u h1 h2=>ZxY v u a b w h1 h2 da db la lb
theorem ZrT(a b:List Int)(da:Dig a)(db:Dig b)(hl:b.length≤a.length)(hle:val b≤val a)(la:(a.length:Int)≤4398046511104):Zaa Tryz.prog 133 [Zah a,Zah b] (Zah (digs (val a-val b).toNat)) :=
 ZnN ⟨_,_,Tryz.func133,rfl,by kernel_rfl⟩ fun w v u h1 h2=>Zws v u a b w h1 h2 da db hl hle la
theorem Zw2(a b:List Int)(da:Dig a)(db:Dig b)(la:(a.length:Int)≤4398046511104)(lb:(b.length:Int)≤4398046511104):Zaa Tryz.prog 136 [Zah a,Zah b] (Zah (digs (val a*val b).toNat)) :=
 ZnN ⟨_,_,Tryz.func136,rfl,by kernel_rfl⟩ fun w v u h1 h2=>Zkf v u a b w h1 h2 da db la lb
theorem Zdg(a:List Int)(la:(a.length:Int)≤8796093022208):Zaa Tryz.prog 58 [Zah a] (Zah a) :=
 ZxT ⟨_,_,Tryz.func58,rfl,by kernel_rfl⟩ fun w v h1=>ZdS v a w h1 la
theorem ZrU(A B:Nat)(la:((digs A).length:Int)≤2199023255552)(hB:0<B):Zaa Tryz.prog 129 [Zah (digs A),Zah (digs B)] (.tup [Zah (digs (A / B)),Zah (digs (A%B))]):=by
 refine⟨⟨_,_,Tryz.func129,rfl,by kernel_rfl⟩,fun S w vs hf hvs=>?_⟩
 obtain⟨v,u,rfl,h1,h2⟩:=Zlx hvs
 refine(Zs1 A B v u w (ZaL h1) (ZaL h2) la hB).mono ?_
 rintro e w' ⟨x,y,rfl,h3,h4,h5⟩
 exact⟨_,rfl,h5,(Reps.cons (Zd9 h3 hf) (Reps.cons (Zd9 h4 hf) Reps.nil)).rep_tup⟩
theorem ZpL{S:Nat→Nat→Prop}{w:World}{a:Option Addr}{cap k:Nat}{es:List (List D)}(h:Rep noB noM S w (.slice a es.length cap) (.sl es))(hk:k≤es.length):Rep noB noM S w (.slice a k cap) (.sl (es.take k)):=by
 obtain⟨a',cap',e,h1,h2,h3⟩:=h.inv_sl
 simp only[Value.slice.injEq,true_and]at e
 obtain⟨rfl,rfl⟩:=e
 have hl:(es.take k).length=k:=by rw[Yc1];omega
 rcases h3 with rfl|⟨b,off,kk,rfl,h4,h5⟩
 ·obtain rfl:k=0:=by simpa using hk
  exact .sl0 _ _ h1
 ·have:=Zh8 (β:=noB) (m:=noM) (S:=S) (w:=w) (b:=b) (off:=off) (k:=kk) (cap:=cap) (es:=es.take k) ⟨fun i e he=>?_,fun i j d hd=>?_⟩ (by omega) h1
  ·rw[hl]at this;exact this
  ·rw[List.getElem?_take]at he
   split at he
   ·exact h4 i e he
   ·cases he
  ·obtain⟨e,he,hj⟩:=Zaf.1 hd
   rw[List.getElem?_take]at he
   split at he
   ·exact h5 i j d (Zaf.2 ⟨e,he,hj⟩)
   ·cases he
theorem ZwW(l:List Int):Zaa Tryz.prog 137 [Zah l] (Zah (ZaU l)):=by
 refine⟨⟨_,_,Tryz.func137,rfl,by kernel_rfl⟩,fun S w vs hf hvs=>?_⟩
 obtain⟨v,rfl,h1⟩:=ZpJ hvs
 have h2:=ZaL h1
 obtain⟨A,ca,rfl,hla,hca⟩:=h2.shape
 refine(Zcp A ca l w h2).mono ?_
 rintro e w' ⟨rfl,rfl⟩
 refine⟨_,rfl,Below.refl _ _,?_⟩
 have h3:=ZpL (k:=(ZaU l).length) (es:=l.map fun x=>[dI x]) (by rw[Yc0];exact h1) (by rw[Yc0];exact Zcg l)
 rw[← List.map_take,← ZfT]at h3
 exact h3
theorem nor_c(x y:Int):Zaa Tryz.prog 131 [Zah [x,y]] (dI (orI x y)):=by
 refine⟨⟨_,_,Tryz.func131,rfl,by kernel_rfl⟩,fun S w vs hf hvs=>?_⟩
 obtain⟨v,rfl,h1⟩:=ZpJ hvs
 refine(ZyV v x y w (ZaL h1)).mono ?_
 rintro e w' ⟨rfl,rfl⟩
 exact⟨_,rfl,Below.refl _ _,.v _⟩
theorem Zjn(a b:List Int)(na:Norm a)(nb:Norm b):Zaa Tryz.prog 92 [Zah a,Zah b] (dI (val a-val b).sign):=by
 refine⟨⟨_,_,Tryz.func92,rfl,by kernel_rfl⟩,fun S w vs hf hvs=>?_⟩
 obtain⟨v,u,rfl,h1,h2⟩:=Zlx hvs
 refine(Zda v u a b w (ZaL h1) (ZaL h2) na nb).mono ?_
 rintro e w' ⟨rfl,h3⟩
 exact⟨_,rfl,h3,.v _⟩
theorem ZlK(s:Int)(l:List Int):Zaa Tryz.prog 94 [dI s,Zah l] (encB (sgnd s l)):=by
 have k1:=ZwW l
 have Zr:=Tryz.results94
 refine inN Tryz.func94 rfl Tryz.ntmps94 fun I=>?_
 by_cases h:(ZaU l).length=0
 ·have h2:ZaU l=[]:=Ya9 h
  rw[show sgnd s l=zB by unfold sgnd;rw[h2];rfl]
  rw[h2]at k1
  refine aGo Zr ?_
  rfl
 ·have h2:(((ZaU l).length:Int)==0)=false:=by simpa using h
  rw[show sgnd s l=⟨s,ZaU l⟩ by unfold sgnd;rw[if_neg];simpa using fun e=>h (by rw[e];rfl)]
  exact aGo (cj2 Zr h2) trivial
theorem ZgQ(x:BigD):Zaa Tryz.prog 128 [dB true,encB x] (.tup [encB x,dI 0]):=by
 have Zr:=Tryz.results128
 refine inN Tryz.func128 rfl Tryz.ntmps128 fun I=>?_
 exact aGo Zr trivial
abbrev encZ(a:Int):D:=encB ⟨a.sign,digs a.natAbs⟩
theorem ZaO(a:Int):Zaa Tryz.prog 86 [encZ a] (dB true):=by
 have:=Zke (ofZ a);rw[Zik]at this;exact this
theorem ZbX{s:Int}{n:Nat}{z:Int}(h:sgnd s (digs n)=ofZ z):Zaa Tryz.prog 94 [dI s,Zah (digs n)] (encZ z):=by
 have:=ZlK s (digs n);rw[h]at this;exact this
theorem Zy7(a b:Int)(la:(szZ a:Int)≤1099511627776)(lb:(szZ b:Int)≤1099511627776):Zaa Tryz.prog 93 [encZ a,encZ b] (.tup [encZ (a*b),dI 0]):=by
 obtain⟨sb1,sb2⟩:=Za1 a b
 have sbw:IntKind.i64.wrap (a.sign*b.sign)=a.sign*b.sign:=Zbb (by omega) (by omega)
 have k1:=ZaO a
 have k2:=ZaO b
 have k3:=Zw2 (digs a.natAbs) (digs b.natAbs) (Zap _).1 (Zap _).1 (by unfold szZ at la;omega) (by unfold szZ at lb;omega)
 have k4:=ZbX (Zog a b)
 have k5:=ZgQ ⟨(a*b).sign,digs (a*b).natAbs⟩
 have Zr:=Tryz.results93
 refine inN Tryz.func93 rfl Tryz.ntmps93 fun I=>?_
 exact aGo (cj2 Zr sbw) trivial
theorem Zjp(a:Int)(la:(szZ a:Int)≤4398046511104):Zaa Tryz.prog 43 [encZ a] (encZ (-a)):=by
 obtain⟨sb1,sb2⟩:=ZaS a
 have sbw:IntKind.i64.wrap (0-a.sign) = -a.sign:=by rw[Zbb (by omega) (by omega)];omega
 have k1:=ZaO a
 have k3:=Zdg (digs a.natAbs) (by unfold szZ at la;omega)
 have k4:=ZbX (Zof a)
 have Zr:=Tryz.results43
 refine inN Tryz.func43 rfl Tryz.ntmps43 fun I=>?_
 exact aGo (cj2 Zr sbw) trivial
theorem Zy9(a b:Int)(la:(szZ a:Int)≤4398046511104)(lb:(szZ b:Int)≤4398046511104):Zaa Tryz.prog 89 [encZ a,encZ b] (.tup [encZ (a+b),dI 0]):=by
 obtain⟨sb1,sb2⟩:=Za1 a b
 have sbw:IntKind.i64.wrap (a.sign*b.sign)=a.sign*b.sign:=Zbb (by omega) (by omega)
 have k1:=ZaO a
 have k2:=ZaO b
 have k3:=nor_c a.sign b.sign
 have k5:=ZgQ ⟨(a+b).sign,digs (a+b).natAbs⟩
 have k6:=Zjn (digs a.natAbs) (digs b.natAbs) (Zap _) (Zap _)
 rw[Zaw,Zaw]at k6
 have Zr:=Tryz.results89
 refine inN Tryz.func89 rfl Tryz.ntmps89 fun I=>?_
 by_cases h:0≤a.sign*b.sign
 ·have k7:=Zw3 (digs a.natAbs) (digs b.natAbs) (Zap _).1 (Zap _).1 (by unfold szZ at la;omega) (by unfold szZ at lb;omega)
  rw[Zaw,Zaw]at k7
  have k8:=ZbX (ZtU h)
  have h':a.sign*b.sign≥0:=h
  exact aGo (cj3 Zr sbw h') trivial
 ·have h':¬ a.sign*b.sign≥0:=h
  by_cases hlt:(a.natAbs:Int)<b.natAbs
  ·have k7:=ZrT (digs b.natAbs) (digs a.natAbs) (Zap _).1 (Zap _).1 (ZkN (by omega)) (by rw[Zaw,Zaw];omega) (by unfold szZ at lb;omega)
   rw[Zaw,Zaw,show((b.natAbs:Int)-a.natAbs).toNat=b.natAbs-a.natAbs by omega]at k7
   have k8:=ZbX (Zro h hlt)
   have h2:((a.natAbs:Int)-b.natAbs).sign<0:=by rw[Yb3 (by omega)];decide
   exact aGo (cj4 Zr sbw h' h2) trivial
  ·have k7:=ZrT (digs a.natAbs) (digs b.natAbs) (Zap _).1 (Zap _).1 (ZkN (by omega)) (by rw[Zaw,Zaw];omega) (by unfold szZ at la;omega)
   rw[Zaw,Zaw,show((a.natAbs:Int)-b.natAbs).toNat=a.natAbs-b.natAbs by omega]at k7
   have k8:=ZbX (Zrn h hlt)
   have h2:¬ ((a.natAbs:Int)-b.natAbs).sign<0:=by have:=Int.sign_nonneg_iff.2 (show(0:Int)≤(a.natAbs:Int)-b.natAbs by omega);omega
   exact aGo (cj4 Zr sbw h' h2) trivial
theorem ZrW(a b:Int)(la:(szZ a:Int)≤2199023255552)(lb:(szZ b:Int)≤2199023255552):Zaa Tryz.prog 87 [encZ a,encZ b] (.tup [encZ (Nat.gcd a.natAbs b.natAbs:Nat),dI 0]):=by
 have k1:=ZaO a
 have k2:=ZaO b
 have k3:=Zdg (digs a.natAbs) (by unfold szZ at la;omega)
 have Zr:=Tryz.results87
 refine inN Tryz.func87 rfl Tryz.ntmps87 fun I=>?_
 refine aGo Zr ?_
 repeat with_reducible intro K hK
 refine ZaE (fun(p:Nat×Nat)=>[(4,.lp 2 0 0 0),(6,Zah (digs p.1)),(7,Zah (digs p.2))]) (fun _=>[(2,⟨32,0,2,[[dI 0,.nil]],0,false⟩)]) 3 0 (fun p=>Nat.gcd p.1 p.2=Nat.gcd a.natAbs b.natAbs∧((digs p.1).length:Int)≤2199023255552∧((digs p.2).length:Int)≤2199023255552) (fun p=>p.2) (a.natAbs,b.natAbs) ⟨rfl,la,lb⟩ ?_ ?_
 ·exact leGo Zr
 ·rintro⟨X,Y⟩ ⟨hg,hX,hY⟩
  simp only at hg hX hY ⊢
  by_cases h:Y=0
  ·subst h
   rw[ZaI,Nat.gcd_zero_right]at *
   subst hg
   have c3:=Zdg (digs (Nat.gcd a.natAbs b.natAbs)) (by omega)
   have c4:=ZbX (Zoe (Nat.gcd a.natAbs b.natAbs))
   have c5:=ZgQ ⟨((Nat.gcd a.natAbs b.natAbs:Nat):Int).sign,digs ((Nat.gcd a.natAbs b.natAbs:Nat):Int).natAbs⟩
   exact aGo Zr trivial
  ·have h1:((digs Y).length:Int)>0:=by
    have:digs Y≠[]:=fun e=>h (Zdi.1 e)
    have:=List.length_pos_iff.2 this
    omega
   have c3:=ZrU X Y hX (by omega)
   refine aGo (cj2 Zr h1) ?_
   repeat with_reducible intro K hK
   refine Zai (Y,X%Y) ⟨?_,hY,?_⟩ ?_ ?_
   ·rw[← hg,Nat.gcd_comm Y,← Nat.gcd_rec,Nat.gcd_comm]
   ·have:=ZkN (Nat.le_of_lt (Nat.mod_lt X (by omega:Y>0)))
    show((digs (X%Y)).length:Int)≤_
    omega
   ·exact Nat.mod_lt X (by omega)
   ·exact leGo Zr
theorem Zos(a b c:Int)(hb:0<b)(hac:a=b*c)(la:(szZ a:Int)≤2199023255552):Zaa Tryz.prog 134 [encZ a,encZ b] (.tup [encZ c,encB zB,dI 0]):=by
 obtain⟨sb1,sb2⟩:=Za1 a b
 have sbw:IntKind.i64.wrap (a.sign*b.sign)=a.sign*b.sign:=Zbb (by omega) (by omega)
 have k1:=ZaO a
 have k2:=ZaO b
 have hb1:(b.sign==0)=false:=by rw[Yb2 hb];rfl
 have k3:=ZrU a.natAbs b.natAbs la (by omega)
 have hm:a.natAbs%b.natAbs=0:=by rw[hac,Int.natAbs_mul];exact Nat.mul_mod_right _ _
 rw[hm,ZaI]at k3
 have k4:=ZbX (ZtT hb hac)
 have k5:=ZlK a.sign []
 rw[show sgnd a.sign []=zB by rw[← ZaI];exact ZtS _]at k5
 have Zr:=Tryz.results134
 refine inN Tryz.func134 rfl Tryz.ntmps134 fun I=>?_
 by_cases h:a.sign*b.sign<0
 ·exact aGo (cj4 Zr sbw hb1 h) trivial
 ·exact aGo (cj4 Zr sbw hb1 h) trivial
theorem Zy1(n:Nat):Zaa Tryz.prog 88 [encZ n] (dB (decide ((n:Int)=1))) :=
 Ztc ⟨_,_,Tryz.func88,rfl,by kernel_rfl⟩ fun w v h=>ZvL n (by omega) v w h
theorem ZpY(P Q:Int)(zP:(szZ P:Int)≤549755813888)(zQ:(szZ Q:Int)≤549755813888):Zaa Tryz.prog 39 [.agg [dI P.sign,Zah (digs P.natAbs),dI Q.sign,Zah (digs Q.natAbs)]] (dB (okF ⟨ofZ P,ofZ Q⟩)):=by
 have k1:=ZaO P
 have k2:=ZaO Q
 have k3:=ZrW P Q (by omega) (by omega)
 have k4:=Zy1 (Nat.gcd P.natAbs Q.natAbs)
 rw[ZlI]
 have Zr:=Tryz.results39
 refine inN Tryz.func39 rfl Tryz.ntmps39 fun I=>?_
 by_cases hs:Q.sign=1
 ·have hs1:(Q.sign !=1)=false:=by simp[hs]
  rw[show((ofZ Q).s==1)=true by simpa[ofZ]using hs,Bool.true_and]
  exact aGo (cj2 Zr hs1) trivial
 ·have hs1:(Q.sign !=1)=true:=by simp[hs]
  rw[show((ofZ Q).s==1)=false by simpa[ofZ]using hs,Bool.false_and]
  exact aGo (cj2 Zr hs1) trivial
theorem ZbA(a:Zac)(za:(szF a:Int)≤549755813888):Zaa Tryz.prog 39 [encF a] (dB (okF a)):=by
 obtain⟨p,q⟩:=a
 have k1:=Zke p
 have k2:=Zke q
 cases hp:okB p
 ·rw[hp]at k1
  rw[show okF ⟨p,q⟩=false by unfold okF;rw[hp];rfl]
  have Zr:=Tryz.results39
  refine inN Tryz.func39 rfl Tryz.ntmps39 fun I=>?_
  exact aGo Zr trivial
 cases hq:okB q
 ·rw[hp]at k1
  rw[hq]at k2
  rw[show okF ⟨p,q⟩=false by unfold okF;rw[hp,hq];rfl]
  have Zr:=Tryz.results39
  refine inN Tryz.func39 rfl Tryz.ntmps39 fun I=>?_
  exact aGo Zr trivial
 obtain⟨P,rfl⟩:=Zkd.1 hp
 obtain⟨Q,rfl⟩:=Zkd.1 hq
 unfold szF at za
 simp only[Zh1]at za
 exact ZpY P Q (by omega) (by omega)
theorem Zc4(a:Zac)(za:(szF a:Int)≤549755813888):Zaa Tryz.prog 68 [encF a] (dI (sgnD a)):=by
 have k1:=ZbA a za
 have Zr:=Tryz.results68
 refine inN Tryz.func68 rfl Tryz.ntmps68 fun I=>?_
 cases ha:okF a
 ·rw[ha]at k1
  rw[show sgnD a=0 by simp[sgnD,ha]]
  exact aGo Zr trivial
 ·rw[ha]at k1
  rw[show sgnD a=a.p.s by obtain⟨r,rfl⟩:=ZfK.1 ha;rw[Ze0];rfl]
  exact aGo Zr trivial
theorem Zw1(a b:List Int)(la:(a.length:Int)≤9223372036854775807):Zaa Tryz.prog 167 [Zah a,Zah b] (dB (a==b)):=by
 have Zr:=Tryz.results167
 refine inN Tryz.func167 rfl Tryz.ntmps167 fun I=>?_
 by_cases hl:a.length=b.length
 rotate_left
 ·have h0:((a.length:Int) !=b.length)=true:=by simp;omega
  refine aGo (cj2 Zr h0) ?_
  exact Zae (by symm;simp;intro e;rw[e]at hl;exact hl rfl)
 have h0:((a.length:Int) !=b.length)=false:=by simp;omega
 refine aGo (cj2 Zr h0) ?_
 repeat with_reducible intro K hK
 refine ZaE (fun(k:Nat)=>[(0,Zah a),(1,Zah b),(11,Zah a),(12,dI a.length),(13,dI k)]) (fun _=>[]) 0 0 (fun k=>k≤a.length∧a.take k=b.take k) (fun k=>a.length-k) 0 ⟨by omega,rfl⟩ ?_ ?_
 ·exact leGo Zr
 rintro k ⟨hk,hd⟩
 have i0:(0:Int)≤k:=by omega
 by_cases h1:(k:Int)<a.length
 ·have h2:(k:Int)<b.length:=by omega
  have hw:=ZtD k
  obtain⟨x,hx⟩:=getE (l:=a) (k:=k) (by omega)
  obtain⟨y,hy⟩:=getE (l:=b) (k:=k) (by omega)
  by_cases h3:x=y
  ·have h4:(x !=y)=false:=by simp[h3]
   refine aGo (cj4 Zr i0 h1 (cj4 h2 hx hy (cj2 hw h4))) ?_
   repeat with_reducible intro K hK
   exact Zai (k+1) ⟨by omega,Zlc hd hx hy h3⟩ (by omega) (leGo Zr)
  ·have h4:(x !=y)=true:=by simp[h3]
   refine aGo (cj4 Zr i0 h1 (cj4 h2 hx hy (cj2 hw h4))) ?_
   exact Zae (by symm;simp;intro e;rw[e,hy]at hx;exact h3 (by simpa using hx.symm))
 ·obtain rfl:k=a.length:=by omega
  refine aGo (cj2 Zr h1) ?_
  rw[Yc2,hl,Yc2]at hd
  exact Zae (by simp[hd])
theorem Zus(a b:List Int):Zaa Tryz.prog 167 [Zah a,Zah b] (dB (a==b)):=by
 refine⟨⟨_,_,Tryz.func167,rfl,by kernel_rfl⟩,fun S w vs hf hvs=>?_⟩
 obtain⟨v,u,rfl,h1,h2⟩:=Zlx hvs
 obtain⟨A,ca,e,hla,hca⟩:=(ZaL h1).shape
 unfold maxLen at hca
 exact(Zw1 a b (by omega)).2 S w _ hf hvs
theorem ZrO(a b:BigD):Zaa Tryz.prog 127 [encB a,encB b] (dB (Zlp a b)):=by
 have k1:=Zus a.d b.d
 have Zr:=Tryz.results127
 refine inN Tryz.func127 rfl Tryz.ntmps127 fun I=>?_
 have e:Zlp a b=(a.s==b.s&&(a.d==b.d)):=by unfold Zlp;congr 1;rw[Bool.eq_iff_iff];simp
 rw[e]
 cases h:a.s==b.s
 ·exact aGo (cj2 Zr h) trivial
 ·exact aGo (cj2 Zr h) trivial
theorem Zsy(a b:Zac):Zaa Tryz.prog 81 [encF a,encF b] (dB (Zfj a b)):=by
 obtain⟨p,q⟩:=a
 obtain⟨r,t⟩:=b
 have k1:=ZrO p r
 have k2:=ZrO q t
 have Zr:=Tryz.results81
 refine inN Tryz.func81 rfl Tryz.ntmps81 fun I=>?_
 unfold Zfj
 cases h:Zlp p r
 ·rw[h]at k1
  exact aGo Zr trivial
 ·rw[h]at k1
  exact aGo Zr trivial
abbrev encQ(r:Rat):D:=.agg [dI r.num.sign,Zah (digs r.num.natAbs),dI (r.den:Int).sign,Zah (digs (r.den:Int).natAbs)]
theorem ZbH(a:Rat)(za:(szQ a:Int)≤549755813888):Zaa Tryz.prog 39 [encQ a] (dB true):=by
 have:=ZbA (ofQ a) (by rw[Zfz];exact za);rw[Zbj]at this;exact this
theorem Zuu(p q:Int)(hq:0<q)(la:(szZ p:Int)≤2199023255552)(lb:(szZ q:Int)≤2199023255552):Zaa Tryz.prog 90 [encZ p,encZ q] (.tup [encF (ofQ (Rat.divInt p q)),dI 0]):=by
 obtain⟨c,f,hpc,hqf,hof,hg0⟩:=ZeM (p:=p) hq
 have hlg:=Zq4 (p:=p) (q:=q)
 have k1:=ZaO p
 have k2:=ZaO q
 have k3:=ZrW p q la lb
 have k4:=Zos p (Nat.gcd p.natAbs q.natAbs:Nat) c hg0 hpc la
 have k5:=Zos q (Nat.gcd p.natAbs q.natAbs:Nat) f hg0 hqf lb
 rw[hof]
 generalize Nat.gcd p.natAbs q.natAbs=G at *
 have hs:(q.sign==0)=false:=by rw[Yb2 hq];rfl
 have hs2:¬ q.sign<0:=by rw[Yb2 hq];decide
 have Zr:=Tryz.results90
 refine inN Tryz.func90 rfl Tryz.ntmps90 fun I=>?_
 refine aGo (cj3 Zr hs hs2) ?_
 rfl
theorem Zuv(p q:Int)(hq:q<0)(la:(szZ p:Int)≤2199023255552)(lb:(szZ q:Int)≤2199023255552):Zaa Tryz.prog 90 [encZ p,encZ q] (.tup [encF (ofQ (Rat.divInt p q)),dI 0]):=by
 have hof0:Rat.divInt p q=Rat.divInt (-p) (-q):=(Rat.neg_divInt_neg p q).symm
 have lp:szZ (-p)=szZ p:=by unfold szZ;rw[Int.natAbs_neg]
 have lq:szZ (-q)=szZ q:=by unfold szZ;rw[Int.natAbs_neg]
 have m1:=Zjp p (by omega)
 have m2:=Zjp q (by omega)
 rw[hof0]
 have k1:=ZaO p
 have k2:=ZaO q
 have hs:(q.sign==0)=false:=by rw[Yb3 hq];rfl
 have hs2:q.sign<0:=by rw[Yb3 hq];decide
 have hq':0 < -q:=by omega
 generalize hp1 : -p=p1 at *
 generalize hq1 : -q=q1 at *
 obtain⟨c,f,hpc,hqf,hof,hg0⟩:=ZeM (p:=p1) hq'
 have hlg:=Zq4 (p:=p1) (q:=q1)
 have k3:=ZrW p1 q1 (by omega) (by omega)
 have k4:=Zos p1 (Nat.gcd p1.natAbs q1.natAbs:Nat) c hg0 hpc (by omega)
 have k5:=Zos q1 (Nat.gcd p1.natAbs q1.natAbs:Nat) f hg0 hqf (by omega)
 rw[hof]
 generalize Nat.gcd p1.natAbs q1.natAbs=G at *
 have Zr:=Tryz.results90
 refine inN Tryz.func90 rfl Tryz.ntmps90 fun I=>?_
 refine aGo (cj3 Zr hs hs2) ?_
 rfl
theorem ZrV(p q:Int)(hq:q≠0)(la:(szZ p:Int)≤2199023255552)(lb:(szZ q:Int)≤2199023255552):Zaa Tryz.prog 90 [encZ p,encZ q] (.tup [encF (ofQ (Rat.divInt p q)),dI 0]):=by
 rcases Int.lt_or_gt_of_ne hq with h|h
 ·exact Zuv p q h la lb
 ·exact Zuu p q h la lb
theorem Zec(a b:Int)(la:(szZ a:Int)≤1099511627776)(lb:(szZ b:Int)≤1099511627776):Zaa Tryz.prog 42 [encZ a,encZ b] (encZ (a*b)):=by
 have k1:=Zy7 a b la lb
 have Zr:=Tryz.results42
 refine inN Tryz.func42 rfl Tryz.ntmps42 fun I=>?_
 exact aGo Zr trivial
theorem Zw5(a:Int)(la:(szZ a:Int)≤4398046511104):Zaa Tryz.prog 44 [encZ a] (encZ a):=by
 have lp:szZ (-a)=szZ a:=by unfold szZ;rw[Int.natAbs_neg]
 have k1:=Zjp a la
 have k2:=Zjp (-a) (by omega)
 rw[Int.neg_neg]at k2
 have Zr:=Tryz.results44
 refine inN Tryz.func44 rfl Tryz.ntmps44 fun I=>?_
 exact aGo Zr trivial
theorem Zw0(a b:Rat)(za:(szQ a:Int)≤549755813888)(zb:(szQ b:Int)≤549755813888):Zaa Tryz.prog 70 [encQ a,encQ b] (.tup [encF (ofQ (a*b)),dI 0]):=by
 have zpa:=Zbi a
 have zpb:=Zbi b
 have k1:=ZbH a za
 have k2:=ZbH b zb
 have m1:=Zch a.num b.num
 have m2:=Zch (a.den:Int) b.den
 have k3:=Zec a.num b.num (by omega) (by omega)
 have k4:=Zec a.den b.den (by omega) (by omega)
 have k5:=ZrV (a.num*b.num) (a.den*b.den) (Int.mul_ne_zero (Zfw a) (Zfw b)) (by omega) (by omega)
 rw[← Zjq]at k5
 have Zr:=Tryz.results70
 refine inN Tryz.func70 rfl Tryz.ntmps70 fun I=>?_
 exact aGo Zr trivial
theorem ZrR(a b:Rat)(za:(szQ a:Int)≤549755813888)(zb:(szQ b:Int)≤549755813888):Zaa Tryz.prog 40 [encQ a,encQ b] (.tup [encF (ofQ (a+b)),dI 0]):=by
 have zpa:=Zbi a
 have zpb:=Zbi b
 have k1:=ZbH a za
 have k2:=ZbH b zb
 have m1:=Zch a.num b.den
 have m2:=Zch b.num a.den
 have m3:=Zch (a.den:Int) b.den
 have m4:=ZmR (a.num*b.den) (b.num*a.den)
 have k3:=Zec a.num b.den (by omega) (by omega)
 have k4:=Zec b.num a.den (by omega) (by omega)
 have k6:=Zec a.den b.den (by omega) (by omega)
 have k7:=Zy9 (a.num*b.den) (b.num*a.den) (by omega) (by omega)
 have k5:=ZrV (a.num*b.den+b.num*a.den) (a.den*b.den) (Int.mul_ne_zero (Zfw a) (Zfw b)) (by omega) (by omega)
 rw[← ZjT]at k5
 have Zr:=Tryz.results40
 refine inN Tryz.func40 rfl Tryz.ntmps40 fun I=>?_
 exact aGo Zr trivial
theorem ZwY(a b:Rat)(za:(szQ a:Int)≤549755813888)(zb:(szQ b:Int)≤549755813888):Zaa Tryz.prog 71 [encQ a,encQ b] (.tup [encF (ofQ (a-b)),dI 0]):=by
 have zpa:=Zbi a
 have zpb:=Zbi b
 have k1:=ZbH a (by omega)
 have k2:=ZbH b (by omega)
 have k3:=Zjp b.num (by omega)
 have e:szQ (-b)=szQ b:=Zh0 b
 have k4:=ZrR a (-b) (by omega) (by omega)
 rw[show a + -b=a-b from(Rat.sub_eq_add_neg a b).symm]at k4
 unfold encQ at k4
 rw[Rat.neg_num,Rat.neg_den]at k4
 have Zr:=Tryz.results71
 refine inN Tryz.func71 rfl Tryz.ntmps71 fun I=>?_
 exact aGo Zr trivial
theorem ZwZ(a:Rat)(za:(szQ a:Int)≤549755813888):Zaa Tryz.prog 14 [encQ a] (encF (ofQ (-a))):=by
 have zpa:=Zbi a
 have k1:=ZbH a za
 have k3:=Zjp a.num (by omega)
 have k4:=Zw5 a.den (by omega)
 have e:encF (ofQ (-a)) = .agg [dI (-a.num).sign,Zah (digs (-a.num).natAbs),dI (a.den:Int).sign,Zah (digs (a.den:Int).natAbs)]:=by
  show encQ (-a)=_
  unfold encQ;rw[Rat.neg_num,Rat.neg_den]
 rw[e]
 have Zr:=Tryz.results14
 refine inN Tryz.func14 rfl Tryz.ntmps14 fun I=>?_
 exact aGo Zr trivial
theorem Zyk{n:Int}(h0:0≤n)(h1:n<18446744073709551616):IntKind.u64.wrap n=n:=by
 simp only[IntKind.wrap,IntKind.bits,IntKind.signed]
 simp;omega
theorem ZvP(n:Nat)(g:Int)(hg:g=1∨(g = -1∧0<n))(h:(n:Int)≤9223372036854775808)(h1:g=1→(n:Int)≤9223372036854775807):Zaa Tryz.prog 85 [dI (g*n)] (encZ (g*n)):=by
 have h5:(digs n).length≤4:=Zbe (by simp only[bp];omega)
 have k4:=ZbX (Zcu (s:=g) (n:=n) (g*n) rfl (by rcases hg with h|h;exact .inl h;exact .inr (.inl h.1)))
 have Zr:=Tryz.results85
 refine inN Tryz.func85 rfl Tryz.ntmps85 fun I=>?_
 by_cases c2:g*(n:Int)<0
 rotate_left
 have eg:g=1:=by rcases hg with rfl|⟨rfl,h⟩<;>omega
 have hu:IntKind.u64.wrap (g*(n:Int))=n:=by rw[Zyk (by omega) (by subst eg;omega)];subst eg;omega
 refine aGo (cj3 Zr c2 hu) ?_
 rotate_left
 have eg:g = -1:=by rcases hg with rfl|h<;>omega
 have hu:IntKind.u64.wrap (g*(n:Int))=18446744073709551616-n:=by subst eg;simp only[IntKind.wrap,IntKind.bits,IntKind.signed];simp;omega
 have hu2:IntKind.u64.wrap (0-(18446744073709551616-(n:Int)))=n:=by simp only[IntKind.wrap,IntKind.bits,IntKind.signed];simp;omega
 refine aGo (cj4 Zr c2 hu hu2) ?_
 all_goals
  repeat with_reducible intro K hK
  refine aLe (Zis 5 3 1 rfl) ?_
  refine ZaE (fun(p:Nat×List Int×Nat)=>[(2,.lp 0 0 0 0),(3,dI g),(4,.v (.int .u64 p.1)),(5,.ls 1 p.2.2)]) (fun p=>[(0,⟨32,0,2,[[dI 0,.nil]],0,false⟩),(1,⟨3,p.2.2,1,p.2.1.map (fun x=>[dI x]),0,false⟩)]) 2 0 (fun p=>p.2.1++digs p.1=digs n∧p.1≤n∧p.2.1.length+(digs p.1).length≤4) (fun p=>p.1) (n,[],0) ⟨rfl,Ya4 _,by simpa using h5⟩ ?_ ?_
  ·exact leGo (cj2 Zr eg)
  rintro⟨k,l,ver⟩ ⟨hl,hk,h4⟩
  simp only at hl hk h4 ⊢
  have j1:(l.map fun x=>[dI x]).map (List.map datJ)=l.map fun x=>[dI x]:=by rw[List.map_map];exact List.map_congr_left fun x _=>rfl
  by_cases h0:k=0
  ·subst h0
   rw[ZaI,List.append_nil]at hl
   subst hl
   have hc:¬ ((0:Nat):Int)>0:=by decide
   exact aGo (cj3 Zr hc j1) trivial
  ·have hc:(k:Int)>0:=by omega
   have hd:=Zfc h0
   have ha:IntKind.u64.wrap ((BitVec.ofInt IntKind.u64.bits (k:Int) &&& BitVec.ofInt IntKind.u64.bits 1048575).toNat:Nat)=((k%1048576:Nat):Int):=(ZgZ k).trans (by omega)
   have hcv:IntKind.i64.wrap ((k%1048576:Nat):Int)=((k%1048576:Nat):Int):=Zbb (by omega) (by omega)
   have hsh:(k:Int).fdiv (2^min 20 IntKind.u64.bits)=((k / 1048576:Nat):Int):=by
    show(k:Int).fdiv 1048576=_
    rw[Int.fdiv_eq_ediv_of_nonneg _ (by decide)];omega
   have h20:(0:Int)≤20:=by decide
   refine aGo (cj4 Zr hc ha (cj4 hcv hsh h20 trivial)) ?_
   repeat with_reducible intro K hK
   refine Zai (k / 1048576,l++[((k%1048576:Nat):Int)],ver+1) ⟨?_,?_,?_⟩ (Nat.div_lt_self (by omega) (by decide)) ?_
   ·rw[← hl,hd,Yd3];rfl
   ·have:=Nat.div_le_self k 1048576
    show k / 1048576≤n
    omega
   ·rw[hd]at h4
    simp only[Yb9,List.length_cons,List.length_nil]at h4 ⊢
    omega
   ·have ha2:=(congrArg IntKind.i64.wrap ha).trans hcv
    simp[IntKind.bits]at ha2
    refine Zcl _ _ _ ?_ ?_ ?_ ?_ ?_ (.inl rfl)<;>simp[go_sem,okD,okDs,Zcb]
    ·rw[Int.fdiv_eq_ediv_of_nonneg _ (by decide)]
    ·exact ha2
    ·intro _ h;rcases h with⟨_,_,rfl⟩|rfl<;>simp[okD,okDs]
theorem Zut(n:Int)(h1 : -9223372036854775808≤n)(h2:n≤9223372036854775807):Zaa Tryz.prog 85 [dI n] (encZ n):=by
 by_cases h:n<0
 ·have:=ZvP n.natAbs (-1) (.inr ⟨rfl,by omega⟩) (by omega) (by omega)
  rwa [show -1*(n.natAbs:Int)=n by omega]at this
 ·have:=ZvP n.natAbs 1 (.inl rfl) (by omega) (by omega)
  rwa [show 1*(n.natAbs:Int)=n by omega]at this
theorem ZeF(n:Int)(h1 : -9223372036854775808≤n)(h2:n≤9223372036854775807):Zaa Tryz.prog 38 [dI n] (encF (ofQ (n:Rat))):=by
 have k1:=Zut n h1 h2
 have k2:=Zut 1 (by decide) (by decide)
 rw[ZwV]
 have Zr:=Tryz.results38
 refine inN Tryz.func38 rfl Tryz.ntmps38 fun I=>?_
 refine aGo Zr ?_
 rfl
theorem Zt3(n:Nat)(r:Rat)(h:((n:Int):Rat)=r)(hn:(n:Int)≤9223372036854775807):Zaa Tryz.prog 38 [dI n] (encF (ofQ r)):=h▸ZeF n (by omega) hn
theorem nZ_c:Zaa Tryz.prog 38 [dI 0] (encF (ofQ 0)):=Zt3 0 0 rfl (by decide)
theorem Zor(a b:Rat)(za:(szQ a:Int)≤549755813888)(zb:(szQ b:Int)≤549755813888):Zaa Tryz.prog 70 [encF (ofQ a),encF (ofQ b)] (.tup [encF (ofQ (a*b)),dI 0]):=Zw0 a b za zb
theorem Zjo(a b:Rat)(za:(szQ a:Int)≤549755813888)(zb:(szQ b:Int)≤549755813888):Zaa Tryz.prog 40 [encF (ofQ a),encF (ofQ b)] (.tup [encF (ofQ (a+b)),dI 0]):=ZrR a b za zb
theorem ZvM(a b:Rat)(za:(szQ a:Int)≤549755813888)(zb:(szQ b:Int)≤549755813888):Zaa Tryz.prog 71 [encF (ofQ a),encF (ofQ b)] (.tup [encF (ofQ (a-b)),dI 0]):=ZwY a b za zb
theorem ZvO(a:Rat)(za:(szQ a:Int)≤549755813888):Zaa Tryz.prog 14 [encF (ofQ a)] (encF (ofQ (-a))):=ZwZ a za
theorem ZsA(a b:Zac)(za:(szF a:Int)≤549755813888)(zb:(szF b:Int)≤549755813888):Zag Tryz.prog 70 [encF a,encF b] (.tup [encF (mulD a b).1,dI (mulD a b).2]):=by
 have k1:=ZbA a za
 have k2:=ZbA b zb
 cases ha:okF a
 ·rw[ha]at k1
  rw[show mulD a b=(zF,1) by simp[mulD,ha]]
  have Zr:=Tryz.results70
  refine inC Tryz.func70 rfl Tryz.ntmps70 ?_
  refine aGo Zr ?_
  rfl
 cases hb:okF b
 ·rw[ha]at k1
  rw[hb]at k2
  rw[show mulD a b=(zF,1) by simp[mulD,hb]]
  have Zr:=Tryz.results70
  refine inC Tryz.func70 rfl Tryz.ntmps70 ?_
  refine aGo Zr ?_
  rfl
 obtain⟨r,rfl⟩:=ZfK.1 ha
 obtain⟨t,rfl⟩:=ZfK.1 hb
 rw[Zou]
 exact(Zor r t za zb).all
theorem ZvY(a b:Zac)(za:(szF a:Int)≤549755813888)(zb:(szF b:Int)≤549755813888):Zag Tryz.prog 40 [encF a,encF b] (.tup [encF (addD a b).1,dI (addD a b).2]):=by
 have k1:=ZbA a za
 have k2:=ZbA b zb
 cases ha:okF a
 ·rw[ha]at k1
  rw[show addD a b=(zF,1) by simp[addD,ha]]
  have Zr:=Tryz.results40
  refine inC Tryz.func40 rfl Tryz.ntmps40 ?_
  refine aGo Zr ?_
  rfl
 cases hb:okF b
 ·rw[ha]at k1
  rw[hb]at k2
  rw[show addD a b=(zF,1) by simp[addD,hb]]
  have Zr:=Tryz.results40
  refine inC Tryz.func40 rfl Tryz.ntmps40 ?_
  refine aGo Zr ?_
  rfl
 obtain⟨r,rfl⟩:=ZfK.1 ha
 obtain⟨t,rfl⟩:=ZfK.1 hb
 rw[ZkX]
 exact(Zjo r t za zb).all
theorem Zw4(x y:Int):Zaa Tryz.prog 91 [dI x,dI y] (dI (x-y).sign):=by
 refine⟨⟨_,_,Tryz.func91,rfl,by kernel_rfl⟩,fun S w vs hf hvs=>?_⟩
 obtain⟨v,u,rfl,h1,h2⟩:=Zlx hvs
 rw[h1.inv_v,h2.inv_v]
 refine(ZkR x y w).mono ?_
 rintro e w' ⟨rfl,rfl⟩
 exact⟨_,rfl,Below.refl _ _,.v _⟩
theorem Zy8(a b:Int):Zaa Tryz.prog 41 [encZ a,encZ b] (dI (a-b).sign):=by
 have k1:=ZaO a
 have k2:=ZaO b
 by_cases h:a.sign=b.sign
 ·have k3:=Zjn (digs a.natAbs) (digs b.natAbs) (Zap _) (Zap _)
  rw[Zaw,Zaw]at k3
  have e:=Zo9 h
  have h1:(a.sign !=b.sign)=false:=by simp[h]
  have hw:IntKind.i64.wrap (a.sign*((a.natAbs:Int)-b.natAbs).sign)=(a-b).sign:=by
   rw[e];exact Zbb (by have:=ZaS (a-b);omega) (by have:=ZaS (a-b);omega)
  have Zr:=Tryz.results41
  refine inN Tryz.func41 rfl Tryz.ntmps41 fun I=>?_
  exact aGo (cj3 Zr h1 hw) trivial
 ·have e:=(Zo8 a b).resolve_right h
  have k3:=Zw4 a.sign b.sign
  rw[e]at k3
  have h1:(a.sign !=b.sign)=true:=by simp[h]
  have Zr:=Tryz.results41
  refine inN Tryz.func41 rfl Tryz.ntmps41 fun I=>?_
  exact aGo (cj2 Zr h1) trivial
theorem ZrQ(a b:Rat)(za:(szQ a:Int)≤549755813888)(zb:(szQ b:Int)≤549755813888):Zaa Tryz.prog 13 [encQ a,encQ b] (dI (sgQ (a-b))):=by
 have zpa:=Zbi a
 have zpb:=Zbi b
 have k1:=ZbH a za
 have k2:=ZbH b zb
 have k3:=Zec a.num b.den (by omega) (by omega)
 have k4:=Zec b.num a.den (by omega) (by omega)
 have k5:=Zy8 (a.num*b.den) (b.num*a.den)
 rw[← Zrp]at k5
 have Zr:=Tryz.results13
 refine inN Tryz.func13 rfl Tryz.ntmps13 fun I=>?_
 exact aGo Zr trivial
theorem ZcR(a b:Zac)(za:(szF a:Int)≤549755813888)(zb:(szF b:Int)≤549755813888):Zaa Tryz.prog 13 [encF a,encF b] (dI (cmpD a b)):=by
 have k1:=ZbA a za
 have k2:=ZbA b zb
 cases ha:okF a
 ·rw[ha]at k1
  rw[show cmpD a b=0 by simp[cmpD,ha]]
  have Zr:=Tryz.results13
  refine inN Tryz.func13 rfl Tryz.ntmps13 fun I=>?_
  exact aGo Zr trivial
 cases hb:okF b
 ·rw[ha]at k1
  rw[hb]at k2
  rw[show cmpD a b=0 by simp[cmpD,hb]]
  have Zr:=Tryz.results13
  refine inN Tryz.func13 rfl Tryz.ntmps13 fun I=>?_
  exact aGo Zr trivial
 obtain⟨r,rfl⟩:=ZfK.1 ha
 obtain⟨t,rfl⟩:=ZfK.1 hb
 rw[Zvl]
 exact ZrQ r t za zb
theorem Ziy(n:Int)(h1 : -9223372036854775808≤n)(h2:n≤9223372036854775807):Zag Tryz.prog 38 [dI n] (encF (ofQ (n:Rat))):=(ZeF n h1 h2).all
theorem fof_c(p q:Int)(hq:q≠0)(p1 : -9223372036854775808≤p)(p2:p≤9223372036854775807)(q1 : -9223372036854775808≤q)(q2:q≤9223372036854775807):Zag Tryz.prog 155 [dI p,dI q] (.tup [encF (ofQ (Rat.divInt p q)),dI 0]):=by
 have k1:=Zut p p1 p2
 have k2:=Zut q q1 q2
 have z1:szZ p≤4:=Zdy (by simp only[bp];omega)
 have z2:szZ q≤4:=Zdy (by simp only[bp];omega)
 have k3:=ZrV p q hq (by omega) (by omega)
 have Zr:=Tryz.results155
 refine inC Tryz.func155 rfl Tryz.ntmps155 ?_
 exact aGo Zr trivial
set_option maxHeartbeats 2000000
structure Zaj where
 v:Int
 f:Zac
structure RowD where
 t:List Zaj
 k:Int
 v:Zac
structure SysD where
 n:Int
 r:List RowD
abbrev cT(t:Zaj):List D:=[dI t.v,dI t.f.p.s,Zah t.f.p.d,dI t.f.q.s,Zah t.f.q.d]
abbrev encT(t:Zaj):D:=.agg (cT t)
abbrev ZbT(l:List Zaj):D:=.sl (l.map cT)
abbrev ZaM(l:List Zac):D:=.sl (l.map cF)
abbrev cW(w:RowD):List D:=[ZbT w.t,dI w.k,dI w.v.p.s,Zah w.v.p.d,dI w.v.q.s,Zah w.v.q.d]
abbrev ZsQ(l:List RowD):D:=.sl (l.map cW)
abbrev cS(s:SysD):List D:=[dI s.n,ZsQ s.r]
abbrev encS(s:SysD):D:=.agg (cS s)
def smF(f:Zac):Prop:=(szF f:Int)≤4194304
def smT(l:List Zaj):Prop:=(l.length:Int)≤4096∧∀ t∈l,smF t.f
def smFs(l:List Zac):Prop:=(l.length:Int)≤4096∧∀ f∈l,smF f
def smW(w:RowD):Prop:=smT w.t∧smF w.v
def smS(s:SysD):Prop:=(s.r.length:Int)≤4096∧∀ w∈s.r,smW w
theorem ZmX{l:List Zaj}(h:smT l):(l.length:Int)≤4096:=h.1
theorem ZeZ{l:List Zac}(h:smFs l):(l.length:Int)≤4096:=h.1
theorem ZmY{s:SysD}(h:smS s):(s.r.length:Int)≤4096:=h.1
def goR(n:Int):Int→List Zaj→Bool
 | _,[]=>true
 | last,t ::l=>decide (last<t.v)&&decide (t.v<n)&&(sgnD t.f !=0)&&goR n t.v l
def Zat(l:List Zaj)(n:Int):Bool:=decide (0≤n)&&goR n (-1) l
def Zno(l:List Zaj)(k:Nat):Int:=match k with
 | 0=> -1
 | k+1=>match l[k]? with
   | some t=>t.v
   | none=> -1
theorem Zjz{l:List Zaj}{k:Nat}{t:Zaj}(h:l[k]? =some t):Zno l (k+1)=t.v:=by simp[Zno,h]
theorem Ziw{n:Int}:∀ (l m:List Zaj)(last:Int),goR n last (l++m)=(goR n last l&&goR n ((l.getLast?.map (·.v)).getD last) m)
 | [],m,last=>by simp[goR]
 | t ::l,m,last=>by
   rw[Yc9,goR,goR,Ziw l m t.v]
   have:((t ::l).getLast?.map (·.v)).getD last=(l.getLast?.map (·.v)).getD t.v:=by
    cases l with
    | nil=>rfl
    | cons u l=>rw[List.getLast?_cons_cons];rw[List.getLast?_eq_some_getLast (by simp:(u ::l)≠[])];rfl
   rw[this]
   simp only[Bool.and_assoc]
theorem Zqc{l:List Zaj}{k:Nat}(hk:k≤l.length):((l.take k).getLast?.map (·.v)).getD (-1)=Zno l k:=by
 cases k with
 | zero=>rfl
 | succ k =>
   obtain⟨t,hx⟩:=getE (l:=l) (k:=k) (by omega)
   rw[Zjz hx,Yb4,hx]
   simp
theorem ZuW{n:Int}{l:List Zaj}{k:Nat}{t:Zaj}(hx:l[k]? =some t):goR n (-1) (l.take (k+1))=(goR n (-1) (l.take k)&&(decide (Zno l k<t.v)&&decide (t.v<n)&&(sgnD t.f !=0))):=by
 have hk:k<l.length:=(Ya3.1 hx).1
 rw[Yb4,hx,Option.toList_some,Ziw,Zqc (Nat.le_of_lt hk)]
 simp[goR]
theorem ZkD{n:Int}{l:List Zaj}{k:Nat}(h:goR n (-1) (l.take k)=false):goR n (-1) l=false:=by
 have:=Ziw (n:=n) (l.take k) (l.drop k) (-1)
 rw[List.take_append_drop,h]at this
 simpa using this
theorem ZaR{α:Type}{l:List α}{k:Nat}{x:α}(h:l[k]? =some x):x∈l:=Ya7 h
theorem ZfC{f:Zac}(h:smF f):(szF f:Int)≤549755813888:=by unfold smF at h;omega
theorem Ze7(l:List Zaj)(n:Int)(hs:smT l):Zaa Tryz.prog 78 [ZbT l,dI n] (dB (Zat l n)):=by
 refine Zag.toN ?_ rfl
 refine inC Tryz.func78 rfl Tryz.ntmps78 ?_
 have Zr:=Tryz.results78
 have hl:=ZmX hs
 by_cases hn:n<0
 ·refine aGo (cj2 Zr hn) ?_
  repeat with_reducible intro K hK
  exact Zae (by simp[Zat];omega)
 refine aGo (cj2 Zr hn) ?_
 repeat with_reducible intro K hK
 refine ZaE (fun(k:Nat)=>[(0,ZbT l),(1,dI n),(5,dI (Zno l k)),(10,ZbT l),(11,dI l.length),(12,dI k)]) (fun _=>[]) 0 0 (fun k=>k≤l.length∧goR n (-1) (l.take k)=true) (fun k=>l.length-k) 0 ⟨by omega,rfl⟩ ?_ ?_
 ·refine Zcl _ _ _ ?_ ?_ ?_ ?_ ?_ (.inl rfl)<;>simp[go_sem,okD,okDs,Zcb,Zno]<;>(first|(intros;subst_vars;simp[okD,okDs];done)|(intro _ h;rcases h with⟨_,_,rfl⟩|rfl<;>simp[okD,okDs];done)|(intros;rename_i h;rcases h with⟨_,_,rfl⟩|rfl<;>simp[okD,okDs]))
 ·rintro k ⟨hk,hg⟩
  obtain⟨hw,h0⟩:=Za6 k
  by_cases h1:(k:Int)<l.length
  ·obtain⟨t,hx⟩:=getE (l:=l) (k:=k) (by omega)
   have hc:=Zc4 t.f (ZfC (hs.2 t (ZaR hx)))
   have hstep:=ZuW (n:=n) hx
   rw[hg,Bool.true_and]at hstep
   have hla:=Zjz hx
   by_cases h2:t.v≤Zno l k
   ·refine aGo (cj4 Zr h0 h1 (cj2 hx h2)) ?_
    repeat with_reducible intro K hK
    refine Zae (Eq.symm ?_)
    have:goR n (-1) (l.take (k+1))=false:=by rw[hstep];simp;omega
    simp[Zat,ZkD this]
   by_cases h3:t.v≥n
   ·refine aGo (cj4 Zr h0 h1 (cj3 hx h2 h3)) ?_
    repeat with_reducible intro K hK
    refine Zae (Eq.symm ?_)
    have:goR n (-1) (l.take (k+1))=false:=by rw[hstep];simp;omega
    simp[Zat,ZkD this]
   cases h4:sgnD t.f==0
   ·refine aGo (cj4 Zr h0 h1 (cj4 hx h2 h3 (cj2 h4 hw))) ?_
    repeat with_reducible intro K hK
    refine Zai (k+1) ⟨by omega,?_⟩ (by omega) (by exact leGo hla)
    rw[hstep]
    simp at h4
    simp[h4];omega
   ·refine aGo (cj4 Zr h0 h1 (cj4 hx h2 h3 (cj2 h4 hw))) ?_
    repeat with_reducible intro K hK
    refine Zae (Eq.symm ?_)
    have:goR n (-1) (l.take (k+1))=false:=by rw[hstep];simp at h4;simp[h4]
    simp[Zat,ZkD this]
  ·refine aGo (cj2 Zr h1) ?_
   repeat with_reducible intro K hK
   rw[Ya8 (by omega)]at hg
   exact Zae (by simp[Zat,hg];omega)
set_option linter.constructorNameAsVariable false
section
variable {n:Nat} {x:List D}
theorem Zbg(h:Zbh Tryz.prog (n+1) 3 x):∃ a,x=[dI a]:=by
 unfold Zbh at h
 simp only[Tryz.underlying3]at h
 obtain⟨a,rfl,_⟩:=h
 exact⟨a,rfl⟩
theorem Zxn(h:Zbh Tryz.prog (n+2) 30 x):∃ l,x=[Zah l]:=by
 unfold Zbh at h
 simp only[Tryz.underlying30]at h
 obtain⟨es,rfl,_,h⟩:=h
 obtain⟨l,rfl⟩:=Zcj (f:=fun a=>[dI a]) (fun x hx=>Zbg (h x hx))
 exact⟨l,rfl⟩
theorem Zv5(h:Zbh Tryz.prog (n+3) 32 x):∃ b,x=cB b:=by
 unfold Zbh at h
 simp only[Tryz.underlying32,List.foldr]at h
 obtain⟨_,_,rfl,h1,_,_,rfl,h2,rfl⟩:=h
 obtain⟨a,rfl⟩:=Zbg h1
 obtain⟨l,rfl⟩:=Zxn h2
 exact⟨⟨a,l⟩,rfl⟩
theorem ZnA(h:Zbh Tryz.prog (n+4) 34 x):∃ f,x=cF f:=by
 unfold Zbh at h
 simp only[Tryz.underlying34,List.foldr]at h
 obtain⟨_,_,rfl,h1,_,_,rfl,h2,rfl⟩:=h
 obtain⟨a,rfl⟩:=Zv5 h1
 obtain⟨b,rfl⟩:=Zv5 h2
 exact⟨⟨a,b⟩,rfl⟩
end
structure Zca where
 s:Int
 f:Int
 u:Int
 g:Int
 p:Int
 d:Int
structure RecD where
 s:Int
 d:Int
abbrev cC(c:Zca):List D:=[dI c.s,dI c.f,dI c.u,dI c.g,dI c.p,dI c.d]
abbrev encC(c:Zca):D:=.agg (cC c)
abbrev Zmi(l:List Zca):D:=.sl (l.map cC)
abbrev cRe(r:RecD):List D:=[dI r.s,dI r.d]
abbrev encRe(r:RecD):D:=.agg (cRe r)
abbrev Zgt(l:List RecD):D:=.sl (l.map cRe)
def inB(n lo hi:Int):Bool:=decide (lo≤n)&&decide (n≤hi)
def ZdF(c:Zca):Bool:=decide (0≤c.f)&&decide (c.f≤c.u)&&decide (c.u≤100000)&&inB c.s 0 29&&inB c.g 0 1099511627776&&inB c.p 0 1000&&inB c.d 0 10000000
def Zc9(c:Zca)(day:Int):Bool:=ZdF c&&decide (c.f≤day)&&decide (day≤c.u)
theorem ZpH{c:Zca}:ZdF c=true↔0≤c.f∧c.f≤c.u∧c.u≤100000∧(0≤c.s∧c.s≤29)∧(0≤c.g∧c.g≤1099511627776)∧(0≤c.p∧c.p≤1000)∧(0≤c.d∧c.d≤10000000):=by
 simp[ZdF,inB,and_assoc]
theorem Zaz(n m:Int):Zaa Tryz.prog 154 [dI n,dI m] (dB (inB n 0 m)):=by
 refine Zag.toN ?_ rfl
 refine inC Tryz.func154 rfl Tryz.ntmps154 ?_
 have Zr:=Tryz.results154
 by_cases h1:n≥0
 rotate_left
 ·refine aGo (cj2 Zr h1) ?_
  repeat with_reducible intro K hK
  exact Zae (by simp[inB,h1])
 by_cases h2:n≤m
 rotate_left
 ·refine aGo (cj3 Zr h1 h2) ?_
  repeat with_reducible intro K hK
  exact Zae (by simp[inB,h1,h2])
 refine aGo (cj3 Zr h1 h2) ?_
 repeat with_reducible intro K hK
 exact Zae (by simp[inB,h1,h2])
theorem Zhy(c:Zca):Zaa Tryz.prog 178 [encC c] (dB (ZdF c)):=by
 refine Zag.toN ?_ rfl
 refine inC Tryz.func178 rfl Tryz.ntmps178 ?_
 have Zr:=Tryz.results178
 by_cases h1:0≤c.f
 rotate_left
 ·repeat(first
   | (refine hK _ ?_;clear hK;clear K)
   | (refine aSeq fun K hK=>?_)
   | (refine Zd1 ?_)
   | (refine Zg0 ?_)
   | (refine Zg2 ?_)
   | (refine aRet ?_)
   | (refine aOps _ rfl (by kernel_rfl) ?_)
   | (refine Zg1 _ rfl mixed (by kernel_rfl) (by kernel_rfl) fun KE hE=>?_)
   | (refine hE _ _ (by kernel_rfl) (ZaG rfl) ?_;clear hE;clear KE)
   | (refine hE _ _ (by kernel_rfl) (ZbJ ?hi ?hj) ?_;(case hi=>(repeat(refine Zal rfl ?_));exact Zar);(case hj=>simp);clear hE;clear KE)
   | (refine ZdZ rfl ?hc ?_;case hc=>simp only[go_sem,↓reduceIte,Zr,h1])
   | (refine Zd0 rfl ?hc ?_;case hc=>simp only[go_sem,↓reduceIte,Zr,h1])
   | (refine Zb9 (Zaz _ _) ?_ ?_;rotate_left;(repeat(refine Zal rfl ?_));exact Zar)
   | (refine Zbl (Zaz _ _) ?_)
   | (refine Zcr (Zaz _ _) rfl ?_)
   | (refine Zbv (Zaz _ _) rfl ?_)
   | (simp only[go_sem,↓reduceIte,Zr,h1])
   | (refine And.intro ?ho ?_;(case ho=>omega))
   | (clear hK;clear K))
  exact Zae (by simp[ZdF,h1])
 by_cases h2:c.f≤c.u
 rotate_left
 ·repeat(first
   | (refine hK _ ?_;clear hK;clear K)
   | (refine aSeq fun K hK=>?_)
   | (refine Zd1 ?_)
   | (refine Zg0 ?_)
   | (refine Zg2 ?_)
   | (refine aRet ?_)
   | (refine aOps _ rfl (by kernel_rfl) ?_)
   | (refine Zg1 _ rfl mixed (by kernel_rfl) (by kernel_rfl) fun KE hE=>?_)
   | (refine hE _ _ (by kernel_rfl) (ZaG rfl) ?_;clear hE;clear KE)
   | (refine hE _ _ (by kernel_rfl) (ZbJ ?hi ?hj) ?_;(case hi=>(repeat(refine Zal rfl ?_));exact Zar);(case hj=>simp);clear hE;clear KE)
   | (refine ZdZ rfl ?hc ?_;case hc=>simp only[go_sem,↓reduceIte,Zr,h1,h2])
   | (refine Zd0 rfl ?hc ?_;case hc=>simp only[go_sem,↓reduceIte,Zr,h1,h2])
   | (refine Zb9 (Zaz _ _) ?_ ?_;rotate_left;(repeat(refine Zal rfl ?_));exact Zar)
   | (refine Zbl (Zaz _ _) ?_)
   | (refine Zcr (Zaz _ _) rfl ?_)
   | (refine Zbv (Zaz _ _) rfl ?_)
   | (simp only[go_sem,↓reduceIte,Zr,h1,h2])
   | (refine And.intro ?ho ?_;(case ho=>omega))
   | (clear hK;clear K))
  exact Zae (by simp[ZdF,h1,h2])
 by_cases h3:c.u≤100000
 rotate_left
 ·repeat(first
   | (refine hK _ ?_;clear hK;clear K)
   | (refine aSeq fun K hK=>?_)
   | (refine Zd1 ?_)
   | (refine Zg0 ?_)
   | (refine Zg2 ?_)
   | (refine aRet ?_)
   | (refine aOps _ rfl (by kernel_rfl) ?_)
   | (refine Zg1 _ rfl mixed (by kernel_rfl) (by kernel_rfl) fun KE hE=>?_)
   | (refine hE _ _ (by kernel_rfl) (ZaG rfl) ?_;clear hE;clear KE)
   | (refine hE _ _ (by kernel_rfl) (ZbJ ?hi ?hj) ?_;(case hi=>(repeat(refine Zal rfl ?_));exact Zar);(case hj=>simp);clear hE;clear KE)
   | (refine ZdZ rfl ?hc ?_;case hc=>simp only[go_sem,↓reduceIte,Zr,h1,h2,h3])
   | (refine Zd0 rfl ?hc ?_;case hc=>simp only[go_sem,↓reduceIte,Zr,h1,h2,h3])
   | (refine Zb9 (Zaz _ _) ?_ ?_;rotate_left;(repeat(refine Zal rfl ?_));exact Zar)
   | (refine Zbl (Zaz _ _) ?_)
   | (refine Zcr (Zaz _ _) rfl ?_)
   | (refine Zbv (Zaz _ _) rfl ?_)
   | (simp only[go_sem,↓reduceIte,Zr,h1,h2,h3])
   | (refine And.intro ?ho ?_;(case ho=>omega))
   | (clear hK;clear K))
  exact Zae (by simp[ZdF,h1,h2,h3])
 by_cases h4:inB c.s 0 29=true
 rotate_left
 ·repeat(first
   | (refine hK _ ?_;clear hK;clear K)
   | (refine aSeq fun K hK=>?_)
   | (refine Zd1 ?_)
   | (refine Zg0 ?_)
   | (refine Zg2 ?_)
   | (refine aRet ?_)
   | (refine aOps _ rfl (by kernel_rfl) ?_)
   | (refine Zg1 _ rfl mixed (by kernel_rfl) (by kernel_rfl) fun KE hE=>?_)
   | (refine hE _ _ (by kernel_rfl) (ZaG rfl) ?_;clear hE;clear KE)
   | (refine hE _ _ (by kernel_rfl) (ZbJ ?hi ?hj) ?_;(case hi=>(repeat(refine Zal rfl ?_));exact Zar);(case hj=>simp);clear hE;clear KE)
   | (refine ZdZ rfl ?hc ?_;case hc=>simp only[go_sem,↓reduceIte,Zr,h1,h2,h3,h4])
   | (refine Zd0 rfl ?hc ?_;case hc=>simp only[go_sem,↓reduceIte,Zr,h1,h2,h3,h4])
   | (refine Zb9 (Zaz _ _) ?_ ?_;rotate_left;(repeat(refine Zal rfl ?_));exact Zar)
   | (refine Zbl (Zaz _ _) ?_)
   | (refine Zcr (Zaz _ _) rfl ?_)
   | (refine Zbv (Zaz _ _) rfl ?_)
   | (simp only[go_sem,↓reduceIte,Zr,h1,h2,h3,h4])
   | (refine And.intro ?ho ?_;(case ho=>omega))
   | (clear hK;clear K))
  exact Zae (by simp[ZdF,h1,h2,h3,h4])
 by_cases h5:inB c.g 0 1099511627776=true
 rotate_left
 ·repeat(first
   | (refine hK _ ?_;clear hK;clear K)
   | (refine aSeq fun K hK=>?_)
   | (refine Zd1 ?_)
   | (refine Zg0 ?_)
   | (refine Zg2 ?_)
   | (refine aRet ?_)
   | (refine aOps _ rfl (by kernel_rfl) ?_)
   | (refine Zg1 _ rfl mixed (by kernel_rfl) (by kernel_rfl) fun KE hE=>?_)
   | (refine hE _ _ (by kernel_rfl) (ZaG rfl) ?_;clear hE;clear KE)
   | (refine hE _ _ (by kernel_rfl) (ZbJ ?hi ?hj) ?_;(case hi=>(repeat(refine Zal rfl ?_));exact Zar);(case hj=>simp);clear hE;clear KE)
   | (refine ZdZ rfl ?hc ?_;case hc=>simp only[go_sem,↓reduceIte,Zr,h1,h2,h3,h4,h5])
   | (refine Zd0 rfl ?hc ?_;case hc=>simp only[go_sem,↓reduceIte,Zr,h1,h2,h3,h4,h5])
   | (refine Zb9 (Zaz _ _) ?_ ?_;rotate_left;(repeat(refine Zal rfl ?_));exact Zar)
   | (refine Zbl (Zaz _ _) ?_)
   | (refine Zcr (Zaz _ _) rfl ?_)
   | (refine Zbv (Zaz _ _) rfl ?_)
   | (simp only[go_sem,↓reduceIte,Zr,h1,h2,h3,h4,h5])
   | (refine And.intro ?ho ?_;(case ho=>omega))
   | (clear hK;clear K))
  exact Zae (by simp[ZdF,h1,h2,h3,h4,h5])
 by_cases h6:inB c.p 0 1000=true
 rotate_left
 ·repeat(first
   | (refine hK _ ?_;clear hK;clear K)
   | (refine aSeq fun K hK=>?_)
   | (refine Zd1 ?_)
   | (refine Zg0 ?_)
   | (refine Zg2 ?_)
   | (refine aRet ?_)
   | (refine aOps _ rfl (by kernel_rfl) ?_)
   | (refine Zg1 _ rfl mixed (by kernel_rfl) (by kernel_rfl) fun KE hE=>?_)
   | (refine hE _ _ (by kernel_rfl) (ZaG rfl) ?_;clear hE;clear KE)
   | (refine hE _ _ (by kernel_rfl) (ZbJ ?hi ?hj) ?_;(case hi=>(repeat(refine Zal rfl ?_));exact Zar);(case hj=>simp);clear hE;clear KE)
   | (refine ZdZ rfl ?hc ?_;case hc=>simp only[go_sem,↓reduceIte,Zr,h1,h2,h3,h4,h5,h6])
   | (refine Zd0 rfl ?hc ?_;case hc=>simp only[go_sem,↓reduceIte,Zr,h1,h2,h3,h4,h5,h6])
   | (refine Zb9 (Zaz _ _) ?_ ?_;rotate_left;(repeat(refine Zal rfl ?_));exact Zar)
   | (refine Zbl (Zaz _ _) ?_)
   | (refine Zcr (Zaz _ _) rfl ?_)
   | (refine Zbv (Zaz _ _) rfl ?_)
   | (simp only[go_sem,↓reduceIte,Zr,h1,h2,h3,h4,h5,h6])
   | (refine And.intro ?ho ?_;(case ho=>omega))
   | (clear hK;clear K))
  exact Zae (by simp[ZdF,h1,h2,h3,h4,h5,h6])
 by_cases h7:inB c.d 0 10000000=true
 rotate_left
 ·repeat(first
   | (refine hK _ ?_;clear hK;clear K)
   | (refine aSeq fun K hK=>?_)
   | (refine Zd1 ?_)
   | (refine Zg0 ?_)
   | (refine Zg2 ?_)
   | (refine aRet ?_)
   | (refine aOps _ rfl (by kernel_rfl) ?_)
   | (refine Zg1 _ rfl mixed (by kernel_rfl) (by kernel_rfl) fun KE hE=>?_)
   | (refine hE _ _ (by kernel_rfl) (ZaG rfl) ?_;clear hE;clear KE)
   | (refine hE _ _ (by kernel_rfl) (ZbJ ?hi ?hj) ?_;(case hi=>(repeat(refine Zal rfl ?_));exact Zar);(case hj=>simp);clear hE;clear KE)
   | (refine ZdZ rfl ?hc ?_;case hc=>simp only[go_sem,↓reduceIte,Zr,h1,h2,h3,h4,h5,h6,h7])
   | (refine Zd0 rfl ?hc ?_;case hc=>simp only[go_sem,↓reduceIte,Zr,h1,h2,h3,h4,h5,h6,h7])
   | (refine Zb9 (Zaz _ _) ?_ ?_;rotate_left;(repeat(refine Zal rfl ?_));exact Zar)
   | (refine Zbl (Zaz _ _) ?_)
   | (refine Zcr (Zaz _ _) rfl ?_)
   | (refine Zbv (Zaz _ _) rfl ?_)
   | (simp only[go_sem,↓reduceIte,Zr,h1,h2,h3,h4,h5,h6,h7])
   | (refine And.intro ?ho ?_;(case ho=>omega))
   | (clear hK;clear K))
  exact Zae (by simp[ZdF,h1,h2,h3,h4,h5,h6,h7])
 repeat (first
     | (refine hK _ ?_;clear hK;clear K)
     | (refine aSeq fun K hK=>?_)
     | (refine Zd1 ?_)
     | (refine Zg0 ?_)
     | (refine Zg2 ?_)
     | (refine aRet ?_)
     | (refine aOps _ rfl (by kernel_rfl) ?_)
     | (refine Zg1 _ rfl mixed (by kernel_rfl) (by kernel_rfl) fun KE hE=>?_)
     | (refine hE _ _ (by kernel_rfl) (ZaG rfl) ?_;clear hE;clear KE)
     | (refine hE _ _ (by kernel_rfl) (ZbJ ?hi ?hj) ?_;(case hi=>(repeat(refine Zal rfl ?_));exact Zar);(case hj=>simp);clear hE;clear KE)
     | (refine ZdZ rfl ?hc ?_;case hc=>simp only[go_sem,↓reduceIte,Zr,h1,h2,h3,h4,h5,h6,h7])
     | (refine Zd0 rfl ?hc ?_;case hc=>simp only[go_sem,↓reduceIte,Zr,h1,h2,h3,h4,h5,h6,h7])
     | (refine Zb9 (Zaz _ _) ?_ ?_;rotate_left;(repeat(refine Zal rfl ?_));exact Zar)
     | (refine Zbl (Zaz _ _) ?_)
     | (refine Zcr (Zaz _ _) rfl ?_)
     | (refine Zbv (Zaz _ _) rfl ?_)
     | (simp only[go_sem,↓reduceIte,Zr,h1,h2,h3,h4,h5,h6,h7])
     | (refine And.intro ?ho ?_;(case ho=>omega))
     | (clear hK;clear K))
 exact Zae (by simp[ZdF,h1,h2,h3,h4,h5,h6,h7])
theorem Zo4(c:Zca)(day:Int):Zaa Tryz.prog 151 [encC c,dI day] (dB (Zc9 c day)):=by
 refine Zag.toN ?_ rfl
 refine inC Tryz.func151 rfl Tryz.ntmps151 ?_
 have Zr:=Tryz.results151
 by_cases h1:ZdF c=true
 rotate_left
 ·have hq0:=Zhy c
  refine aGo (cj2 Zr h1) ?_
  repeat with_reducible intro K hK
  exact Zae (by simp[Zc9,h1])
 by_cases h2:c.f≤day
 rotate_left
 ·have hq0:=Zhy c
  refine aGo (cj3 Zr h1 h2) ?_
  repeat with_reducible intro K hK
  exact Zae (by simp[Zc9,h1,h2])
 by_cases h3:day≤c.u
 rotate_left
 ·have hq0:=Zhy c
  refine aGo (cj4 Zr h1 h2 h3) ?_
  repeat with_reducible intro K hK
  exact Zae (by simp[Zc9,h1,h2,h3])
 have hq0:=Zhy c
 refine aGo (cj4 Zr h1 h2 h3) ?_
 repeat with_reducible intro K hK
 exact Zae (by simp[Zc9,h1,h2,h3])
def ownC(c:Zca)(s day:Int):Bool:=c.s==s&&Zc9 c day
def Zlb(l:List Zca)(o:Option Nat)(c:Zca):Bool:=match o with
 | none=>true
 | some b=>match l[b]? with
   | some x=>decide (c.f≥x.f)
   | none=>true
def ZdO(l:List Zca)(s day:Int):Nat→Option Nat
 | 0=>none
 | k+1=>match l[k]? with
   | none=>ZdO l s day k
   | some c=>if ownC c s day&&Zlb l (ZdO l s day k) c then some k else ZdO l s day k
def ZnE(l:List Zca)(s day:Int):Option Nat:=ZdO l s day l.length
section
variable {l:List Zca} {s day:Int} {k b:Nat} {c x:Zca}
theorem Zma(hx:l[k]? =some c)(h:ownC c s day=false):ZdO l s day (k+1)=ZdO l s day k:=by simp[ZdO,hx,h]
theorem ZjF(hx:l[k]? =some c)(h:ownC c s day=true)(ht:Zlb l (ZdO l s day k) c=true):ZdO l s day (k+1)=some k:=by simp[ZdO,hx,h,ht]
theorem Zql(hx:l[k]? =some c)(ht:Zlb l (ZdO l s day k) c=false):ZdO l s day (k+1)=ZdO l s day k:=by simp[ZdO,hx,ht]
theorem ZoO(k:Nat):∀ b,ZdO l s day k=some b→b<k∧∃ c,l[b]? =some c∧ownC c s day=true:=by
 induction k with
 | zero=>intro b h;cases h
 | succ k ih =>
   intro b h
   unfold ZdO at h
   split at h
   ·have:=ih b h;exact⟨by omega,this.2⟩
   ·next c hc =>
    split at h
    ·next hb =>
     cases h
     simp only[Ya2]at hb
     exact⟨by omega,c,hc,hb.1⟩
    ·have:=ih b h;exact⟨by omega,this.2⟩
end
theorem Zzu(l:List Zca)(s day:Int)(hl:(l.length:Int)≤1099511627776):Zaa Tryz.prog 112 [Zmi l,dI s,dI day] (.tup [dI ((ZnE l s day).getD 0),dB (ZnE l s day).isSome]):=by
 refine Zag.toN ?_ rfl
 refine inC Tryz.func112 rfl Tryz.ntmps112 ?_
 have Zr:=Tryz.results112
 refine aGo Zr ?_
 repeat with_reducible intro K hK
 refine ZaE (fun(k:Nat)=>[(0,Zmi l),(1,dI s),(2,dI day),(8,dI ((ZdO l s day k).getD 0)),(9,dB (ZdO l s day k).isSome),(12,Zmi l),(13,dI l.length),(14,dI k)]) (fun _=>[]) 0 0 (fun k=>k≤l.length) (fun k=>l.length-k) 0 (by omega) ?_ ?_
 ·refine Zcl _ _ _ ?_ ?_ ?_ ?_ ?_ (.inl rfl)<;>simp[go_sem,okD,okDs,Zcb,ZdO]<;>(first|(intros;subst_vars;simp[okD,okDs];done)|(intro _ h;rcases h with⟨_,_,rfl⟩|rfl<;>simp[okD,okDs];done)|(intros;rename_i h;rcases h with⟨_,_,rfl⟩|rfl<;>simp[okD,okDs]))
 ·rintro k hk
  obtain⟨hw,h0⟩:=Za6 k
  by_cases h1:(k:Int)<l.length
  ·obtain⟨c,hx⟩:=getE (l:=l) (k:=k) (by omega)
   have hcv:=Zo4 c day
   cases h2:c.s==s
   ·have hn:=Zma (day:=day) hx (s:=s) (by simp[ownC,h2])
    refine aGo (cj4 Zr h0 h1 (cj3 hx h2 hw)) ?_
    repeat with_reducible intro K hK
    exact Zai (k+1) (by omega) (by omega) (by exact leGo hn)
   cases h3:Zc9 c day
   ·have hn:=Zma hx (s:=s) (day:=day) (by simp[ownC,h3])
    rw[h3]at hcv
    refine aGo (cj4 Zr h0 h1 (cj3 hx h2 hw)) ?_
    repeat with_reducible intro K hK
    exact Zai (k+1) (by omega) (by omega) (by exact leGo hn)
   rw[h3]at hcv
   have ho:ownC c s day=true:=by simp[ownC,h2,h3]
   cases h4:ZdO l s day k with
   | none =>
     have hn:=ZjF hx ho (by rw[h4];rfl)
     refine aGo (cj4 Zr h0 h1 (cj4 hx h2 hw h4)) ?_
     repeat with_reducible intro K hK
     exact Zai (k+1) (by omega) (by omega) (by exact leGo hn)
   | some b =>
     obtain⟨hb,x,hy,_⟩:=ZoO k b h4
     have h5:(0:Int)≤b:=by omega
     have h6:(b:Int)<l.length:=by omega
     by_cases h7:c.f≥x.f
     ·have hn:=ZjF hx ho (by simp[h4,Zlb,hy,h7])
      refine aGo (cj4 Zr h0 h1 (cj4 hx h2 hw (cj4 h4 h5 h6 (cj2 h7 hy)))) ?_
      repeat with_reducible intro K hK
      exact Zai (k+1) (by omega) (by omega) (by exact leGo hn)
     ·have hn:=Zql (s:=s) (day:=day) hx (by simp[h4,Zlb,hy];omega)
      refine aGo (cj4 Zr h0 h1 (cj4 hx h2 hw (cj4 h4 h5 h6 (cj2 h7 hy)))) ?_
      repeat with_reducible intro K hK
      exact Zai (k+1) (by omega) (by omega) (by exact leGo (cj2 hn h4))
  ·have e:k=l.length:=by omega
   subst e
   refine aGo (cj2 Zr h1) ?_
   repeat with_reducible intro K hK
   rfl
def hitR(s day:Int)(r:RecD):Bool:=r.s==s&&decide (r.d≤day)
def recC(l:List RecD)(s day:Int):Bool:=l.any (hitR s day)
theorem ZkW{α:Type}{p:α→Bool}{l:List α}{k:Nat}{x:α}(hx:l[k]? =some x)(h:(l.take k).any p=false)(hp:p x=false):(l.take (k+1)).any p=false:=by
 rw[Yb4,hx];simp[List.any_append,h,hp]
theorem ZzJ{α:Type}{p:α→Bool}{l:List α}{k:Nat}{x:α}(hx:l[k]? =some x)(hp:p x=true):l.any p=true :=
 List.any_eq_true.2 ⟨x,Ya7 hx,hp⟩
abbrev cloR(s day:Int):D:=.clo 153 [.ep [[dI s]] 0 0,.ep [[dI day]] 0 0]
theorem hit_c(r:RecD)(s day:Int):Zaa Tryz.prog 153 [encRe r,.ep [[dI s]] 0 0,.ep [[dI day]] 0 0] (dB (hitR s day r)):=by
 refine Zag.toN ?_ rfl
 refine inC Tryz.func153 rfl Tryz.ntmps153 ?_
 have Zr:=Tryz.results153
 cases h2:r.s==s
 ·refine aGo (cj2 Zr h2) ?_
  repeat with_reducible intro K hK
  exact Zae (by simp[hitR,h2])
 by_cases h3:r.d≤day
 ·refine aGo (cj3 Zr h2 h3) ?_
  repeat with_reducible intro K hK
  exact Zae (by simp[hitR,h2,h3])
 ·refine aGo (cj3 Zr h2 h3) ?_
  repeat with_reducible intro K hK
  exact Zae (by simp[hitR,h2,h3])
theorem Zqm{α:Type}{p:α→Bool}{l:List α}{k:Nat}{x:α}(hx:l[k]? =some x)(h:(l.take k).any p=false)(hp:p x=true):l.findIdx p=k:=by
 obtain⟨hk,rfl⟩:=Ya3.1 hx
 refine(List.findIdx_eq hk).2 ⟨hp,fun j hj=>?_⟩
 rw[List.any_eq_false]at h
 have:=h l[j] (List.mem_take_iff_getElem.2 ⟨j,by omega,rfl⟩)
 simpa using this
def idxI{α:Type}(p:α→Bool)(l:List α):Int:=if l.any p then l.findIdx p else -1
theorem Zxu{α:Type}{p:α→Bool}{l:List α}{k:Nat}{x:α}(hx:l[k]? =some x)(h:(l.take k).any p=false)(hp:p x=true):idxI p l=k:=by
 unfold idxI;rw[ZzJ hx hp,Zqm hx h hp];rfl
theorem Zxs{α:Type}{p:α→Bool}{l:List α}(h:l.any p=false):idxI p l = -1:=by unfold idxI;rw[h];rfl
theorem Zxt{α:Type}(p:α→Bool)(l:List α):decide (idxI p l≥0)=l.any p:=by
 unfold idxI
 cases l.any p
 ·rfl
 ·simp only[if_true];exact decide_eq_true (by omega)
theorem Zxp(l:List RecD)(s day:Int)(hl:(l.length:Int)≤1099511627776):Zaa Tryz.prog 179 [Zgt l,cloR s day] (dI (idxI (hitR s day) l)):=by
 refine Zag.toN ?_ rfl
 refine inC Tryz.func179 rfl Tryz.ntmps179 ?_
 have Zr:=Tryz.results179
 refine aGo Zr ?_
 repeat with_reducible intro K hK
 refine ZaE (fun(k:Nat)=>[(0,Zgt l),(1,cloR s day),(7,dI l.length),(8,dI k)]) (fun _=>[]) 0 0 (fun k=>k≤l.length∧(l.take k).any (hitR s day)=false) (fun k=>l.length-k) 0 ⟨by omega,rfl⟩ ?_ ?_
 ·exact leGo trivial
 ·rintro k ⟨hk,hn⟩
  obtain⟨hw,h0⟩:=Za6 k
  by_cases h1:(k:Int)<l.length
  ·obtain⟨r,hx⟩:=getE (l:=l) (k:=k) (by omega)
   have hc:=hit_c r s day
   cases h2:hitR s day r
   ·rw[h2]at hc
    refine aGo (cj4 Zr h0 h1 (cj2 hx hw)) ?_
    repeat with_reducible intro K hK
    exact Zai (k+1) ⟨by omega,ZkW hx hn h2⟩ (by omega) (by exact leGo trivial)
   ·rw[h2]at hc
    refine aGo (cj4 Zr h0 h1 (cj2 hx hw)) ?_
    repeat with_reducible intro K hK
    exact Zcy (Zxu hx hn h2).symm
  ·refine aGo (cj2 Zr h1) ?_
   repeat with_reducible intro K hK
   rw[Ya8 (by omega)]at hn
   exact Zcy (Zxs hn).symm
theorem Zqv(l:List RecD)(s day:Int)(hl:(l.length:Int)≤1099511627776):Zaa Tryz.prog 152 [Zgt l,cloR s day] (dB (recC l s day)):=by
 refine Zag.toN ?_ rfl
 refine inC Tryz.func152 rfl Tryz.ntmps152 ?_
 have Zr:=Tryz.results152
 have hc:=Zxp l s day hl
 refine aGo Zr ?_
 repeat with_reducible intro K hK
 exact Zae (Zxt _ _)
theorem ZpN(l:List RecD)(s day:Int)(hl:(l.length:Int)≤1099511627776):Zaa Tryz.prog 113 [Zgt l,dI s,dI day] (dB (recC l s day)):=by
 refine Zag.toN ?_ rfl
 refine inC Tryz.func113 rfl Tryz.ntmps113 ?_
 have Zr:=Tryz.results113
 have hc:=Zqv l s day hl
 exact aGo Zr trivial
def errQ(c:Zca)(reading day:Int):Rat:=Rat.divInt (c.p*reading) 1000+((c.g+c.d*(day-c.f):Int):Rat)
def Zgr(c:Zca)(reading day:Int):Bool:=Zc9 c day&&inB reading 0 1099511627776
def errD(c:Zca)(reading day:Int):Zac×Bool:=if Zgr c reading day then(ofQ (errQ c reading day),true)else(zF,false)
theorem Zn3{f:Zac×Bool}{b:Bool}(h:f=(zF,b)):D.tup [encF zF,dB b]=D.tup [encF f.1,dB f.2]:=by rw[h]
theorem ZqZ{f:Zac×Bool}{q:Rat}{b:Bool}(h:f=(ofQ q,b)):D.tup [encF (ofQ q),dB b]=D.tup [encF f.1,dB f.2]:=by rw[h]
theorem ZgT{n a b:Int}:inB n a b=true↔a≤n∧n≤b:=by simp[inB]
theorem Zr0{a b A B:Int}(h1:0≤a)(h2:a≤A)(h3:0≤b)(h4:b≤B):0≤a*b∧a*b≤A*B :=
 ⟨Int.mul_nonneg h1 h3,Int.le_trans (Int.mul_le_mul_of_nonneg_right h2 h3) (Yd1 h4 (Int.le_trans h1 h2))⟩
theorem Ze9{c:Zca}{reading day:Int}(h:Zgr c reading day=true):(0≤c.p*reading∧c.p*reading≤1099511627776000)∧(0≤day-c.f∧day-c.f≤100000)∧(0≤c.d*(day-c.f)∧c.d*(day-c.f)≤1000000000000)∧(0≤c.g∧c.g≤1099511627776)∧(0≤reading∧reading≤1099511627776):=by
 simp only[Zgr,Zc9,Ya2,ZpH,ZgT,decide_eq_true_eq]at h
 obtain⟨⟨⟨⟨f0,f1,f2,s1,g1,p1,d1⟩,h1⟩,h2⟩,h3,h4⟩:=h
 have hd:0≤day-c.f∧day-c.f≤100000:=by omega
 exact⟨Zr0 p1.1 p1.2 h3 h4,hd,Zr0 d1.1 d1.2 hd.1 hd.2,g1,h3,h4⟩
theorem Zn8(p q:Int)(hq:q≠0)(p1 : -9223372036854775808≤p)(p2:p≤9223372036854775807)(q1 : -9223372036854775808≤q)(q2:q≤9223372036854775807):szQ (Rat.divInt p q)≤4:=by
 have h1:=Zdz p q hq
 have h2:szZ p≤4:=Zdy (by simp only[bp];omega)
 have h3:szZ q≤4:=Zdy (by simp only[bp];omega)
 omega
theorem Zwo{c:Zca}{reading day:Int}(h:Zgr c reading day=true):szQ (errQ c reading day)≤9:=by
 obtain⟨h1,h2,h3,h4,h5⟩:=Ze9 h
 have e1:=Zn8 (c.p*reading) 1000 (by decide) (by omega) (by omega) (by decide) (by decide)
 have e2:=ZcW (c.g+c.d*(day-c.f)) (by omega) (by omega)
 have e3:=ZfA (Rat.divInt (c.p*reading) 1000) ((c.g+c.d*(day-c.f):Int):Rat)
 unfold errQ
 omega
theorem err_c(c:Zca)(reading day:Int):Zag Tryz.prog 114 [encC c,dI reading,dI day] (.tup [encF (errD c reading day).1,dB (errD c reading day).2]):=by
 have Zr:=Tryz.results114
 have hw:=Zaz reading 1099511627776
 have hv:=Zo4 c day
 cases h1:Zc9 c day
 ·rw[h1]at hv
  refine inC Tryz.func114 rfl Tryz.ntmps114 ?_
  refine aGo Zr ?_
  repeat with_reducible intro K hK
  exact Zn3 (by simp[errD,Zgr,h1])
 rw[h1]at hv
 cases h2:inB reading 0 1099511627776
 ·rw[h2]at hw
  refine inC Tryz.func114 rfl Tryz.ntmps114 ?_
  refine aGo Zr ?_
  repeat with_reducible intro K hK
  exact Zn3 (by simp[errD,Zgr,h1,h2])
 rw[h2]at hw
 have hok:Zgr c reading day=true:=by simp[Zgr,h1,h2]
 obtain⟨b1,b2,b3,b4,b5⟩:=Ze9 hok
 have e1:=Zn8 (c.p*reading) 1000 (by decide) (by omega) (by omega) (by decide) (by decide)
 have e2:=ZcW (c.g+c.d*(day-c.f)) (by omega) (by omega)
 have w1:IntKind.i64.wrap (c.p*reading)=c.p*reading:=Zbb (by omega) (by omega)
 have w2:IntKind.i64.wrap (day-c.f)=day-c.f:=Zbb (by omega) (by omega)
 have w3:IntKind.i64.wrap (c.d*(day-c.f))=c.d*(day-c.f):=Zbb (by omega) (by omega)
 have w4:IntKind.i64.wrap (c.g+c.d*(day-c.f))=c.g+c.d*(day-c.f):=Zbb (by omega) (by omega)
 have k1:=fof_c (c.p*reading) 1000 (by decide) (by omega) (by omega) (by decide) (by decide)
 have k2:=Ziy (c.g+c.d*(day-c.f)) (by omega) (by omega)
 have k3:=Zjo (Rat.divInt (c.p*reading) 1000) ((c.g+c.d*(day-c.f):Int):Rat) (by omega) (by omega)
 refine inC Tryz.func114 rfl Tryz.ntmps114 ?_
 refine aGo (cj4 Zr w1 w2 (cj2 w3 w4)) ?_
 repeat with_reducible intro K hK
 exact ZqZ (by simp[errD,hok,errQ])
structure IntD where
 lo:Zac
 hi:Zac
 ok:Bool
def noI:IntD:=⟨zF,zF,false⟩
def okI(r e:Rat):IntD:=⟨ofQ (maxQ (r-e) 0),ofQ (r+e),true⟩
def intD(cs:List Zca)(rs:List RecD)(which reading day:Int):IntD :=
 match ZnE cs which day with
 | none=>noI
 | some b=>match cs[b]? with
   | none=>noI
   | some c=>if recC rs which day || !inB reading 0 1099511627776 then noI else okI (reading:Int) (errQ c reading day)
abbrev encI(x:IntD):D:=.tup [encF x.lo,encF x.hi,dB x.ok]
theorem ZjY{x y:IntD}(h:x=y):encI y=encI x:=by rw[h]
theorem ZjH{cs:List Zca}{s day:Int}{b:Nat}(h:ZnE cs s day=some b):b<cs.length∧∃ c,cs[b]? =some c∧Zc9 c day=true∧c.s=s:=by
 obtain⟨h1,c,h2,h3⟩:=ZoO _ b h
 simp only[ownC,Ya2,beq_iff_eq]at h3
 exact⟨h1,c,h2,h3.2,h3.1⟩
theorem Zsm(cs:List Zca)(rs:List RecD)(which reading day:Int)(hc:(cs.length:Int)≤1099511627776)(hl:(rs.length:Int)≤1099511627776):Zag Tryz.prog 69 [Zmi cs,Zgt rs,dI which,dI reading,dI day] (encI (intD cs rs which reading day)):=by
 have Zr:=Tryz.results69
 have hf:=Zzu cs which day hc
 have hr:=ZpN rs which day hl
 cases h1:ZnE cs which day with
 | none =>
   rw[h1]at hf
   refine inC Tryz.func69 rfl Tryz.ntmps69 ?_
   refine aGo Zr ?_
   repeat with_reducible intro K hK
   exact ZjY (y:=noI) (by simp[intD,h1])
 | some b =>
   rw[h1]at hf
   obtain⟨hb,c,hx,hcv,_⟩:=ZjH h1
   have h5:(0:Int)≤b:=by omega
   have h6:(b:Int)<cs.length:=by omega
   cases h2:recC rs which day
   rotate_left
   ·rw[h2]at hr
    refine inC Tryz.func69 rfl Tryz.ntmps69 ?_
    refine aGo Zr ?_
    repeat with_reducible intro K hK
    exact ZjY (y:=noI) (by simp[intD,h1,hx,h2])
   rw[h2]at hr
   have he:=err_c c reading day
   cases h3:inB reading 0 1099511627776
   ·rw[show errD c reading day=(zF,false) by simp[errD,Zgr,h3]]at he
    refine inC Tryz.func69 rfl Tryz.ntmps69 ?_
    refine aGo (cj4 Zr hx h5 h6) ?_
    repeat with_reducible intro K hK
    exact ZjY (y:=noI) (by simp[intD,h1,hx,h2,h3])
   have hok:Zgr c reading day=true:=by simp[Zgr,hcv,h3]
   have hz:=Zwo hok
   obtain⟨b1,b2,b3,b4,b5⟩:=Ze9 hok
   rw[show errD c reading day=(ofQ (errQ c reading day),true) by simp[errD,hok]]at he
   have hid:intD cs rs which reading day=okI reading (errQ c reading day):=by simp[intD,h1,hx,h2,h3]
   rw[hid]
   generalize errQ c reading day=e at *
   have z1:=ZcW reading (by omega) (by omega)
   have z2:=Zwm (reading:Rat) e
   have z3:=ZcW 0 (by decide) (by decide)
   have k1:=Ziy reading (by omega) (by omega)
   have k2:=ZvM (reading:Rat) e (by omega) (by omega)
   have k3:=Zjo (reading:Rat) e (by omega) (by omega)
   have k0:=Ziy 0 (by decide) (by decide)
   have k4:=Zzp ((reading:Rat)-e) ((0:Int):Rat) (by omega) (by omega)
   refine inC Tryz.func69 rfl Tryz.ntmps69 ?_
   refine aGo (cj4 Zr hx h5 h6) ?_
   repeat with_reducible intro K hK
   exact ZjY (y:=⟨ofQ (maxQ (reading-e) ((0:Int):Rat)),ofQ (reading+e),true⟩) rfl
theorem Zm3{f:Zac}(h:okF f=false):sgnD f=0:=by simp[sgnD,h]
def Zcv(n:Int)(w:RowD):Bool:=Zat w.t n&&decide (0≤w.k)&&decide (w.k<3)&&okF w.v
def ZaF(s:SysD):Bool:=decide (0≤s.n)&&decide (s.n≤1500)&&decide ((s.r.length:Int)≤6000)&&s.r.all (Zcv s.n)
theorem Zan{α:Type}{p:α→Bool}{l:List α}{k:Nat}{x:α}(hx:l[k]? =some x)(h:(l.take k).all p=true)(hp:p x=true):(l.take (k+1)).all p=true:=by
 rw[Yb4,hx];simp[List.all_append,h,hp]
theorem Zbf{α:Type}{p:α→Bool}{l:List α}{k:Nat}{x:α}(hx:l[k]? =some x)(hp:p x=false):l.all p=false:=by
 rw[List.all_eq_false]
 exact⟨x,Ya7 hx,by simp[hp]⟩
theorem Zgi(s:SysD)(hs:smS s):Zaa Tryz.prog 77 [encS s] (dB (ZaF s)):=by
 refine Zag.toN ?_ rfl
 have Zr:=Tryz.results77
 have hl:=ZmY hs
 refine inC Tryz.func77 rfl Tryz.ntmps77 ?_
 by_cases h1:s.n<0
 ·refine aGo (cj2 Zr h1) ?_
  repeat with_reducible intro K hK
  exact Zae (by simp[ZaF];omega)
 by_cases h2:s.n>1500
 ·refine aGo (cj3 Zr h1 h2) ?_
  repeat with_reducible intro K hK
  exact Zae (by simp[ZaF];omega)
 by_cases h3:(s.r.length:Int)>6000
 ·refine aGo (cj4 Zr h1 h2 h3) ?_
  repeat with_reducible intro K hK
  exact Zae (by simp[ZaF];omega)
 refine aGo (cj4 Zr h1 h2 h3) ?_
 repeat with_reducible intro K hK
 refine ZaE (fun(k:Nat)=>[(1,.lp 0 0 0 0),(20,ZsQ s.r),(21,dI s.r.length),(22,dI k)]) (fun _=>[(0,⟨102,0,2,[cS s],0,false⟩)]) 1 0 (fun k=>k≤s.r.length∧(s.r.take k).all (Zcv s.n)=true) (fun k=>s.r.length-k) 0 ⟨by omega,rfl⟩ ?_ ?_
 ·exact leGo trivial
 ·rintro k ⟨hk,hg⟩
  obtain⟨hw,h0⟩:=Za6 k
  by_cases h4:(k:Int)<s.r.length
  ·obtain⟨w,hx⟩:=getE (l:=s.r) (k:=k) (by omega)
   have sm:=hs.2 w (ZaR hx)
   have k1:=Ze7 w.t s.n sm.1
   have k2:=ZbA w.v (ZfC sm.2)
   have bad:Zcv s.n w=false→D.v (.bool false)=dB (ZaF s):=fun h=>Zae (by simp[ZaF,Zbf hx h])
   cases h5:Zat w.t s.n
   ·rw[h5]at k1
    refine aGo (cj4 Zr h0 h4 (cj2 hx hw)) ?_
    repeat with_reducible intro K hK
    exact bad (by simp[Zcv,h5])
   rw[h5]at k1
   by_cases h6:w.k<0
   ·refine aGo (cj4 Zr h0 h4 (cj3 hx hw h6)) ?_
    repeat with_reducible intro K hK
    exact bad (by simp[Zcv];omega)
   by_cases h7:w.k≥3
   ·refine aGo (cj4 Zr h0 h4 (cj4 hx hw h6 h7)) ?_
    repeat with_reducible intro K hK
    exact bad (by simp[Zcv];omega)
   cases h8:okF w.v
   ·rw[h8]at k2
    refine aGo (cj4 Zr h0 h4 (cj4 hx hw h6 h7)) ?_
    repeat with_reducible intro K hK
    exact bad (by simp[Zcv,h8])
   rw[h8]at k2
   refine aGo (cj4 Zr h0 h4 (cj4 hx hw h6 h7)) ?_
   repeat with_reducible intro K hK
   exact Zai (k+1) ⟨by omega,Zan hx hg (by simp[Zcv,h5,h8];omega)⟩ (by omega) (by exact leGo trivial)
  ·refine aGo (cj2 Zr h4) ?_
   repeat with_reducible intro K hK
   rw[Ya8 (by omega)]at hg
   exact Zae (by simp[ZaF,hg];omega)
def okP(x:List Zac):Bool:=x.all okF
theorem ZiR{α:Type}{p:α→Bool}{l:List α}{k:Nat}{x:α}(hx:l[k]? =some x)(h:(l.take k).all p=true)(hp:p x=false):l.findIdx (fun y=> !p y)=k:=by
 obtain⟨hk,rfl⟩:=Ya3.1 hx
 refine(List.findIdx_eq hk).2 ⟨by simp[hp],fun j hj=>?_⟩
 rw[Ya6]at h
 simp[h l[j] (List.mem_take_iff_getElem.2 ⟨j,by omega,rfl⟩)]
def ZhS(x:List Zac):Int:=if okP x then -1 else x.findIdx (fun y=> !okF y)
theorem ZqO(x:List Zac):decide (ZhS x≥0) = !okP x:=by
 unfold ZhS
 cases okP x
 ·simp only[Bool.false_eq_true,if_false,Bool.not_false];exact decide_eq_true (by omega)
 ·rfl
theorem ZtC(f:Zac)(hs:smF f):Zaa Tryz.prog 166 [encF f] (dB (!okF f)):=by
 refine Zag.toN ?_ rfl
 have hc:=ZbA f (ZfC hs)
 refine inC Tryz.func166 rfl Tryz.ntmps166 ?_
 have Zr:=Tryz.results166
 exact aGo Zr trivial
theorem ZuR(x:List Zac)(hs:smFs x):Zaa Tryz.prog 191 [ZaM x,.clo 166 []] (dI (ZhS x)):=by
 refine Zag.toN ?_ rfl
 have hl:=ZeZ hs
 refine inC Tryz.func191 rfl Tryz.ntmps191 ?_
 have Zr:=Tryz.results191
 refine aGo Zr ?_
 repeat with_reducible intro K hK
 refine ZaE (fun(k:Nat)=>[(0,ZaM x),(1,.clo 166 []),(7,dI x.length),(8,dI k)]) (fun _=>[]) 0 0 (fun k=>k≤x.length∧(x.take k).all okF=true) (fun k=>x.length-k) 0 ⟨by omega,rfl⟩ ?_ ?_
 ·exact leGo trivial
 ·rintro k ⟨hk,hn⟩
  obtain⟨hw,h0⟩:=Za6 k
  by_cases h1:(k:Int)<x.length
  ·obtain⟨f,hx⟩:=getE (l:=x) (k:=k) (by omega)
   have hc:=ZtC f (hs.2 f (ZaR hx))
   cases h2:okF f
   ·rw[h2]at hc
    refine aGo (cj4 Zr h0 h1 (cj2 hx hw)) ?_
    repeat with_reducible intro K hK
    have:ZhS x=k:=by
     have h3:okP x=false:=Zbf hx h2
     simp only[ZhS,h3,ZiR hx hn h2];rfl
    rw[this]
   ·rw[h2]at hc
    refine aGo (cj4 Zr h0 h1 (cj2 hx hw)) ?_
    repeat with_reducible intro K hK
    exact Zai (k+1) ⟨by omega,Zan hx hn h2⟩ (by omega) (by exact leGo trivial)
  ·refine aGo (cj2 Zr h1) ?_
   repeat with_reducible intro K hK
   rw[Ya8 (by omega)]at hn
   have:ZhS x = -1:=by have h3:okP x=true:=hn;simp only[ZhS,h3];rfl
   rw[this]
theorem ZnL(x:List Zac)(hs:smFs x):Zaa Tryz.prog 165 [ZaM x,.clo 166 []] (dB (!okP x)):=by
 refine Zag.toN ?_ rfl
 refine inC Tryz.func165 rfl Tryz.ntmps165 ?_
 have Zr:=Tryz.results165
 have hc:=ZuR x hs
 refine aGo Zr ?_
 repeat with_reducible intro K hK
 exact Zae (ZqO _)
theorem ZoC(x:List Zac)(hs:smFs x):Zaa Tryz.prog 125 [ZaM x] (dB (okP x)):=by
 refine Zag.toN ?_ rfl
 refine inC Tryz.func125 rfl Tryz.ntmps125 ?_
 have Zr:=Tryz.results125
 have hc:=ZnL x hs
 refine aGo Zr ?_
 repeat with_reducible intro K hK
 exact Zae (by simp)
def atP(x:List Zac)(v:Int):Rat:=qOf ((x[v.toNat]?).getD zF)
def dotD(l:List Zaj)(x:List Zac):Rat:=l.foldl (fun a t=>a+qOf t.f*atP x t.v) 0
def Zde(l:List Zaj)(x:List Zac):Zac×Bool:=if Zat l x.length&&okP x then(ofQ (dotD l x),true)else(zF,false)
theorem Zsv{n:Int}:∀ (l:List Zaj)(last:Int),-1≤last→goR n last l=true→∀ t∈l,0≤t.v∧t.v<n∧sgnD t.f≠0
 | [],_,_,_,t,ht=>by cases ht
 | u ::l,last,h0,h,t,ht=>by
   simp only[goR,Ya2,decide_eq_true_eq,bne_iff_ne]at h
   rcases List.mem_cons.1 ht with rfl|ht
   ·exact⟨by omega,h.1.1.2,h.1.2⟩
   ·exact Zsv l u.v (by omega) h.2 t ht
theorem ZbW{l:List Zaj}{n:Int}(h:Zat l n=true){t:Zaj}(ht:t∈l):0≤t.v∧t.v<n∧okF t.f=true∧qOf t.f≠0:=by
 simp only[Zat,Ya2]at h
 obtain⟨h1,h2,h3⟩:=Zsv l (-1) (Int.le_refl _) h.2 t ht
 cases ho:okF t.f
 ·exact absurd (Zm3 ho) h3
 ·refine⟨h1,h2,rfl,fun h0=>h3 ?_⟩
  simp[sgnD,ho,h0,sgQ]
theorem ZyD{x:List Zac}{A:Int}(h0:0≤A)(hx:∀ f∈x,(szF f:Int)≤A)(ho:okP x=true){v:Int}(h1:0≤v)(h2:v<x.length):∃ f,x[v.toNat]? =some f∧okF f=true∧(szF f:Int)≤A∧atP x v=qOf f:=by
 obtain⟨f,hf⟩:=getE (l:=x) (k:=v.toNat) (by omega)
 have hm:=Ya7 hf
 exact⟨f,hf,(Ya6.1 ho) f hm,hx f hm,by simp[atP,hf]⟩
theorem Zmn{l:List Zaj}{x:List Zac}{k:Nat}{t:Zaj}(hx:l[k]? =some t):dotD (l.take (k+1)) x=dotD (l.take k) x+qOf t.f*atP x t.v:=by
 unfold dotD
 rw[Yb4,hx]
 simp
theorem Zwp{l:List Zaj}{x:List Zac}{A B:Nat}(hl:∀ t∈l,szF t.f≤A)(hx:∀ f∈x,szF f≤B)(hr:Zat l x.length=true)(ho:okP x=true):∀ k,k≤l.length→szQ (dotD (l.take k) x)≤4+k*(A+B+1):=by
 intro k
 induction k with
 | zero=>intro _;rw[Nat.zero_mul];exact Yc7 (ZcW 0 (by decide) (by decide)) (by omega)
 | succ k ih =>
   intro hk
   obtain⟨t,ht⟩:=getE (l:=l) (k:=k) (by omega)
   rw[Zmn ht]
   have hm:=Ya7 ht
   obtain⟨h1,h2,h3,_⟩:=ZbW hr hm
   obtain⟨f,hf⟩:=getE (l:=x) (k:=t.v.toNat) (by omega)
   have hmf:=Ya7 hf
   have hof:=(Ya6.1 ho) f hmf
   have e:atP x t.v=qOf f:=by simp[atP,hf]
   rw[e]
   have i1:=ih (by omega)
   have i2:=ZfA (dotD (l.take k) x) (qOf t.f*qOf f)
   have i3:=ZeA (qOf t.f) (qOf f)
   rw[ZbO h3,ZbO hof]at i3
   have i4:=hl t hm
   have i5:=hx f hmf
   rw[Nat.add_mul,Nat.one_mul]
   omega
theorem ZyI{f:Zac}(h:smF f):szF f≤2048*2048:=by unfold smF at h;omega
theorem Zn7{l:List Zaj}{x:List Zac}(hl:smT l)(hx:smFs x)(hr:Zat l x.length=true)(ho:okP x=true){k:Nat}(hk:k≤l.length):(szQ (dotD (l.take k) x):Int)≤34359750000:=by
 have h:=Zwp (A:=2048*2048) (B:=2048*2048) (fun t ht=>ZyI (hl.2 t ht)) (fun f hf=>ZyI (hx.2 f hf)) hr ho k hk
 have hk2:(k:Int)≤4096:=by have:=hl.1;omega
 have h2:(szQ (dotD (l.take k) x):Int)≤4+(k:Int)*8388609:=by
  have:=Int.ofNat_le.2 h
  simp only[Int.natCast_add,Int.natCast_mul]at this
  omega
 omega
theorem ZoB(l:List Zaj)(x:List Zac)(hs:smT l)(hxs:smFs x)(hr:Zat l x.length=true)(ho:okP x=true):Zag Tryz.prog 126 [ZbT l,ZaM x] (encF (ofQ (dotD l x))):=by
 have hl:=ZmX hs
 have hlx:=ZeZ hxs
 have hz:=nZ_c
 refine inC Tryz.func126 rfl Tryz.ntmps126 ?_
 have Zr:=Tryz.results126
 refine aGo Zr ?_
 repeat with_reducible intro K hK
 refine ZaE (fun(k:Nat)=>[(0,ZbT l),(1,ZaM x),(4,.lp 0 0 0 0),(5,.lp 1 0 0 0),(11,ZbT l),(12,dI l.length),(13,dI k)]) (fun k=>[(0,⟨34,0,4,[[dI 0,.nil,dI 0,.nil]],0,false⟩),(1,⟨34,0,4,[cF (ofQ (dotD (l.take k) x))],0,false⟩)]) 2 0 (fun k=>k≤l.length) (fun k=>l.length-k) 0 (by omega) ?_ ?_
 ·refine Zcl _ _ _ ?_ ?_ ?_ ?_ ?_ (.inl rfl)<;>simp[go_sem,okD,okDs,Zcb,dotD]<;>(first|(intros;subst_vars;simp[okD,okDs];done)|(intro _ h;rcases h with⟨_,_,rfl⟩|rfl<;>simp[okD,okDs];done)|(intros;rename_i h;rcases h with⟨_,_,rfl⟩|rfl<;>simp[okD,okDs]))
 ·rintro k hk
  obtain⟨hw,h0⟩:=Za6 k
  by_cases h1:(k:Int)<l.length
  ·obtain⟨t,ht⟩:=getE (l:=l) (k:=k) (by omega)
   obtain⟨h2,h3,h4,_⟩:=ZbW hr (ZaR ht)
   obtain⟨f,h5,h6,h7,h8⟩:=ZyD (A:=4194304) (by decide) hxs.2 ho h2 h3
   have hd:=Zmn (x:=x) ht
   rw[h8]at hd
   have k1:=ZsA t.f f (ZfC (hs.2 t (ZaR ht))) (by omega)
   rw[show mulD t.f f=(ofQ (qOf t.f*qOf f),0) by simp[mulD,h4,h6]]at k1
   have z1:=Zn7 hs hxs hr ho hk
   have z2:=ZeA (qOf t.f) (qOf f)
   rw[ZbO h4,ZbO h6]at z2
   have z3:(szF t.f:Int)≤4194304:=hs.2 t (ZaR ht)
   have k2:=ZvY (ofQ (dotD (l.take k) x)) (ofQ (qOf t.f*qOf f)) (by rw[Zfz];omega) (by rw[Zfz];omega)
   rw[ZkX]at k2
   refine aGo (cj4 Zr h0 h1 (cj4 ht h2 h3 (cj2 h5 hw))) ?_
   repeat with_reducible intro K hK
   exact Zai (k+1) (by omega) (by omega) (by exact leGo hd)
  ·refine aGo (cj2 Zr h1) ?_
   repeat with_reducible intro K hK
   rw[Ya8 (by omega)]
theorem ZqY{l:List Zaj}{x:List Zac}(h:(Zat l x.length&&okP x)=false):D.tup [encF zF,dB false]=D.tup [encF (Zde l x).1,dB (Zde l x).2]:=by
 unfold Zde;rw[h];rfl
theorem ZtL{l:List Zaj}{x:List Zac}(h1:Zat l x.length=true)(h2:okP x=true):D.tup [encF (ofQ (dotD l x)),dB true]=D.tup [encF (Zde l x).1,dB (Zde l x).2]:=by
 unfold Zde;rw[h1,h2];rfl
theorem Zkw(l:List Zaj)(x:List Zac)(hs:smT l)(hxs:smFs x):Zag Tryz.prog 79 [ZbT l,ZaM x] (.tup [encF (Zde l x).1,dB (Zde l x).2]):=by
 have Zr:=Tryz.results79
 have k1:=Ze7 l x.length hs
 have k2:=ZoC x hxs
 cases h1:Zat l x.length
 ·rw[h1]at k1
  refine inC Tryz.func79 rfl Tryz.ntmps79 ?_
  refine aGo Zr ?_
  repeat with_reducible intro K hK
  exact ZqY (by rw[h1];rfl)
 rw[h1]at k1
 cases h2:okP x
 ·rw[h2]at k2
  refine inC Tryz.func79 rfl Tryz.ntmps79 ?_
  refine aGo Zr ?_
  repeat with_reducible intro K hK
  exact ZqY (by rw[h2,Bool.and_false])
 rw[h2]at k2
 have k3:=ZoB l x hs hxs h1 h2
 refine inC Tryz.func79 rfl Tryz.ntmps79 ?_
 refine aGo Zr ?_
 repeat with_reducible intro K hK
 exact ZtL h1 h2
def Zdd(k c:Int):Bool:=c==0||(decide (c>0)&&k==0)||(decide (c<0)&&k==1)
def Zgm(w:RowD)(x:List Zac):Bool:=Zdd w.k (sgQ (dotD w.t x-qOf w.v))
def Zge(x:List Zac):Bool:=x.all fun f=>decide (0≤sgnD f)
def Zba(s:SysD)(x:List Zac):Bool:=ZaF s&&decide ((x.length:Int)=s.n)&&okP x&&Zge x&&s.r.all (fun w=>Zgm w x)
theorem Ze2{s:SysD}(h:ZaF s=true){w:RowD}(hw:w∈s.r):Zcv s.n w=true:=by
 simp only[ZaF,Ya2]at h
 exact Ya6.1 h.2 w hw
theorem ZmS(w:RowD)(x:List Zac)(hs:smT w.t)(hx:smFs x)(hr:Zat w.t x.length=true)(ho:okP x=true):(szF (ofQ (dotD w.t x)):Int)≤34359750000:=by
 have:=Zn7 hs hx hr ho (Ya4 _)
 rw[Yc2]at this
 exact this
end Go.Proofs.YtblamlnjbjaokaaGreat
