/-
  What an argument's reading tells, for whatever type of ints, bools, strings, slices and structs: it shows data of the type's shape.
-/
import Derived.Test.YtiincpioidnciaaGreatWLib
import Derived.Test.YtiincpioidnciaaGreatWConv
import Derived.Test.YtiincpioidnciaaGreatRows
import Derived.ProofKit
import Derived.OpenShut
import Derived.ChangeOld
import Derived.Lib.SmallJoins
import Derived.Deep.Slices
import Derived.Test.YtiincpioidnciaaGreatWRefB
import Derived.Test.YtiincpioidnciaaGreatWRefA
namespace Go.Proofs.YtiincpioidnciaaGreat
set_option linter.unusedVariables false
set_option linter.unusedSimpArgs false
set_option linter.unusedSectionVars false
open Go.RowKit Go.ChangeShapes Go.WideShapes Go.ChangeAt
def Znz(P:Program):Nat→List Field→Nat→Bool
 | at',[],tot=>at'==tot
 | at',f ::fs,tot=>f.offset==at'&&Znz P (at'+P.cellsOf f.type) fs tot
def Zpj(P:Program):Nat→TypeId→Bool
 | 0,_=>false
 | n+1,T=>match P.underlying T with
   | some .bool=>true
   | some (.int _)=>true
   | some .string=>true
   | some (.slice e)=>decide (0<P.cellsOf e)&&Zpj P n e
   | some (.struct fs)=>Znz P 0 fs.toList (P.cellsOf T)&&fs.toList.all (fun f=>Zpj P n f.type)
   | _=>false
def ZcL(P:Program):Nat→TypeId→List D→Prop
 | 0,_,_=>False
 | n+1,T,ds=>match P.underlying T with
   | some .bool=>∃ b,ds=[.v (.bool b)]
   | some (.int k)=>∃ x,ds=[.v (.int k x)]∧(Lit.int k x).wf=true
   | some .string=>∃ s,ds=[.v (.string s)]∧s.size≤maxLen
   | some (.slice e)=>∃ es:List (List D),ds=[.sl es]∧(es.length:Int)≤maxLen∧∀ x∈es,ZcL P n e x
   | some (.struct fs)=>fs.toList.foldr (fun f K ds=>∃ a b,ds=a++b∧ZcL P n f.type a∧K b) (fun ds=>ds=[]) ds
   | _=>False
abbrev allS:Nat→Nat→Prop:=fun _ _=>True
abbrev RepA(w:World)(v:Value)(d:D):Prop:=Rep noB noM allS w v d
abbrev Zpx(w:World)(vs:List Value)(ds:List D):Prop:=Reps noB noM allS w vs ds
theorem Zm4{w:World}{vs us:List Value}{ds es:List D}(h:Zpx w vs ds)(k:Zpx w us es):Zpx w (vs++us) (ds++es):=by
 refine⟨by rw[Yb9,Yb9,h.1,k.1],fun i x d hx hd=>?_⟩
 have hl:vs.length=ds.length:=h.1
 by_cases hi:i<vs.length
 ·rw[Yc3 hi]at hx
  rw[Yc3 (by omega)]at hd
  exact h.2 i x d hx hd
 ·rw[Yc4 (by omega)]at hx
  rw[Yc4 (by omega),← hl]at hd
  exact k.2 _ x d hx hd
theorem ZeC{w:World}{x:Value}{d:D}(h:RepA w x d):Zpx w [x] [d]:=Reps.cons h Reps.nil
section
variable {H:Type} {enc:TypeId×Value→H} {P:Program} {w:World} {base:Nat} {spare:Nat→Bool} {held:Bool}
theorem ZjD:∀ (n:Nat)(T:TypeId)(fuel:Nat)(cs:List Value)(y:DataW H×List MemPlace),Zpj P n T=true→DataW.trod enc P w base spare held fuel T cs=some y→∃ ds,ZcL P n T ds∧Zpx w cs ds:=by
 intro n
 induction n with
 | zero=>intro T fuel cs y h;cases h
 | succ n ih =>
   intro T fuel cs y hg h
   unfold Zpj at hg
   unfold ZcL
   split at hg
   ·rename_i ht
    obtain⟨b,rfl,_⟩:=DataW.trod_bool ht h
    exact⟨[.v (.bool b)],by exact⟨b,rfl⟩,ZeC (.v _)⟩
   ·rename_i k ht
    obtain⟨x,rfl,_,hw⟩:=DataW.trod_int ht h
    exact⟨[.v (.int k x)],by exact⟨x,rfl,hw⟩,ZeC (.v _)⟩
   ·rename_i ht
    obtain⟨s,rfl,_,hw⟩:=DataW.trod_string ht h
    exact⟨[.v (.string s)],by exact⟨s,rfl,hw⟩,ZeC (.v _)⟩
   ·rename_i e ht
    rw[Ya2,decide_eq_true_eq]at hg
    obtain⟨hk,hg⟩:=hg
    rcases Go.Deep.open_slice ht h with⟨rfl,_⟩|⟨ad,len,cap,m,fl,Dd,Pl,rfl,hb,hl,hm,hmm,_,hx⟩
    ·exact⟨[.sl []],by exact⟨[],rfl,by simp,fun x hx=>by cases hx⟩,ZeC (.sl0 _ _ (Yb0 _))⟩
    ·by_cases hz:len=0
     ·subst hz
      exact⟨[.sl []],by exact⟨[],rfl,by simp,fun x hx=>by cases hx⟩,ZeC (.sl0 _ _ hm)⟩
     have hmle:len≤m:=by rw[hmm];split<;>omega
     obtain⟨f,hf⟩:=Go.Deep.choose_lt (n:=len) (p:=fun i (x:List D)=>∃ cs,ZcL P n e x∧Zpx w cs x∧cs.length=P.cellsOf e∧∀ j,j<P.cellsOf e→w.cell? ((ad.add (i*P.cellsOf e)).add j)=cs[j]?) (fun i hi=>by
      obtain⟨cs,h1,h2⟩:=hx i (by omega)
      obtain⟨_,hcl,hcell⟩:=World.cells?_some h1
      obtain⟨ds,h3,h4⟩:=ih e fl cs _ hg h2
      exact⟨ds,cs,h3,h4,hcl,hcell⟩)
     obtain⟨b,off,spot⟩:=ad
     obtain⟨cs0,_,_,hl0,hc0⟩:=hf 0 (by omega)
     have hc00:=hc0 0 hk
     rw[Ya0 (by omega)]at hc00
     have hsp:spot=none:=by simpa[Addr.add]using World.cell?_spot hc00
     subst hsp
     have hadd:∀ i j,((⟨b,off,none⟩:Addr).add i).add j=⟨b,off+i+j,none⟩:=fun i j=>by
      rw[Go.Deep.add_add]
      unfold Addr.add
      split
      ·rename_i h;simp;try omega
      ·simp;try omega
     have hget:∀ (i:Nat)(x:List D),((List.range len).map f)[i]? =some x→i<len∧x=f i:=by
      intro i x hi
      obtain⟨hil,hix⟩:=Ya3.1 hi
      simp only[Yc0,List.length_range]at hil
      simp only[List.getElem_map,List.getElem_range]at hix
      exact⟨hil,hix.symm⟩
     refine⟨[.sl ((List.range len).map f)],by
      refine⟨_,rfl,by simp;omega,fun x hx=>?_⟩
      obtain⟨i,hi,rfl⟩:=Yc6.1 hx
      obtain⟨cs,h1,_⟩:=hf i (by simpa using hi)
      exact h1,ZeC ?_⟩
     have:=ZkV (β:=noB) (m:=noM) (S:=allS) (w:=w) (b:=b) (off:=off) (k:=P.cellsOf e) (cap:=cap) (es:=(List.range len).map f) ⟨fun i x hi=>?_,fun i j d hd=>?_⟩ (by simpa using hl) hm
     ·simpa using this
     ·obtain⟨hil,rfl⟩:=hget i x hi
      obtain⟨cs,_,h2,h3,_⟩:=hf i hil
      exact h2.1.symm.trans h3
     ·obtain⟨x,hx,hj⟩:=Zak.1 hd
      obtain⟨hil,rfl⟩:=hget i x hx
      obtain⟨cs,_,h2,h3,h4⟩:=hf i hil
      have hjl:j<cs.length:=by rw[h2.1];exact(Ya3.1 hj).1
      have hcj:cs[j]? =some cs[j]:=Ya0 hjl
      refine⟨cs[j],trivial,?_,h2.2 j _ d hcj hj⟩
      have:=h4 j (by omega)
      rw[hadd,hcj]at this
      exact this
   ·rename_i fs ht
    rw[Ya2,Ya6]at hg
    obtain⟨hlaid,hgood⟩:=hg
    obtain⟨xs,fl,_,_,hlen,hxs,hf⟩:=DataW.trod_struct ht h
    have key : ∀ (l : List Field) (at' : Nat), Znz P at' l (P.cellsOf T) = true → at' ≤ cs.length → (∀ f ∈ l, Zpj P n f.type = true ∧ ∃ y, DataW.trod enc P w base spare held fl f.type ((cs.drop f.offset).take (P.cellsOf f.type)) = some y) →
        ∃ ds,l.foldr (fun f K ds=>∃ a b,ds=a++b∧ZcL P n f.type a∧K b) (fun ds=>ds=[]) ds∧Zpx w (cs.drop at') ds:=by
     intro l
     induction l with
     | nil =>
       intro at' hat hle _
       simp only[Znz,beq_iff_eq]at hat
       refine⟨[],rfl,?_⟩
       rw[hat,← hlen,List.drop_length]
       exact Reps.nil
     | cons f l ihl =>
       intro at' hat hle hall
       simp only[Znz,Ya2,beq_iff_eq]at hat
       obtain⟨ho,hrest⟩:=hat
       obtain⟨hgf,y,hy⟩:=hall f Yb7
       obtain⟨a,ha,hra⟩:=ih f.type fl _ y hgf hy
       rw[ho]at hra
       have htot:∀ (l:List Field)(k:Nat),Znz P k l (P.cellsOf T)=true→k≤P.cellsOf T:=by
        intro l
        induction l with
        | nil=>intro k hk;simp only[Znz,beq_iff_eq]at hk;omega
        | cons g l ihg=>intro k hk;simp only[Znz,Ya2]at hk;have:=ihg _ hk.2;omega
       obtain⟨b,hb,hrb⟩:=ihl (at'+P.cellsOf f.type) hrest (by rw[hlen];exact htot l _ hrest) (fun g hg=>hall g (Yb6 _ hg))
       refine⟨a++b,⟨a,b,rfl,ha,hb⟩,?_⟩
       have:=Zm4 hra hrb
       rwa [← List.drop_drop,List.take_append_drop]at this
    obtain⟨ds,h1,h2⟩:=key fs.toList 0 hlaid (Yb0 _) (fun f hf'=>by
     obtain⟨i,hi,hfi⟩:=List.mem_iff_getElem.1 hf'
     refine⟨hgood f hf',?_⟩
     have h3:=hf i f (by rw[← Array.getElem?_toList];rw[Ya0 hi,hfi])
     have hi':i<xs.length:=by rw[hxs];simpa using hi
     exact⟨xs[i],by rw[h3,Ya0 hi']⟩)
    exact⟨ds,h1,by simpa using h2⟩
   ·cases hg
theorem ZjG{n:Nat}{T:TypeId}{fs:Array Field}{r:Reach}{b0:Nat}{v:Value}{d:DataW H}{p:List MemPlace}(ht:P.underlying T=some (.struct fs))(hg:Zpj P n T=true)
 (hv:Value.okWide P w r b0 T v) (h:DataW.Trod enc P w base spare held T v d p):∃ ds,ZcL P n T ds∧RepA w v (.agg ds):=by
 obtain⟨cs,rfl,_⟩:=okWide_struct ht hv
 obtain⟨fuel,hf⟩:=h
 obtain⟨ds,h1,h2⟩:=ZjD n T fuel _ _ hg hf
 refine⟨ds,h1,?_⟩
 have:=Reps.rep_agg h2
 simpa[Value.cells]using this
theorem ZrQ{n:Nat}{T e:TypeId}{r:Reach}{b0:Nat}{v:Value}{d:DataW H}{p:List MemPlace}(ht:P.underlying T=some (.slice e))(hg:Zpj P (n+1) T=true)
 (hv:Value.okWide P w r b0 T v) (h:DataW.Trod enc P w base spare held T v d p):∃ es:List (List D),(es.length:Int)≤maxLen∧(∀ x∈es,ZcL P n e x)∧RepA w v (.sl es):=by
 obtain⟨a,len,cap,rfl⟩:=okWide_slice ht hv
 obtain⟨fuel,hf⟩:=h
 obtain⟨ds,h1,h2⟩:=ZjD (n+1) T fuel _ _ hg hf
 unfold ZcL at h1
 rw[ht]at h1
 obtain⟨es,rfl,h3,h4⟩:=h1
 refine⟨es,h3,h4,?_⟩
 exact h2.2 0 _ _ (by simp[Value.cells]) rfl
end
theorem Zh9{α:Type}{f:α→List D}:∀ {es:List (List D)},(∀ x∈es,∃ a,x=f a)→∃ l:List α,es=l.map f
 | [],_=>⟨[],rfl⟩
 | x ::es,h=>by
   obtain⟨a,ha⟩:=h x Yb7
   obtain⟨l,hl⟩:=Zh9 (es:=es) fun y hy=>h y (Yb6 _ hy)
   exact⟨a ::l,by rw[ha,hl];rfl⟩
open Go Go.RowKit
section ifl
variable [Ifl]
section
variable {β β':Bet} {m m':Mem} {S S':Nat→Nat→Prop} {w:World} {keep:Nat→Bool}
mutual
theorem Zo2(hm:∀ id,keep id=true→m' id=m id∧β' id=β id)(hs:Zaw S w S' w):∀ (d:D)(x:Value),okD keep d=true→Rep β m S w x d→Rep β' m' S' w x d
 | .v y,x,_,h=>by rw[h.inv_v];exact .v _
 | .nil,x,_,h=>by rw[h.inv_nil];exact .nil
 | .agg l,x,ho,h=>by
   obtain⟨vs,rfl,h1,h2⟩:=h.inv_agg
   exact(Zi3 hm hs l vs (by simpa[okD]using ho) ⟨h1,h2⟩).rep_agg
 | .tup l,x,ho,h=>by
   obtain⟨vs,rfl,h1,h2⟩:=h.inv_tup
   exact(Zi3 hm hs l vs (by simpa[okD]using ho) ⟨h1,h2⟩).rep_tup
 | .sl es,x,_,h=>(h.sl_no.mono (Za7.refl _ _ _) hs).lift
 | .cl es,x,_,h=>by obtain⟨a,rfl,h1⟩:=h.inv_cl;exact .cl a es (h1.mono (Za7.refl _ _ _) hs)
 | .ep es i o,x,_,h=>(h.ep_no.mono (Za7.refl _ _ _) hs).lift
 | .ls id ver,x,ho,h=>by
   obtain⟨a,n,cap,blk,rfl,h1,h2,hx,h3⟩:=h.inv_lsx
   have hk:=hm id (by simpa[okD]using ho)
   exact .ls a n cap id ver blk (hk.1.trans h1) h2 hx (fun e=>by rw[hk.2];exact h3 e)
 | .lp id ver i o,x,ho,h=>by
   obtain⟨b,p,blk,rfl,h1,h2,h3⟩:=h.inv_lp
   have hk:=hm id (by simpa[okD]using ho)
   exact .lp b p id ver i o blk (hk.1.trans h1) h2 (fun e=>by rw[hk.2];exact h3 e)
 | .clo f l,x,ho,h=>by
   obtain⟨vs,rfl,h1,h2⟩:=h.inv_clo
   have:=Zi3 hm hs l vs (by simpa[okD]using ho) ⟨h1,h2⟩
   exact .clo f vs l this.1 this.2
 | .junk,x,_,_=>.junk _
theorem Zi3(hm:∀ id,keep id=true→m' id=m id∧β' id=β id)(hs:Zaw S w S' w):∀ (l:List D)(vs:List Value),okDs keep l=true→Reps β m S w vs l→Reps β' m' S' w vs l
 | [],vs,_,h=>by
   obtain rfl:vs=[]:=Ya9 h.1
   exact Reps.nil
 | d ::l,vs,ho,h=>by
   simp only[okDs,Ya2]at ho
   match vs,h with
   | [],h=>exact absurd h.1 (by simp)
   | v ::vs,h =>
     exact Reps.cons (Zo2 hm hs d v ho.1 (h.2 0 v d rfl rfl)) (Zi3 hm hs l vs ho.2 ⟨by simpa using h.1,fun i y e hy he=>h.2 (i+1) y e (by simpa using hy) (by simpa using he)⟩)
end
end
theorem Rep.names{β:Bet}{m:Mem}{S:Nat→Nat→Prop}{w:World}{x:Value}{d:D}(h:Rep β m S w x d):okD (fun i=>(m i).isSome) d=true:=by
 have lists:∀ {m:Mem} {l:List D} {vs:List Value},vs.length=l.length→(∀ (i:Nat)(x:Value)(d:D),vs[i]? =some x→l[i]? =some d→okD (fun i=>(m i).isSome) d=true)→okDs (fun i=>(m i).isSome) l=true:=by
  intro m l
  induction l with
  | nil=>intro _ _ _;rfl
  | cons d l ih =>
    intro vs hl h
    match vs,hl with
    | v ::vs,hl =>
      simp only[okDs,Ya2]
      exact⟨h 0 v d rfl rfl,ih (by simpa using hl) fun i x e hx he=>h (i+1) x e (by simpa using hx) (by simpa using he)⟩
 induction h with
 | agg vs l hl _ ih=>simp only[okD];exact lists hl ih
 | tup vs l hl _ ih=>simp only[okD];exact lists hl ih
 | clo f vs l hl _ ih=>simp only[okD];exact lists hl ih
 | ls a n cap id ver blk hm _ _ _=>simp only[okD,hm];rfl
 | lp b p id ver i o blk hm _ _=>simp only[okD,hm];rfl
 | _=>rfl
structure SubM (m' m:Mem) (n':Nat):Prop where
 sub:∀ id b,m' id=some b→m id=some b∧id<n'
 cl:∀ id b,m' id=some b→Zb8 (fun i=>(m' i).isSome) b
section
variable {E:Env} {β:Bet} {m m':Mem} {nx n':Nat} {w:World}
theorem SubM.safe(h:SubM m' m n'):Zaw (safe E β m) w (Go.Proofs.YtiincpioidnciaaGreat.safe E β m') w :=
 fun b o u h1 h2=>⟨⟨h1.1,fun id blk h3 h4=>h1.2 id blk (h.sub id blk h3).1 h4⟩,h2⟩
theorem SubM.keep(h:SubM m' m n'):∀ id,(m' id).isSome=true→m' id=m id:=by
 intro id hid
 cases hm:m' id with
 | none=>rw[hm]at hid;cases hid
 | some b=>rw[(h.sub id b hm).1]
theorem SubM.mem(h:SubM m' m n')(hM:ZaK E β m nx w):ZaK E β m' n' w:=by
 refine⟨hM.below,fun id b hb=>(h.sub id b hb).2,fun id b hb=>hM.fz id b (h.sub id b hb).1,fun id b hb=>hM.wid id b (h.sub id b hb).1,fun id b hb=>hM.non id b (h.sub id b hb).1,?_,?_⟩
 ·intro id b c hb hc
  obtain⟨h3,cs',h4,h5,h6⟩:=hM.row id b c (h.sub id b hb).1 hc
  refine⟨h3,cs',h4,h5,fun i j d hd=>?_⟩
  obtain⟨u,h7,h8⟩:=h6 i j d hd
  obtain⟨e,he,hj⟩:=Zak.1 hd
  exact⟨u,h7,Zix h.keep h.safe d u (Zhm (h.cl id b hb e (Ya7 he)) d (Ya7 hj)) h8⟩
 ·intro x1 x2 y1 y2 c h1 h2 h3 h4
  exact hM.inj x1 x2 y1 y2 c (h.sub _ _ h1).1 (h.sub _ _ h2).1 h3 h4
end
theorem ZBl{s:St}(l:List (Nat×D))(m':Mem)(n':Nat)(h:SubM m' s.m n')(ht:∀ p∈l,s.t p.1=p.2)(hok:∀ p∈l,okD (fun i=>(m' i).isSome) p.2=true)(hlo:∀ id,id<s.lo→m' id=s.m id):StLe s ⟨tabT l,m',n',s.lo⟩:=by
 intro E B nn β a w hr
 refine⟨β,h.mem hr.mem,fun k hk=>?_,hr.width,hr.defers,⟨fun id x hx=>?_,hr.le.cap⟩,hr.sle.trans h.safe,hr.lo⟩
 ·rcases Zf1 l k with h1|⟨d,h1,h2⟩
  ·simp only[h1];exact .junk _
  ·simp only[h2]
   have:=hr.tmp k hk
   rw[ht _ h1]at this
   exact Zix h.keep h.safe d _ (hok _ h1) this
 ·obtain⟨y,h1,h2,h3⟩:=hr.le.blk id x hx
  exact⟨y,(hlo id (hr.lo id x hx)).trans h1,h2,h3⟩
theorem Zar.sub{P:Program}{f:FuncId}{ds:List D}{m:Mem}{nx:Nat}{K:D→Mem→Nat→Prop}
 (h:Zar P f ds m nx fun d m' nx'=>∃ M N,SubM M m' N∧okD (fun i=>(M i).isSome) d=true∧(∀ id,(m id).isSome=true→M id=m' id)∧K d M N):Zar P f ds m nx K:=by
 refine⟨h.1,fun E β w vs hM hvs=>(h.2 E β w vs hM hvs).mono ?_⟩
 rintro e w' ⟨v,d,m',nx',rfl,⟨β',h1,h2,h3,h4⟩,M,N,h5,h6,h7,hK⟩
 refine⟨v,d,M,N,rfl,⟨β',h5.mem h1,⟨fun id x hx=>?_,h2.cap⟩,h3.trans h5.safe,Zix h5.keep h5.safe d v h6 h4⟩,hK⟩
 obtain⟨y,h8,h9⟩:=h2.blk id x hx
 exact⟨y,(h7 id (by rw[hx];rfl)).trans h8,h9⟩
theorem ZwT{s:St}(l:List Nat):StLe s {s with m:=ov s.m (ZbF l s.m)}:=by
 intro E B nn β a w h
 obtain⟨h1,h2,h3⟩:=Zj5 l s.m h.mem
 exact⟨β,h1,fun j hj=>(h.tmp j hj).mono h2 h3,h.width,h.defers,h.le.trans h2,h.sle.trans h3,h.lo⟩
theorem ZbU.rename{E:Env}{β:Bet}{m:Mem}{NX NY:Nat}{w w':World}{v:Value}{x y ver:Nat}{blk:Blk}(h:ZbU E β m NY w (upd m y (some blk)) v (.ls y ver) w')(hM:ZaK E β m NX w)(hy:m y=none)(hx:m x=none)(hxN:x<NX)
 (hb:Zb8 (fun _=>false) blk):ZbU E β m NX w (upd m x (some blk)) v (.ls x ver) w':=by
 obtain⟨β',h1,h2,h3,h4⟩:=h
 have hne:∀ id b,m id=some b→id≠y∧id≠x:=fun id b hi=>⟨fun e=>(by subst e;rw[hi]at hy;cases hy),fun e=>(by subst e;rw[hi]at hx;cases hx)⟩
 have hold:∀ id b,m id=some b→upd m y (some blk) id=some b:=fun id b hi=>by rw[Zab _ _ (hne id b hi).1];exact hi
 have hB:∀ id b,m id=some b→upd β' x (β' y) id=β' id:=fun id b hi=>Zab _ _ (hne id b hi).2
 have hcase:∀ id b,upd m x (some blk) id=some b→(id=x∧b=blk)∨m id=some b:=fun id b hi=>by
  by_cases e:id=x
  ·subst e;rw[Zac]at hi;cases hi;exact .inl ⟨rfl,rfl⟩
  ·rw[Zab _ _ e]at hi;exact .inr hi
 have hyb:=Zac m y (some blk)
 have hs:Zaw (safe E β' (upd m y (some blk))) w' (safe E (upd β' x (β' y)) (upd m x (some blk))) w':=by
  intro c o u g1 g2
  refine⟨⟨g1.1,fun id b g3 g4=>?_⟩,g2⟩
  rcases hcase id b g3 with⟨rfl,rfl⟩|g5
  ·rw[Zac]at g4;exact g1.2 y _ hyb g4
  ·rw[hB id b g5]at g4;exact g1.2 id b (hold id b g5) g4
 have hml:Za7 β m w (upd β' x (β' y)) (upd m x (some blk)) w':=by
  refine⟨fun id b hi=>?_,h2.cap⟩
  obtain⟨z,g1,g2,g3⟩:=h2.blk id b hi
  rw[hold id b hi]at g1;cases g1
  exact⟨b,by rw[Zab _ _ (hne id b hi).2];exact hi,Ya4 _,fun _=>⟨rfl,rfl,by rw[hB id b hi];exact(g3 rfl).2.2⟩⟩
 refine⟨upd β' x (β' y),⟨h1.below,?_,?_,?_,?_,?_,?_⟩,hml,h3.trans hs,?_⟩
 ·intro id b hi
  rcases hcase id b hi with⟨rfl,rfl⟩|hi
  ·exact hxN
  ·exact hM.lt id b hi
 ·intro id b hi
  rcases hcase id b hi with⟨rfl,rfl⟩|hi
  ·exact h1.fz y _ hyb
  ·exact h1.fz id b (hold id b hi)
 ·intro id b hi
  rcases hcase id b hi with⟨rfl,rfl⟩|hi
  ·exact h1.wid y _ hyb
  ·exact h1.wid id b (hold id b hi)
 ·intro id b hi hn
  rcases hcase id b hi with⟨rfl,rfl⟩|hi
  ·rw[Zac]at hn;exact h1.non y _ hyb hn
  ·rw[hB id b hi]at hn;exact h1.non id b (hold id b hi) hn
 ·intro id b c hi hc
  rcases hcase id b hi with⟨rfl,rfl⟩|hi
  ·rw[Zac]at hc
   obtain⟨g1,cs,g2,g3,g4⟩:=h1.row y _ c hyb hc
   refine⟨g1,cs,g2,g3,fun i j d hd=>?_⟩
   obtain⟨u,g5,g6⟩:=g4 i j d hd
   obtain⟨e,he,hj⟩:=Zak.1 hd
   exact⟨u,g5,Zo2 (keep:=fun _=>false) (fun _ h=>by cases h) hs d u (Zhm (hb e (Ya7 he)) d (Ya7 hj)) g6⟩
  ·rw[hB id b hi]at hc
   obtain⟨g1,cs,g2,g3,g4⟩:=h1.row id b c (hold id b hi) hc
   refine⟨g1,cs,g2,g3,fun i j d hd=>?_⟩
   obtain⟨u,g5,g6⟩:=g4 i j d hd
   refine⟨u,g5,Zo2 (keep:=fun i=>(m i).isSome) (fun k hk=>?_) hs d u ?_ g6⟩
   ·cases hmk:m k with
    | none=>rw[hmk]at hk;cases hk
    | some z=>exact⟨by rw[hold k z hmk,Zab _ _ (hne k z hmk).2,hmk],hB k z hmk⟩
   ·cases hbt:β id with
    | none =>
      obtain⟨e,he,_⟩:=Zak.1 hd
      rw[hM.non id b hi hbt]at he;simp at he
    | some c0 =>
      obtain⟨_,cs0,_,_,g7⟩:=hM.row id b c0 hi hbt
      obtain⟨u0,_,g8⟩:=g7 i j d hd
      exact g8.names
 ·intro x1 x2 y1 y2 c g1 g2 g3 g4
  rcases hcase x1 y1 g1 with⟨rfl,rfl⟩|g5<;>rcases hcase x2 y2 g2 with⟨rfl,rfl⟩|g6
  ·rfl
  ·rw[Zac]at g3
   rw[hB x2 y2 g6]at g4
   exact absurd (h1.inj y x2 _ _ c hyb (hold x2 y2 g6) g3 g4) (fun e=>(hne x2 y2 g6).1 e.symm)
  ·rw[Zac]at g4
   rw[hB x1 y1 g5]at g3
   exact absurd (h1.inj x1 y _ _ c (hold x1 y1 g5) hyb g3 g4) (hne x1 y1 g5).1
  ·rw[hB x1 y1 g5]at g3
   rw[hB x2 y2 g6]at g4
   exact h1.inj x1 x2 _ _ c (hold x1 y1 g5) (hold x2 y2 g6) g3 g4
 ·obtain⟨a,n,cap,b,rfl,g1,g2,gx,g3⟩:=h4.inv_lsx
  rw[hyb]at g1;cases g1
  exact .ls a n cap x ver blk (Zac _ _ _) g2 gx (fun e=>by
   obtain⟨q1,q2,q3,q4⟩:=g3 e
   refine⟨q1,q2,q3,?_⟩
   rw[Zac];exact q4)
theorem EffC.made{P:Program}{f:FuncId}{ds:List D}{m:Mem}{nx ver:Nat}{blk:Blk}(hm:m nx=none)(hb:Zb8 (fun _=>false) blk)
 (h:∀ (m1:Mem)(NX:Nat),Zar P f ds m1 NX fun d m' nx'=>d = .ls NX ver∧m'=upd m1 NX (some blk)∧nx'=NX+1):EffC P f ds m nx ⟨.ls nx ver,[nx],[(nx,blk)],false⟩ (nx+1):=by
 refine⟨(h noM 0).1,rfl,Nat.le_succ _,fun p hp=>?_,fun E β m1 NX w vs hN hM ht hvs=>?_⟩
 ·simp only[List.mem_singleton]at hp;subst hp;exact⟨by simp,Nat.lt_succ_self _⟩
 ·refine((h m1 NX).2 E β w vs hM hvs).mono ?_
  rintro e w' ⟨v,d,m',nx',rfl,ha,rfl,rfl,rfl⟩
  exact⟨v,rfl,ha.rename hM hM.none ((ht nx (by simp)).trans hm) (by omega) hb⟩
theorem EffC.of{P:Program}{f:FuncId}{ds:List D}{m:Mem}{nx:Nat}{d:D}{touch:List Nat}{wr:List (Nat×Blk)}(hb:ZeX P f)(hw:∀ p∈wr,p.1∈touch∧p.1<nx)
 (h:∀ (m1:Mem)(NX:Nat),nx≤NX→(∀ id∈touch,m1 id=m id)→Zar P f ds m1 NX fun d' m' nx'=>d'=d∧m'=ov m1 wr∧nx'=NX):EffC P f ds m nx ⟨d,touch,wr,false⟩ nx:=by
 refine⟨hb,rfl,Ya4 _,hw,fun E β m1 NX w vs hN hM ht hvs=>?_⟩
 refine((h m1 NX hN ht).2 E β w vs hM hvs).mono ?_
 rintro e w' ⟨v,d',m',nx',rfl,ha,rfl,rfl,rfl⟩
 exact⟨v,rfl,ha⟩
end ifl
set_option maxRecDepth 100000
set_option maxHeartbeats 8000000
section
variable {f:FuncId} {P:Program}
theorem Zvd{a:BigD}{x:Value}(hb:ZeX P f)(h:∀ w v,BigV w v a→Calls P f #[v] w fun e w'=>e = .returned x∧Below w.heap.size w w'):Zaa P f [encB a] (.v x):=by
 refine⟨hb,fun S w vs hf hvs=>?_⟩
 obtain⟨v,rfl,h1⟩:=ZrO hvs
 refine(h w v (Zps h1)).mono ?_
 rintro e w' ⟨rfl,h2⟩
 exact⟨_,rfl,h2,.v _⟩
end
theorem ZlU(a:BigD):Zaa Tryz.prog 114 [encB a] (dB (okB a)) :=
 Zvd ⟨_,_,Tryz.func114,rfl,by kernel_rfl⟩ fun w v h=>Zhc a v w h
theorem Zzo(a b:List Int)(da:Dig a)(db:Dig b)(la:(a.length:Int)≤4398046511104)(lb:(b.length:Int)≤4398046511104):Zaa Tryz.prog 207 [Zad a,Zad b] (Zad (digs (val a+val b).toNat)) :=
 Zpq ⟨_,_,Tryz.func207,rfl,by kernel_rfl⟩ fun w v u h1 h2=>Zz4 v u a b w h1 h2 da db la lb
theorem Zt6(a b:List Int)(da:Dig a)(db:Dig b)(hl:b.length≤a.length)(hle:val b≤val a)(la:(a.length:Int)≤4398046511104):Zaa Tryz.prog 208 [Zad a,Zad b] (Zad (digs (val a-val b).toNat)) :=
 Zpq ⟨_,_,Tryz.func208,rfl,by kernel_rfl⟩ fun w v u h1 h2=>ZyJ v u a b w h1 h2 da db hl hle la
theorem Zzn(a b:List Int)(da:Dig a)(db:Dig b)(la:(a.length:Int)≤4398046511104)(lb:(b.length:Int)≤4398046511104):Zaa Tryz.prog 165 [Zad a,Zad b] (Zad (digs (val a*val b).toNat)) :=
 Zpq ⟨_,_,Tryz.func165,rfl,by kernel_rfl⟩ fun w v u h1 h2=>ZlY v u a b w h1 h2 da db la lb
theorem Zhp(a:List Int)(la:(a.length:Int)≤8796093022208):Zaa Tryz.prog 65 [Zad a] (Zad a) :=
 ZzV ⟨_,_,Tryz.func65,rfl,by kernel_rfl⟩ fun w v h1=>ZeW v a w h1 la
theorem Zt7(A B:Nat)(la:((digs A).length:Int)≤2199023255552)(hB:0<B):Zaa Tryz.prog 163 [Zad (digs A),Zad (digs B)] (.tup [Zad (digs (A / B)),Zad (digs (A%B))]):=by
 refine⟨⟨_,_,Tryz.func163,rfl,by kernel_rfl⟩,fun S w vs hf hvs=>?_⟩
 obtain⟨v,u,rfl,h1,h2⟩:=ZoN hvs
 refine(ZuW A B v u w (Za6 h1) (Za6 h2) la hB).mono ?_
 rintro e w' ⟨x,y,rfl,h3,h4,h5⟩
 exact⟨_,rfl,h5,(Reps.cons (Ze8 h3 hf) (Reps.cons (Ze8 h4 hf) Reps.nil)).rep_tup⟩
theorem ZrP{S:Nat→Nat→Prop}{w:World}{a:Option Addr}{cap k:Nat}{es:List (List D)}(h:Rep noB noM S w (.slice a es.length cap) (.sl es))(hk:k≤es.length):Rep noB noM S w (.slice a k cap) (.sl (es.take k)):=by
 obtain⟨a',cap',e,h1,h2,h3⟩:=h.inv_sl
 simp only[Value.slice.injEq,true_and]at e
 obtain⟨rfl,rfl⟩:=e
 have hl:(es.take k).length=k:=by rw[Yc1];omega
 rcases h3 with rfl|⟨b,off,kk,rfl,h4,h5⟩
 ·obtain rfl:k=0:=by simpa using hk
  exact .sl0 _ _ h1
 ·have:=ZkV (β:=noB) (m:=noM) (S:=S) (w:=w) (b:=b) (off:=off) (k:=kk) (cap:=cap) (es:=es.take k) ⟨fun i e he=>?_,fun i j d hd=>?_⟩ (by omega) h1
  ·rw[hl]at this;exact this
  ·rw[List.getElem?_take]at he
   split at he
   ·exact h4 i e he
   ·cases he
  ·obtain⟨e,he,hj⟩:=Zak.1 hd
   rw[List.getElem?_take]at he
   split at he
   ·exact h5 i j d (Zak.2 ⟨e,he,hj⟩)
   ·cases he
theorem Zzg(l:List Int):Zaa Tryz.prog 119 [Zad l] (Zad (Zbf l)):=by
 refine⟨⟨_,_,Tryz.func119,rfl,by kernel_rfl⟩,fun S w vs hf hvs=>?_⟩
 obtain⟨v,rfl,h1⟩:=ZrO hvs
 have h2:=Za6 h1
 obtain⟨A,ca,rfl,hla,hca⟩:=h2.shape
 refine(Zdd A ca l w h2).mono ?_
 rintro e w' ⟨rfl,rfl⟩
 refine⟨_,rfl,Below.refl _ _,?_⟩
 have h3:=ZrP (k:=(Zbf l).length) (es:=l.map fun x=>[dI x]) (by rw[Yc0];exact h1) (by rw[Yc0];exact Zc4 l)
 rw[← List.map_take,← Zg2]at h3
 exact h3
theorem nor_c(x y:Int):Zaa Tryz.prog 206 [Zad [x,y]] (dI (orI x y)):=by
 refine⟨⟨_,_,Tryz.func206,rfl,by kernel_rfl⟩,fun S w vs hf hvs=>?_⟩
 obtain⟨v,rfl,h1⟩:=ZrO hvs
 refine(ZA5 v x y w (Za6 h1)).mono ?_
 rintro e w' ⟨rfl,rfl⟩
 exact⟨_,rfl,Below.refl _ _,.v _⟩
theorem Zk1(a b:List Int)(na:Norm a)(nb:Norm b):Zaa Tryz.prog 117 [Zad a,Zad b] (dI (val a-val b).sign):=by
 refine⟨⟨_,_,Tryz.func117,rfl,by kernel_rfl⟩,fun S w vs hf hvs=>?_⟩
 obtain⟨v,u,rfl,h1,h2⟩:=ZoN hvs
 refine(Zd0 v u a b w (Za6 h1) (Za6 h2) na nb).mono ?_
 rintro e w' ⟨rfl,h3⟩
 exact⟨_,rfl,h3,.v _⟩
theorem Znn(s:Int)(l:List Int):Zaa Tryz.prog 85 [dI s,Zad l] (encB (sgnd s l)):=by
 have k1:=Zzg l
 have Zr:=Tryz.results85
 refine inN Tryz.func85 rfl Tryz.ntmps85 fun I=>?_
 by_cases h:(Zbf l).length=0
 ·have h2:Zbf l=[]:=Ya9 h
  rw[show sgnd s l=zB by unfold sgnd;rw[h2];rfl]
  rw[h2]at k1
  refine aGo Zr ?_
  rfl
 ·have h2:(((Zbf l).length:Int)==0)=false:=by simpa using h
  rw[show sgnd s l=⟨s,Zbf l⟩ by unfold sgnd;rw[if_neg];simpa using fun e=>h (by rw[e];rfl)]
  exact aGo (cj2 Zr h2) trivial
theorem Zh8(x:BigD):Zaa Tryz.prog 162 [dB true,encB x] (.tup [encB x,dI 0]):=by
 have Zr:=Tryz.results162
 refine inN Tryz.func162 rfl Tryz.ntmps162 fun I=>?_
 exact aGo Zr trivial
abbrev encZ(a:Int):D:=encB ⟨a.sign,digs a.natAbs⟩
theorem Za9(a:Int):Zaa Tryz.prog 114 [encZ a] (dB true):=by
 have:=ZlU (ofZ a);rw[ZjR]at this;exact this
theorem ZcE{s:Int}{n:Nat}{z:Int}(h:sgnd s (digs n)=ofZ z):Zaa Tryz.prog 85 [dI s,Zad (digs n)] (encZ z):=by
 have:=Znn s (digs n);rw[h]at this;exact this
theorem ZBe(a b:Int)(la:(szZ a:Int)≤1099511627776)(lb:(szZ b:Int)≤1099511627776):Zaa Tryz.prog 118 [encZ a,encZ b] (.tup [encZ (a*b),dI 0]):=by
 obtain⟨sb1,sb2⟩:=Zbk a b
 have sbw:IntKind.i64.wrap (a.sign*b.sign)=a.sign*b.sign:=ZaQ (by omega) (by omega)
 have k1:=Za9 a
 have k2:=Za9 b
 have k3:=Zzn (digs a.natAbs) (digs b.natAbs) (Zat _).1 (Zat _).1 (by unfold szZ at la;omega) (by unfold szZ at lb;omega)
 have k4:=ZcE (ZpY a b)
 have k5:=Zh8 ⟨(a*b).sign,digs (a*b).natAbs⟩
 have Zr:=Tryz.results118
 refine inN Tryz.func118 rfl Tryz.ntmps118 fun I=>?_
 exact aGo (cj2 Zr sbw) trivial
theorem Zk2(a:Int)(la:(szZ a:Int)≤4398046511104):Zaa Tryz.prog 79 [encZ a] (encZ (-a)):=by
 obtain⟨sb1,sb2⟩:=Zbc a
 have sbw:IntKind.i64.wrap (0-a.sign) = -a.sign:=by rw[ZaQ (by omega) (by omega)];omega
 have k1:=Za9 a
 have k3:=Zhp (digs a.natAbs) (by unfold szZ at la;omega)
 have k4:=ZcE (ZpX a)
 have Zr:=Tryz.results79
 refine inN Tryz.func79 rfl Tryz.ntmps79 fun I=>?_
 exact aGo (cj2 Zr sbw) trivial
theorem ZBg(a b:Int)(la:(szZ a:Int)≤4398046511104)(lb:(szZ b:Int)≤4398046511104):Zaa Tryz.prog 195 [encZ a,encZ b] (.tup [encZ (a+b),dI 0]):=by
 obtain⟨sb1,sb2⟩:=Zbk a b
 have sbw:IntKind.i64.wrap (a.sign*b.sign)=a.sign*b.sign:=ZaQ (by omega) (by omega)
 have k1:=Za9 a
 have k2:=Za9 b
 have k3:=nor_c a.sign b.sign
 have k5:=Zh8 ⟨(a+b).sign,digs (a+b).natAbs⟩
 have k6:=Zk1 (digs a.natAbs) (digs b.natAbs) (Zat _) (Zat _)
 rw[ZaB,ZaB]at k6
 have Zr:=Tryz.results195
 refine inN Tryz.func195 rfl Tryz.ntmps195 fun I=>?_
 by_cases h:0≤a.sign*b.sign
 ·have k7:=Zzo (digs a.natAbs) (digs b.natAbs) (Zat _).1 (Zat _).1 (by unfold szZ at la;omega) (by unfold szZ at lb;omega)
  rw[ZaB,ZaB]at k7
  have k8:=ZcE (Zv0 h)
  have h':a.sign*b.sign≥0:=h
  exact aGo (cj3 Zr sbw h') trivial
 ·have h':¬ a.sign*b.sign≥0:=h
  by_cases hlt:(a.natAbs:Int)<b.natAbs
  ·have k7:=Zt6 (digs b.natAbs) (digs a.natAbs) (Zat _).1 (Zat _).1 (Zmp (by omega)) (by rw[ZaB,ZaB];omega) (by unfold szZ at lb;omega)
   rw[ZaB,ZaB,show((b.natAbs:Int)-a.natAbs).toNat=b.natAbs-a.natAbs by omega]at k7
   have k8:=ZcE (Zte h hlt)
   have h2:((a.natAbs:Int)-b.natAbs).sign<0:=by rw[Yb3 (by omega)];decide
   exact aGo (cj4 Zr sbw h' h2) trivial
  ·have k7:=Zt6 (digs a.natAbs) (digs b.natAbs) (Zat _).1 (Zat _).1 (Zmp (by omega)) (by rw[ZaB,ZaB];omega) (by unfold szZ at la;omega)
   rw[ZaB,ZaB,show((a.natAbs:Int)-b.natAbs).toNat=a.natAbs-b.natAbs by omega]at k7
   have k8:=ZcE (Ztd h hlt)
   have h2:¬ ((a.natAbs:Int)-b.natAbs).sign<0:=by have:=Int.sign_nonneg_iff.2 (show(0:Int)≤(a.natAbs:Int)-b.natAbs by omega);omega
   exact aGo (cj4 Zr sbw h' h2) trivial
theorem Zt8(a b:Int)(la:(szZ a:Int)≤2199023255552)(lb:(szZ b:Int)≤2199023255552):Zaa Tryz.prog 115 [encZ a,encZ b] (.tup [encZ (Nat.gcd a.natAbs b.natAbs:Nat),dI 0]):=by
 have k1:=Za9 a
 have k2:=Za9 b
 have k3:=Zhp (digs a.natAbs) (by unfold szZ at la;omega)
 have Zr:=Tryz.results115
 refine inN Tryz.func115 rfl Tryz.ntmps115 fun I=>?_
 refine aGo Zr ?_
 repeat with_reducible intro K hK
 refine ZaH (fun(p:Nat×Nat)=>[(4,.lp 2 0 0 0),(6,Zad (digs p.1)),(7,Zad (digs p.2))]) (fun _=>[(2,⟨33,0,2,[[dI 0,.nil]],0,false⟩)]) 3 0 (fun p=>Nat.gcd p.1 p.2=Nat.gcd a.natAbs b.natAbs∧((digs p.1).length:Int)≤2199023255552∧((digs p.2).length:Int)≤2199023255552) (fun p=>p.2) (a.natAbs,b.natAbs) ⟨rfl,la,lb⟩ ?_ ?_
 ·exact leGo Zr
 ·rintro⟨X,Y⟩ ⟨hg,hX,hY⟩
  simp only at hg hX hY ⊢
  by_cases h:Y=0
  ·subst h
   rw[ZaW,Nat.gcd_zero_right]at *
   subst hg
   have c3:=Zhp (digs (Nat.gcd a.natAbs b.natAbs)) (by omega)
   have c4:=ZcE (ZpW (Nat.gcd a.natAbs b.natAbs))
   have c5:=Zh8 ⟨((Nat.gcd a.natAbs b.natAbs:Nat):Int).sign,digs ((Nat.gcd a.natAbs b.natAbs:Nat):Int).natAbs⟩
   exact aGo Zr trivial
  ·have h1:((digs Y).length:Int)>0:=by
    have:digs Y≠[]:=fun e=>h (Zea.1 e)
    have:=List.length_pos_iff.2 this
    omega
   have c3:=Zt7 X Y hX (by omega)
   refine aGo (cj2 Zr h1) ?_
   repeat with_reducible intro K hK
   refine Zah (Y,X%Y) ⟨?_,hY,?_⟩ ?_ ?_
   ·rw[← hg,Nat.gcd_comm Y,← Nat.gcd_rec,Nat.gcd_comm]
   ·have:=Zmp (Nat.le_of_lt (Nat.mod_lt X (by omega:Y>0)))
    show((digs (X%Y)).length:Int)≤_
    omega
   ·exact Nat.mod_lt X (by omega)
   ·exact leGo Zr
theorem Zqo(a b c:Int)(hb:0<b)(hac:a=b*c)(la:(szZ a:Int)≤2199023255552):Zaa Tryz.prog 196 [encZ a,encZ b] (.tup [encZ c,encB zB,dI 0]):=by
 obtain⟨sb1,sb2⟩:=Zbk a b
 have sbw:IntKind.i64.wrap (a.sign*b.sign)=a.sign*b.sign:=ZaQ (by omega) (by omega)
 have k1:=Za9 a
 have k2:=Za9 b
 have hb1:(b.sign==0)=false:=by rw[Yb2 hb];rfl
 have k3:=Zt7 a.natAbs b.natAbs la (by omega)
 have hm:a.natAbs%b.natAbs=0:=by rw[hac,Int.natAbs_mul];exact Nat.mul_mod_right _ _
 rw[hm,ZaW]at k3
 have k4:=ZcE (ZvZ hb hac)
 have k5:=Znn a.sign []
 rw[show sgnd a.sign []=zB by rw[← ZaW];exact ZvY _]at k5
 have Zr:=Tryz.results196
 refine inN Tryz.func196 rfl Tryz.ntmps196 fun I=>?_
 by_cases h:a.sign*b.sign<0
 ·exact aGo (cj4 Zr sbw hb1 h) trivial
 ·exact aGo (cj4 Zr sbw hb1 h) trivial
theorem ZBb(n:Nat):Zaa Tryz.prog 116 [encZ n] (dB (decide ((n:Int)=1))) :=
 Zvd ⟨_,_,Tryz.func116,rfl,by kernel_rfl⟩ fun w v h=>Zx0 n (by omega) v w h
theorem Zr3(P Q:Int)(zP:(szZ P:Int)≤549755813888)(zQ:(szZ Q:Int)≤549755813888):Zaa Tryz.prog 78 [.agg [dI P.sign,Zad (digs P.natAbs),dI Q.sign,Zad (digs Q.natAbs)]] (dB (okF ⟨ofZ P,ofZ Q⟩)):=by
 have k1:=Za9 P
 have k2:=Za9 Q
 have k3:=Zt8 P Q (by omega) (by omega)
 have k4:=ZBb (Nat.gcd P.natAbs Q.natAbs)
 rw[Znl]
 have Zr:=Tryz.results78
 refine inN Tryz.func78 rfl Tryz.ntmps78 fun I=>?_
 by_cases hs:Q.sign=1
 ·have hs1:(Q.sign !=1)=false:=by simp[hs]
  rw[show((ofZ Q).s==1)=true by simpa[ofZ]using hs,Bool.true_and]
  exact aGo (cj2 Zr hs1) trivial
 ·have hs1:(Q.sign !=1)=true:=by simp[hs]
  rw[show((ofZ Q).s==1)=false by simpa[ofZ]using hs,Bool.false_and]
  exact aGo (cj2 Zr hs1) trivial
theorem Zck(a:Zaf)(za:(szF a:Int)≤549755813888):Zaa Tryz.prog 78 [encF a] (dB (okF a)):=by
 obtain⟨p,q⟩:=a
 have k1:=ZlU p
 have k2:=ZlU q
 cases hp:okB p
 ·rw[hp]at k1
  rw[show okF ⟨p,q⟩=false by unfold okF;rw[hp];rfl]
  have Zr:=Tryz.results78
  refine inN Tryz.func78 rfl Tryz.ntmps78 fun I=>?_
  exact aGo Zr trivial
 cases hq:okB q
 ·rw[hp]at k1
  rw[hq]at k2
  rw[show okF ⟨p,q⟩=false by unfold okF;rw[hp,hq];rfl]
  have Zr:=Tryz.results78
  refine inN Tryz.func78 rfl Tryz.ntmps78 fun I=>?_
  exact aGo Zr trivial
 obtain⟨P,rfl⟩:=ZlT.1 hp
 obtain⟨Q,rfl⟩:=ZlT.1 hq
 unfold szF at za
 simp only[Zjv]at za
 exact Zr3 P Q (by omega) (by omega)
theorem ZdT(a:Zaf)(za:(szF a:Int)≤549755813888):Zaa Tryz.prog 104 [encF a] (dI (sgnD a)):=by
 have k1:=Zck a za
 have Zr:=Tryz.results104
 refine inN Tryz.func104 rfl Tryz.ntmps104 fun I=>?_
 cases ha:okF a
 ·rw[ha]at k1
  rw[show sgnD a=0 by simp[sgnD,ha]]
  exact aGo Zr trivial
 ·rw[ha]at k1
  rw[show sgnD a=a.p.s by obtain⟨r,rfl⟩:=ZfJ.1 ha;rw[Zcw];rfl]
  exact aGo Zr trivial
theorem Zzm(a b:List Int)(la:(a.length:Int)≤9223372036854775807):Zaa Tryz.prog 84 [Zad a,Zad b] (dB (a==b)):=by
 have Zr:=Tryz.results84
 refine inN Tryz.func84 rfl Tryz.ntmps84 fun I=>?_
 by_cases hl:a.length=b.length
 rotate_left
 ·have h0:((a.length:Int) !=b.length)=true:=by simp;omega
  refine aGo (cj2 Zr h0) ?_
  exact Zaj (by symm;simp;intro e;rw[e]at hl;exact hl rfl)
 have h0:((a.length:Int) !=b.length)=false:=by simp;omega
 refine aGo (cj2 Zr h0) ?_
 repeat with_reducible intro K hK
 refine ZaH (fun(k:Nat)=>[(0,Zad a),(1,Zad b),(11,Zad a),(12,dI a.length),(13,dI k)]) (fun _=>[]) 0 0 (fun k=>k≤a.length∧a.take k=b.take k) (fun k=>a.length-k) 0 ⟨by omega,rfl⟩ ?_ ?_
 ·exact leGo Zr
 rintro k ⟨hk,hd⟩
 have i0:(0:Int)≤k:=by omega
 by_cases h1:(k:Int)<a.length
 ·have h2:(k:Int)<b.length:=by omega
  have hw:=ZsK k
  obtain⟨x,hx⟩:=getE (l:=a) (k:=k) (by omega)
  obtain⟨y,hy⟩:=getE (l:=b) (k:=k) (by omega)
  by_cases h3:x=y
  ·have h4:(x !=y)=false:=by simp[h3]
   refine aGo (cj4 Zr i0 h1 (cj4 h2 hx hy (cj2 hw h4))) ?_
   repeat with_reducible intro K hK
   exact Zah (k+1) ⟨by omega,ZmJ hd hx hy h3⟩ (by omega) (leGo Zr)
  ·have h4:(x !=y)=true:=by simp[h3]
   refine aGo (cj4 Zr i0 h1 (cj4 h2 hx hy (cj2 hw h4))) ?_
   exact Zaj (by symm;simp;intro e;rw[e,hy]at hx;exact h3 (by simpa using hx.symm))
 ·obtain rfl:k=a.length:=by omega
  refine aGo (cj2 Zr h1) ?_
  rw[Yc2,hl,Yc2]at hd
  exact Zaj (by simp[hd])
theorem ZwG(a b:List Int):Zaa Tryz.prog 84 [Zad a,Zad b] (dB (a==b)):=by
 refine⟨⟨_,_,Tryz.func84,rfl,by kernel_rfl⟩,fun S w vs hf hvs=>?_⟩
 obtain⟨v,u,rfl,h1,h2⟩:=ZoN hvs
 obtain⟨A,ca,e,hla,hca⟩:=(Za6 h1).shape
 unfold maxLen at hca
 exact(Zzm a b (by omega)).2 S w _ hf hvs
theorem ZtX(a b:BigD):Zaa Tryz.prog 53 [encB a,encB b] (dB (Zgs a b)):=by
 have k1:=ZwG a.d b.d
 have Zr:=Tryz.results53
 refine inN Tryz.func53 rfl Tryz.ntmps53 fun I=>?_
 have e:Zgs a b=(a.s==b.s&&(a.d==b.d)):=by unfold Zgs;congr 1;rw[Bool.eq_iff_iff];simp
 rw[e]
 cases h:a.s==b.s
 ·exact aGo (cj2 Zr h) trivial
 ·exact aGo (cj2 Zr h) trivial
theorem Zmf(a b:Zaf):Zaa Tryz.prog 21 [encF a,encF b] (dB (Zej a b)):=by
 obtain⟨p,q⟩:=a
 obtain⟨r,t⟩:=b
 have k1:=ZtX p r
 have k2:=ZtX q t
 have Zr:=Tryz.results21
 refine inN Tryz.func21 rfl Tryz.ntmps21 fun I=>?_
 unfold Zej
 cases h:Zgs p r
 ·rw[h]at k1
  exact aGo Zr trivial
 ·rw[h]at k1
  exact aGo Zr trivial
abbrev encQ(r:Rat):D:=.agg [dI r.num.sign,Zad (digs r.num.natAbs),dI (r.den:Int).sign,Zad (digs (r.den:Int).natAbs)]
theorem ZbE(a:Rat)(za:(szQ a:Int)≤549755813888):Zaa Tryz.prog 78 [encQ a] (dB true):=by
 have:=Zck (ofQ a) (by rw[Ze3];exact za);rw[Zbm]at this;exact this
theorem ZwI(p q:Int)(hq:0<q)(la:(szZ p:Int)≤2199023255552)(lb:(szZ q:Int)≤2199023255552):Zaa Tryz.prog 172 [encZ p,encZ q] (.tup [encF (ofQ (Rat.divInt p q)),dI 0]):=by
 obtain⟨c,f,hpc,hqf,hof,hg0⟩:=ZfU (p:=p) hq
 have hlg:=ZsW (p:=p) (q:=q)
 have k1:=Za9 p
 have k2:=Za9 q
 have k3:=Zt8 p q la lb
 have k4:=Zqo p (Nat.gcd p.natAbs q.natAbs:Nat) c hg0 hpc la
 have k5:=Zqo q (Nat.gcd p.natAbs q.natAbs:Nat) f hg0 hqf lb
 rw[hof]
 generalize Nat.gcd p.natAbs q.natAbs=G at *
 have hs:(q.sign==0)=false:=by rw[Yb2 hq];rfl
 have hs2:¬ q.sign<0:=by rw[Yb2 hq];decide
 have Zr:=Tryz.results172
 refine inN Tryz.func172 rfl Tryz.ntmps172 fun I=>?_
 refine aGo (cj3 Zr hs hs2) ?_
 rfl
theorem ZwJ(p q:Int)(hq:q<0)(la:(szZ p:Int)≤2199023255552)(lb:(szZ q:Int)≤2199023255552):Zaa Tryz.prog 172 [encZ p,encZ q] (.tup [encF (ofQ (Rat.divInt p q)),dI 0]):=by
 have hof0:Rat.divInt p q=Rat.divInt (-p) (-q):=(Rat.neg_divInt_neg p q).symm
 have lp:szZ (-p)=szZ p:=by unfold szZ;rw[Int.natAbs_neg]
 have lq:szZ (-q)=szZ q:=by unfold szZ;rw[Int.natAbs_neg]
 have m1:=Zk2 p (by omega)
 have m2:=Zk2 q (by omega)
 rw[hof0]
 have k1:=Za9 p
 have k2:=Za9 q
 have hs:(q.sign==0)=false:=by rw[Yb3 hq];rfl
 have hs2:q.sign<0:=by rw[Yb3 hq];decide
 have hq':0 < -q:=by omega
 generalize hp1 : -p=p1 at *
 generalize hq1 : -q=q1 at *
 obtain⟨c,f,hpc,hqf,hof,hg0⟩:=ZfU (p:=p1) hq'
 have hlg:=ZsW (p:=p1) (q:=q1)
 have k3:=Zt8 p1 q1 (by omega) (by omega)
 have k4:=Zqo p1 (Nat.gcd p1.natAbs q1.natAbs:Nat) c hg0 hpc (by omega)
 have k5:=Zqo q1 (Nat.gcd p1.natAbs q1.natAbs:Nat) f hg0 hqf (by omega)
 rw[hof]
 generalize Nat.gcd p1.natAbs q1.natAbs=G at *
 have Zr:=Tryz.results172
 refine inN Tryz.func172 rfl Tryz.ntmps172 fun I=>?_
 refine aGo (cj3 Zr hs hs2) ?_
 rfl
theorem Zqn(p q:Int)(hq:q≠0)(la:(szZ p:Int)≤2199023255552)(lb:(szZ q:Int)≤2199023255552):Zaa Tryz.prog 172 [encZ p,encZ q] (.tup [encF (ofQ (Rat.divInt p q)),dI 0]):=by
 rcases Int.lt_or_gt_of_ne hq with h|h
 ·exact ZwJ p q h la lb
 ·exact ZwI p q h la lb
theorem Zdy(a b:Int)(la:(szZ a:Int)≤1099511627776)(lb:(szZ b:Int)≤1099511627776):Zaa Tryz.prog 82 [encZ a,encZ b] (encZ (a*b)):=by
 have k1:=ZBe a b la lb
 have Zr:=Tryz.results82
 refine inN Tryz.func82 rfl Tryz.ntmps82 fun I=>?_
 exact aGo Zr trivial
theorem Zzq(a:Int)(la:(szZ a:Int)≤4398046511104):Zaa Tryz.prog 80 [encZ a] (encZ a):=by
 have lp:szZ (-a)=szZ a:=by unfold szZ;rw[Int.natAbs_neg]
 have k1:=Zk2 a la
 have k2:=Zk2 (-a) (by omega)
 rw[Int.neg_neg]at k2
 have Zr:=Tryz.results80
 refine inN Tryz.func80 rfl Tryz.ntmps80 fun I=>?_
 exact aGo Zr trivial
theorem Zzj(a b:Rat)(za:(szQ a:Int)≤549755813888)(zb:(szQ b:Int)≤549755813888):Zaa Tryz.prog 127 [encQ a,encQ b] (.tup [encF (ofQ (a*b)),dI 0]):=by
 have zpa:=Zbj a
 have zpb:=Zbj b
 have k1:=ZbE a za
 have k2:=ZbE b zb
 have m1:=Zb5 a.num b.num
 have m2:=Zb5 (a.den:Int) b.den
 have k3:=Zdy a.num b.num (by omega) (by omega)
 have k4:=Zdy a.den b.den (by omega) (by omega)
 have k5:=Zqn (a.num*b.num) (a.den*b.den) (Int.mul_ne_zero (Zfs a) (Zfs b)) (by omega) (by omega)
 rw[← Zk3]at k5
 have Zr:=Tryz.results127
 refine inN Tryz.func127 rfl Tryz.ntmps127 fun I=>?_
 exact aGo Zr trivial
theorem Zt4(a b:Rat)(za:(szQ a:Int)≤549755813888)(zb:(szQ b:Int)≤549755813888):Zaa Tryz.prog 171 [encQ a,encQ b] (.tup [encF (ofQ (a+b)),dI 0]):=by
 have zpa:=Zbj a
 have zpb:=Zbj b
 have k1:=ZbE a za
 have k2:=ZbE b zb
 have m1:=Zb5 a.num b.den
 have m2:=Zb5 b.num a.den
 have m3:=Zb5 (a.den:Int) b.den
 have m4:=Zoq (a.num*b.den) (b.num*a.den)
 have k3:=Zdy a.num b.den (by omega) (by omega)
 have k4:=Zdy b.num a.den (by omega) (by omega)
 have k6:=Zdy a.den b.den (by omega) (by omega)
 have k7:=ZBg (a.num*b.den) (b.num*a.den) (by omega) (by omega)
 have k5:=Zqn (a.num*b.den+b.num*a.den) (a.den*b.den) (Int.mul_ne_zero (Zfs a) (Zfs b)) (by omega) (by omega)
 rw[← Zlv]at k5
 have Zr:=Tryz.results171
 refine inN Tryz.func171 rfl Tryz.ntmps171 fun I=>?_
 exact aGo Zr trivial
theorem Zzh(a b:Rat)(za:(szQ a:Int)≤549755813888)(zb:(szQ b:Int)≤549755813888):Zaa Tryz.prog 181 [encQ a,encQ b] (.tup [encF (ofQ (a-b)),dI 0]):=by
 have zpa:=Zbj a
 have zpb:=Zbj b
 have k1:=ZbE a (by omega)
 have k2:=ZbE b (by omega)
 have k3:=Zk2 b.num (by omega)
 have e:szQ (-b)=szQ b:=ZdL b
 have k4:=Zt4 a (-b) (by omega) (by omega)
 rw[show a + -b=a-b from(Rat.sub_eq_add_neg a b).symm]at k4
 unfold encQ at k4
 rw[Rat.neg_num,Rat.neg_den]at k4
 have Zr:=Tryz.results181
 refine inN Tryz.func181 rfl Tryz.ntmps181 fun I=>?_
 exact aGo Zr trivial
theorem Zzk(a b:Rat)(hb:b≠0)(za:(szQ a:Int)≤549755813888)(zb:(szQ b:Int)≤549755813888):Zaa Tryz.prog 205 [encQ a,encQ b] (.tup [encF (ofQ (a / b)),dI 0]):=by
 have zpa:=Zbj a
 have zpb:=Zbj b
 have k1:=ZbE a za
 have k2:=ZbE b zb
 have hn:b.num≠0:=fun e=>hb (Rat.num_eq_zero.1 e)
 have hs:(b.num.sign==0)=false:=by
  cases h:b.num.sign==0
  ·rfl
  ·exact absurd (Int.sign_eq_zero_iff_zero.1 (by simpa using h)) hn
 have m1:=Zb5 a.num b.den
 have m2:=Zb5 (a.den:Int) b.num
 have k3:=Zdy a.num b.den (by omega) (by omega)
 have k4:=Zdy a.den b.num (by omega) (by omega)
 have k5:=Zqn (a.num*b.den) (a.den*b.num) (Int.mul_ne_zero (Zfs a) hn) (by omega) (by omega)
 rw[← Zlp]at k5
 have Zr:=Tryz.results205
 refine inN Tryz.func205 rfl Tryz.ntmps205 fun I=>?_
 exact aGo (cj2 Zr hs) trivial
theorem Zzi(a:Rat)(za:(szQ a:Int)≤549755813888):Zaa Tryz.prog 46 [encQ a] (encF (ofQ (-a))):=by
 have zpa:=Zbj a
 have k1:=ZbE a za
 have k3:=Zk2 a.num (by omega)
 have k4:=Zzq a.den (by omega)
 have e:encF (ofQ (-a)) = .agg [dI (-a.num).sign,Zad (digs (-a.num).natAbs),dI (a.den:Int).sign,Zad (digs (a.den:Int).natAbs)]:=by
  show encQ (-a)=_
  unfold encQ;rw[Rat.neg_num,Rat.neg_den]
 rw[e]
 have Zr:=Tryz.results46
 refine inN Tryz.func46 rfl Tryz.ntmps46 fun I=>?_
 exact aGo Zr trivial
theorem ZAm{n:Int}(h0:0≤n)(h1:n<18446744073709551616):IntKind.u64.wrap n=n:=by
 simp only[IntKind.wrap,IntKind.bits,IntKind.signed]
 simp;omega
theorem Zx5(n:Nat)(g:Int)(hg:g=1∨(g = -1∧0<n))(h:(n:Int)≤9223372036854775808)(h1:g=1→(n:Int)≤9223372036854775807):Zaa Tryz.prog 54 [dI (g*n)] (encZ (g*n)):=by
 have h5:(digs n).length≤4:=Zbx (by simp only[bp];omega)
 have k4:=ZcE (Zdh (s:=g) (n:=n) (g*n) rfl (by rcases hg with h|h;exact .inl h;exact .inr (.inl h.1)))
 have Zr:=Tryz.results54
 refine inN Tryz.func54 rfl Tryz.ntmps54 fun I=>?_
 by_cases c2:g*(n:Int)<0
 rotate_left
 have eg:g=1:=by rcases hg with rfl|⟨rfl,h⟩<;>omega
 have hu:IntKind.u64.wrap (g*(n:Int))=n:=by rw[ZAm (by omega) (by subst eg;omega)];subst eg;omega
 refine aGo (cj3 Zr c2 hu) ?_
 rotate_left
 have eg:g = -1:=by rcases hg with rfl|h<;>omega
 have hu:IntKind.u64.wrap (g*(n:Int))=18446744073709551616-n:=by subst eg;simp only[IntKind.wrap,IntKind.bits,IntKind.signed];simp;omega
 have hu2:IntKind.u64.wrap (0-(18446744073709551616-(n:Int)))=n:=by simp only[IntKind.wrap,IntKind.bits,IntKind.signed];simp;omega
 refine aGo (cj4 Zr c2 hu hu2) ?_
 all_goals
  repeat with_reducible intro K hK
  refine aLe (Zd9 5 3 1 rfl) ?_
  refine ZaH (fun(p:Nat×List Int×Nat)=>[(2,.lp 0 0 0 0),(3,dI g),(4,.v (.int .u64 p.1)),(5,.ls 1 p.2.2)]) (fun p=>[(0,⟨33,0,2,[[dI 0,.nil]],0,false⟩),(1,⟨3,p.2.2,1,p.2.1.map (fun x=>[dI x]),0,false⟩)]) 2 0 (fun p=>p.2.1++digs p.1=digs n∧p.1≤n∧p.2.1.length+(digs p.1).length≤4) (fun p=>p.1) (n,[],0) ⟨rfl,Ya4 _,by simpa using h5⟩ ?_ ?_
  ·exact leGo (cj2 Zr eg)
  rintro⟨k,l,ver⟩ ⟨hl,hk,h4⟩
  simp only at hl hk h4 ⊢
  have j1:(l.map fun x=>[dI x]).map (List.map datJ)=l.map fun x=>[dI x]:=by rw[List.map_map];exact List.map_congr_left fun x _=>rfl
  by_cases h0:k=0
  ·subst h0
   rw[ZaW,List.append_nil]at hl
   subst hl
   have hc:¬ ((0:Nat):Int)>0:=by decide
   exact aGo (cj3 Zr hc j1) trivial
  ·have hc:(k:Int)>0:=by omega
   have hd:=Zgl h0
   have ha:IntKind.u64.wrap ((BitVec.ofInt IntKind.u64.bits (k:Int) &&& BitVec.ofInt IntKind.u64.bits 1048575).toNat:Nat)=((k%1048576:Nat):Int):=(Zin k).trans (by omega)
   have hcv:IntKind.i64.wrap ((k%1048576:Nat):Int)=((k%1048576:Nat):Int):=ZaQ (by omega) (by omega)
   have hsh:(k:Int).fdiv (2^min 20 IntKind.u64.bits)=((k / 1048576:Nat):Int):=by
    show(k:Int).fdiv 1048576=_
    rw[Int.fdiv_eq_ediv_of_nonneg _ (by decide)];omega
   have h20:(0:Int)≤20:=by decide
   refine aGo (cj4 Zr hc ha (cj4 hcv hsh h20 trivial)) ?_
   repeat with_reducible intro K hK
   refine Zah (k / 1048576,l++[((k%1048576:Nat):Int)],ver+1) ⟨?_,?_,?_⟩ (Nat.div_lt_self (by omega) (by decide)) ?_
   ·rw[← hl,hd,Yd3];rfl
   ·have:=Nat.div_le_self k 1048576
    show k / 1048576≤n
    omega
   ·rw[hd]at h4
    simp only[Yb9,List.length_cons,List.length_nil]at h4 ⊢
    omega
   ·have ha2:=(congrArg IntKind.i64.wrap ha).trans hcv
    simp[IntKind.bits]at ha2
    refine Zb1 _ _ _ ?_ ?_ ?_ ?_ ?_ (.inl rfl)<;>simp[go_sem,okD,okDs,Zb8]
    ·rw[Int.fdiv_eq_ediv_of_nonneg _ (by decide)]
    ·exact ha2
    ·intro _ h;rcases h with⟨_,_,rfl⟩|rfl<;>simp[okD,okDs]
theorem ZwH(n:Int)(h1 : -9223372036854775808≤n)(h2:n≤9223372036854775807):Zaa Tryz.prog 54 [dI n] (encZ n):=by
 by_cases h:n<0
 ·have:=Zx5 n.natAbs (-1) (.inr ⟨rfl,by omega⟩) (by omega) (by omega)
  rwa [show -1*(n.natAbs:Int)=n by omega]at this
 ·have:=Zx5 n.natAbs 1 (.inl rfl) (by omega) (by omega)
  rwa [show 1*(n.natAbs:Int)=n by omega]at this
theorem Ziz(n:Int)(h1 : -9223372036854775808≤n)(h2:n≤9223372036854775807):Zaa Tryz.prog 22 [dI n] (encF (ofQ (n:Rat))):=by
 have k1:=ZwH n h1 h2
 have k2:=ZwH 1 (by decide) (by decide)
 rw[Zze]
 have Zr:=Tryz.results22
 refine inN Tryz.func22 rfl Tryz.ntmps22 fun I=>?_
 refine aGo Zr ?_
 rfl
theorem Zqc(n:Nat)(r:Rat)(h:((n:Int):Rat)=r)(hn:(n:Int)≤9223372036854775807):Zaa Tryz.prog 22 [dI n] (encF (ofQ r)):=h▸Ziz n (by omega) hn
theorem nZ_c:Zaa Tryz.prog 22 [dI 0] (encF (ofQ 0)):=Zqc 0 0 rfl (by decide)
theorem nO_c:Zaa Tryz.prog 22 [dI 1] (encF (ofQ 1)):=Zqc 1 1 rfl (by decide)
theorem Zx4(a b:Rat)(za:(szQ a:Int)≤549755813888)(zb:(szQ b:Int)≤549755813888):Zaa Tryz.prog 127 [encF (ofQ a),encF (ofQ b)] (.tup [encF (ofQ (a*b)),dI 0]):=Zzj a b za zb
theorem Znp(a b:Rat)(za:(szQ a:Int)≤549755813888)(zb:(szQ b:Int)≤549755813888):Zaa Tryz.prog 171 [encF (ofQ a),encF (ofQ b)] (.tup [encF (ofQ (a+b)),dI 0]):=Zt4 a b za zb
theorem Zx3(a b:Rat)(za:(szQ a:Int)≤549755813888)(zb:(szQ b:Int)≤549755813888):Zaa Tryz.prog 181 [encF (ofQ a),encF (ofQ b)] (.tup [encF (ofQ (a-b)),dI 0]):=Zzh a b za zb
theorem ZBd(a b:Rat)(hb:b≠0)(za:(szQ a:Int)≤549755813888)(zb:(szQ b:Int)≤549755813888):Zaa Tryz.prog 205 [encF (ofQ a),encF (ofQ b)] (.tup [encF (ofQ (a / b)),dI 0]):=Zzk a b hb za zb
theorem Ziy(a:Rat)(za:(szQ a:Int)≤549755813888):Zaa Tryz.prog 46 [encF (ofQ a)] (encF (ofQ (-a))):=Zzi a za
theorem Zv1(b:Rat):((ofQ b).p.s==0)=decide (b=0):=by
 rw[Bool.eq_iff_iff,ZmU,decide_eq_true_eq]
theorem Zju(b:Rat):Zaa Tryz.prog 189 [encF (ofQ b)] (dB (decide (b=0))):=by
 rw[← Zv1]
 have Zr:=Tryz.results189
 refine inN Tryz.func189 rfl Tryz.ntmps189 fun I=>?_
 exact aGo Zr trivial
theorem Zox(a b:Rat)(hb:b≠0)(za:(szQ a:Int)≤549755813888)(zb:(szQ b:Int)≤549755813888):Zaa Tryz.prog 188 [encF (ofQ a),encF (ofQ b)] (encF (ofQ (a / b))):=by
 have k1:=ZBd a b hb za zb
 have Zr:=Tryz.results188
 refine inN Tryz.func188 rfl Tryz.ntmps188 fun I=>?_
 exact aGo Zr trivial
theorem ZoA(a b c:Rat)(za:(szQ a:Int)≤137438953472)(zb:(szQ b:Int)≤137438953472)(zc:(szQ c:Int)≤137438953472):Zaa Tryz.prog 190 [encF (ofQ a),encF (ofQ b),encF (ofQ c)] (encF (ofQ (a-b*c))):=by
 have z1:=ZfA b c
 have k1:=Zju b
 have k2:=Zju c
 have k3:=Zx4 b c (by omega) (by omega)
 have k4:=Zx3 a (b*c) (by omega) (by omega)
 have Zr:=Tryz.results190
 refine inN Tryz.func190 rfl Tryz.ntmps190 fun I=>?_
 by_cases h1:b=0
 ·rw[decide_eq_true h1]at k1
  subst h1
  rw[show a-0*c=a by grind]
  exact aGo Zr trivial
 ·rw[decide_eq_false h1]at k1
  by_cases h2:c=0
  ·rw[decide_eq_true h2]at k2
   subst h2
   rw[show a-b*0=a by grind]
   exact aGo Zr trivial
  ·rw[decide_eq_false h2]at k2
   exact aGo Zr trivial
theorem ZuG(a b:Zaf)(za:(szF a:Int)≤549755813888)(zb:(szF b:Int)≤549755813888):Zae Tryz.prog 127 [encF a,encF b] (.tup [encF (mulD a b).1,dI (mulD a b).2]):=by
 have k1:=Zck a za
 have k2:=Zck b zb
 cases ha:okF a
 ·rw[ha]at k1
  rw[show mulD a b=(zF,1) by simp[mulD,ha]]
  have Zr:=Tryz.results127
  refine inC Tryz.func127 rfl Tryz.ntmps127 ?_
  refine aGo Zr ?_
  rfl
 cases hb:okF b
 ·rw[ha]at k1
  rw[hb]at k2
  rw[show mulD a b=(zF,1) by simp[mulD,hb]]
  have Zr:=Tryz.results127
  refine inC Tryz.func127 rfl Tryz.ntmps127 ?_
  refine aGo Zr ?_
  rfl
 obtain⟨r,rfl⟩:=ZfJ.1 ha
 obtain⟨t,rfl⟩:=ZfJ.1 hb
 rw[Zqp]
 exact(Zx4 r t za zb).all
theorem Zyf(a b:Zaf)(za:(szF a:Int)≤549755813888)(zb:(szF b:Int)≤549755813888):Zae Tryz.prog 171 [encF a,encF b] (.tup [encF (addD a b).1,dI (addD a b).2]):=by
 have k1:=Zck a za
 have k2:=Zck b zb
 cases ha:okF a
 ·rw[ha]at k1
  rw[show addD a b=(zF,1) by simp[addD,ha]]
  have Zr:=Tryz.results171
  refine inC Tryz.func171 rfl Tryz.ntmps171 ?_
  refine aGo Zr ?_
  rfl
 cases hb:okF b
 ·rw[ha]at k1
  rw[hb]at k2
  rw[show addD a b=(zF,1) by simp[addD,hb]]
  have Zr:=Tryz.results171
  refine inC Tryz.func171 rfl Tryz.ntmps171 ?_
  refine aGo Zr ?_
  rfl
 obtain⟨r,rfl⟩:=ZfJ.1 ha
 obtain⟨t,rfl⟩:=ZfJ.1 hb
 rw[Zmy]
 exact(Znp r t za zb).all
theorem ZnK(a:Zaf)(za:(szF a:Int)≤549755813888):Zae Tryz.prog 46 [encF a] (encF (negD a)):=by
 have k1:=Zck a za
 cases ha:okF a
 ·rw[ha]at k1
  rw[show negD a=zF by simp[negD,ha]]
  have Zr:=Tryz.results46
  refine inC Tryz.func46 rfl Tryz.ntmps46 ?_
  refine aGo Zr ?_
  rfl
 obtain⟨r,rfl⟩:=ZfJ.1 ha
 rw[ZlW]
 exact(Ziy r za).all
theorem Zzp(x y:Int):Zaa Tryz.prog 73 [dI x,dI y] (dI (x-y).sign):=by
 refine⟨⟨_,_,Tryz.func73,rfl,by kernel_rfl⟩,fun S w vs hf hvs=>?_⟩
 obtain⟨v,u,rfl,h1,h2⟩:=ZoN hvs
 rw[h1.inv_v,h2.inv_v]
 refine(Zmr x y w).mono ?_
 rintro e w' ⟨rfl,rfl⟩
 exact⟨_,rfl,Below.refl _ _,.v _⟩
theorem ZBf(a b:Int):Zaa Tryz.prog 81 [encZ a,encZ b] (dI (a-b).sign):=by
 have k1:=Za9 a
 have k2:=Za9 b
 by_cases h:a.sign=b.sign
 ·have k3:=Zk1 (digs a.natAbs) (digs b.natAbs) (Zat _) (Zat _)
  rw[ZaB,ZaB]at k3
  have e:=Zq7 h
  have h1:(a.sign !=b.sign)=false:=by simp[h]
  have hw:IntKind.i64.wrap (a.sign*((a.natAbs:Int)-b.natAbs).sign)=(a-b).sign:=by
   rw[e];exact ZaQ (by have:=Zbc (a-b);omega) (by have:=Zbc (a-b);omega)
  have Zr:=Tryz.results81
  refine inN Tryz.func81 rfl Tryz.ntmps81 fun I=>?_
  exact aGo (cj3 Zr h1 hw) trivial
 ·have e:=(Zq6 a b).resolve_right h
  have k3:=Zzp a.sign b.sign
  rw[e]at k3
  have h1:(a.sign !=b.sign)=true:=by simp[h]
  have Zr:=Tryz.results81
  refine inN Tryz.func81 rfl Tryz.ntmps81 fun I=>?_
  exact aGo (cj2 Zr h1) trivial
theorem Zzl(a b:Rat)(za:(szQ a:Int)≤549755813888)(zb:(szQ b:Int)≤549755813888):Zaa Tryz.prog 47 [encQ a,encQ b] (dI (sgQ (a-b))):=by
 have zpa:=Zbj a
 have zpb:=Zbj b
 have k1:=ZbE a za
 have k2:=ZbE b zb
 have k3:=Zdy a.num b.den (by omega) (by omega)
 have k4:=Zdy b.num a.den (by omega) (by omega)
 have k5:=ZBf (a.num*b.den) (b.num*a.den)
 rw[← Ztf]at k5
 have Zr:=Tryz.results47
 refine inN Tryz.func47 rfl Tryz.ntmps47 fun I=>?_
 exact aGo Zr trivial
theorem ZcI(a b:Zaf)(za:(szF a:Int)≤549755813888)(zb:(szF b:Int)≤549755813888):Zaa Tryz.prog 47 [encF a,encF b] (dI (cmpD a b)):=by
 have k1:=Zck a za
 have k2:=Zck b zb
 cases ha:okF a
 ·rw[ha]at k1
  rw[show cmpD a b=0 by simp[cmpD,ha]]
  have Zr:=Tryz.results47
  refine inN Tryz.func47 rfl Tryz.ntmps47 fun I=>?_
  exact aGo Zr trivial
 cases hb:okF b
 ·rw[ha]at k1
  rw[hb]at k2
  rw[show cmpD a b=0 by simp[cmpD,hb]]
  have Zr:=Tryz.results47
  refine inN Tryz.func47 rfl Tryz.ntmps47 fun I=>?_
  exact aGo Zr trivial
 obtain⟨r,rfl⟩:=ZfJ.1 ha
 obtain⟨t,rfl⟩:=ZfJ.1 hb
 rw[Zq8]
 exact Zzl r t za zb
theorem ZfP(n:Int)(h1 : -9223372036854775808≤n)(h2:n≤9223372036854775807):Zae Tryz.prog 22 [dI n] (encF (ofQ (n:Rat))):=(Ziz n h1 h2).all
theorem fof_c(p q:Int)(hq:q≠0)(p1 : -9223372036854775808≤p)(p2:p≤9223372036854775807)(q1 : -9223372036854775808≤q)(q2:q≤9223372036854775807):Zae Tryz.prog 202 [dI p,dI q] (.tup [encF (ofQ (Rat.divInt p q)),dI 0]):=by
 have k1:=ZwH p p1 p2
 have k2:=ZwH q q1 q2
 have z1:szZ p≤4:=Zet (by simp only[bp];omega)
 have z2:szZ q≤4:=Zet (by simp only[bp];omega)
 have k3:=Zqn p q hq (by omega) (by omega)
 have Zr:=Tryz.results202
 refine inC Tryz.func202 rfl Tryz.ntmps202 ?_
 exact aGo Zr trivial
set_option maxHeartbeats 2000000
theorem Zvq{P:Program}{n:Nat}{Q:Exit→St→Prop}{s:St}{l:Array Oper}{b:Bool}(id:Nat)(h:AWP P n (.region id l b) Q s):AWP P n (.region id l b) Q s:=h
structure Zag where
 v:Int
 f:Zaf
structure RowD where
 t:List Zag
 k:Int
 v:Zaf
structure SysD where
 n:Int
 r:List RowD
abbrev cT(t:Zag):List D:=[dI t.v,dI t.f.p.s,Zad t.f.p.d,dI t.f.q.s,Zad t.f.q.d]
abbrev Zbr(l:List Zag):D:=.sl (l.map cT)
abbrev ZbX(l:List Zaf):D:=.sl (l.map cF)
abbrev cW(w:RowD):List D:=[Zbr w.t,dI w.k,dI w.v.p.s,Zad w.v.p.d,dI w.v.q.s,Zad w.v.q.d]
abbrev encW(w:RowD):D:=.agg (cW w)
abbrev Zsm(l:List RowD):D:=.sl (l.map cW)
abbrev cS(s:SysD):List D:=[dI s.n,Zsm s.r]
abbrev encS(s:SysD):D:=.agg (cS s)
def smF(f:Zaf):Prop:=(szF f:Int)≤4194304
def smT(l:List Zag):Prop:=(l.length:Int)≤4096∧∀ t∈l,smF t.f
def smFs(l:List Zaf):Prop:=(l.length:Int)≤4096∧∀ f∈l,smF f
def smW(w:RowD):Prop:=smT w.t∧smF w.v
def smS(s:SysD):Prop:=(s.r.length:Int)≤4096∧∀ w∈s.r,smW w
theorem Zoy{l:List Zag}(h:smT l):(l.length:Int)≤4096:=h.1
theorem Zf4{l:List Zaf}(h:smFs l):(l.length:Int)≤4096:=h.1
theorem Zoz{s:SysD}(h:smS s):(s.r.length:Int)≤4096:=h.1
def goR(n:Int):Int→List Zag→Bool
 | _,[]=>true
 | last,t ::l=>decide (last<t.v)&&decide (t.v<n)&&(sgnD t.f !=0)&&goR n t.v l
def Zai(l:List Zag)(n:Int):Bool:=decide (0≤n)&&goR n (-1) l
def Zpc(l:List Zag)(k:Nat):Int:=match k with
 | 0=> -1
 | k+1=>match l[k]? with
   | some t=>t.v
   | none=> -1
theorem Zlb{l:List Zag}{k:Nat}{t:Zag}(h:l[k]? =some t):Zpc l (k+1)=t.v:=by simp[Zpc,h]
theorem Zkh{n:Int}:∀ (l m:List Zag)(last:Int),goR n last (l++m)=(goR n last l&&goR n ((l.getLast?.map (·.v)).getD last) m)
 | [],m,last=>by simp[goR]
 | t ::l,m,last=>by
   rw[Yc9,goR,goR,Zkh l m t.v]
   have:((t ::l).getLast?.map (·.v)).getD last=(l.getLast?.map (·.v)).getD t.v:=by
    cases l with
    | nil=>rfl
    | cons u l=>rw[List.getLast?_cons_cons];rw[List.getLast?_eq_some_getLast (by simp:(u ::l)≠[])];rfl
   rw[this]
   simp only[Bool.and_assoc]
theorem Zsb{l:List Zag}{k:Nat}(hk:k≤l.length):((l.take k).getLast?.map (·.v)).getD (-1)=Zpc l k:=by
 cases k with
 | zero=>rfl
 | succ k =>
   obtain⟨t,hx⟩:=getE (l:=l) (k:=k) (by omega)
   rw[Zlb hx,Yb4,hx]
   simp
theorem Zw4{n:Int}{l:List Zag}{k:Nat}{t:Zag}(hx:l[k]? =some t):goR n (-1) (l.take (k+1))=(goR n (-1) (l.take k)&&(decide (Zpc l k<t.v)&&decide (t.v<n)&&(sgnD t.f !=0))):=by
 have hk:k<l.length:=(Ya3.1 hx).1
 rw[Yb4,hx,Option.toList_some,Zkh,Zsb (Nat.le_of_lt hk)]
 simp[goR]
theorem Zme{n:Int}{l:List Zag}{k:Nat}(h:goR n (-1) (l.take k)=false):goR n (-1) l=false:=by
 have:=Zkh (n:=n) (l.take k) (l.drop k) (-1)
 rw[List.take_append_drop,h]at this
 simpa using this
theorem ZaJ{α:Type}{l:List α}{k:Nat}{x:α}(h:l[k]? =some x):x∈l:=Ya7 h
theorem ZgH{f:Zaf}(h:smF f):(szF f:Int)≤549755813888:=by unfold smF at h;omega
theorem Zfa(l:List Zag)(n:Int)(hs:smT l):Zaa Tryz.prog 89 [Zbr l,dI n] (dB (Zai l n)):=by
 refine Zae.toN ?_ rfl
 refine inC Tryz.func89 rfl Tryz.ntmps89 ?_
 have Zr:=Tryz.results89
 have hl:=Zoy hs
 by_cases hn:n<0
 ·refine aGo (cj2 Zr hn) ?_
  repeat with_reducible intro K hK
  exact Zaj (by simp[Zai];omega)
 refine aGo (cj2 Zr hn) ?_
 repeat with_reducible intro K hK
 refine ZaH (fun(k:Nat)=>[(0,Zbr l),(1,dI n),(5,dI (Zpc l k)),(10,Zbr l),(11,dI l.length),(12,dI k)]) (fun _=>[]) 0 0 (fun k=>k≤l.length∧goR n (-1) (l.take k)=true) (fun k=>l.length-k) 0 ⟨by omega,rfl⟩ ?_ ?_
 ·refine Zb1 _ _ _ ?_ ?_ ?_ ?_ ?_ (.inl rfl)<;>simp[go_sem,okD,okDs,Zb8,Zpc]<;>(first|(intros;subst_vars;simp[okD,okDs];done)|(intro _ h;rcases h with⟨_,_,rfl⟩|rfl<;>simp[okD,okDs];done)|(intros;rename_i h;rcases h with⟨_,_,rfl⟩|rfl<;>simp[okD,okDs]))
 ·rintro k ⟨hk,hg⟩
  obtain⟨hw,h0⟩:=ZaS k
  by_cases h1:(k:Int)<l.length
  ·obtain⟨t,hx⟩:=getE (l:=l) (k:=k) (by omega)
   have hc:=ZdT t.f (ZgH (hs.2 t (ZaJ hx)))
   have hstep:=Zw4 (n:=n) hx
   rw[hg,Bool.true_and]at hstep
   have hla:=Zlb hx
   by_cases h2:t.v≤Zpc l k
   ·refine aGo (cj4 Zr h0 h1 (cj2 hx h2)) ?_
    repeat with_reducible intro K hK
    refine Zaj (Eq.symm ?_)
    have:goR n (-1) (l.take (k+1))=false:=by rw[hstep];simp;omega
    simp[Zai,Zme this]
   by_cases h3:t.v≥n
   ·refine aGo (cj4 Zr h0 h1 (cj3 hx h2 h3)) ?_
    repeat with_reducible intro K hK
    refine Zaj (Eq.symm ?_)
    have:goR n (-1) (l.take (k+1))=false:=by rw[hstep];simp;omega
    simp[Zai,Zme this]
   cases h4:sgnD t.f==0
   ·refine aGo (cj4 Zr h0 h1 (cj4 hx h2 h3 (cj2 h4 hw))) ?_
    repeat with_reducible intro K hK
    refine Zah (k+1) ⟨by omega,?_⟩ (by omega) (by exact leGo hla)
    rw[hstep]
    simp at h4
    simp[h4];omega
   ·refine aGo (cj4 Zr h0 h1 (cj4 hx h2 h3 (cj2 h4 hw))) ?_
    repeat with_reducible intro K hK
    refine Zaj (Eq.symm ?_)
    have:goR n (-1) (l.take (k+1))=false:=by rw[hstep];simp at h4;simp[h4]
    simp[Zai,Zme this]
  ·refine aGo (cj2 Zr h1) ?_
   repeat with_reducible intro K hK
   rw[Ya8 (by omega)]at hg
   exact Zaj (by simp[Zai,hg];omega)
set_option linter.constructorNameAsVariable false
section
variable {n:Nat} {x:List D}
theorem ZbV(h:ZcL Tryz.prog (n+1) 3 x):∃ a,x=[dI a]:=by
 unfold ZcL at h
 simp only[Tryz.underlying3]at h
 obtain⟨a,rfl,_⟩:=h
 exact⟨a,rfl⟩
end
structure ZcX where
 s:Int
 f:Int
 u:Int
 g:Int
 p:Int
 d:Int
structure RecD where
 s:Int
 d:Int
abbrev cC(c:ZcX):List D:=[dI c.s,dI c.f,dI c.u,dI c.g,dI c.p,dI c.d]
abbrev encC(c:ZcX):D:=.agg (cC c)
abbrev Zih(l:List ZcX):D:=.sl (l.map cC)
abbrev cRe(r:RecD):List D:=[dI r.s,dI r.d]
abbrev encRe(r:RecD):D:=.agg (cRe r)
abbrev Zfr(l:List RecD):D:=.sl (l.map cRe)
def inB(n lo hi:Int):Bool:=decide (lo≤n)&&decide (n≤hi)
def ZeB(c:ZcX):Bool:=decide (0≤c.f)&&decide (c.f≤c.u)&&decide (c.u≤100000)&&inB c.s 0 29&&inB c.g 0 1099511627776&&inB c.p 0 1000&&inB c.d 0 10000000
def ZdZ(c:ZcX)(day:Int):Bool:=ZeB c&&decide (c.f≤day)&&decide (day≤c.u)
theorem ZrM{c:ZcX}:ZeB c=true↔0≤c.f∧c.f≤c.u∧c.u≤100000∧(0≤c.s∧c.s≤29)∧(0≤c.g∧c.g≤1099511627776)∧(0≤c.p∧c.p≤1000)∧(0≤c.d∧c.d≤10000000):=by
 simp[ZeB,inB,and_assoc]
theorem ZaI(n m:Int):Zaa Tryz.prog 201 [dI n,dI m] (dB (inB n 0 m)):=by
 refine Zae.toN ?_ rfl
 refine inC Tryz.func201 rfl Tryz.ntmps201 ?_
 have Zr:=Tryz.results201
 by_cases h1:n≥0
 rotate_left
 ·refine aGo (cj2 Zr h1) ?_
  repeat with_reducible intro K hK
  exact Zaj (by simp[inB,h1])
 by_cases h2:n≤m
 rotate_left
 ·refine aGo (cj3 Zr h1 h2) ?_
  repeat with_reducible intro K hK
  exact Zaj (by simp[inB,h1,h2])
 refine aGo (cj3 Zr h1 h2) ?_
 repeat with_reducible intro K hK
 exact Zaj (by simp[inB,h1,h2])
theorem Zi0(c:ZcX):Zaa Tryz.prog 209 [encC c] (dB (ZeB c)):=by
 refine Zae.toN ?_ rfl
 refine inC Tryz.func209 rfl Tryz.ntmps209 ?_
 have Zr:=Tryz.results209
 by_cases h1:0≤c.f
 rotate_left
 ·repeat(first
   | (refine hK _ ?_;clear hK;clear K)
   | (refine aSeq fun K hK=>?_)
   | (refine Zee ?_)
   | (refine ZhQ ?_)
   | (refine ZhT ?_)
   | (refine aRet ?_)
   | (refine aOps _ rfl (by kernel_rfl) ?_)
   | (refine ZhR _ rfl mixed (by kernel_rfl) (by kernel_rfl) fun KE hE=>?_)
   | (refine hE _ _ (by kernel_rfl) (Zaz rfl) ?_;clear hE;clear KE)
   | (refine hE _ _ (by kernel_rfl) (Zb0 ?hi ?hj) ?_;(case hi=>(repeat(refine Zap rfl ?_));exact Zas);(case hj=>simp);clear hE;clear KE)
   | (refine Zec rfl ?hc ?_;case hc=>simp only[go_sem,↓reduceIte,Zr,h1])
   | (refine Zed rfl ?hc ?_;case hc=>simp only[go_sem,↓reduceIte,Zr,h1])
   | (refine ZcU (ZaI _ _) ?_ ?_;rotate_left;(repeat(refine Zap rfl ?_));exact Zas)
   | (refine ZbH (ZaI _ _) ?_)
   | (refine Zdf (ZaI _ _) rfl ?_)
   | (refine ZbY (ZaI _ _) rfl ?_)
   | (simp only[go_sem,↓reduceIte,Zr,h1])
   | (refine And.intro ?ho ?_;(case ho=>omega))
   | (clear hK;clear K))
  exact Zaj (by simp[ZeB,h1])
 by_cases h2:c.f≤c.u
 rotate_left
 ·repeat(first
   | (refine hK _ ?_;clear hK;clear K)
   | (refine aSeq fun K hK=>?_)
   | (refine Zee ?_)
   | (refine ZhQ ?_)
   | (refine ZhT ?_)
   | (refine aRet ?_)
   | (refine aOps _ rfl (by kernel_rfl) ?_)
   | (refine ZhR _ rfl mixed (by kernel_rfl) (by kernel_rfl) fun KE hE=>?_)
   | (refine hE _ _ (by kernel_rfl) (Zaz rfl) ?_;clear hE;clear KE)
   | (refine hE _ _ (by kernel_rfl) (Zb0 ?hi ?hj) ?_;(case hi=>(repeat(refine Zap rfl ?_));exact Zas);(case hj=>simp);clear hE;clear KE)
   | (refine Zec rfl ?hc ?_;case hc=>simp only[go_sem,↓reduceIte,Zr,h1,h2])
   | (refine Zed rfl ?hc ?_;case hc=>simp only[go_sem,↓reduceIte,Zr,h1,h2])
   | (refine ZcU (ZaI _ _) ?_ ?_;rotate_left;(repeat(refine Zap rfl ?_));exact Zas)
   | (refine ZbH (ZaI _ _) ?_)
   | (refine Zdf (ZaI _ _) rfl ?_)
   | (refine ZbY (ZaI _ _) rfl ?_)
   | (simp only[go_sem,↓reduceIte,Zr,h1,h2])
   | (refine And.intro ?ho ?_;(case ho=>omega))
   | (clear hK;clear K))
  exact Zaj (by simp[ZeB,h1,h2])
 by_cases h3:c.u≤100000
 rotate_left
 ·repeat(first
   | (refine hK _ ?_;clear hK;clear K)
   | (refine aSeq fun K hK=>?_)
   | (refine Zee ?_)
   | (refine ZhQ ?_)
   | (refine ZhT ?_)
   | (refine aRet ?_)
   | (refine aOps _ rfl (by kernel_rfl) ?_)
   | (refine ZhR _ rfl mixed (by kernel_rfl) (by kernel_rfl) fun KE hE=>?_)
   | (refine hE _ _ (by kernel_rfl) (Zaz rfl) ?_;clear hE;clear KE)
   | (refine hE _ _ (by kernel_rfl) (Zb0 ?hi ?hj) ?_;(case hi=>(repeat(refine Zap rfl ?_));exact Zas);(case hj=>simp);clear hE;clear KE)
   | (refine Zec rfl ?hc ?_;case hc=>simp only[go_sem,↓reduceIte,Zr,h1,h2,h3])
   | (refine Zed rfl ?hc ?_;case hc=>simp only[go_sem,↓reduceIte,Zr,h1,h2,h3])
   | (refine ZcU (ZaI _ _) ?_ ?_;rotate_left;(repeat(refine Zap rfl ?_));exact Zas)
   | (refine ZbH (ZaI _ _) ?_)
   | (refine Zdf (ZaI _ _) rfl ?_)
   | (refine ZbY (ZaI _ _) rfl ?_)
   | (simp only[go_sem,↓reduceIte,Zr,h1,h2,h3])
   | (refine And.intro ?ho ?_;(case ho=>omega))
   | (clear hK;clear K))
  exact Zaj (by simp[ZeB,h1,h2,h3])
 by_cases h4:inB c.s 0 29=true
 rotate_left
 ·repeat(first
   | (refine hK _ ?_;clear hK;clear K)
   | (refine aSeq fun K hK=>?_)
   | (refine Zee ?_)
   | (refine ZhQ ?_)
   | (refine ZhT ?_)
   | (refine aRet ?_)
   | (refine aOps _ rfl (by kernel_rfl) ?_)
   | (refine ZhR _ rfl mixed (by kernel_rfl) (by kernel_rfl) fun KE hE=>?_)
   | (refine hE _ _ (by kernel_rfl) (Zaz rfl) ?_;clear hE;clear KE)
   | (refine hE _ _ (by kernel_rfl) (Zb0 ?hi ?hj) ?_;(case hi=>(repeat(refine Zap rfl ?_));exact Zas);(case hj=>simp);clear hE;clear KE)
   | (refine Zec rfl ?hc ?_;case hc=>simp only[go_sem,↓reduceIte,Zr,h1,h2,h3,h4])
   | (refine Zed rfl ?hc ?_;case hc=>simp only[go_sem,↓reduceIte,Zr,h1,h2,h3,h4])
   | (refine ZcU (ZaI _ _) ?_ ?_;rotate_left;(repeat(refine Zap rfl ?_));exact Zas)
   | (refine ZbH (ZaI _ _) ?_)
   | (refine Zdf (ZaI _ _) rfl ?_)
   | (refine ZbY (ZaI _ _) rfl ?_)
   | (simp only[go_sem,↓reduceIte,Zr,h1,h2,h3,h4])
   | (refine And.intro ?ho ?_;(case ho=>omega))
   | (clear hK;clear K))
  exact Zaj (by simp[ZeB,h1,h2,h3,h4])
 by_cases h5:inB c.g 0 1099511627776=true
 rotate_left
 ·repeat(first
   | (refine hK _ ?_;clear hK;clear K)
   | (refine aSeq fun K hK=>?_)
   | (refine Zee ?_)
   | (refine ZhQ ?_)
   | (refine ZhT ?_)
   | (refine aRet ?_)
   | (refine aOps _ rfl (by kernel_rfl) ?_)
   | (refine ZhR _ rfl mixed (by kernel_rfl) (by kernel_rfl) fun KE hE=>?_)
   | (refine hE _ _ (by kernel_rfl) (Zaz rfl) ?_;clear hE;clear KE)
   | (refine hE _ _ (by kernel_rfl) (Zb0 ?hi ?hj) ?_;(case hi=>(repeat(refine Zap rfl ?_));exact Zas);(case hj=>simp);clear hE;clear KE)
   | (refine Zec rfl ?hc ?_;case hc=>simp only[go_sem,↓reduceIte,Zr,h1,h2,h3,h4,h5])
   | (refine Zed rfl ?hc ?_;case hc=>simp only[go_sem,↓reduceIte,Zr,h1,h2,h3,h4,h5])
   | (refine ZcU (ZaI _ _) ?_ ?_;rotate_left;(repeat(refine Zap rfl ?_));exact Zas)
   | (refine ZbH (ZaI _ _) ?_)
   | (refine Zdf (ZaI _ _) rfl ?_)
   | (refine ZbY (ZaI _ _) rfl ?_)
   | (simp only[go_sem,↓reduceIte,Zr,h1,h2,h3,h4,h5])
   | (refine And.intro ?ho ?_;(case ho=>omega))
   | (clear hK;clear K))
  exact Zaj (by simp[ZeB,h1,h2,h3,h4,h5])
 by_cases h6:inB c.p 0 1000=true
 rotate_left
 ·repeat(first
   | (refine hK _ ?_;clear hK;clear K)
   | (refine aSeq fun K hK=>?_)
   | (refine Zee ?_)
   | (refine ZhQ ?_)
   | (refine ZhT ?_)
   | (refine aRet ?_)
   | (refine aOps _ rfl (by kernel_rfl) ?_)
   | (refine ZhR _ rfl mixed (by kernel_rfl) (by kernel_rfl) fun KE hE=>?_)
   | (refine hE _ _ (by kernel_rfl) (Zaz rfl) ?_;clear hE;clear KE)
   | (refine hE _ _ (by kernel_rfl) (Zb0 ?hi ?hj) ?_;(case hi=>(repeat(refine Zap rfl ?_));exact Zas);(case hj=>simp);clear hE;clear KE)
   | (refine Zec rfl ?hc ?_;case hc=>simp only[go_sem,↓reduceIte,Zr,h1,h2,h3,h4,h5,h6])
   | (refine Zed rfl ?hc ?_;case hc=>simp only[go_sem,↓reduceIte,Zr,h1,h2,h3,h4,h5,h6])
   | (refine ZcU (ZaI _ _) ?_ ?_;rotate_left;(repeat(refine Zap rfl ?_));exact Zas)
   | (refine ZbH (ZaI _ _) ?_)
   | (refine Zdf (ZaI _ _) rfl ?_)
   | (refine ZbY (ZaI _ _) rfl ?_)
   | (simp only[go_sem,↓reduceIte,Zr,h1,h2,h3,h4,h5,h6])
   | (refine And.intro ?ho ?_;(case ho=>omega))
   | (clear hK;clear K))
  exact Zaj (by simp[ZeB,h1,h2,h3,h4,h5,h6])
 by_cases h7:inB c.d 0 10000000=true
 rotate_left
 ·repeat(first
   | (refine hK _ ?_;clear hK;clear K)
   | (refine aSeq fun K hK=>?_)
   | (refine Zee ?_)
   | (refine ZhQ ?_)
   | (refine ZhT ?_)
   | (refine aRet ?_)
   | (refine aOps _ rfl (by kernel_rfl) ?_)
   | (refine ZhR _ rfl mixed (by kernel_rfl) (by kernel_rfl) fun KE hE=>?_)
   | (refine hE _ _ (by kernel_rfl) (Zaz rfl) ?_;clear hE;clear KE)
   | (refine hE _ _ (by kernel_rfl) (Zb0 ?hi ?hj) ?_;(case hi=>(repeat(refine Zap rfl ?_));exact Zas);(case hj=>simp);clear hE;clear KE)
   | (refine Zec rfl ?hc ?_;case hc=>simp only[go_sem,↓reduceIte,Zr,h1,h2,h3,h4,h5,h6,h7])
   | (refine Zed rfl ?hc ?_;case hc=>simp only[go_sem,↓reduceIte,Zr,h1,h2,h3,h4,h5,h6,h7])
   | (refine ZcU (ZaI _ _) ?_ ?_;rotate_left;(repeat(refine Zap rfl ?_));exact Zas)
   | (refine ZbH (ZaI _ _) ?_)
   | (refine Zdf (ZaI _ _) rfl ?_)
   | (refine ZbY (ZaI _ _) rfl ?_)
   | (simp only[go_sem,↓reduceIte,Zr,h1,h2,h3,h4,h5,h6,h7])
   | (refine And.intro ?ho ?_;(case ho=>omega))
   | (clear hK;clear K))
  exact Zaj (by simp[ZeB,h1,h2,h3,h4,h5,h6,h7])
 repeat (first
     | (refine hK _ ?_;clear hK;clear K)
     | (refine aSeq fun K hK=>?_)
     | (refine Zee ?_)
     | (refine ZhQ ?_)
     | (refine ZhT ?_)
     | (refine aRet ?_)
     | (refine aOps _ rfl (by kernel_rfl) ?_)
     | (refine ZhR _ rfl mixed (by kernel_rfl) (by kernel_rfl) fun KE hE=>?_)
     | (refine hE _ _ (by kernel_rfl) (Zaz rfl) ?_;clear hE;clear KE)
     | (refine hE _ _ (by kernel_rfl) (Zb0 ?hi ?hj) ?_;(case hi=>(repeat(refine Zap rfl ?_));exact Zas);(case hj=>simp);clear hE;clear KE)
     | (refine Zec rfl ?hc ?_;case hc=>simp only[go_sem,↓reduceIte,Zr,h1,h2,h3,h4,h5,h6,h7])
     | (refine Zed rfl ?hc ?_;case hc=>simp only[go_sem,↓reduceIte,Zr,h1,h2,h3,h4,h5,h6,h7])
     | (refine ZcU (ZaI _ _) ?_ ?_;rotate_left;(repeat(refine Zap rfl ?_));exact Zas)
     | (refine ZbH (ZaI _ _) ?_)
     | (refine Zdf (ZaI _ _) rfl ?_)
     | (refine ZbY (ZaI _ _) rfl ?_)
     | (simp only[go_sem,↓reduceIte,Zr,h1,h2,h3,h4,h5,h6,h7])
     | (refine And.intro ?ho ?_;(case ho=>omega))
     | (clear hK;clear K))
 exact Zaj (by simp[ZeB,h1,h2,h3,h4,h5,h6,h7])
theorem Zq2(c:ZcX)(day:Int):Zaa Tryz.prog 198 [encC c,dI day] (dB (ZdZ c day)):=by
 refine Zae.toN ?_ rfl
 refine inC Tryz.func198 rfl Tryz.ntmps198 ?_
 have Zr:=Tryz.results198
 by_cases h1:ZeB c=true
 rotate_left
 ·have hq0:=Zi0 c
  refine aGo (cj2 Zr h1) ?_
  repeat with_reducible intro K hK
  exact Zaj (by simp[ZdZ,h1])
 by_cases h2:c.f≤day
 rotate_left
 ·have hq0:=Zi0 c
  refine aGo (cj3 Zr h1 h2) ?_
  repeat with_reducible intro K hK
  exact Zaj (by simp[ZdZ,h1,h2])
 by_cases h3:day≤c.u
 rotate_left
 ·have hq0:=Zi0 c
  refine aGo (cj4 Zr h1 h2 h3) ?_
  repeat with_reducible intro K hK
  exact Zaj (by simp[ZdZ,h1,h2,h3])
 have hq0:=Zi0 c
 refine aGo (cj4 Zr h1 h2 h3) ?_
 repeat with_reducible intro K hK
 exact Zaj (by simp[ZdZ,h1,h2,h3])
def ownC(c:ZcX)(s day:Int):Bool:=c.s==s&&ZdZ c day
def ZmH(l:List ZcX)(o:Option Nat)(c:ZcX):Bool:=match o with
 | none=>true
 | some b=>match l[b]? with
   | some x=>decide (c.f≥x.f)
   | none=>true
def ZeQ(l:List ZcX)(s day:Int):Nat→Option Nat
 | 0=>none
 | k+1=>match l[k]? with
   | none=>ZeQ l s day k
   | some c=>if ownC c s day&&ZmH l (ZeQ l s day k) c then some k else ZeQ l s day k
def ZnO(l:List ZcX)(s day:Int):Option Nat:=ZeQ l s day l.length
section
variable {l:List ZcX} {s day:Int} {k b:Nat} {c x:ZcX}
theorem ZnM(hx:l[k]? =some c)(h:ownC c s day=false):ZeQ l s day (k+1)=ZeQ l s day k:=by simp[ZeQ,hx,h]
theorem Zlm(hx:l[k]? =some c)(h:ownC c s day=true)(ht:ZmH l (ZeQ l s day k) c=true):ZeQ l s day (k+1)=some k:=by simp[ZeQ,hx,h,ht]
theorem Zsh(hx:l[k]? =some c)(ht:ZmH l (ZeQ l s day k) c=false):ZeQ l s day (k+1)=ZeQ l s day k:=by simp[ZeQ,hx,ht]
theorem ZqN(k:Nat):∀ b,ZeQ l s day k=some b→b<k∧∃ c,l[b]? =some c∧ownC c s day=true:=by
 induction k with
 | zero=>intro b h;cases h
 | succ k ih =>
   intro b h
   unfold ZeQ at h
   split at h
   ·have:=ih b h;exact⟨by omega,this.2⟩
   ·next c hc =>
    split at h
    ·next hb =>
     cases h
     simp only[Ya2]at hb
     exact⟨by omega,c,hc,hb.1⟩
    ·have:=ih b h;exact⟨by omega,this.2⟩
end
theorem ZBx(l:List ZcX)(s day:Int)(hl:(l.length:Int)≤1099511627776):Zaa Tryz.prog 178 [Zih l,dI s,dI day] (.tup [dI ((ZnO l s day).getD 0),dB (ZnO l s day).isSome]):=by
 refine Zae.toN ?_ rfl
 refine inC Tryz.func178 rfl Tryz.ntmps178 ?_
 have Zr:=Tryz.results178
 refine aGo Zr ?_
 repeat with_reducible intro K hK
 refine ZaH (fun(k:Nat)=>[(0,Zih l),(1,dI s),(2,dI day),(8,dI ((ZeQ l s day k).getD 0)),(9,dB (ZeQ l s day k).isSome),(12,Zih l),(13,dI l.length),(14,dI k)]) (fun _=>[]) 0 0 (fun k=>k≤l.length) (fun k=>l.length-k) 0 (by omega) ?_ ?_
 ·refine Zb1 _ _ _ ?_ ?_ ?_ ?_ ?_ (.inl rfl)<;>simp[go_sem,okD,okDs,Zb8,ZeQ]<;>(first|(intros;subst_vars;simp[okD,okDs];done)|(intro _ h;rcases h with⟨_,_,rfl⟩|rfl<;>simp[okD,okDs];done)|(intros;rename_i h;rcases h with⟨_,_,rfl⟩|rfl<;>simp[okD,okDs]))
 ·rintro k hk
  obtain⟨hw,h0⟩:=ZaS k
  by_cases h1:(k:Int)<l.length
  ·obtain⟨c,hx⟩:=getE (l:=l) (k:=k) (by omega)
   have hcv:=Zq2 c day
   cases h2:c.s==s
   ·have hn:=ZnM (day:=day) hx (s:=s) (by simp[ownC,h2])
    refine aGo (cj4 Zr h0 h1 (cj3 hx h2 hw)) ?_
    repeat with_reducible intro K hK
    exact Zah (k+1) (by omega) (by omega) (by exact leGo hn)
   cases h3:ZdZ c day
   ·have hn:=ZnM hx (s:=s) (day:=day) (by simp[ownC,h3])
    rw[h3]at hcv
    refine aGo (cj4 Zr h0 h1 (cj3 hx h2 hw)) ?_
    repeat with_reducible intro K hK
    exact Zah (k+1) (by omega) (by omega) (by exact leGo hn)
   rw[h3]at hcv
   have ho:ownC c s day=true:=by simp[ownC,h2,h3]
   cases h4:ZeQ l s day k with
   | none =>
     have hn:=Zlm hx ho (by rw[h4];rfl)
     refine aGo (cj4 Zr h0 h1 (cj4 hx h2 hw h4)) ?_
     repeat with_reducible intro K hK
     exact Zah (k+1) (by omega) (by omega) (by exact leGo hn)
   | some b =>
     obtain⟨hb,x,hy,_⟩:=ZqN k b h4
     have h5:(0:Int)≤b:=by omega
     have h6:(b:Int)<l.length:=by omega
     by_cases h7:c.f≥x.f
     ·have hn:=Zlm hx ho (by simp[h4,ZmH,hy,h7])
      refine aGo (cj4 Zr h0 h1 (cj4 hx h2 hw (cj4 h4 h5 h6 (cj2 h7 hy)))) ?_
      repeat with_reducible intro K hK
      exact Zah (k+1) (by omega) (by omega) (by exact leGo hn)
     ·have hn:=Zsh (s:=s) (day:=day) hx (by simp[h4,ZmH,hy];omega)
      refine aGo (cj4 Zr h0 h1 (cj4 hx h2 hw (cj4 h4 h5 h6 (cj2 h7 hy)))) ?_
      repeat with_reducible intro K hK
      exact Zah (k+1) (by omega) (by omega) (by exact leGo (cj2 hn h4))
  ·have e:k=l.length:=by omega
   subst e
   refine aGo (cj2 Zr h1) ?_
   repeat with_reducible intro K hK
   rfl
def hitR(s day:Int)(r:RecD):Bool:=r.s==s&&decide (r.d≤day)
def recC(l:List RecD)(s day:Int):Bool:=l.any (hitR s day)
theorem Zmx{α:Type}{p:α→Bool}{l:List α}{k:Nat}{x:α}(hx:l[k]? =some x)(h:(l.take k).any p=false)(hp:p x=false):(l.take (k+1)).any p=false:=by
 rw[Yb4,hx];simp[List.any_append,h,hp]
theorem ZBL{α:Type}{p:α→Bool}{l:List α}{k:Nat}{x:α}(hx:l[k]? =some x)(hp:p x=true):l.any p=true :=
 List.any_eq_true.2 ⟨x,Ya7 hx,hp⟩
abbrev cloR(s day:Int):D:=.clo 200 [.ep [[dI s]] 0 0,.ep [[dI day]] 0 0]
theorem hit_c(r:RecD)(s day:Int):Zaa Tryz.prog 200 [encRe r,.ep [[dI s]] 0 0,.ep [[dI day]] 0 0] (dB (hitR s day r)):=by
 refine Zae.toN ?_ rfl
 refine inC Tryz.func200 rfl Tryz.ntmps200 ?_
 have Zr:=Tryz.results200
 cases h2:r.s==s
 ·refine aGo (cj2 Zr h2) ?_
  repeat with_reducible intro K hK
  exact Zaj (by simp[hitR,h2])
 by_cases h3:r.d≤day
 ·refine aGo (cj3 Zr h2 h3) ?_
  repeat with_reducible intro K hK
  exact Zaj (by simp[hitR,h2,h3])
 ·refine aGo (cj3 Zr h2 h3) ?_
  repeat with_reducible intro K hK
  exact Zaj (by simp[hitR,h2,h3])
theorem Zsi{α:Type}{p:α→Bool}{l:List α}{k:Nat}{x:α}(hx:l[k]? =some x)(h:(l.take k).any p=false)(hp:p x=true):l.findIdx p=k:=by
 obtain⟨hk,rfl⟩:=Ya3.1 hx
 refine(List.findIdx_eq hk).2 ⟨hp,fun j hj=>?_⟩
 rw[List.any_eq_false]at h
 have:=h l[j] (List.mem_take_iff_getElem.2 ⟨j,by omega,rfl⟩)
 simpa using this
def idxI{α:Type}(p:α→Bool)(l:List α):Int:=if l.any p then l.findIdx p else -1
theorem ZzE{α:Type}{p:α→Bool}{l:List α}{k:Nat}{x:α}(hx:l[k]? =some x)(h:(l.take k).any p=false)(hp:p x=true):idxI p l=k:=by
 unfold idxI;rw[ZBL hx hp,Zsi hx h hp];rfl
theorem ZzC{α:Type}{p:α→Bool}{l:List α}(h:l.any p=false):idxI p l = -1:=by unfold idxI;rw[h];rfl
theorem ZzD{α:Type}(p:α→Bool)(l:List α):decide (idxI p l≥0)=l.any p:=by
 unfold idxI
 cases l.any p
 ·rfl
 ·simp only[if_true];exact decide_eq_true (by omega)
theorem ZzA(l:List RecD)(s day:Int)(hl:(l.length:Int)≤1099511627776):Zaa Tryz.prog 210 [Zfr l,cloR s day] (dI (idxI (hitR s day) l)):=by
 refine Zae.toN ?_ rfl
 refine inC Tryz.func210 rfl Tryz.ntmps210 ?_
 have Zr:=Tryz.results210
 refine aGo Zr ?_
 repeat with_reducible intro K hK
 refine ZaH (fun(k:Nat)=>[(0,Zfr l),(1,cloR s day),(7,dI l.length),(8,dI k)]) (fun _=>[]) 0 0 (fun k=>k≤l.length∧(l.take k).any (hitR s day)=false) (fun k=>l.length-k) 0 ⟨by omega,rfl⟩ ?_ ?_
 ·exact leGo trivial
 ·rintro k ⟨hk,hn⟩
  obtain⟨hw,h0⟩:=ZaS k
  by_cases h1:(k:Int)<l.length
  ·obtain⟨r,hx⟩:=getE (l:=l) (k:=k) (by omega)
   have hc:=hit_c r s day
   cases h2:hitR s day r
   ·rw[h2]at hc
    refine aGo (cj4 Zr h0 h1 (cj2 hx hw)) ?_
    repeat with_reducible intro K hK
    exact Zah (k+1) ⟨by omega,Zmx hx hn h2⟩ (by omega) (by exact leGo trivial)
   ·rw[h2]at hc
    refine aGo (cj4 Zr h0 h1 (cj2 hx hw)) ?_
    repeat with_reducible intro K hK
    exact Zkb (ZzE hx hn h2).symm
  ·refine aGo (cj2 Zr h1) ?_
   repeat with_reducible intro K hK
   rw[Ya8 (by omega)]at hn
   exact Zkb (ZzC hn).symm
theorem Zss(l:List RecD)(s day:Int)(hl:(l.length:Int)≤1099511627776):Zaa Tryz.prog 199 [Zfr l,cloR s day] (dB (recC l s day)):=by
 refine Zae.toN ?_ rfl
 refine inC Tryz.func199 rfl Tryz.ntmps199 ?_
 have Zr:=Tryz.results199
 have hc:=ZzA l s day hl
 refine aGo Zr ?_
 repeat with_reducible intro K hK
 exact Zaj (ZzD _ _)
theorem ZrS(l:List RecD)(s day:Int)(hl:(l.length:Int)≤1099511627776):Zaa Tryz.prog 179 [Zfr l,dI s,dI day] (dB (recC l s day)):=by
 refine Zae.toN ?_ rfl
 refine inC Tryz.func179 rfl Tryz.ntmps179 ?_
 have Zr:=Tryz.results179
 have hc:=Zss l s day hl
 exact aGo Zr trivial
def errQ(c:ZcX)(reading day:Int):Rat:=Rat.divInt (c.p*reading) 1000+((c.g+c.d*(day-c.f):Int):Rat)
def ZhE(c:ZcX)(reading day:Int):Bool:=ZdZ c day&&inB reading 0 1099511627776
def errD(c:ZcX)(reading day:Int):Zaf×Bool:=if ZhE c reading day then(ofQ (errQ c reading day),true)else(zF,false)
theorem ZpF{f:Zaf×Bool}{b:Bool}(h:f=(zF,b)):D.tup [encF zF,dB b]=D.tup [encF f.1,dB f.2]:=by rw[h]
theorem ZsS{f:Zaf×Bool}{q:Rat}{b:Bool}(h:f=(ofQ q,b)):D.tup [encF (ofQ q),dB b]=D.tup [encF f.1,dB f.2]:=by rw[h]
theorem ZzB{n a b:Int}:inB n a b=true↔a≤n∧n≤b:=by simp[inB]
theorem Zuc{a b A B:Int}(h1:0≤a)(h2:a≤A)(h3:0≤b)(h4:b≤B):0≤a*b∧a*b≤A*B :=
 ⟨Int.mul_nonneg h1 h3,Int.le_trans (Int.mul_le_mul_of_nonneg_right h2 h3) (Yd1 h4 (Int.le_trans h1 h2))⟩
theorem Zgj{c:ZcX}{reading day:Int}(h:ZhE c reading day=true):(0≤c.p*reading∧c.p*reading≤1099511627776000)∧(0≤day-c.f∧day-c.f≤100000)∧(0≤c.d*(day-c.f)∧c.d*(day-c.f)≤1000000000000)∧(0≤c.g∧c.g≤1099511627776)∧(0≤reading∧reading≤1099511627776):=by
 simp only[ZhE,ZdZ,Ya2,ZrM,ZzB,decide_eq_true_eq]at h
 obtain⟨⟨⟨⟨f0,f1,f2,s1,g1,p1,d1⟩,h1⟩,h2⟩,h3,h4⟩:=h
 have hd:0≤day-c.f∧day-c.f≤100000:=by omega
 exact⟨Zuc p1.1 p1.2 h3 h4,hd,Zuc d1.1 d1.2 hd.1 hd.2,g1,h3,h4⟩
theorem ZpK(p q:Int)(hq:q≠0)(p1 : -9223372036854775808≤p)(p2:p≤9223372036854775807)(q1 : -9223372036854775808≤q)(q2:q≤9223372036854775807):szQ (Rat.divInt p q)≤4:=by
 have h1:=ZdF p q hq
 have h2:szZ p≤4:=Zet (by simp only[bp];omega)
 have h3:szZ q≤4:=Zet (by simp only[bp];omega)
 omega
theorem ZyF{c:ZcX}{reading day:Int}(h:ZhE c reading day=true):szQ (errQ c reading day)≤9:=by
 obtain⟨h1,h2,h3,h4,h5⟩:=Zgj h
 have e1:=ZpK (c.p*reading) 1000 (by decide) (by omega) (by omega) (by decide) (by decide)
 have e2:=Zef (c.g+c.d*(day-c.f)) (by omega) (by omega)
 have e3:=ZhY (Rat.divInt (c.p*reading) 1000) ((c.g+c.d*(day-c.f):Int):Rat)
 unfold errQ
 omega
theorem err_c(c:ZcX)(reading day:Int):Zae Tryz.prog 180 [encC c,dI reading,dI day] (.tup [encF (errD c reading day).1,dB (errD c reading day).2]):=by
 have Zr:=Tryz.results180
 have hw:=ZaI reading 1099511627776
 have hv:=Zq2 c day
 cases h1:ZdZ c day
 ·rw[h1]at hv
  refine inC Tryz.func180 rfl Tryz.ntmps180 ?_
  refine aGo Zr ?_
  repeat with_reducible intro K hK
  exact ZpF (by simp[errD,ZhE,h1])
 rw[h1]at hv
 cases h2:inB reading 0 1099511627776
 ·rw[h2]at hw
  refine inC Tryz.func180 rfl Tryz.ntmps180 ?_
  refine aGo Zr ?_
  repeat with_reducible intro K hK
  exact ZpF (by simp[errD,ZhE,h1,h2])
 rw[h2]at hw
 have hok:ZhE c reading day=true:=by simp[ZhE,h1,h2]
 obtain⟨b1,b2,b3,b4,b5⟩:=Zgj hok
 have e1:=ZpK (c.p*reading) 1000 (by decide) (by omega) (by omega) (by decide) (by decide)
 have e2:=Zef (c.g+c.d*(day-c.f)) (by omega) (by omega)
 have w1:IntKind.i64.wrap (c.p*reading)=c.p*reading:=ZaQ (by omega) (by omega)
 have w2:IntKind.i64.wrap (day-c.f)=day-c.f:=ZaQ (by omega) (by omega)
 have w3:IntKind.i64.wrap (c.d*(day-c.f))=c.d*(day-c.f):=ZaQ (by omega) (by omega)
 have w4:IntKind.i64.wrap (c.g+c.d*(day-c.f))=c.g+c.d*(day-c.f):=ZaQ (by omega) (by omega)
 have k1:=fof_c (c.p*reading) 1000 (by decide) (by omega) (by omega) (by decide) (by decide)
 have k2:=ZfP (c.g+c.d*(day-c.f)) (by omega) (by omega)
 have k3:=Znp (Rat.divInt (c.p*reading) 1000) ((c.g+c.d*(day-c.f):Int):Rat) (by omega) (by omega)
 refine inC Tryz.func180 rfl Tryz.ntmps180 ?_
 refine aGo (cj4 Zr w1 w2 (cj2 w3 w4)) ?_
 repeat with_reducible intro K hK
 exact ZsS (by simp[errD,hok,errQ])
structure IntD where
 lo:Zaf
 hi:Zaf
 ok:Bool
def noI:IntD:=⟨zF,zF,false⟩
def okI(r e:Rat):IntD:=⟨ofQ (maxQ (r-e) 0),ofQ (r+e),true⟩
def intD(cs:List ZcX)(rs:List RecD)(which reading day:Int):IntD :=
 match ZnO cs which day with
 | none=>noI
 | some b=>match cs[b]? with
   | none=>noI
   | some c=>if recC rs which day || !inB reading 0 1099511627776 then noI else okI (reading:Int) (errQ c reading day)
abbrev encI(x:IntD):D:=.tup [encF x.lo,encF x.hi,dB x.ok]
theorem Zlz{x y:IntD}(h:x=y):encI y=encI x:=by rw[h]
theorem Zln{cs:List ZcX}{s day:Int}{b:Nat}(h:ZnO cs s day=some b):b<cs.length∧∃ c,cs[b]? =some c∧ZdZ c day=true∧c.s=s:=by
 obtain⟨h1,c,h2,h3⟩:=ZqN _ b h
 simp only[ownC,Ya2,beq_iff_eq]at h3
 exact⟨h1,c,h2,h3.2,h3.1⟩
theorem Zzz(cs:List ZcX)(rs:List RecD)(which reading day:Int)(hc:(cs.length:Int)≤1099511627776)(hl:(rs.length:Int)≤1099511627776):Zae Tryz.prog 141 [Zih cs,Zfr rs,dI which,dI reading,dI day] (encI (intD cs rs which reading day)):=by
 have Zr:=Tryz.results141
 have hf:=ZBx cs which day hc
 have hr:=ZrS rs which day hl
 cases h1:ZnO cs which day with
 | none =>
   rw[h1]at hf
   refine inC Tryz.func141 rfl Tryz.ntmps141 ?_
   refine aGo Zr ?_
   repeat with_reducible intro K hK
   exact Zlz (y:=noI) (by simp[intD,h1])
 | some b =>
   rw[h1]at hf
   obtain⟨hb,c,hx,hcv,_⟩:=Zln h1
   have h5:(0:Int)≤b:=by omega
   have h6:(b:Int)<cs.length:=by omega
   cases h2:recC rs which day
   rotate_left
   ·rw[h2]at hr
    refine inC Tryz.func141 rfl Tryz.ntmps141 ?_
    refine aGo Zr ?_
    repeat with_reducible intro K hK
    exact Zlz (y:=noI) (by simp[intD,h1,hx,h2])
   rw[h2]at hr
   have he:=err_c c reading day
   cases h3:inB reading 0 1099511627776
   ·rw[show errD c reading day=(zF,false) by simp[errD,ZhE,h3]]at he
    refine inC Tryz.func141 rfl Tryz.ntmps141 ?_
    refine aGo (cj4 Zr hx h5 h6) ?_
    repeat with_reducible intro K hK
    exact Zlz (y:=noI) (by simp[intD,h1,hx,h2,h3])
   have hok:ZhE c reading day=true:=by simp[ZhE,hcv,h3]
   have hz:=ZyF hok
   obtain⟨b1,b2,b3,b4,b5⟩:=Zgj hok
   rw[show errD c reading day=(ofQ (errQ c reading day),true) by simp[errD,hok]]at he
   have hid:intD cs rs which reading day=okI reading (errQ c reading day):=by simp[intD,h1,hx,h2,h3]
   rw[hid]
   generalize errQ c reading day=e at *
   have z1:=Zef reading (by omega) (by omega)
   have z2:=ZsX (reading:Rat) e
   have z3:=Zef 0 (by decide) (by decide)
   have k1:=ZfP reading (by omega) (by omega)
   have k2:=Zx3 (reading:Rat) e (by omega) (by omega)
   have k3:=Znp (reading:Rat) e (by omega) (by omega)
   have k0:=ZfP 0 (by decide) (by decide)
   have k4:=ZBv ((reading:Rat)-e) ((0:Int):Rat) (by omega) (by omega)
   refine inC Tryz.func141 rfl Tryz.ntmps141 ?_
   refine aGo (cj4 Zr hx h5 h6) ?_
   repeat with_reducible intro K hK
   exact Zlz (y:=⟨ofQ (maxQ (reading-e) ((0:Int):Rat)),ofQ (reading+e),true⟩) rfl
theorem ZoI{f:Zaf}(h:okF f=false):sgnD f=0:=by simp[sgnD,h]
def Zct(n:Int)(w:RowD):Bool:=Zai w.t n&&decide (0≤w.k)&&decide (w.k<3)&&okF w.v
def Zao(s:SysD):Bool:=decide (0≤s.n)&&decide (s.n≤1500)&&decide ((s.r.length:Int)≤6000)&&s.r.all (Zct s.n)
theorem ZaG{α:Type}{p:α→Bool}{l:List α}{k:Nat}{x:α}(hx:l[k]? =some x)(h:(l.take k).all p=true)(hp:p x=true):(l.take (k+1)).all p=true:=by
 rw[Yb4,hx];simp[List.all_append,h,hp]
theorem ZcD{α:Type}{p:α→Bool}{l:List α}{k:Nat}{x:α}(hx:l[k]? =some x)(hp:p x=false):l.all p=false:=by
 rw[List.all_eq_false]
 exact⟨x,Ya7 hx,by simp[hp]⟩
theorem ZdR(s:SysD)(hs:smS s):Zaa Tryz.prog 67 [encS s] (dB (Zao s)):=by
 refine Zae.toN ?_ rfl
 have Zr:=Tryz.results67
 have hl:=Zoz hs
 refine inC Tryz.func67 rfl Tryz.ntmps67 ?_
 by_cases h1:s.n<0
 ·refine aGo (cj2 Zr h1) ?_
  repeat with_reducible intro K hK
  exact Zaj (by simp[Zao];omega)
 by_cases h2:s.n>1500
 ·refine aGo (cj3 Zr h1 h2) ?_
  repeat with_reducible intro K hK
  exact Zaj (by simp[Zao];omega)
 by_cases h3:(s.r.length:Int)>6000
 ·refine aGo (cj4 Zr h1 h2 h3) ?_
  repeat with_reducible intro K hK
  exact Zaj (by simp[Zao];omega)
 refine aGo (cj4 Zr h1 h2 h3) ?_
 repeat with_reducible intro K hK
 refine ZaH (fun(k:Nat)=>[(1,.lp 0 0 0 0),(20,Zsm s.r),(21,dI s.r.length),(22,dI k)]) (fun _=>[(0,⟨88,0,2,[cS s],0,false⟩)]) 1 0 (fun k=>k≤s.r.length∧(s.r.take k).all (Zct s.n)=true) (fun k=>s.r.length-k) 0 ⟨by omega,rfl⟩ ?_ ?_
 ·exact leGo trivial
 ·rintro k ⟨hk,hg⟩
  obtain⟨hw,h0⟩:=ZaS k
  by_cases h4:(k:Int)<s.r.length
  ·obtain⟨w,hx⟩:=getE (l:=s.r) (k:=k) (by omega)
   have sm:=hs.2 w (ZaJ hx)
   have k1:=Zfa w.t s.n sm.1
   have k2:=Zck w.v (ZgH sm.2)
   have bad:Zct s.n w=false→D.v (.bool false)=dB (Zao s):=fun h=>Zaj (by simp[Zao,ZcD hx h])
   cases h5:Zai w.t s.n
   ·rw[h5]at k1
    refine aGo (cj4 Zr h0 h4 (cj2 hx hw)) ?_
    repeat with_reducible intro K hK
    exact bad (by simp[Zct,h5])
   rw[h5]at k1
   by_cases h6:w.k<0
   ·refine aGo (cj4 Zr h0 h4 (cj3 hx hw h6)) ?_
    repeat with_reducible intro K hK
    exact bad (by simp[Zct];omega)
   by_cases h7:w.k≥3
   ·refine aGo (cj4 Zr h0 h4 (cj4 hx hw h6 h7)) ?_
    repeat with_reducible intro K hK
    exact bad (by simp[Zct];omega)
   cases h8:okF w.v
   ·rw[h8]at k2
    refine aGo (cj4 Zr h0 h4 (cj4 hx hw h6 h7)) ?_
    repeat with_reducible intro K hK
    exact bad (by simp[Zct,h8])
   rw[h8]at k2
   refine aGo (cj4 Zr h0 h4 (cj4 hx hw h6 h7)) ?_
   repeat with_reducible intro K hK
   exact Zah (k+1) ⟨by omega,ZaG hx hg (by simp[Zct,h5,h8];omega)⟩ (by omega) (by exact leGo trivial)
  ·refine aGo (cj2 Zr h4) ?_
   repeat with_reducible intro K hK
   rw[Ya8 (by omega)]at hg
   exact Zaj (by simp[Zao,hg];omega)
def okP(x:List Zaf):Bool:=x.all okF
theorem ZgZ{α:Type}{p:α→Bool}{l:List α}{k:Nat}{x:α}(hx:l[k]? =some x)(h:(l.take k).all p=true)(hp:p x=false):l.findIdx (fun y=> !p y)=k:=by
 obtain⟨hk,rfl⟩:=Ya3.1 hx
 refine(List.findIdx_eq hk).2 ⟨by simp[hp],fun j hj=>?_⟩
 rw[Ya6]at h
 simp[h l[j] (List.mem_take_iff_getElem.2 ⟨j,by omega,rfl⟩)]
def Zjm(x:List Zaf):Int:=if okP x then -1 else x.findIdx (fun y=> !okF y)
theorem ZsH(x:List Zaf):decide (Zjm x≥0) = !okP x:=by
 unfold Zjm
 cases okP x
 ·simp only[Bool.false_eq_true,if_false,Bool.not_false];exact decide_eq_true (by omega)
 ·rfl
theorem ZvH(f:Zaf)(hs:smF f):Zaa Tryz.prog 170 [encF f] (dB (!okF f)):=by
 refine Zae.toN ?_ rfl
 have hc:=Zck f (ZgH hs)
 refine inC Tryz.func170 rfl Tryz.ntmps170 ?_
 have Zr:=Tryz.results170
 exact aGo Zr trivial
theorem ZwZ(x:List Zaf)(hs:smFs x):Zaa Tryz.prog 194 [ZbX x,.clo 170 []] (dI (Zjm x)):=by
 refine Zae.toN ?_ rfl
 have hl:=Zf4 hs
 refine inC Tryz.func194 rfl Tryz.ntmps194 ?_
 have Zr:=Tryz.results194
 refine aGo Zr ?_
 repeat with_reducible intro K hK
 refine ZaH (fun(k:Nat)=>[(0,ZbX x),(1,.clo 170 []),(7,dI x.length),(8,dI k)]) (fun _=>[]) 0 0 (fun k=>k≤x.length∧(x.take k).all okF=true) (fun k=>x.length-k) 0 ⟨by omega,rfl⟩ ?_ ?_
 ·exact leGo trivial
 ·rintro k ⟨hk,hn⟩
  obtain⟨hw,h0⟩:=ZaS k
  by_cases h1:(k:Int)<x.length
  ·obtain⟨f,hx⟩:=getE (l:=x) (k:=k) (by omega)
   have hc:=ZvH f (hs.2 f (ZaJ hx))
   cases h2:okF f
   ·rw[h2]at hc
    refine aGo (cj4 Zr h0 h1 (cj2 hx hw)) ?_
    repeat with_reducible intro K hK
    have:Zjm x=k:=by
     have h3:okP x=false:=ZcD hx h2
     simp only[Zjm,h3,ZgZ hx hn h2];rfl
    rw[this]
   ·rw[h2]at hc
    refine aGo (cj4 Zr h0 h1 (cj2 hx hw)) ?_
    repeat with_reducible intro K hK
    exact Zah (k+1) ⟨by omega,ZaG hx hn h2⟩ (by omega) (by exact leGo trivial)
  ·refine aGo (cj2 Zr h1) ?_
   repeat with_reducible intro K hK
   rw[Ya8 (by omega)]at hn
   have:Zjm x = -1:=by have h3:okP x=true:=hn;simp only[Zjm,h3];rfl
   rw[this]
theorem Zpp(x:List Zaf)(hs:smFs x):Zaa Tryz.prog 169 [ZbX x,.clo 170 []] (dB (!okP x)):=by
 refine Zae.toN ?_ rfl
 refine inC Tryz.func169 rfl Tryz.ntmps169 ?_
 have Zr:=Tryz.results169
 have hc:=ZwZ x hs
 refine aGo Zr ?_
 repeat with_reducible intro K hK
 exact Zaj (ZsH _)
theorem Zqz(x:List Zaf)(hs:smFs x):Zaa Tryz.prog 125 [ZbX x] (dB (okP x)):=by
 refine Zae.toN ?_ rfl
 refine inC Tryz.func125 rfl Tryz.ntmps125 ?_
 have Zr:=Tryz.results125
 have hc:=Zpp x hs
 refine aGo Zr ?_
 repeat with_reducible intro K hK
 exact Zaj (by simp)
def atP(x:List Zaf)(v:Int):Rat:=qOf ((x[v.toNat]?).getD zF)
def dotD(l:List Zag)(x:List Zaf):Rat:=l.foldl (fun a t=>a+qOf t.f*atP x t.v) 0
def Zcn(l:List Zag)(x:List Zaf):Zaf×Bool:=if Zai l x.length&&okP x then(ofQ (dotD l x),true)else(zF,false)
theorem Zuz{n:Int}:∀ (l:List Zag)(last:Int),-1≤last→goR n last l=true→∀ t∈l,0≤t.v∧t.v<n∧sgnD t.f≠0
 | [],_,_,_,t,ht=>by cases ht
 | u ::l,last,h0,h,t,ht=>by
   simp only[goR,Ya2,decide_eq_true_eq,bne_iff_ne]at h
   rcases List.mem_cons.1 ht with rfl|ht
   ·exact⟨by omega,h.1.1.2,h.1.2⟩
   ·exact Zuz l u.v (by omega) h.2 t ht
theorem ZaY{l:List Zag}{n:Int}(h:Zai l n=true){t:Zag}(ht:t∈l):0≤t.v∧t.v<n∧okF t.f=true∧qOf t.f≠0:=by
 simp only[Zai,Ya2]at h
 obtain⟨h1,h2,h3⟩:=Zuz l (-1) (Int.le_refl _) h.2 t ht
 cases ho:okF t.f
 ·exact absurd (ZoI ho) h3
 ·refine⟨h1,h2,rfl,fun h0=>h3 ?_⟩
  simp[sgnD,ho,h0,sgQ]
theorem ZAB{x:List Zaf}{A:Int}(h0:0≤A)(hx:∀ f∈x,(szF f:Int)≤A)(ho:okP x=true){v:Int}(h1:0≤v)(h2:v<x.length):∃ f,x[v.toNat]? =some f∧okF f=true∧(szF f:Int)≤A∧atP x v=qOf f:=by
 obtain⟨f,hf⟩:=getE (l:=x) (k:=v.toNat) (by omega)
 have hm:=Ya7 hf
 exact⟨f,hf,(Ya6.1 ho) f hm,hx f hm,by simp[atP,hf]⟩
theorem ZnY{l:List Zag}{x:List Zaf}{k:Nat}{t:Zag}(hx:l[k]? =some t):dotD (l.take (k+1)) x=dotD (l.take k) x+qOf t.f*atP x t.v:=by
 unfold dotD
 rw[Yb4,hx]
 simp
theorem ZyG{l:List Zag}{x:List Zaf}{A B:Nat}(hl:∀ t∈l,szF t.f≤A)(hx:∀ f∈x,szF f≤B)(hr:Zai l x.length=true)(ho:okP x=true):∀ k,k≤l.length→szQ (dotD (l.take k) x)≤4+k*(A+B+1):=by
 intro k
 induction k with
 | zero=>intro _;rw[Nat.zero_mul];exact Yc7 (Zef 0 (by decide) (by decide)) (by omega)
 | succ k ih =>
   intro hk
   obtain⟨t,ht⟩:=getE (l:=l) (k:=k) (by omega)
   rw[ZnY ht]
   have hm:=Ya7 ht
   obtain⟨h1,h2,h3,_⟩:=ZaY hr hm
   obtain⟨f,hf⟩:=getE (l:=x) (k:=t.v.toNat) (by omega)
   have hmf:=Ya7 hf
   have hof:=(Ya6.1 ho) f hmf
   have e:atP x t.v=qOf f:=by simp[atP,hf]
   rw[e]
   have i1:=ih (by omega)
   have i2:=ZhY (dotD (l.take k) x) (qOf t.f*qOf f)
   have i3:=ZfA (qOf t.f) (qOf f)
   rw[ZcY h3,ZcY hof]at i3
   have i4:=hl t hm
   have i5:=hx f hmf
   rw[Nat.add_mul,Nat.one_mul]
   omega
theorem ZAG{f:Zaf}(h:smF f):szF f≤2048*2048:=by unfold smF at h;omega
theorem ZpJ{l:List Zag}{x:List Zaf}(hl:smT l)(hx:smFs x)(hr:Zai l x.length=true)(ho:okP x=true){k:Nat}(hk:k≤l.length):(szQ (dotD (l.take k) x):Int)≤34359750000:=by
 have h:=ZyG (A:=2048*2048) (B:=2048*2048) (fun t ht=>ZAG (hl.2 t ht)) (fun f hf=>ZAG (hx.2 f hf)) hr ho k hk
 have hk2:(k:Int)≤4096:=by have:=hl.1;omega
 have h2:(szQ (dotD (l.take k) x):Int)≤4+(k:Int)*8388609:=by
  have:=Int.ofNat_le.2 h
  simp only[Int.natCast_add,Int.natCast_mul]at this
  omega
 omega
theorem Zqx(l:List Zag)(x:List Zaf)(hs:smT l)(hxs:smFs x)(hr:Zai l x.length=true)(ho:okP x=true):Zae Tryz.prog 126 [Zbr l,ZbX x] (encF (ofQ (dotD l x))):=by
 have hl:=Zoy hs
 have hlx:=Zf4 hxs
 have hz:=nZ_c
 refine inC Tryz.func126 rfl Tryz.ntmps126 ?_
 have Zr:=Tryz.results126
 refine aGo Zr ?_
 repeat with_reducible intro K hK
 refine ZaH (fun(k:Nat)=>[(0,Zbr l),(1,ZbX x),(4,.lp 0 0 0 0),(5,.lp 1 0 0 0),(11,Zbr l),(12,dI l.length),(13,dI k)]) (fun k=>[(0,⟨35,0,4,[[dI 0,.nil,dI 0,.nil]],0,false⟩),(1,⟨35,0,4,[cF (ofQ (dotD (l.take k) x))],0,false⟩)]) 2 0 (fun k=>k≤l.length) (fun k=>l.length-k) 0 (by omega) ?_ ?_
 ·refine Zb1 _ _ _ ?_ ?_ ?_ ?_ ?_ (.inl rfl)<;>simp[go_sem,okD,okDs,Zb8,dotD]<;>(first|(intros;subst_vars;simp[okD,okDs];done)|(intro _ h;rcases h with⟨_,_,rfl⟩|rfl<;>simp[okD,okDs];done)|(intros;rename_i h;rcases h with⟨_,_,rfl⟩|rfl<;>simp[okD,okDs]))
 ·rintro k hk
  obtain⟨hw,h0⟩:=ZaS k
  by_cases h1:(k:Int)<l.length
  ·obtain⟨t,ht⟩:=getE (l:=l) (k:=k) (by omega)
   obtain⟨h2,h3,h4,_⟩:=ZaY hr (ZaJ ht)
   obtain⟨f,h5,h6,h7,h8⟩:=ZAB (A:=4194304) (by decide) hxs.2 ho h2 h3
   have hd:=ZnY (x:=x) ht
   rw[h8]at hd
   have k1:=ZuG t.f f (ZgH (hs.2 t (ZaJ ht))) (by omega)
   rw[show mulD t.f f=(ofQ (qOf t.f*qOf f),0) by simp[mulD,h4,h6]]at k1
   have z1:=ZpJ hs hxs hr ho hk
   have z2:=ZfA (qOf t.f) (qOf f)
   rw[ZcY h4,ZcY h6]at z2
   have z3:(szF t.f:Int)≤4194304:=hs.2 t (ZaJ ht)
   have k2:=Zyf (ofQ (dotD (l.take k) x)) (ofQ (qOf t.f*qOf f)) (by rw[Ze3];omega) (by rw[Ze3];omega)
   rw[Zmy]at k2
   refine aGo (cj4 Zr h0 h1 (cj4 ht h2 h3 (cj2 h5 hw))) ?_
   repeat with_reducible intro K hK
   exact Zah (k+1) (by omega) (by omega) (by exact leGo hd)
  ·refine aGo (cj2 Zr h1) ?_
   repeat with_reducible intro K hK
   rw[Ya8 (by omega)]
theorem ZsR{l:List Zag}{x:List Zaf}(h:(Zai l x.length&&okP x)=false):D.tup [encF zF,dB false]=D.tup [encF (Zcn l x).1,dB (Zcn l x).2]:=by
 unfold Zcn;rw[h];rfl
theorem ZvM{l:List Zag}{x:List Zaf}(h1:Zai l x.length=true)(h2:okP x=true):D.tup [encF (ofQ (dotD l x)),dB true]=D.tup [encF (Zcn l x).1,dB (Zcn l x).2]:=by
 unfold Zcn;rw[h1,h2];rfl
theorem Zi8(l:List Zag)(x:List Zaf)(hs:smT l)(hxs:smFs x):Zae Tryz.prog 91 [Zbr l,ZbX x] (.tup [encF (Zcn l x).1,dB (Zcn l x).2]):=by
 have Zr:=Tryz.results91
 have k1:=Zfa l x.length hs
 have k2:=Zqz x hxs
 cases h1:Zai l x.length
 ·rw[h1]at k1
  refine inC Tryz.func91 rfl Tryz.ntmps91 ?_
  refine aGo Zr ?_
  repeat with_reducible intro K hK
  exact ZsR (by rw[h1];rfl)
 rw[h1]at k1
 cases h2:okP x
 ·rw[h2]at k2
  refine inC Tryz.func91 rfl Tryz.ntmps91 ?_
  refine aGo Zr ?_
  repeat with_reducible intro K hK
  exact ZsR (by rw[h2,Bool.and_false])
 rw[h2]at k2
 have k3:=Zqx l x hs hxs h1 h2
 refine inC Tryz.func91 rfl Tryz.ntmps91 ?_
 refine aGo Zr ?_
 repeat with_reducible intro K hK
 exact ZvM h1 h2
def ZdA(k c:Int):Bool:=c==0||(decide (c>0)&&k==0)||(decide (c<0)&&k==1)
def Zcc(w:RowD)(x:List Zaf):Bool:=ZdA w.k (sgQ (dotD w.t x-qOf w.v))
def ZeH(x:List Zaf):Bool:=x.all fun f=>decide (0≤sgnD f)
def ZaA(s:SysD)(x:List Zaf):Bool:=Zao s&&decide ((x.length:Int)=s.n)&&okP x&&ZeH x&&s.r.all (fun w=>Zcc w x)
theorem ZeA{s:SysD}(h:Zao s=true){w:RowD}(hw:w∈s.r):Zct s.n w=true:=by
 simp only[Zao,Ya2]at h
 exact Ya6.1 h.2 w hw
theorem Zos(w:RowD)(x:List Zaf)(hs:smT w.t)(hx:smFs x)(hr:Zai w.t x.length=true)(ho:okP x=true):(szF (ofQ (dotD w.t x)):Int)≤34359750000:=by
 have:=ZpJ hs hx hr ho (Ya4 _)
 rw[Yc2]at this
 exact this
end Go.Proofs.YtiincpioidnciaaGreat
