/-
  Shortest paths of moves, level by level (plain).
-/
import Derived.Test.YtjeaacindikplaaGreatXLib
import Derived.Test.YtjeaacindikplaaGreatXT01
import Derived.Test.YtjeaacindikplaaGreatXT00
namespace Go.Proofs.YtjeaacindikplaaGreat
set_option linter.unusedVariables false
set_option linter.unusedSimpArgs false
set_option linter.unusedSectionVars false
open Go Go.RowKit
set_option maxRecDepth 100000
def ZiR(e:EvD)(blk:Nat→Bool)(p:Int):Nat→Nat→List Nat
 | 0,_=>[]
 | k+1,i=>if (mvAt e i).f=p then(if blk i then []else [i])++(if (mvAt e i).a then []else ZiR e blk p k (i+1))else ZiR e blk p k (i+1)
def Zfr(e:EvD)(blk:Nat→Bool)(m:Nat):List Nat:=ZiR e blk (mvAt e m).t (e.mv.length-(m+1)) (m+1)
section
variable {e:EvD} {blk:Nat→Bool}
theorem Zpu{p:Int}:∀ (k i j:Nat),j∈ZiR e blk p k i↔i≤j∧j<i+k∧(mvAt e j).f=p∧blk j=false∧∀ u,i≤u→u<j→(mvAt e u).f=p→(mvAt e u).a=false
 | 0,i,j=>⟨fun h=>(by cases h),fun⟨a,b,_⟩=>by omega⟩
 | k+1,i,j=>by
   have ih:=Zpu (p:=p) k (i+1) j
   unfold ZiR
   by_cases hp:(mvAt e i).f=p
   ·rw[if_pos hp,Yd5]
    constructor
    ·rintro(h|h)
     ·cases hb:blk i
      ·rw[hb,if_neg Yc5,List.mem_singleton]at h
       subst h
       exact⟨Ya4 _,by omega,hp,hb,fun u h1 h2=>by omega⟩
      ·rw[hb,if_pos rfl]at h;cases h
     ·cases ha:(mvAt e i).a
      ·rw[ha,if_neg Yc5,ih]at h
       obtain⟨a,b,c,d,f⟩:=h
       refine⟨by omega,by omega,c,d,fun u h1 h2 h3=>?_⟩
       by_cases hu:u=i
       ·subst hu;exact ha
       ·exact f u (by omega) h2 h3
      ·rw[ha,if_pos rfl]at h;cases h
    ·rintro⟨a,b,c,d,f⟩
     by_cases hj:j=i
     ·subst hj
      left;rw[d,if_neg Yc5];exact List.mem_singleton.2 rfl
     ·right
      rw[f i (Ya4 _) (by omega) hp,if_neg Yc5,ih]
      exact⟨by omega,by omega,c,d,fun u h1 h2 h3=>f u (by omega) h2 h3⟩
   ·rw[if_neg hp,ih]
    constructor
    ·rintro⟨a,b,c,d,f⟩
     refine⟨by omega,by omega,c,d,fun u h1 h2 h3=>?_⟩
     by_cases hu:u=i
     ·subst hu;exact absurd h3 hp
     ·exact f u (by omega) h2 h3
    ·rintro⟨a,b,c,d,f⟩
     have hj:j≠i:=fun hj=>hp (hj▸c)
     exact⟨by omega,by omega,c,d,fun u h1 h2 h3=>f u (by omega) h2 h3⟩
theorem ZnP{m i:Nat}(hm:m<e.mv.length):i∈Zfr e blk m↔Zow e blk m i:=by
 unfold Zfr
 rw[Zpu]
 constructor
 ·rintro⟨a,b,c,d,f⟩
  exact⟨by omega,by omega,c,d,fun k h1 h2 h3=>f k (by omega) h2 h3⟩
 ·rintro⟨a,b,c,d,f⟩
  exact⟨by omega,by omega,c,d,fun k h1 h2 h3=>f k (by omega) h2 h3⟩
end
abbrev BqD:Type:=List Int×List Nat
def addK(m:Nat)(s:BqD)(k:Nat):BqD:=if (s.1[k]?).getD 0 = -1 then(s.1.set k m,s.2++[k])else s
def addM(e:EvD)(blk:Nat→Bool)(s:BqD)(m:Nat):BqD:=(Zfr e blk m).foldl (addK m) s
def Zlf(e:EvD)(blk:Nat→Bool)(s:BqD)(beg:Nat):BqD:=(s.2.drop beg).foldl (addM e blk) s
def bfsQ(e:EvD)(blk:Nat→Bool)(dst:Nat):Nat→BqD→Nat→BqD
 | 0,s,_=>s
 | k+1,s,beg=>if beg<s.2.length∧(s.1[dst]?).getD 0 = -1 then bfsQ e blk dst k (Zlf e blk s beg) s.2.length else s
def Zmd(b:List Int)(from':Nat):Nat→List Nat→List Nat
 | 0,l=>l
 | k+1,l=>if l.headD 0=from' then l else Zmd b from' k (((b[l.headD 0]?).getD 0).toNat ::l)
def ZcO(n from':Nat):BqD:=((List.replicate n (-1:Int)).set from' from',[from'])
def Zdo(e:EvD)(blk:Nat→Bool)(from' dst:Nat):List Nat :=
 if blk from' then []else
 if ((bfsQ e blk dst (e.mv.length+1) (ZcO e.mv.length from') 0).1[dst]?).getD 0 = -1 then []else Zmd (bfsQ e blk dst (e.mv.length+1) (ZcO e.mv.length from') 0).1 from' e.mv.length [dst]
structure InvQ (e:EvD) (blk:Nat→Bool) (from':Nat) (s:BqD):Prop where
 len:s.1.length=e.mv.length
 nd:s.2.Nodup
 lt:∀ k∈s.2,k<e.mv.length
 seen:∀ k:Nat,k<e.mv.length→((s.1[k]?).getD 0 ≠ -1↔k∈s.2)
 fr:from'∈s.2∧(s.1[from']?).getD 0=(from':Int)
 back:∀ k∈s.2,k≠from'→∃ m:Nat,(s.1[k]?).getD 0=(m:Int)∧m∈s.2∧Zow e blk m k
section
variable {e:EvD} {blk:Nat→Bool} {from':Nat}
theorem InvQ.addK{s:BqD}(h:InvQ e blk from' s){m k:Nat}(hm:m∈s.2)(hk:Zow e blk m k):InvQ e blk from' (addK m s k)∧(∃ q,(Go.Proofs.YtjeaacindikplaaGreat.addK m s k).2=s.2++q)∧k∈(Go.Proofs.YtjeaacindikplaaGreat.addK m s k).2:=by
 have hkn:=hk.n
 unfold Go.Proofs.YtjeaacindikplaaGreat.addK
 by_cases hb:(s.1[k]?).getD 0 = -1
 ·rw[if_pos hb]
  have hnk:k∉s.2:=fun h1=>(h.seen k hkn).2 h1 hb
  have hfk:from'≠k:=fun h1=>hnk (h1▸h.fr.1)
  have gs:∀ j:Nat,((s.1.set k (m:Int))[j]?).getD 0=if j=k then(m:Int)else(s.1[j]?).getD 0:=fun j=>by
   rw[List.getElem?_set]
   by_cases hj:k=j
   ·subst hj
    rw[if_pos rfl,if_pos rfl,if_pos (by rw[h.len];exact hkn)];rfl
   ·rw[if_neg hj,if_neg (fun h=>hj h.symm)]
  refine⟨⟨by rw[List.length_set];exact h.len,?_,fun j hj=>?_,fun j hj=>?_,⟨Yd6 _ h.fr.1,?_⟩,fun j hj hjf=>?_⟩,⟨[k],rfl⟩,List.mem_append_right _ (List.mem_singleton.2 rfl)⟩
  ·exact List.nodup_append.2 ⟨h.nd,(by simp),fun a ha b hb'=>by rw[List.mem_singleton.1 hb'];intro hab;exact hnk (hab▸ha)⟩
  ·rcases Yd5.1 hj with hj|hj
   ·exact h.lt j hj
   ·rw[List.mem_singleton.1 hj];exact hkn
  ·simp only[gs]
   rw[Yd5,List.mem_singleton]
   by_cases hjk:j=k
   ·rw[if_pos hjk]
    exact⟨fun _=>.inr hjk,fun _=>by omega⟩
   ·rw[if_neg hjk,h.seen j hj]
    exact⟨.inl,fun h1=>h1.resolve_right hjk⟩
  ·simp only[gs]
   rw[if_neg hfk];exact h.fr.2
  ·simp only[gs]
   by_cases hjk:j=k
   ·rw[if_pos hjk]
    exact⟨m,rfl,Yd6 _ hm,hjk▸hk⟩
   ·rw[if_neg hjk]
    have hj':j∈s.2:=(Yd5.1 hj).resolve_right fun h1=>hjk (List.mem_singleton.1 h1)
    obtain⟨u,a,b,c⟩:=h.back j hj' hjf
    exact⟨u,a,Yd6 _ b,c⟩
 ·rw[if_neg hb]
  exact⟨h,⟨[],by simp⟩,(h.seen k hkn).1 hb⟩
theorem InvQ.foldK{m:Nat}:∀ (l:List Nat)(s:BqD),InvQ e blk from' s→m∈s.2→(∀ k∈l,Zow e blk m k)→InvQ e blk from' (l.foldl (Go.Proofs.YtjeaacindikplaaGreat.addK m) s)∧(∃ q,(l.foldl (Go.Proofs.YtjeaacindikplaaGreat.addK m) s).2=s.2++q)∧∀ k∈l,k∈(l.foldl (Go.Proofs.YtjeaacindikplaaGreat.addK m) s).2
 | [],s,h,_,_=>⟨h,⟨[],by simp⟩,fun k hk=>by cases hk⟩
 | k ::l,s,h,hm,hl=>by
   obtain⟨a,⟨q,hq⟩,c⟩:=h.addK hm (hl k Yb7)
   obtain⟨a2,⟨q2,hq2⟩,c2⟩:=InvQ.foldK l _ a (by rw[hq];exact Yd6 _ hm) fun k hk=>hl k (Yb6 _ hk)
   refine⟨a2,⟨q++q2,by rw[List.foldl_cons,hq2,hq,Yd3]⟩,fun j hj=>?_⟩
   rcases List.mem_cons.1 hj with rfl|hj
   ·rw[List.foldl_cons,hq2];exact Yd6 _ c
   ·exact c2 j hj
theorem InvQ.foldM:∀ (l:List Nat)(s:BqD),InvQ e blk from' s→(∀ m∈l,m∈s.2)→InvQ e blk from' (l.foldl (addM e blk) s)∧(∃ q,(l.foldl (addM e blk) s).2=s.2++q)∧∀ m∈l,∀ k,Zow e blk m k→k∈(l.foldl (addM e blk) s).2
 | [],s,h,_=>⟨h,⟨[],by simp⟩,fun k hk=>by cases hk⟩
 | m ::l,s,h,hl=>by
   have hm:=hl m Yb7
   have mn:=fun k=>ZnP (e:=e) (blk:=blk) (i:=k) (h.lt m hm)
   obtain⟨a,⟨q,hq⟩,c⟩:=InvQ.foldK (Zfr e blk m) s h hm fun k hk=>(mn k).1 hk
   obtain⟨a2,⟨q2,hq2⟩,c2⟩:=InvQ.foldM l (addM e blk s m) a fun j hj=>by
    show j∈(addM e blk s m).2
    unfold addM
    rw[hq];exact Yd6 _ (hl j (Yb6 _ hj))
   refine⟨a2,⟨q++q2,by rw[List.foldl_cons,hq2];unfold addM;rw[hq,Yd3]⟩,fun j hj k hk=>?_⟩
   rcases List.mem_cons.1 hj with rfl|hj
   ·rw[List.foldl_cons,hq2]
    refine Yd6 _ ?_
    unfold addM
    exact c k ((mn k).2 hk)
   ·exact c2 j hj k hk
def Done(e:EvD)(blk:Nat→Bool)(s:BqD)(beg:Nat):Prop:=∀ m∈s.2.take beg,∀ k,Zow e blk m k→k∈s.2
theorem InvQ.round{s:BqD}(h:InvQ e blk from' s){beg:Nat}(hd:Done e blk s beg):InvQ e blk from' (Zlf e blk s beg)∧Done e blk (Zlf e blk s beg) s.2.length∧s.2.length≤(Zlf e blk s beg).2.length:=by
 obtain⟨a,⟨q,hq⟩,c⟩:=InvQ.foldM (s.2.drop beg) s h fun m hm=>List.mem_of_mem_drop hm
 have hq':(Zlf e blk s beg).2=s.2++q:=hq
 refine⟨a,fun m hm k hk=>?_,by rw[hq',Yb9];omega⟩
 rw[hq',List.take_append_of_le_length (Ya4 _),Yc2,← List.take_append_drop beg s.2]at hm
 rcases Yd5.1 hm with hm|hm
 ·rw[hq'];exact Yd6 _ (hd m hm k hk)
 ·exact c m hm k hk
theorem ZiQ{n:Nat}{l:List Nat}(hn:l.Nodup)(hl:∀ k∈l,k<n):l.length≤n:=by
 have:=hn.length_le_of_subset (l₂:=List.range n) fun k hk=>Yd2.2 (hl k hk)
 simpa using this
theorem Zk4(hf:from'<e.mv.length):InvQ e blk from' (ZcO e.mv.length from'):=by
 have gs:∀ j:Nat,j<e.mv.length→(((ZcO e.mv.length from').1[j]?).getD 0)=if j=from' then(from':Int)else -1:=fun j hj=>by
  unfold ZcO
  simp only
  rw[List.getElem?_set]
  by_cases h:from'=j
  ·subst h
   rw[if_pos rfl,if_pos rfl,if_pos (by simpa using hf)];rfl
  ·rw[if_neg h,if_neg (fun x=>h x.symm),List.getElem?_replicate,if_pos hj];rfl
 refine⟨by simp[ZcO],by simp[ZcO],fun k hk=>?_,fun k hk=>?_,⟨by simp[ZcO],by rw[gs _ hf,if_pos rfl]⟩,fun k hk hkf=>?_⟩
 ·simp only[ZcO,List.mem_singleton]at hk
  rw[hk];exact hf
 ·rw[gs k hk]
  simp only[ZcO,List.mem_singleton]
  by_cases h:k=from'
  ·rw[if_pos h];exact⟨fun _=>h,fun _=>by omega⟩
  ·rw[if_neg h];exact⟨fun x=>absurd rfl x,fun x=>absurd x h⟩
 ·simp only[ZcO,List.mem_singleton]at hk
  exact absurd hk hkf
theorem Zyu{dst:Nat}:∀ (k:Nat)(s:BqD)(beg:Nat),InvQ e blk from' s→Done e blk s beg→e.mv.length+1≤beg+k→InvQ e blk from' (bfsQ e blk dst k s beg)∧(((bfsQ e blk dst k s beg).1[dst]?).getD 0 ≠ -1∨Done e blk (bfsQ e blk dst k s beg) (bfsQ e blk dst k s beg).2.length)
 | 0,s,beg,h,hd,hk=>by
   have hq:=ZiQ h.nd h.lt
   refine⟨h,.inr fun m hm=>hd m ?_⟩
   rw[Ya8 (by omega)]at hm ⊢
   exact hm
 | k+1,s,beg,h,hd,hk=>by
   unfold bfsQ
   by_cases hc:beg<s.2.length∧(s.1[dst]?).getD 0 = -1
   ·rw[if_pos hc]
    obtain⟨a,b,_⟩:=h.round hd
    exact Zyu k _ _ a b (by omega)
   ·rw[if_neg hc]
    refine⟨h,?_⟩
    by_cases hb:beg<s.2.length
    ·exact .inl fun hx=>hc ⟨hb,hx⟩
    ·right
     intro m hm
     refine hd m ?_
     rw[Ya8 (by omega)]at hm ⊢
     exact hm
theorem InvQ.reach{s:BqD}(h:InvQ e blk from' s)(hd:Done e blk s s.2.length){i:Nat}(hr:Reach e blk from' i):i∈s.2:=by
 induction hr with
 | refl=>exact h.fr.1
 | step _ hn ih=>exact hd _ (by rw[Yc2];exact ih) _ hn
def Fol(e:EvD)(blk:Nat→Bool):List Nat→Prop
 | []=>True
 | [_]=>True
 | a ::b ::l=>Zow e blk a b∧Fol e blk (b ::l)
theorem InvQ.backOk{s:BqD}(h:InvQ e blk from' s):∀ (k cur:Nat)(l:List Nat),cur∈s.2→cur≤k→Fol e blk (cur ::l)→∃ l',Zmd s.1 from' k (cur ::l)=from' ::l'∧Fol e blk (from' ::l')
 | 0,cur,l,hc,hk,hf=>by
   by_cases hcf:cur=from'
   ·subst hcf;exact⟨l,rfl,hf⟩
   ·obtain⟨m,_,_,hn⟩:=h.back cur hc hcf
    have:=hn.lt
    omega
 | k+1,cur,l,hc,hk,hf=>by
   unfold Zmd
   rw[List.headD_cons]
   by_cases hcf:cur=from'
   ·subst hcf;rw[if_pos rfl];exact⟨l,rfl,hf⟩
   ·rw[if_neg hcf]
    obtain⟨m,hm,hm2,hn⟩:=h.back cur hc hcf
    have:=hn.lt
    rw[hm,Int.toNat_natCast]
    exact InvQ.backOk h k m (cur ::l) hm2 (by omega) ⟨hn,hf⟩
def folB(e:EvD)(blk:Nat→Bool):Option Nat→List Nat→Bool
 | _,[]=>true
 | p,m ::l=>decide (m<e.mv.length)&&(!blk m&&((match p with|none=>true|some q=>(Zfr e blk q).contains m)&&folB e blk (some m) l))
def Ze5(e:EvD)(blk:Nat→Bool)(l:List Nat):Bool:=folB e blk none l && !l.isEmpty
theorem Ztb:∀ (l:List Nat)(a:Nat),a<e.mv.length→Fol e blk (a ::l)→folB e blk (some a) l=true
 | [],_,_,_=>rfl
 | b ::l,a,ha,h=>by
   have hn:=h.1
   have h1:decide (b<e.mv.length)=true:=decide_eq_true hn.n
   have h2:(Zfr e blk a).contains b=true:=by rw[List.contains_iff_mem];exact(ZnP ha).2 hn
   unfold folB
   simp only[h1,hn.blk,h2,Ztb l b hn.n h.2,Bool.not_false,Bool.and_self]
theorem ZCs{dst:Nat}(hf:from'<e.mv.length)(hd:dst<e.mv.length)(hb:blk from'=false)(hr:Reach e blk from' dst):Zdo e blk from' dst≠[]∧Ze5 e blk (Zdo e blk from' dst)=true:=by
 obtain⟨I,h⟩:=Zyu (dst:=dst) (e.mv.length+1) (ZcO e.mv.length from') 0 (Zk4 (blk:=blk) hf) (fun m hm=>by cases hm) (by omega)
 have hs:((bfsQ e blk dst (e.mv.length+1) (ZcO e.mv.length from') 0).1[dst]?).getD 0 ≠ -1:=by
  rcases h with h|h
  ·exact h
  ·exact(I.seen dst hd).2 (I.reach h hr)
 obtain⟨l',h1,h2⟩:=I.backOk e.mv.length dst [] ((I.seen dst hd).1 hs) (by omega) trivial
 unfold Zdo
 rw[hb,if_neg Yc5,if_neg hs,h1]
 refine⟨by simp,?_⟩
 have h3:decide (from'<e.mv.length)=true:=decide_eq_true hf
 unfold Ze5 folB
 simp only[h3,hb,Ztb l' from' hf h2,Bool.not_false,Bool.and_self,List.isEmpty_cons]
end
set_option maxHeartbeats 4000000
def tnF(f:Zag):Prop:=(szF f:Int)≤262144
def tnT(l:List Zaf):Prop:=(l.length:Int)≤64∧∀ t∈l,tnF t.f
def tnFs(l:List Zag):Prop:=(l.length:Int)≤64∧∀ f∈l,tnF f
def tnW(w:RowD):Prop:=tnT w.t∧tnF w.v
def tnS(s:SysD):Prop:=(s.r.length:Int)≤64∧∀ w∈s.r,tnW w
theorem tnF.sm{f:Zag}(h:tnF f):smF f:=by unfold tnF at h;unfold smF;omega
theorem tnT.sm{l:List Zaf}(h:tnT l):smT l:=⟨by have:=h.1;omega,fun t ht=>(h.2 t ht).sm⟩
theorem tnFs.sm{l:List Zag}(h:tnFs l):smFs l:=⟨by have:=h.1;omega,fun t ht=>(h.2 t ht).sm⟩
theorem tnW.sm{w:RowD}(h:tnW w):smW w:=⟨h.1.sm,h.2.sm⟩
theorem tnS.sm{s:SysD}(h:tnS s):smS s:=⟨by have:=h.1;omega,fun t ht=>(h.2 t ht).sm⟩
theorem ZnL{s:SysD}{y:List Zag}(h:ZhJ s y=false):D.v (.bool false)=dB (ZhJ s y):=Zaj h.symm
theorem Zx3(s:SysD)(y:List Zag)(hs:smS s)(hy:smFs y):Zaa Tryz.prog 201 [encS s,Za0 y] (dB (ZhJ s y)):=by
 refine Zah.toN ?_ rfl
 have Zr:=Tryz.results201
 have hl:=Zix hy
 have k1:=ZiX s hs
 cases h1:ZaB s
 ·rw[h1]at k1
  refine inC Tryz.func201 rfl Tryz.ntmps201 ?_
  refine aGo Zr ?_
  repeat with_reducible intro K hK
  exact ZnL (by simp[ZhJ,h1])
 rw[h1]at k1
 cases h2:(y.length:Int) !=s.r.length
 rotate_left
 ·refine inC Tryz.func201 rfl Tryz.ntmps201 ?_
  refine aGo (cj2 Zr h2) ?_
  repeat with_reducible intro K hK
  exact ZnL (by simp at h2;simp[ZhJ];omega)
 have hn:(y.length:Int)=s.r.length:=by simpa using h2
 refine inC Tryz.func201 rfl Tryz.ntmps201 ?_
 refine aGo (cj2 Zr h2) ?_
 repeat with_reducible intro K hK
 refine Zas (fun(k:Nat)=>[(18,Za0 y),(19,dI y.length),(20,dI k)]) (fun _=>[]) 0 0 (fun k=>k≤y.length∧(y.take k).all okF=true) (fun k=>y.length-k) 0 ⟨by omega,rfl⟩ ?_ ?_
 ·exact leGo trivial
 ·rintro k ⟨hk,hg⟩
  obtain⟨hw,h0⟩:=ZaO k
  by_cases h4:(k:Int)<y.length
  ·obtain⟨f,hx⟩:=getE (l:=y) (k:=k) (by omega)
   have k2:=ZcV f (Zgw (hy.2 f (ZaL hx)))
   cases h5:okF f
   ·rw[h5]at k2
    refine aGo (cj4 Zr h0 h4 (cj2 hx hw)) ?_
    repeat with_reducible intro K hK
    exact ZnL (by simp only[ZhJ,okP,ZeP hx h5,Bool.and_false])
   ·rw[h5]at k2
    refine aGo (cj4 Zr h0 h4 (cj2 hx hw)) ?_
    repeat with_reducible intro K hK
    exact Zad (k+1) ⟨by omega,ZaW hx hg h5⟩ (by omega) (by exact leGo trivial)
  ·rw[Ya8 (by omega)]at hg
   refine aGo (cj2 Zr h4) ?_
   repeat with_reducible intro K hK
   exact Zaj (by simp only[ZhJ,okP,hg,h1,hn,decide_true,Bool.and_self])
theorem ZDP{α β:Type}{l:List α}{m:List β}{k:Nat}{x:α}{y:β}(hx:l[k]? =some x)(hy:m[k]? =some y):(l.zip m)[k]? =some (x,y):=by
 rw[List.getElem?_zip_eq_some];exact⟨hx,hy⟩
theorem Zx1(s:SysD)(y:List Zag)(hs:smS s)(hy:smFs y):Zaa Tryz.prog 172 [encS s,Za0 y] (dB (Zdb s y)):=by
 refine Zah.toN ?_ rfl
 have Zr:=Tryz.results172
 have hl:=Zix hy
 have k1:=Zx3 s y hs hy
 cases h1:ZhJ s y
 ·rw[h1]at k1
  refine inC Tryz.func172 rfl Tryz.ntmps172 ?_
  refine aGo Zr ?_
  repeat with_reducible intro K hK
  exact Zaj (by simp[Zdb,h1])
 rw[h1]at k1
 obtain⟨hr,hlen,hok⟩:=Zev.1 h1
 have hzl:(s.r.zip y).length=y.length:=by rw[List.length_zip];omega
 refine inC Tryz.func172 rfl Tryz.ntmps172 ?_
 refine aGo Zr ?_
 repeat with_reducible intro K hK
 refine Zas (fun(k:Nat)=>[(2,.lp 0 0 0 0),(12,Za0 y),(13,dI y.length),(14,dI k)]) (fun _=>[(0,⟨99,0,2,[cS s],0,false⟩)]) 1 0 (fun k=>k≤y.length∧((s.r.zip y).take k).all (fun p=>ZdK p.1 p.2)=true) (fun k=>y.length-k) 0 ⟨by omega,rfl⟩ ?_ ?_
 ·exact leGo trivial
 ·rintro k ⟨hk,hg⟩
  obtain⟨hw,h0⟩:=ZaO k
  by_cases h4:(k:Int)<y.length
  ·obtain⟨f,hx⟩:=getE (l:=y) (k:=k) (by omega)
   obtain⟨w,hv⟩:=getE (l:=s.r) (k:=k) (by omega)
   have h4b:(k:Int)<s.r.length:=by omega
   have k2:=ZeD f (Zgw (hy.2 f (ZaL hx)))
   have hz:=ZDP hv hx
   have bad:ZdK w f=false→D.v (.bool false)=dB (Zdb s y):=fun h=>Zaj (by unfold Zdb;rw[ZeP (p:=fun p:RowD×Zag=>ZdK p.1 p.2) hz h,Bool.and_false])
   have good:ZdK w f=true→((s.r.zip y).take (k+1)).all (fun p=>ZdK p.1 p.2)=true:=fun h=>ZaW (p:=fun p:RowD×Zag=>ZdK p.1 p.2) hz hg h
   cases h5:w.k==0
   ·cases h6:w.k==1
    ·refine aGo (cj4 Zr h0 h4 (cj4 h4b hx hv (cj3 hw h5 h6))) ?_
     repeat with_reducible intro K hK
     exact Zad (k+1) ⟨by omega,good (by simp[ZdK,h5,h6])⟩ (by omega) (by exact leGo trivial)
    ·by_cases h7:sgnD f>0
     ·refine aGo (cj4 Zr h0 h4 (cj4 h4b hx hv (cj4 hw h5 h6 h7))) ?_
      repeat with_reducible intro K hK
      exact bad (by simp[ZdK,h6];omega)
     ·refine aGo (cj4 Zr h0 h4 (cj4 h4b hx hv (cj4 hw h5 h6 h7))) ?_
      repeat with_reducible intro K hK
      exact Zad (k+1) ⟨by omega,good (by simp[ZdK,h5];omega)⟩ (by omega) (by exact leGo trivial)
   ·by_cases h7:sgnD f<0
    ·refine aGo (cj4 Zr h0 h4 (cj4 h4b hx hv (cj3 hw h5 h7))) ?_
     repeat with_reducible intro K hK
     exact bad (by simp[ZdK,h5];omega)
    ·have h6:(w.k==1)=false:=by simp at h5;simp[h5]
     refine aGo (cj4 Zr h0 h4 (cj4 h4b hx hv (cj3 hw h5 h7))) ?_
     repeat with_reducible intro K hK
     exact Zad (k+1) ⟨by omega,good (by simp[ZdK,h6];omega)⟩ (by omega) (by exact leGo trivial)
  ·have hg2:(s.r.zip y).all (fun p=>ZdK p.1 p.2)=true:=by rw[Ya8 (by omega)]at hg;exact hg
   refine aGo (cj2 Zr h4) ?_
   repeat with_reducible intro K hK
   exact Zaj (by simp only[Zdb,h1,hg2,Bool.and_self])
theorem ZFp(a b c:Rat)(za:(szQ a:Int)≤34359750000)(zb:(szQ b:Int)≤4194304)(zc:(szQ c:Int)≤4194304):Zah Tryz.prog 202 [encF (ofQ a),encF (ofQ b),encF (ofQ c)] (encF (ofQ (a+b*c))):=by
 have Zr:=Tryz.results202
 have k1:=ZEu b c (by omega) (by omega)
 have z:=Zgv b c
 have k2:=ZEv a (b*c) (by omega) (by omega)
 refine inC Tryz.func202 rfl Tryz.ntmps202 ?_
 exact aGo Zr trivial
open Classical in
noncomputable def Zkj (a b:List Zaf):Bool:=decide (Zd3 a b)
theorem ZfM{a b:List Zaf}:Zkj a b=true↔Zd3 a b:=by unfold Zkj;simp only[decide_eq_true_eq]
structure ZFD where
 a:List Zaf
 b:List Zaf
 l:Int
def wkT(l:List Zaf):Prop:=(l.length:Int)≤4096∧∀ t∈l,(szF t.f:Int)≤549755813888
theorem smT.wk{l:List Zaf}(h:smT l):wkT l:=⟨h.1,fun t ht=>Zgw (h.2 t ht)⟩
theorem ZAE(n:Int)(a b:List Zaf)(ha:Zai a n=true)(hb:Zai b n=true)(hs:wkT a)(hs2:wkT b):Zah Tryz.prog 174 [Zbk a,Zbk b] (dB (Zkj a b)):=by
 have Zr:=Tryz.results174
 have hla:=hs.1
 have hlb:=hs2.1
 have kz:=ZpL 0 (by decide) (by decide)
 rw[Rat.intCast_zero]at kz
 have z0:(szF (ofQ 0):Int)≤549755813888:=by have:szQ 0≤4:=ZdU 0 (by decide) (by decide);rw[Ze8];omega
 simp only[Zai,Ya2]at ha hb
 refine inC Tryz.func174 rfl Tryz.ntmps174 ?_
 refine aGo Zr ?_
 repeat with_reducible intro K hK
 refine Zas (fun(x:ZFD)=>[(0,Zbk x.a),(1,Zbk x.b),(5,.lp 0 0 0 0)]) (fun x=>[(0,⟨53,0,4,[cF (ofQ 0)],0,false⟩)]) 1 0 (fun x=>goR n x.l x.a=true∧goR n x.l x.b=true∧(∀ t∈x.a,(szF t.f:Int)≤549755813888)∧(∀ t∈x.b,(szF t.f:Int)≤549755813888)∧x.a.length≤a.length∧x.b.length≤b.length∧(Zd3 x.a x.b↔Zd3 a b)) (fun x=>x.a.length+x.b.length) ⟨a,b,-1⟩ ⟨ha.2,hb.2,hs.2,hs2.2,Ya4 _,Ya4 _,Iff.rfl⟩ ?_ ?_
 ·exact leGo trivial
 ·rintro⟨a',b',l⟩ ⟨ga,gb,sa,sb,la,lb,hiff⟩
  dsimp only at ga gb sa sb la lb hiff ⊢
  match a',b',ga,gb,sa,sb,la,lb,hiff with
  | [],[],ga,gb,sa,sb,la,lb,hiff =>
    refine aGo Zr ?_
    repeat with_reducible intro K hK
    exact Zaj (ZfM.2 (hiff.1 Zyw)).symm
  | x ::a',[],ga,gb,sa,sb,la,lb,hiff =>
    simp only[List.length_cons,List.length_nil]at la lb
    have ga':=ZaH.1 ga
    have p1:((a'.length+1:Nat):Int)>0:=by omega
    have p2:(1:Int)≤((a'.length+1:Nat):Int):=by omega
    have p3:(((a'.length+1:Nat):Int)==0)=false:=by simp;omega
    have p4:(0:Int)<((a'.length+1:Nat):Int):=by omega
    have ox:=(Zfa ga'.2.2.1).1
    have kc:=Zeh x.f (ofQ 0) (sa x Yb7) z0
    rw[show cmpD x.f (ofQ 0)=sgQ (qOf x.f-0) by simp[cmpD,ox,Zby,Zay]]at kc
    have hb1:=Zl0 (b:=[]) ga (rfl:goR n x.v []=true)
    by_cases h5:sgQ (qOf x.f-0)>0
    ·refine aGo (cj4 Zr p1 p2 (cj4 p3 p4 h5 Zbm)) ?_
     repeat with_reducible intro K hK
     have hn:¬ Zd3 a b:=fun h=>by have:=(hb1.1 (hiff.2 h)).1;rw[gt_iff_lt,Zdp]at h5;grind
     refine Zaj ?_
     cases h:Zkj a b
     ·rfl
     ·exact absurd (ZfM.1 h) hn
    ·refine aGo (cj4 Zr p1 p2 (cj4 p3 p4 h5 Zbm)) ?_
     repeat with_reducible intro K hK
     refine Zad ⟨a',[],x.v⟩ ⟨ga'.2.2.2,rfl,fun t ht=>sa t (Yb6 _ ht),sb,by dsimp only;omega,by dsimp only;omega,?_⟩ (by simp) (by exact leGo Zbm)
     rw[gt_iff_lt,Zdp]at h5
     rw[← hiff,hb1]
     exact⟨fun h=>⟨by grind,h⟩,fun h=>h.2⟩
  | [],y ::b',ga,gb,sa,sb,la,lb,hiff =>
    simp only[List.length_cons,List.length_nil]at la lb
    have gb':=ZaH.1 gb
    have p1:((b'.length+1:Nat):Int)>0:=by omega
    have p2:(1:Int)≤((b'.length+1:Nat):Int):=by omega
    have p3:(((b'.length+1:Nat):Int)==0)=false:=by simp;omega
    have p4:(0:Int)<((b'.length+1:Nat):Int):=by omega
    have oy:=(Zfa gb'.2.2.1).1
    have kc:=Zeh (ofQ 0) y.f z0 (sb y Yb7)
    rw[show cmpD (ofQ 0) y.f=sgQ (0-qOf y.f) by simp[cmpD,oy,Zby,Zay]]at kc
    have hb1:=Zki (a:=[]) (rfl:goR n y.v []=true) gb
    by_cases h5:sgQ (0-qOf y.f)>0
    ·refine aGo (cj4 Zr p1 p2 (cj4 p3 p4 h5 Zbm)) ?_
     repeat with_reducible intro K hK
     have hn:¬ Zd3 a b:=fun h=>by have:=(hb1.1 (hiff.2 h)).1;rw[gt_iff_lt,Zdp]at h5;grind
     refine Zaj ?_
     cases h:Zkj a b
     ·rfl
     ·exact absurd (ZfM.1 h) hn
    ·refine aGo (cj4 Zr p1 p2 (cj4 p3 p4 h5 Zbm)) ?_
     repeat with_reducible intro K hK
     refine Zad ⟨[],b',y.v⟩ ⟨rfl,gb'.2.2.2,sa,fun t ht=>sb t (Yb6 _ ht),by dsimp only;omega,by dsimp only;omega,?_⟩ (by simp) (by exact leGo Zbm)
     rw[gt_iff_lt,Zdp]at h5
     rw[← hiff,hb1]
     exact⟨fun h=>⟨by grind,h⟩,fun h=>h.2⟩
  | x ::a',y ::b',ga,gb,sa,sb,la,lb,hiff =>
    simp only[List.length_cons]at la lb
    have ga':=ZaH.1 ga
    have gb':=ZaH.1 gb
    have p1:((a'.length+1:Nat):Int)>0:=by omega
    have p2:(1:Int)≤((a'.length+1:Nat):Int):=by omega
    have p3:(((a'.length+1:Nat):Int)==0)=false:=by simp;omega
    have p4:(0:Int)<((a'.length+1:Nat):Int):=by omega
    have q1:((b'.length+1:Nat):Int)>0:=by omega
    have q2:(1:Int)≤((b'.length+1:Nat):Int):=by omega
    have q3:(((b'.length+1:Nat):Int)==0)=false:=by simp;omega
    have q4:(0:Int)<((b'.length+1:Nat):Int):=by omega
    have ox:=(Zfa ga'.2.2.1).1
    have oy:=(Zfa gb'.2.2.1).1
    have bad:¬ Zd3 a b→D.v (.bool false)=dB (Zkj a b):=fun hn=>Zaj (by
     cases h:Zkj a b
     ·rfl
     ·exact absurd (ZfM.1 h) hn)
    by_cases h3:x.v≤y.v
    ·by_cases h4:y.v≤x.v
     ·have kc:=Zeh x.f y.f (sa x Yb7) (sb y Yb7)
      rw[show cmpD x.f y.f=sgQ (qOf x.f-qOf y.f) by simp[cmpD,ox,oy]]at kc
      have hb1:=Zu1 ga gb (by omega)
      by_cases h5:sgQ (qOf x.f-qOf y.f)>0
      ·refine aGo (cj4 Zr p1 p2 (cj4 p3 p4 q1 (cj4 q2 q3 q4 (cj4 h3 h4 h5 Zbm)))) ?_
       repeat with_reducible intro K hK
       exact bad fun h=>by have:=(hb1.1 (hiff.2 h)).1;rw[gt_iff_lt,Zdp]at h5;grind
      ·refine aGo (cj4 Zr p1 p2 (cj4 p3 p4 q1 (cj4 q2 q3 q4 (cj4 h3 h4 h5 Zbm)))) ?_
       repeat with_reducible intro K hK
       refine Zad ⟨a',b',x.v⟩ ⟨ga'.2.2.2,Zn7 (by omega) gb'.2.2.2,fun t ht=>sa t (Yb6 _ ht),fun t ht=>sb t (Yb6 _ ht),by dsimp only;omega,by dsimp only;omega,?_⟩ (by simp;omega) (by exact leGo Zbm)
       rw[gt_iff_lt,Zdp]at h5
       rw[← hiff,hb1]
       exact⟨fun h=>⟨by grind,h⟩,fun h=>h.2⟩
     ·have kc:=Zeh x.f (ofQ 0) (sa x Yb7) z0
      rw[show cmpD x.f (ofQ 0)=sgQ (qOf x.f-0) by simp[cmpD,ox,Zby,Zay]]at kc
      have gb2:goR n x.v (y ::b')=true:=ZaH.2 ⟨by omega,gb'.2⟩
      have hb1:=Zl0 ga gb2
      by_cases h5:sgQ (qOf x.f-0)>0
      ·refine aGo (cj4 Zr p1 p2 (cj4 p3 p4 q1 (cj4 q2 q3 q4 (cj4 h3 h4 h5 Zbm)))) ?_
       repeat with_reducible intro K hK
       exact bad fun h=>by have:=(hb1.1 (hiff.2 h)).1;rw[gt_iff_lt,Zdp]at h5;grind
      ·refine aGo (cj4 Zr p1 p2 (cj4 p3 p4 q1 (cj4 q2 q3 q4 (cj4 h3 h4 h5 Zbm)))) ?_
       repeat with_reducible intro K hK
       refine Zad ⟨a',y ::b',x.v⟩ ⟨ga'.2.2.2,gb2,fun t ht=>sa t (Yb6 _ ht),sb,by dsimp only;omega,by simp only[List.length_cons];omega,?_⟩ (by simp) (by exact leGo Zbm)
       rw[gt_iff_lt,Zdp]at h5
       rw[← hiff,hb1]
       exact⟨fun h=>⟨by grind,h⟩,fun h=>h.2⟩
    ·have h4:y.v≤x.v:=by omega
     have kc:=Zeh (ofQ 0) y.f z0 (sb y Yb7)
     rw[show cmpD (ofQ 0) y.f=sgQ (0-qOf y.f) by simp[cmpD,oy,Zby,Zay]]at kc
     have ga2:goR n y.v (x ::a')=true:=ZaH.2 ⟨by omega,ga'.2⟩
     have hb1:=Zki ga2 gb
     by_cases h5:sgQ (0-qOf y.f)>0
     ·refine aGo (cj4 Zr p1 p2 (cj4 p3 p4 q1 (cj4 q2 q3 q4 (cj4 h3 h4 h5 Zbm)))) ?_
      repeat with_reducible intro K hK
      exact bad fun h=>by have:=(hb1.1 (hiff.2 h)).1;rw[gt_iff_lt,Zdp]at h5;grind
     ·refine aGo (cj4 Zr p1 p2 (cj4 p3 p4 q1 (cj4 q2 q3 q4 (cj4 h3 h4 h5 Zbm)))) ?_
      repeat with_reducible intro K hK
      refine Zad ⟨x ::a',b',y.v⟩ ⟨ga2,gb'.2.2.2,sa,fun t ht=>sb t (Yb6 _ ht),by simp only[List.length_cons];omega,by dsimp only;omega,?_⟩ (by simp) (by exact leGo Zbm)
      rw[gt_iff_lt,Zdp]at h5
      rw[← hiff,hb1]
      exact⟨fun h=>⟨by grind,h⟩,fun h=>h.2⟩
set_option maxHeartbeats 8000000
def tabL(n:Nat)(c:Nat→List D):List (List D):=(List.range n).map c
theorem Zc0(n:Nat)(c:Nat→List D):(tabL n c).length=n:=by simp[tabL]
theorem ZbB{n k:Nat}(c:Nat→List D)(h:k<n):(tabL n c)[k]? =some (c k):=by simp[tabL,h]
theorem Zbr{n:Nat}{c d:Nat→List D}(h:∀ u,u<n→c u=d u):tabL n c=tabL n d:=List.map_congr_left fun u hu=>h u (Yd2.1 hu)
theorem Zgu{n k:Nat}(c:Nat→List D)(x:List D):(tabL n c).set k x=tabL n (fun u=>if u=k then x else c u):=by
 apply List.ext_getElem
 ·simp[tabL]
 ·intro i h1 h2
  simp only[tabL,Yc0,List.length_range]at h2
  rw[List.getElem_set]
  simp only[tabL,List.getElem_map,List.getElem_range]
  by_cases e:k=i
  ·subst e;simp
  ·rw[if_neg e,if_neg (Ne.symm e)]
theorem Zvt(n:Nat)(z:List D):List.replicate n z=tabL n (fun _=>z):=by
 unfold tabL;rw[List.map_const',List.length_range]
abbrev zc:List D:=[dI 0,.nil,dI 0,.nil]
theorem Zyb(a:Rat)(f g:Zag)(hf:okF f=true)(hg:okF g=true)(za:(szQ a:Int)≤34359750000)(zf:smF f)(zg:smF g):Zah Tryz.prog 202 [encF (ofQ a),encF f,encF g] (encF (ofQ (a+qOf f*qOf g))):=by
 have:=ZFp a (qOf f) (qOf g) za (by rw[Zcl hf];exact zf) (by rw[Zcl hg];exact zg)
 rwa [← ZcF hf,← ZcF hg]at this
def ZfC(n k:Nat):List (List D):=tabL n (fun v=>if v<k then cF (ofQ 0)else zc)
theorem ZlP(n:Nat):ZfC n 0=List.replicate n zc:=by rw[Zvt];exact Zbr fun u _=>by rw[if_neg (by omega)]
theorem Zhq(n k:Nat):(ZfC n k).length=n:=Zc0 _ _
theorem Zoa(n k:Nat):(ZfC n k).set k (cF (ofQ 0))=ZfC n (k+1):=by
 unfold ZfC
 rw[Zgu]
 refine Zbr fun u _=>?_
 by_cases h:u=k
 ·rw[if_pos h,if_pos (by omega)]
 ·rw[if_neg h]
  by_cases h2:u<k
  ·rw[if_pos h2,if_pos (by omega)]
  ·rw[if_neg h2,if_neg (by omega)]
def ratL(n:Nat)(c:Nat→Rat):List (List D):=tabL n (fun v=>cF (ofQ (c v)))
theorem Zck(n:Nat)(c:Nat→Rat):(ratL n c).length=n:=Zc0 _ _
theorem Zbc{n k:Nat}(c:Nat→Rat)(h:k<n):(ratL n c)[k]? =some (cF (ofQ (c k))):=ZbB _ h
theorem ZdV{n k:Nat}(c:Nat→Rat)(q:Rat):(ratL n c).set k (cF (ofQ q))=ratL n (fun u=>if u=k then q else c u):=by
 unfold ratL
 rw[Zgu]
 refine Zbr fun u _=>?_
 by_cases h:u=k<;>simp[h]
theorem ZaY{n:Nat}{c d:Nat→Rat}(h:∀ u,u<n→c u=d u):ratL n c=ratL n d:=Zbr fun u hu=>by rw[h u hu]
theorem Zoc(n:Nat):ZfC n n=ratL n (fun _=>0):=Zbr fun u hu=>by rw[if_pos hu]
theorem ZhQ(n:Nat)(c:Nat→Rat)(keep:Nat→Bool):(∀ e,e∈ratL n c→okDs keep e=true)↔True:=by
 simp only[iff_true]
 intro e he
 obtain⟨v,_,rfl⟩:=Yc6.1 he
 rfl
theorem Zfb(n k:Nat)(keep:Nat→Bool):(∀ e,e∈ZfC n k→okDs keep e=true)↔True:=by
 simp only[iff_true]
 intro e he
 obtain⟨v,_,rfl⟩:=Yc6.1 he
 split<;>rfl
def Zek(s:SysD)(y:List Zag)(k:Nat)(v:Nat):Rat:=mixG (indI v) (s.r.take k) (y.take k)
def Zjr(s:SysD)(y:List Zag)(k:Nat)(f:Zag)(t:List Zaf)(j:Nat)(v:Nat):Rat:=Zek s y k v+qOf f*dotS (indI v) (t.take j)
theorem ZtZ(s:SysD)(y:List Zag)(k:Nat)(f:Zag)(t:List Zaf)(n:Nat):ratL n (Zjr s y k f t 0)=ratL n (Zek s y k):=ZaY fun u _=>by unfold Zjr;rw[List.take_zero];simp only[dotS];grind
theorem Zf5{g:Int→Rat}{l:List Zaf}{k:Nat}{t:Zaf}(hx:l[k]? =some t):dotS g (l.take (k+1))=dotS g (l.take k)+qOf t.f*g t.v:=by
 rw[Yb4,hx,Option.toList_some,Zip];simp only[dotS];grind
theorem Zt0(s:SysD)(y:List Zag)(k:Nat)(f:Zag){l:List Zaf}{j:Nat}{t:Zaf}(ht:l[j]? =some t)(h0:0≤t.v)(n:Nat):(ratL n (Zjr s y k f l j)).set t.v.toNat (cF (ofQ (Zjr s y k f l j t.v.toNat+qOf f*qOf t.f)))=ratL n (Zjr s y k f l (j+1)):=by
 rw[ZdV]
 refine ZaY fun u _=>?_
 unfold Zjr
 rw[Zf5 ht]
 simp only[indI]
 by_cases h:u=t.v.toNat
 ·rw[if_pos h,if_pos (by omega),h];grind
 ·rw[if_neg h,if_neg (by omega)];grind
theorem ZtX{s:SysD}{y:List Zag}{k:Nat}{w:RowD}{f:Zag}(hw:s.r[k]? =some w)(hf:y[k]? =some f)(n:Nat):ratL n (Zjr s y k f w.t w.t.length)=ratL n (Zek s y (k+1)):=ZaY fun u _=>by
 unfold Zjr Zek;rw[ZiW _ _ _ _ _ _ hw hf,Yc2]
theorem ZtY{s:SysD}{y:List Zag}{k:Nat}{w:RowD}{f:Zag}(hw:s.r[k]? =some w)(hf:y[k]? =some f)(h0:qOf f=0)(n:Nat):ratL n (Zek s y (k+1))=ratL n (Zek s y k):=ZaY fun u _=>by
 unfold Zek;rw[ZiW _ _ _ _ _ _ hw hf,h0];grind
theorem ZtW(s:SysD)(y:List Zag)(n:Nat):ratL n (Zek s y 0)=ratL n (fun _=>0):=ZaY fun u _=>by unfold Zek;rw[List.take_zero,ZiV]
theorem ZBP(A:Rat)(f:Rat)(v:Int){B:Nat}:∀ (l:List Zaf),(∀ t∈l,szF t.f≤B∧okF t.f=true)→∀ j,j≤l.length→szQ (A+f*dotS (indI v) (l.take j))≤szQ A+j*(szQ f+B+1):=by
 intro l hl j
 induction j with
 | zero =>
   intro _
   rw[List.take_zero,show A+f*dotS (indI v) []=A by simp only[dotS];grind]
   omega
 | succ j ih =>
   intro hj
   obtain⟨t,ht⟩:=getE (l:=l) (k:=j) (by omega)
   obtain⟨h1,h2⟩:=hl t (ZaL ht)
   have i1:=ih (by omega)
   rw[Zf5 ht,Nat.add_mul,Nat.one_mul]
   by_cases hv:t.v=v
   ·rw[show A+f*(dotS (indI v) (l.take j)+qOf t.f*indI v t.v)=(A+f*dotS (indI v) (l.take j))+f*qOf t.f by simp only[indI,if_pos hv];grind]
    have i2:=ZfP (A+f*dotS (indI v) (l.take j)) (f*qOf t.f)
    have i3:=Zgv f (qOf t.f)
    rw[Zcl h2]at i3
    omega
   ·rw[show A+f*(dotS (indI v) (l.take j)+qOf t.f*indI v t.v)=A+f*dotS (indI v) (l.take j) by simp only[indI,if_neg hv];grind]
    omega
theorem ZrT{A:Rat}{f:Zag}{w:RowD}{n:Int}(v:Int)(hf:tnF f)(ho:okF f=true)(hw:tnT w.t)(hr:Zai w.t n=true){j:Nat}(hj:j≤w.t.length):(szQ (A+qOf f*dotS (indI v) (w.t.take j)):Int)≤szQ A+(j:Int)*524289:=by
 have h:=ZBP A (qOf f) v (B:=262144) w.t (fun t ht=>⟨by have:=hw.2 t ht;unfold tnF at this;omega,(Za6 hr ht).2.2.1⟩) j hj
 rw[Zcl ho]at h
 have h2:szF f≤262144:=by unfold tnF at hf;omega
 have h3:j*(szF f+262144+1)≤j*524289:=Nat.mul_le_mul_left _ (by omega)
 have:=Int.ofNat_le.2 (Yc7 h (Nat.add_le_add_left h3 _))
 simp only[Int.natCast_add,Int.natCast_mul]at this
 omega
theorem Zsh{s:SysD}(hr:ZaB s=true){w:RowD}(hw:w∈s.r):Zai w.t s.n=true:=by
 have:=ZjB hr hw
 simp only[Zdq,Ya2]at this
 exact this.1.1.1
theorem Zqk{s:SysD}{y:List Zag}(hs:tnS s)(hy:tnFs y)(ho:okP y=true)(hr:ZaB s=true)(v:Nat):∀ k,k≤y.length→k≤s.r.length→(szQ (Zek s y k v):Int)≤4+(k:Int)*33554496:=by
 intro k
 induction k with
 | zero=>intro _ _;unfold Zek;rw[List.take_zero,ZiV];have:szQ 0≤4:=ZdU 0 (by decide) (by decide);omega
 | succ k ih =>
   intro h1 h2
   obtain⟨f,hf⟩:=getE (l:=y) (k:=k) (by omega)
   obtain⟨w,hw⟩:=getE (l:=s.r) (k:=k) (by omega)
   have sw:=hs.2 w (ZaL hw)
   have h3:=ZrT (A:=Zek s y k v) v (hy.2 f (ZaL hf)) (Ya6.1 ho f (ZaL hf)) sw.1 (Zsh hr (ZaL hw)) (Ya4 _)
   have h4:=ih (by omega) (by omega)
   have h5:(w.t.length:Int)≤64:=sw.1.1
   have e:Zek s y (k+1) v=Zek s y k v+qOf f*dotS (indI v) (w.t.take w.t.length):=by unfold Zek;rw[ZiW _ _ _ _ _ _ hw hf,Yc2]
   rw[e]
   omega
theorem ZrS{s:SysD}{y:List Zag}(hs:tnS s)(hy:tnFs y)(ho:okP y=true)(hr:ZaB s=true):∀ k,k≤y.length→k≤s.r.length→(szQ (mixV (s.r.take k) (y.take k)):Int)≤4+(k:Int)*524289:=by
 intro k
 induction k with
 | zero=>intro _ _;rw[List.take_zero,ZkF];have:szQ 0≤4:=ZdU 0 (by decide) (by decide);omega
 | succ k ih =>
   intro h1 h2
   obtain⟨f,hf⟩:=getE (l:=y) (k:=k) (by omega)
   obtain⟨w,hw⟩:=getE (l:=s.r) (k:=k) (by omega)
   have h3:=ih (by omega) (by omega)
   have zf:(szF f:Int)≤262144:=hy.2 f (ZaL hf)
   have zv:(szF w.v:Int)≤262144:=(hs.2 w (ZaL hw)).2
   have o1:=Ya6.1 ho f (ZaL hf)
   have o2:=(Zcz hr (ZaL hw)).2.2.2
   rw[ZkG _ _ _ _ _ hw hf]
   have i2:=ZfP (mixV (s.r.take k) (y.take k)) (qOf f*qOf w.v)
   have i3:=Zgv (qOf f) (qOf w.v)
   rw[Zcl o1,Zcl o2]at i3
   omega
def valQ(s:SysD)(y:List Zag)(k:Nat):Rat:=mixV (s.r.take k) (y.take k)
theorem Zvk(s:SysD)(y:List Zag):valQ s y 0=0:=by unfold valQ;rw[List.take_zero,ZkF]
theorem ZoE{s:SysD}{y:List Zag}{k:Nat}{w:RowD}{f:Zag}(hw:s.r[k]? =some w)(hf:y[k]? =some f):valQ s y (k+1)=valQ s y k+qOf f*qOf w.v:=ZkG _ _ _ _ _ hw hf
theorem Zqi{n:Nat}{c:Nat→Rat}(h:c n≠0):ZaS (n+1) c=ZaS n c++[⟨(n:Int),ofQ (c n)⟩]:=by rw[Zcp,if_neg h]
theorem ZoI{n:Nat}{c:Nat→Rat}(h:c n=0):ZaS (n+1) c=ZaS n c:=by rw[Zcp,if_pos h,List.append_nil]
theorem ZoH(c:Nat→Rat):ZaS 0 c=[]:=rfl
theorem ZFo(s:SysD)(y:List Zag)(hs:tnS s)(hy:tnFs y):Zah Tryz.prog 173 [encS s,Za0 y] (.tup [Zbk (Zpt s y).1,encF (Zpt s y).2]):=by
 have Zr:=Tryz.results173
 have k1:=Zx3 s y hs.sm hy.sm
 cases h1:ZhJ s y
 ·rw[h1]at k1
  refine inC Tryz.func173 rfl Tryz.ntmps173 ?_
  rw[show Zpt s y=([],zF) by simp[Zpt,h1]]
  refine aGo Zr ?_
  repeat with_reducible intro K hK
  rfl
 rw[h1]at k1
 obtain⟨hr,hlen,hok⟩:=Zev.1 h1
 have hn:=Zb7 hr
 have hly:=hy.1
 have kz:=ZpL 0 (by decide) (by decide)
 rw[Rat.intCast_zero]at kz
 obtain⟨N,hN⟩:∃ N,s.n.toNat=N:=⟨_,rfl⟩
 have hNn:s.n=(N:Int):=by omega
 have hrep:List.replicate s.n.toNat [D.v (.int .i64 0),D.nil,D.v (.int .i64 0),D.nil]=ZfC N 0:=by rw[hN];exact(ZlP _).symm
 have hlf:=Zhq N 0
 have n0:=hn.1
 have n1:(24:Int)*s.n≤140737488355328:=by omega
 have n2:s.n≤9007199254740992:=by omega
 have n3:s.n≤s.n:=Int.le_refl _
 rw[show Zpt s y=(mixT s y,ofQ (mixV s.r y)) by simp[Zpt,h1]]
 have hmix:mixT s y=ZaS N (fun v=>mixG (indI v) s.r y):=by unfold mixT;rw[hN]
 rw[hmix]
 refine inC Tryz.func173 rfl Tryz.ntmps173 ?_
 refine aGo (cj4 Zr hrep hlf (cj4 n0 n1 n2 n3)) ?_
 repeat with_reducible intro K hK
 refine Zas (fun(k:Nat)=>[(1,Za0 y),(2,.lp 0 0 0 0),(5,.lp 1 0 0 0),(6,.ls 2 1),(24,.ls 2 1),(25,dI N),(26,dI k)]) (fun k=>[(0,⟨99,0,2,[cS s],0,false⟩),(1,⟨53,0,4,[zc],0,false⟩),(2,⟨53,1,4,ZfC N k,0,false⟩)]) 3 0 (fun k=>k≤N) (fun k=>N-k) 0 (by omega) ?_ ?_
 ·exact leGo (cj2 ZhQ Zfb)
 ·rintro k hk
  obtain⟨hw,h0⟩:=ZaO k
  have hl:=Zhq N k
  by_cases h2:(k:Int)<N
  ·have hg:(ZfC N k)[k]? =some zc:=by unfold ZfC;rw[ZbB _ (by omega),if_neg (by omega)]
   have hset:=Zoa N k
   refine aGo (cj4 Zr h0 h2 (cj4 hw hl hg (cj2 hset Yb0))) ?_
   repeat with_reducible intro K hK
   exact Zad (k+1) (by omega) (by omega) (by exact leGo (cj2 ZhQ Zfb))
  ·obtain rfl:k=N:=by omega
   have hf0:ZfC k k=ratL k (Zek s y 0):=(Zoc k).trans (ZtW s y k).symm
   have hv0:=Zvk s y
   rw[hf0]
   refine aGo (cj2 Zr h2) ?_
   repeat with_reducible intro K hK
   refine Zas (fun(i:Nat)=>[(2,.lp 0 0 0 0),(5,.lp 1 0 0 0),(6,.ls 2 1),(8,.lp 3 0 0 0),(35,Za0 y),(36,dI y.length),(37,dI i)]) (fun i=>[(0,⟨99,0,2,[cS s],0,false⟩),(1,⟨53,0,4,[zc],0,false⟩),(2,⟨53,1,4,ratL k (Zek s y i),0,false⟩),(3,⟨53,0,4,[cF (ofQ (valQ s y i))],0,false⟩)]) 4 0 (fun i=>i≤y.length) (fun i=>y.length-i) 0 (by omega) ?_ ?_
   ·exact leGo (cj3 ZhQ Zfb hv0)
   ·rintro i hi
    obtain⟨hwi,i0⟩:=ZaO i
    have hli:=Zck k (Zek s y i)
    by_cases h3:(i:Int)<y.length
    ·obtain⟨f,hf⟩:=getE (l:=y) (k:=i) (by omega)
     obtain⟨w,hrw⟩:=getE (l:=s.r) (k:=i) (by omega)
     have h3b:(i:Int)<s.r.length:=by omega
     have tf:=hy.2 f (ZaL hf)
     have tw:=hs.2 w (ZaL hrw)
     have of:=Ya6.1 hok f (ZaL hf)
     have ow:=(Zcz hr (ZaL hrw)).2.2.2
     have rw':=Zsh hr (ZaL hrw)
     have ks:=ZeD f (Zgw tf.sm)
     cases h4:sgnD f==0
     rotate_left
     ·have q0:qOf f=0:=by
       have:sgnD f=0:=by simpa using h4
       simp only[sgnD,of,if_true]at this
       exact ZdF.1 this
      have e1:=ZtY hrw hf q0 k
      have e2:valQ s y (i+1)=valQ s y i:=by rw[ZoE hrw hf,q0];grind
      refine aGo (cj4 Zr i0 h3 (cj4 h3b hf hrw (cj2 hwi h4))) ?_
      repeat with_reducible intro K hK
      exact Zad (i+1) (by omega) (by omega) (by exact leGo (cj4 ZhQ Zfb e1 e2))
     ·refine aGo (cj4 Zr i0 h3 (cj4 h3b hf hrw (cj2 hwi h4))) ?_
      repeat with_reducible intro K hK
      have hj0:=ZtZ s y i f w.t k
      have hlw:=tw.1.1
      refine Zas (fun(j:Nat)=>[(2,.lp 0 0 0 0),(5,.lp 1 0 0 0),(6,.ls 2 1),(8,.lp 3 0 0 0),(9,dI i),(10,.lp 4 0 0 0),(35,Za0 y),(36,dI y.length),(37,dI i),(50,Zbk w.t),(51,dI w.t.length),(52,dI j)]) (fun j=>[(0,⟨99,0,2,[cS s],0,false⟩),(1,⟨53,0,4,[zc],0,false⟩),(2,⟨53,1,4,ratL k (Zjr s y i f w.t j),0,false⟩),(3,⟨53,0,4,[cF (ofQ (valQ s y i))],0,false⟩),(4,⟨53,0,4,[cF f],0,false⟩)]) 5 0 (fun j=>j≤w.t.length) (fun j=>w.t.length-j) 0 (by omega) ?_ ?_
      ·exact leGo (cj3 ZhQ Zfb hj0)
      ·rintro j hj
       obtain⟨hwj,j0⟩:=ZaO j
       have hlj:=Zck k (Zjr s y i f w.t j)
       by_cases h5:(j:Int)<w.t.length
       ·obtain⟨t,ht⟩:=getE (l:=w.t) (k:=j) (by omega)
        obtain⟨t0,t1,t2,_⟩:=Za6 rw' (ZaL ht)
        rw[hNn]at t1
        have hg:=Zbc (n:=k) (Zjr s y i f w.t j) (k:=t.v.toNat) (by omega)
        have hset:=Zt0 s y i f ht t0 k
        have z1:=Zqk hs hy hok hr t.v.toNat i hi (by omega)
        have z2:=ZrT (A:=Zek s y i t.v.toNat) (n:=s.n) t.v.toNat tf of tw.1 rw' hj
        have ka:=Zyb (Zjr s y i f w.t j t.v.toNat) f t.f of t2 (by unfold Zjr;omega) tf.sm (tw.1.2 t (ZaL ht)).sm
        refine aGo (cj4 Zr j0 h5 (cj4 ht t0 t1 (cj4 hg hset hlj (cj2 hwj Yb0)))) ?_
        repeat with_reducible intro K hK
        exact Zad (j+1) (by omega) (by omega) (by exact leGo (cj2 ZhQ Zfb))
       ·obtain rfl:j=w.t.length:=by omega
        have e1:=ZtX hrw hf k
        have e2:=ZoE hrw hf
        have zv:=ZrS hs hy hok hr i hi (by omega)
        have ka:=Zyb (valQ s y i) f w.v of ow (by unfold valQ;omega) tf.sm tw.2.sm
        refine aGo (cj4 Zr h5 i0 (cj3 h3b hrw hwi)) ?_
        repeat with_reducible intro K hK
        exact Zad (i+1) (by omega) (by omega) (by exact leGo (cj4 ZhQ Zfb e1 e2))
    ·obtain rfl:i=y.length:=by omega
     obtain⟨c,hc⟩:∃ c:Nat→Rat,(fun v:Nat=>mixG (indI v) s.r y)=c:=⟨_,rfl⟩
     have e1:ratL k (Zek s y y.length)=ratL k c:=ZaY fun u _=>by
      rw[← hc];unfold Zek;rw[hlen,Yc2,← hlen,Yc2]
     have e2:valQ s y y.length=mixV s.r y:=by unfold valQ;rw[hlen,Yc2,← hlen,Yc2]
     have zc':∀ u,(szQ (c u):Int)≤549755813888:=fun u=>by
      have h:=Zqk hs hy hok hr u y.length (Ya4 _) (by omega)
      unfold Zek at h
      rw[hlen,Yc2,← hlen,Yc2]at h
      rw[← hc];dsimp only;omega
     rw[e1,e2]
     have hlc:=Zck k c
     refine aGo (cj3 Zr h3 hlc) ?_
     repeat with_reducible intro K hK
     refine aLe (Zcs 13 151 5 rfl) ?_
     have ht0:=ZoH c
     refine Zas (fun(u:Nat)=>[(5,.lp 1 0 0 0),(8,.lp 3 0 0 0),(13,.ls 4 (ZaS u c).length),(80,.ls 2 1),(81,dI k),(82,dI u)]) (fun u=>[(1,⟨53,0,4,[zc],0,false⟩),(2,⟨53,1,4,ratL k c,0,false⟩),(3,⟨53,0,4,[cF (ofQ (mixV s.r y))],0,false⟩),(4,⟨151,(ZaS u c).length,5,(ZaS u c).map cT,0,false⟩)]) 5 0 (fun u=>u≤k) (fun u=>k-u) 0 (by omega) ?_ ?_
     ·exact leGo (cj3 ZhQ Zfb ht0)
     ·rintro u hu
      obtain⟨hwu,u0⟩:=ZaO u
      have htl:=Zej c u
      by_cases h6:(u:Int)<k
      ·have hg:=Zbc c (show u<k by omega)
       have ks:=ZeD (ofQ (c u)) (by rw[Ze8];exact zc' u)
       rw[ZbN]at ks
       by_cases h7:c u=0
       ·have h8:(sgQ (c u) !=0)=false:=by simp[ZdF.2 h7]
        have e3:=ZoI h7
        refine aGo (cj4 Zr u0 h6 (cj4 hg hlc hwu h8)) ?_
        repeat with_reducible intro K hK
        exact Zad (u+1) (by omega) (by omega) (by exact leGo (cj3 ZhQ Zfb e3))
       ·have h8:(sgQ (c u) !=0)=true:=by simp[ZdF,h7]
        have e3:=Zqi h7
        refine aGo (cj4 Zr u0 h6 (cj4 hg hlc hwu h8)) ?_
        repeat with_reducible intro K hK
        exact Zad (u+1) (by omega) (by omega) (by exact leGo (cj3 ZhQ Zfb e3))
      ·obtain rfl:u=k:=by omega
       refine aGo (cj2 Zr h6) ?_
       repeat with_reducible intro K hK
       rw[Zao (fun _=>rfl),hc]
structure Dic where
 m:Nat
 n:Nat
 own:Nat→Nat
 free:Nat→Nat
 v:Nat→Rat
 a:Nat→Nat→Rat
 g:Nat→Rat
 z:Rat
theorem Zci(f:Nat→Rat){s:Nat}:∀ n,s<n→sumN n f=f s+sumN n (fun j=>if j=s then 0 else f j)
 | 0,h=>absurd h (Nat.not_lt_zero _)
 | n+1,h=>by
   simp only[sumN]
   by_cases e:n=s
   ·subst e
    rw[if_pos rfl,Za5 (f:=fun j=>if j=n then 0 else f j) (g:=f) n (fun i hi=>if_neg (by omega))];grind
   ·rw[if_neg e,Zci f (s:=s) n (by omega)];grind
theorem ZrZ{f:Nat→Rat}{n s:Nat}(hs:s<n)(h0:0<f s)(h:∀ j,j<n→0≤f j):0<sumN n f:=by
 rw[Zci f n hs]
 have h2:sumN n (fun _=>0)≤sumN n (fun j=>if j=s then 0 else f j):=Zk2 n fun j hj=>by
  split
  ·exact Rat.le_refl
  ·exact h j hj
 rw[Zbs]at h2;grind
theorem Zqn{f:Nat→Rat}{n:Nat}(h:∀ j,j<n→0≤f j):0≤sumN n f:=by
 have h2:sumN n (fun _=>0)≤sumN n f:=Zk2 n h
 rwa [Zbs]at h2
theorem ZrY(f g:Nat→Rat)(n:Nat):sumN n (fun i=>f i-g i)=sumN n f-sumN n g:=by
 have h:(fun i=>f i-g i)=fun i=>f i+(-1)*g i:=by funext i;grind
 rw[h,ZfQ,Zd4];grind
namespace Dic
def up{α:Type}(f:Nat→α)(k:Nat)(x:α):Nat→α:=fun i=>if i=k then x else f i
def ex(d:Dic)(r s:Nat):Dic :=
 { d with
   own:=up d.own r (d.free s),free:=up d.free s (d.own r)
   v:=fun i=>if i=r then d.v r / d.a r s else d.v i-d.a i s*(d.v r / d.a r s)
   a:=fun i j=>if i=r then(if j=s then 1 / d.a r s else d.a r j / d.a r s)else if j=s then 0-d.a i s*(1 / d.a r s)else d.a i j-d.a i s*(d.a r j / d.a r s)
   g:=fun j=>if j=s then 0-d.g s*(1 / d.a r s)else d.g j-d.g s*(d.a r j / d.a r s)
   z:=d.z+d.g s*(d.v r / d.a r s)}
def Row(d:Dic)(k:Rat)(x:Nat→Rat)(i:Nat):Prop:=x (d.own i)=d.v i*k-sumN d.n fun j=>d.a i j*x (d.free j)
def Sol(d:Dic)(k:Rat)(x:Nat→Rat):Prop:=∀ i,i<d.m→d.Row k x i
def obj(d:Dic)(k:Rat)(x:Nat→Rat):Rat:=d.z*k+sumN d.n fun j=>d.g j*x (d.free j)
structure Part (d:Dic):Prop where
 own_lt:∀ i,i<d.m→d.own i<d.n+d.m
 free_lt:∀ j,j<d.n→d.free j<d.n+d.m
 own_inj:∀ i i',i<d.m→i'<d.m→d.own i=d.own i'→i=i'
 free_inj:∀ j j',j<d.n→j'<d.n→d.free j=d.free j'→j=j'
 apart:∀ i j,i<d.m→j<d.n→d.own i≠d.free j
 all:∀ q,q<d.n+d.m→(∃ i,i<d.m∧d.own i=q)∨∃ j,j<d.n∧d.free j=q
theorem ex_part{d:Dic}(h:Part d){r s:Nat}(hr:r<d.m)(hs:s<d.n):Part (d.ex r s):=by
 refine⟨fun i hi=>?_,fun j hj=>?_,fun i i' hi hi' e=>?_,fun j j' hj hj' e=>?_,fun i j hi hj e=>?_,fun q hq=>?_⟩
 ·simp only[ex,up]at *
  split
  ·exact h.free_lt s hs
  ·exact h.own_lt i hi
 ·simp only[ex,up]at *
  split
  ·exact h.own_lt r hr
  ·exact h.free_lt j hj
 ·simp only[ex,up]at *
  split at e<;>split at e
  ·omega
  ·exact absurd e.symm (h.apart _ _ hi' hs)
  ·exact absurd e (h.apart _ _ hi hs)
  ·exact h.own_inj _ _ hi hi' e
 ·simp only[ex,up]at *
  split at e<;>split at e
  ·omega
  ·exact absurd e (h.apart _ _ hr hj')
  ·exact absurd e.symm (h.apart _ _ hr hj)
  ·exact h.free_inj _ _ hj hj' e
 ·simp only[ex,up]at *
  split at e<;>split at e
  ·exact h.apart _ _ hr hs e.symm
  ·rename_i h1 h2;exact h2 (h.free_inj _ _ hj hs e.symm)
  ·rename_i h1 h2;exact h1 (h.own_inj _ _ hi hr e)
  ·exact h.apart _ _ hi hj e
 ·simp only[ex,up]at *
  rcases h.all q hq with⟨i,hi,e⟩|⟨j,hj,e⟩
  ·by_cases hir:i=r
   ·subst hir;exact .inr ⟨s,hs,by rw[if_pos rfl];exact e⟩
   ·exact .inl ⟨i,hi,by rw[if_neg hir];exact e⟩
  ·by_cases hjs:j=s
   ·subst hjs;exact .inl ⟨r,hr,by rw[if_pos rfl];exact e⟩
   ·exact .inr ⟨j,hj,by rw[if_neg hjs];exact e⟩
theorem Ztj{d:Dic}{r s:Nat}(hs:s<d.n)(hp:d.a r s≠0)(k:Rat)(x:Nat→Rat):(d.ex r s).Row k x r↔d.Row k x r:=by
 unfold Row
 rw[Zci _ (d.ex r s).n (s:=s) hs,Zci _ d.n hs]
 have e:sumN (d.ex r s).n (fun j=>if j=s then 0 else(d.ex r s).a r j*x ((d.ex r s).free j))=(1 / d.a r s)*sumN d.n (fun j=>if j=s then 0 else d.a r j*x (d.free j)):=by
  rw[← Zd4]
  refine Za5 _ fun j _=>?_
  by_cases h:j=s
  ·rw[if_pos h,if_pos h];grind
  ·rw[if_neg h,if_neg h];simp only[ex,up,if_neg h,if_pos];grind
 rw[e]
 simp only[ex,up,if_pos]
 have h1:d.a r s*(1 / d.a r s)=1:=by grind
 grind
theorem ZBt{d:Dic}{r s i:Nat}(hs:s<d.n)(hp:d.a r s≠0)(hi:i≠r){k:Rat}{x:Nat→Rat}(hx:d.Row k x r):(d.ex r s).Row k x i↔d.Row k x i:=by
 unfold Row at hx ⊢
 rw[Zci _ d.n hs]at hx
 rw[Zci _ (d.ex r s).n (s:=s) hs,Zci _ d.n hs]
 have e:sumN (d.ex r s).n (fun j=>if j=s then 0 else(d.ex r s).a i j*x ((d.ex r s).free j))=sumN d.n (fun j=>if j=s then 0 else d.a i j*x (d.free j))-d.a i s*(1 / d.a r s)*sumN d.n (fun j=>if j=s then 0 else d.a r j*x (d.free j)):=by
  rw[← Zd4,← ZrY]
  refine Za5 _ fun j _=>?_
  by_cases h:j=s
  ·rw[if_pos h,if_pos h,if_pos h];grind
  ·rw[if_neg h,if_neg h,if_neg h];simp only[ex,up,if_neg h,if_neg hi];grind
 rw[e]
 simp only[ex,up,if_pos,if_neg hi]
 have h1:d.a r s*(1 / d.a r s)=1:=by grind
 grind
theorem ZE7{d:Dic}{r s:Nat}(hr:r<d.m)(hs:s<d.n)(hp:d.a r s≠0)(k:Rat)(x:Nat→Rat):(d.ex r s).Sol k x↔d.Sol k x:=by
 constructor
 ·intro h i hi
  have h0:=(Ztj hs hp k x).1 (h r hr)
  by_cases e:i=r
  ·subst e;exact h0
  ·exact(ZBt hs hp e h0).1 (h i hi)
 ·intro h i hi
  have h0:=h r hr
  by_cases e:i=r
  ·subst e;exact(Ztj hs hp k x).2 h0
  ·exact(ZBt hs hp e h0).2 (h i hi)
theorem ZFa{d:Dic}{r s:Nat}(hs:s<d.n)(hp:d.a r s≠0){k:Rat}{x:Nat→Rat}(hx:d.Row k x r):(d.ex r s).obj k x=d.obj k x:=by
 unfold Row at hx
 unfold obj
 rw[Zci _ d.n hs]at hx
 rw[Zci _ (d.ex r s).n (s:=s) hs,Zci _ d.n hs]
 have e:sumN (d.ex r s).n (fun j=>if j=s then 0 else(d.ex r s).g j*x ((d.ex r s).free j))=sumN d.n (fun j=>if j=s then 0 else d.g j*x (d.free j))-d.g s*(1 / d.a r s)*sumN d.n (fun j=>if j=s then 0 else d.a r j*x (d.free j)):=by
  rw[← Zd4,← ZrY]
  refine Za5 _ fun j _=>?_
  by_cases h:j=s
  ·rw[if_pos h,if_pos h,if_pos h];grind
  ·rw[if_neg h,if_neg h,if_neg h];simp only[ex,up,if_neg h];grind
 rw[e]
 simp only[ex,up,if_pos]
 have h1:d.a r s*(1 / d.a r s)=1:=by grind
 grind
open Classical in
noncomputable def Zuq (n:Nat) (f:Nat→Nat) (q:Nat):Option Nat:=if h:∃ i,i<n∧f i=q then some (Classical.choose h)else none
theorem ZmD{n:Nat}{f:Nat→Nat}(hf:∀ i i',i<n→i'<n→f i=f i'→i=i'){i:Nat}(hi:i<n):Zuq n f (f i)=some i:=by
 have h:∃ i',i'<n∧f i'=f i:=⟨i,hi,rfl⟩
 unfold Zuq
 rw[dif_pos h]
 have:=Classical.choose_spec h
 exact congrArg some (hf _ _ this.1 hi this.2)
theorem Zup{n:Nat}{f:Nat→Nat}{q:Nat}(h:∀ i,i<n→f i≠q):Zuq n f q=none:=by
 unfold Zuq
 rw[dif_neg]
 rintro⟨i,hi,e⟩;exact h i hi e
noncomputable def val (d:Dic) (k:Rat) (c:Nat→Rat) (q:Nat):Rat :=
 match Zuq d.m d.own q with
 | some i=>d.v i*k-sumN d.n fun j=>d.a i j*c j
 | none=>match Zuq d.n d.free q with
   | some j=>c j
   | none=>0
section
variable {d:Dic} {k:Rat} {c:Nat→Rat}
theorem val_own(h:Part d){i:Nat}(hi:i<d.m):d.val k c (d.own i)=d.v i*k-sumN d.n fun j=>d.a i j*c j:=by
 unfold val;rw[ZmD h.own_inj hi]
theorem val_free(h:Part d){j:Nat}(hj:j<d.n):d.val k c (d.free j)=c j:=by
 unfold val;rw[Zup (fun i hi=>h.apart i j hi hj),ZmD h.free_inj hj]
theorem val_sol(h:Part d):d.Sol k (d.val k c):=by
 intro i hi
 unfold Row
 rw[val_own h hi]
 congr 1
 exact Za5 _ fun j hj=>by rw[val_free h hj]
theorem val_obj(h:Part d):d.obj k (d.val k c)=d.z*k+sumN d.n fun j=>d.g j*c j:=by
 unfold obj
 congr 1
 exact Za5 _ fun j hj=>by rw[val_free h hj]
end
noncomputable def base (d:Dic):Nat→Rat:=d.val 1 fun _=>0
noncomputable def dir (d:Dic) (s:Nat):Nat→Rat:=d.val 0 fun j=>if j=s then 1 else 0
section
variable {d:Dic}
theorem base_own(h:Part d){i:Nat}(hi:i<d.m):d.base (d.own i)=d.v i:=by
 unfold base
 rw[val_own h hi,show(fun j=>d.a i j*(0:Rat))=fun _=>0 by funext j;grind,Zbs];grind
theorem base_free(h:Part d){j:Nat}(hj:j<d.n):d.base (d.free j)=0:=val_free h hj
theorem sumN_at(f:Nat→Rat){n s:Nat}(hs:s<n):sumN n (fun j=>f j*if j=s then 1 else 0)=f s:=by
 have e:(fun j=>f j*if j=s then(1:Rat)else 0)=fun j=>if j=s then f s else 0:=by
  funext j
  by_cases h:j=s
  ·subst h;rw[if_pos rfl,if_pos rfl];grind
  ·rw[if_neg h,if_neg h];grind
 rw[e,Zg8,if_pos hs]
theorem dir_own(h:Part d){i s:Nat}(hi:i<d.m)(hs:s<d.n):d.dir s (d.own i) = - d.a i s:=by
 unfold dir
 rw[val_own h hi,sumN_at _ hs];grind
theorem dir_free(h:Part d){j s:Nat}(hj:j<d.n):d.dir s (d.free j)=if j=s then 1 else 0:=val_free h hj
theorem base_obj(h:Part d):d.obj 1 d.base=d.z:=by
 unfold base
 rw[val_obj h,show(fun j=>d.g j*(0:Rat))=fun _=>0 by funext j;grind,Zbs];grind
theorem dir_obj(h:Part d){s:Nat}(hs:s<d.n):d.obj 0 (d.dir s)=d.g s:=by
 unfold dir
 rw[val_obj h,sumN_at _ hs];grind
end
structure Same (d e:Dic):Prop where
 m:d.m=e.m
 n:d.n=e.n
 sol:∀ k x,d.Sol k x↔e.Sol k x
 obj:∀ k x,d.Sol k x→d.obj k x=e.obj k x
theorem Same.refl(d:Dic):Same d d:=⟨rfl,rfl,fun _ _=>Iff.rfl,fun _ _ _=>rfl⟩
theorem Same.symm{d e:Dic}(h:Same d e):Same e d:=⟨h.m.symm,h.n.symm,fun k x=>(h.sol k x).symm,fun k x hx=>(h.obj k x ((h.sol k x).2 hx)).symm⟩
theorem Same.trans{d e f:Dic}(h:Same d e)(h':Same e f):Same d f:=⟨h.m.trans h'.m,h.n.trans h'.n,fun k x=>(h.sol k x).trans (h'.sol k x),fun k x hx=>(h.obj k x hx).trans (h'.obj k x ((h.sol k x).1 hx))⟩
theorem ex_same{d:Dic}{r s:Nat}(hr:r<d.m)(hs:s<d.n)(hp:d.a r s≠0):Same d (d.ex r s) :=
 ⟨rfl,rfl,fun k x=>(ZE7 hr hs hp k x).symm,fun _ _ hx=>(ZFa hs hp (hx r hr)).symm⟩
theorem ex_ex{d:Dic}{r s:Nat}(hp:d.a r s≠0):(d.ex r s).ex r s=d:=by
 have hp':(1 / d.a r s)≠0:=by grind
 cases d with
 | mk m n own free v a g z =>
 simp only at hp hp'
 simp only[ex,up,if_pos,Dic.mk.injEq,true_and]
 refine⟨?_,?_,?_,?_,?_,?_⟩
 ·funext i;by_cases h:i=r
  ·subst h;simp only[up,if_pos]
  ·simp only[up,if_neg h]
 ·funext i;by_cases h:i=s
  ·subst h;simp only[up,if_pos]
  ·simp only[up,if_neg h]
 ·funext i;by_cases h:i=r
  ·subst h;rw[if_pos rfl];grind
  ·rw[if_neg h,if_neg h,if_neg h];grind
 ·funext i j
  by_cases h:i=r<;>by_cases h2:j=s
  ·subst h;subst h2;simp only[if_pos];grind
  ·subst h;simp only[if_pos,if_neg h2];grind
  ·subst h2;simp only[if_pos,if_neg h];grind
  ·simp only[if_neg h,if_neg h2];grind
 ·funext j
  by_cases h2:j=s
  ·subst h2;simp only[if_pos];grind
  ·simp only[if_neg h2];grind
 ·grind
structure ZDK (d:Dic) (r s:Nat):Prop where
 hr:r<d.m
 hs:s<d.n
 v:d.v r<0
 first:∀ i,i<d.m→d.v i<0→d.own r≤d.own i
 goal:∀ j,j<d.n→0<d.g j→d.own r<d.free j
 a:d.a r s<0
 least:∀ j,j<d.n→d.a r j<0→d.free s≤d.free j
structure ZDO (d:Dic) (r s:Nat):Prop where
 hr:r<d.m
 hs:s<d.n
 g:0<d.g s
 first:∀ j,j<d.n→0<d.g j→d.free s≤d.free j
 rows:∀ i,i<d.m→d.v i<0→d.free s<d.own i
 a:0<d.a r s
 least:∀ i,i<d.m→0<d.a i s→d.own r≤d.own i
def Step(d:Dic)(r s:Nat):Prop:=ZDK d r s∨ZDO d r s
theorem Step.hr{d:Dic}{r s:Nat}(h:Step d r s):r<d.m:=h.elim (·.hr) (·.hr)
theorem Step.hs{d:Dic}{r s:Nat}(h:Step d r s):s<d.n:=h.elim (·.hs) (·.hs)
theorem Step.ne{d:Dic}{r s:Nat}(h:Step d r s):d.a r s≠0:=by
 rcases h with h|h
 ·have:=h.a;grind
 ·have:=h.a;grind
theorem ZC2{d:Dic}(hP:Part d){r s q:Nat}(h:Step d r s)(hq:d.own r=q)(hl:d.free s<q) :
 ∃ k y,d.Sol k y∧y q<0∧(∀ p,p<q→p<d.n+d.m→0≤y p)∧(∀ j,j<d.n→q<d.free j→y (d.free j)=0) ∧
  ((k=1∧d.obj k y=d.z∧∀ j,j<d.n→d.free j<q→d.g j≤0)∨(k=0∧0<d.obj k y)):=by
 rcases h with h|h
 ·refine⟨1,d.base,val_sol hP,by rw[← hq,base_own hP h.hr];exact h.v,fun p hp hpn=>?_,fun j hj _=>base_free hP hj,.inl ⟨rfl,base_obj hP,fun j hj hjq=>?_⟩⟩
  ·rcases hP.all p hpn with⟨i,hi,e⟩|⟨j,hj,e⟩
   ·rw[← e,base_own hP hi]
    have:=h.first i hi
    by_cases hv:d.v i<0
    ·have:=this hv;omega
    ·grind
   ·rw[← e,base_free hP hj];exact Rat.le_refl
  ·by_cases hg:0<d.g j
   ·have:=h.goal j hj hg;omega
   ·grind
 ·refine⟨0,d.dir s,val_sol hP,by rw[← hq,dir_own hP h.hr h.hs];have:=h.a;grind,fun p hp hpn=>?_,fun j hj hjq=>by rw[dir_free hP hj,if_neg (fun e=>by subst e;omega)],.inr ⟨rfl,by rw[dir_obj hP h.hs];exact h.g⟩⟩
  rcases hP.all p hpn with⟨i,hi,e⟩|⟨j,hj,e⟩
  ·rw[← e,dir_own hP hi h.hs]
   have:=h.least i hi
   by_cases hv:0<d.a i s
   ·have:=this hv;omega
   ·grind
  ·rw[← e,dir_free hP hj]
   split
   ·grind
   ·exact Rat.le_refl
theorem ZBf{a b:Rat}(ha:a≤0)(hb:0≤b):a*b≤0:=by
 have:=Rat.mul_nonneg (a:= -a) (b:=b) (by grind) hb
 grind
theorem ZlC{a b:Rat}(ha:a<0)(hb:b<0):0<a*b:=by
 have:=Rat.mul_pos (a:= -a) (b:= -b) (by grind) (by grind)
 grind
theorem ZlB{a b:Rat}(ha:0<a)(hb:b<0):a*b<0:=by
 have:=Rat.mul_pos (a:=a) (b:= -b) ha (by grind)
 grind
theorem Zy0{f:Nat→Rat}{n s:Nat}(hs:s<n)(h0:f s<0)(h:∀ j,j<n→f j≤0):sumN n f<0:=by
 have h1:=ZrZ (f:=fun j=> -f j) hs (by grind) (fun j hj=>by have:=h j hj;grind)
 have e:(fun j=> -f j)=fun j=>(-1)*f j:=by funext j;grind
 rw[e,Zd4]at h1;grind
theorem sumN_nonpos{f:Nat→Rat}{n:Nat}(h:∀ j,j<n→f j≤0):sumN n f≤0:=by
 have h2:sumN n f≤sumN n (fun _=>0):=Zk2 n h
 rwa [Zbs]at h2
theorem ZxO{d e:Dic}(hd:Part d)(he:Part e)(hde:Same d e){r s r' s' q:Nat}(h:Step d r s)(hq:d.own r=q)(hl:d.free s<q)(h':Step e r' s')(hq':e.free s'=q)(hl':e.own r'<q)
 (hst:∀ j,j<e.n→q<e.free j→∃ j',j'<d.n∧d.free j'=e.free j) (hst':∀ j,j<d.n→q<d.free j→∃ j',j'<e.n∧e.free j'=d.free j):False:=by
 obtain⟨k,y,hy,hyq,hlow,hhigh,hk⟩:=ZC2 hd h hq hl
 have hye:=(hde.sol k y).1 hy
 have hsz:e.n+e.m=d.n+d.m:=by rw[hde.m,hde.n]
 have hz:∀ j,j<e.n→q<e.free j→y (e.free j)=0:=fun j hj hjq=>by
  obtain⟨j',hj',e'⟩:=hst j hj hjq
  rw[← e'];exact hhigh j' hj' (by omega)
 have hlow':∀ j,j<e.n→e.free j<q→0≤y (e.free j):=fun j hj hjq=>hlow _ hjq (by have:=he.free_lt j hj;omega)
 rcases h' with h'|h'
 ·have hrow:=hye r' h'.hr
  unfold Row at hrow
  have h1:=hlow _ hl' (by have:=he.own_lt r' h'.hr;omega)
  have h2:0<sumN e.n fun j=>e.a r' j*y (e.free j):=by
   refine ZrZ h'.hs (by rw[hq'];exact ZlC h'.a hyq) fun j hj=>?_
   rcases Nat.lt_trichotomy (e.free j) q with hjq|hjq|hjq
   ·refine Rat.mul_nonneg ?_ (hlow' j hj hjq)
    by_cases ha:e.a r' j<0
    ·have:=h'.least j hj ha;omega
    ·grind
   ·obtain rfl:=he.free_inj _ _ hj h'.hs (by omega)
    rw[hq'];exact Rat.le_of_lt (ZlC h'.a hyq)
   ·rw[hz j hj hjq];grind
  have h3:e.v r'*k≤0:=by
   have:=h'.v
   rcases hk with⟨rfl,_⟩|⟨rfl,_⟩<;>grind
  grind
 ·have hob:=hde.obj k y hy
  have h2:sumN e.n (fun j=>e.g j*y (e.free j))<0:=by
   refine Zy0 h'.hs (by rw[hq'];exact ZlB h'.g hyq) fun j hj=>?_
   rcases Nat.lt_trichotomy (e.free j) q with hjq|hjq|hjq
   ·refine ZBf ?_ (hlow' j hj hjq)
    by_cases ha:0<e.g j
    ·have:=h'.first j hj ha;omega
    ·grind
   ·obtain rfl:=he.free_inj _ _ hj h'.hs (by omega)
    rw[hq'];exact Rat.le_of_lt (ZlB h'.g hyq)
   ·rw[hz j hj hjq];grind
  have hoe:e.obj k y=e.z*k+sumN e.n (fun j=>e.g j*y (e.free j)):=rfl
  rcases hk with⟨rfl,hz1,hg⟩|⟨rfl,hz0⟩
  ·have hs':=val_sol (k:=1) (c:=fun _=>0) he
   have hb:=(hde.sol 1 e.base).2 hs'
   have hb1:=hde.obj 1 e.base hb
   rw[base_obj he]at hb1
   have hoe2:d.obj 1 e.base=d.z*1+sumN d.n (fun j=>d.g j*e.base (d.free j)):=rfl
   have h4:sumN d.n (fun j=>d.g j*e.base (d.free j))≤0:=sumN_nonpos fun j hj=>by
    rcases Nat.lt_trichotomy (d.free j) q with hjq|hjq|hjq
    ·refine ZBf (hg j hj hjq) ?_
     rcases he.all (d.free j) (by have:=hd.free_lt j hj;omega)with⟨i,hi,e'⟩|⟨j',hj',e'⟩
     ·rw[← e',base_own he hi]
      by_cases hv:e.v i<0
      ·have:=h'.rows i hi hv;omega
      ·grind
     ·rw[← e',base_free he hj'];exact Rat.le_refl
    ·exact absurd (hq.trans hjq.symm) (hd.apart r j h.hr hj)
    ·obtain⟨j',hj',e'⟩:=hst' j hj hjq
     rw[← e',base_free he hj'];grind
   grind
  ·grind
end Dic
namespace Dic
theorem ZE9{d:Dic}(hP:Part d){r s:Nat}(hr:r<d.m)(hs:s<d.n)(p:Nat):(∃ i,i<(d.ex r s).m∧(d.ex r s).own i=p)↔p=d.free s∨((∃ i,i<d.m∧d.own i=p)∧p≠d.own r):=by
 simp only[ex,up]
 constructor
 ·rintro⟨i,hi,e⟩
  split at e
  ·exact .inl e.symm
  ·rename_i h
   exact .inr ⟨⟨i,hi,e⟩,fun h'=>h (hP.own_inj _ _ hi hr (e.trans h'))⟩
 ·rintro(rfl|⟨⟨i,hi,e⟩,h⟩)
  ·exact⟨r,hr,by rw[if_pos rfl]⟩
  ·exact⟨i,hi,by rw[if_neg (fun h'=>h (by rw[← e,h']))];exact e⟩
theorem Zpz{p:Nat→Prop}(h:∃ n,p n):∃ n,p n∧∀ k,k<n→¬ p k:=by
 obtain⟨n,hn⟩:=h
 induction n using Nat.strongRecOn with
 | ind n ih =>
   by_cases hk:∃ k,k<n∧p k
   ·obtain⟨k,h1,h2⟩:=hk;exact ih k h1 h2
   ·exact⟨n,hn,fun k h1 h2=>hk ⟨k,h1,h2⟩⟩
structure Run (K:Nat) (D:Nat→Dic) (R S:Nat→Nat):Prop where
 part:Part (D 0)
 step:∀ k,k<K→Step (D k) (R k) (S k)
 next:∀ k,k<K→D (k+1)=(D k).ex (R k) (S k)
section
variable {K:Nat} {D:Nat→Dic} {R S:Nat→Nat}
theorem Run.parts(h:Run K D R S):∀ k,k≤K→Part (D k)
 | 0,_=>h.part
 | k+1,hk=>by
   rw[h.next k (by omega)]
   exact ex_part (h.parts k (by omega)) (h.step k (by omega)).hr (h.step k (by omega)).hs
theorem Run.same(h:Run K D R S){a:Nat}:∀ k,a+k≤K→Same (D a) (D (a+k))
 | 0,_=>Same.refl _
 | k+1,hk=>by
   have hs:=h.step (a+k) (by omega)
   have:=ex_same hs.hr hs.hs hs.ne
   rw[← h.next (a+k) (by omega)]at this
   exact(h.same k (by omega)).trans this
def Zme(d:Dic)(p:Nat):Prop:=∃ i,i<d.m∧d.own i=p
theorem Run.flip(h:Run K D R S){k:Nat}(hk:k<K)(p:Nat):Zme (D (k+1)) p↔p=(D k).free (S k)∨(Zme (D k) p∧p≠(D k).own (R k)):=by
 unfold Zme
 rw[h.next k hk]
 exact ZE9 (h.parts k (by omega)) (h.step k hk).hr (h.step k hk).hs p
theorem Run.keep(h:Run K D R S){p a:Nat}:∀ k,a+k≤K→(∀ i,a≤i→i<a+k→(D i).own (R i)≠p∧(D i).free (S i)≠p)→(Zme (D a) p↔Zme (D (a+k)) p)
 | 0,_,_=>Iff.rfl
 | k+1,hk,hne=>by
   rw[h.keep k (by omega) fun i h1 h2=>hne i h1 (by omega),← Nat.add_assoc,h.flip (by omega)]
   obtain⟨h1,h2⟩:=hne (a+k) (by omega) (by omega)
   constructor
   ·intro h3;exact .inr ⟨h3,fun e=>h1 e.symm⟩
   ·rintro(e|h3)
    ·exact absurd e.symm h2
    ·exact h3.1
theorem Zly{d:Dic}(h:Part d){p:Nat}(hp:p<d.n+d.m):¬ Zme d p↔∃ j,j<d.n∧d.free j=p:=by
 constructor
 ·intro hn
  exact(h.all p hp).resolve_left hn
 ·rintro⟨j,hj,rfl⟩ ⟨i,hi,e⟩
  exact h.apart i j hi hj e
theorem Run.exclude(h:Run K D R S){q a b x y:Nat}(hab:b≤K)(hax:a≤x)(hxb:x<b)(hay:a≤y)(hyb:y<b)(hle:∀ k,a≤k→k<b→(D k).own (R k)≤q∧(D k).free (S k)≤q)
 (hx:(D x).own (R x)=q) (hy:(D y).free (S y)=q):False:=by
 have hPx:=h.parts x (by omega)
 have hPy:=h.parts y (by omega)
 have sx:=h.step x (by omega)
 have sy:=h.step y (by omega)
 have same:Same (D x) (D y):=by
  rcases Nat.le_total x y with hxy|hxy
  ·have:=h.same (a:=x) (y-x) (by omega);rwa [show x+(y-x)=y by omega]at this
  ·have:=h.same (a:=y) (x-y) (by omega);rw[show y+(x-y)=x by omega]at this;exact this.symm
 have stay:∀ p,q<p→(Zme (D x) p↔Zme (D y) p):=by
  intro p hp
  rcases Nat.le_total x y with hxy|hxy
  ·have:=h.keep (p:=p) (a:=x) (y-x) (by omega) fun i h1 h2=>by have:=hle i (by omega) (by omega);omega
   rwa [show x+(y-x)=y by omega]at this
  ·have:=h.keep (p:=p) (a:=y) (x-y) (by omega) fun i h1 h2=>by have:=hle i (by omega) (by omega);omega
   rw[show y+(x-y)=x by omega]at this;exact this.symm
 have hsz:(D x).n+(D x).m=(D y).n+(D y).m:=by rw[same.m,same.n]
 refine ZxO hPx hPy same sx hx ?_ sy hy ?_ ?_ ?_
 ·have h1:=(hle x hax hxb).2
  have h2:=hPx.apart (R x) (S x) sx.hr sx.hs
  omega
 ·have h1:=(hle y hay hyb).1
  have h2:=hPy.apart (R y) (S y) sy.hr sy.hs
  omega
 ·intro j hj hjq
  have hlt:=hPy.free_lt j hj
  refine(Zly hPx (by omega)).1 ?_
  rw[stay _ hjq]
  exact(Zly hPy hlt).2 ⟨j,hj,rfl⟩
 ·intro j hj hjq
  have hlt:=hPx.free_lt j hj
  refine(Zly hPy (by omega)).1 ?_
  rw[← stay _ hjq]
  exact(Zly hPx hlt).2 ⟨j,hj,rfl⟩
theorem Run.stretch(h:Run K D R S):∀ (q a b:Nat),a≤b→b≤K→(∀ k,a≤k→k<b→(D k).own (R k)<q∧(D k).free (S k)<q)→b-a<2^q
 | 0,a,b,hab,hb,hlt=>by
   rcases Nat.lt_or_ge a b with h1|h1
   ·have:=hlt a (by omega) h1;omega
   ·rw[Nat.pow_zero];omega
 | q+1,a,b,hab,hb,hlt=>by
   have hle:∀ k,a≤k→k<b→(D k).own (R k)≤q∧(D k).free (S k)≤q:=fun k h1 h2=>by have:=hlt k h1 h2;omega
   have h2q:2^(q+1)=2^q+2^q:=by rw[Nat.pow_succ];omega
   have hpos:0<2^q:=Nat.two_pow_pos q
   by_cases hev:∃ k,a≤k∧k<b∧((D k).own (R k)=q∨(D k).free (S k)=q)
   ·obtain⟨x,⟨hax,hxb,hx⟩,hfirst⟩:=Zpz hev
    have l1:=h.stretch q a x hax (by omega) fun k h1 h2=>by
     have h3:=hle k h1 (by omega)
     have h4:¬((D k).own (R k)=q∨(D k).free (S k)=q):=fun h5=>hfirst k h2 ⟨h1,by omega,h5⟩
     omega
    by_cases hev2:∃ k,x+1≤k∧k<b∧((D k).own (R k)=q∨(D k).free (S k)=q)
    ·exfalso
     obtain⟨y,⟨hxy,hyb,hy⟩,hnext⟩:=Zpz hev2
     have sx:=h.step x (by omega)
     have sy:=h.step y (by omega)
     have keep:=h.keep (p:=q) (a:=x+1) (y-(x+1)) (by omega) fun i h1 h2=>by
      have h4:¬((D i).own (R i)=q∨(D i).free (S i)=q):=fun h5=>hnext i (by omega) ⟨h1,by omega,h5⟩
      exact⟨fun e=>h4 (.inl e),fun e=>h4 (.inr e)⟩
     rw[show x+1+(y-(x+1))=y by omega,h.flip (by omega)]at keep
     rcases hx with hx|hx
     ·have hno:¬ Zme (D y) q:=by
       rw[← keep]
       rintro(e|⟨_,e⟩)
       ·exact(h.parts x (by omega)).apart _ _ sx.hr sx.hs (hx.trans e)
       ·exact e hx.symm
      rcases hy with hy|hy
      ·exact hno ⟨R y,sy.hr,hy⟩
      ·exact h.exclude hb hax hxb (by omega) hyb hle hx hy
     ·have hyes:Zme (D y) q:=keep.1 (.inl hx.symm)
      rcases hy with hy|hy
      ·exact h.exclude hb (by omega) hyb hax hxb hle hy hx
      ·exact(Zly (h.parts y (by omega)) (by have:=(h.parts y (by omega)).free_lt _ sy.hs;omega)).2 ⟨S y,sy.hs,hy⟩ hyes
    ·have l2:=h.stretch q (x+1) b (by omega) hb fun k h1 h2=>by
      have h3:=hle k (by omega) h2
      have h4:¬((D k).own (R k)=q∨(D k).free (S k)=q):=fun h5=>hev2 ⟨k,h1,h2,h5⟩
      omega
     omega
   ·have l1:=h.stretch q a b hab hb fun k h1 h2=>by
     have h3:=hle k h1 h2
     have h4:¬((D k).own (R k)=q∨(D k).free (S k)=q):=fun h5=>hev ⟨k,h1,h2,h5⟩
     omega
    omega
theorem Run.short(h:Run K D R S):K<2^((D 0).n+(D 0).m):=by
 have:=h.stretch ((D 0).n+(D 0).m) 0 K (by omega) (Ya4 _) fun k _ hk=>by
  have hP:=h.parts k (by omega)
  have hs:=h.same (a:=0) k (by omega)
  rw[Nat.zero_add]at hs
  have h1:=hP.own_lt _ (h.step k hk).hr
  have h2:=hP.free_lt _ (h.step k hk).hs
  rw[hs.m,hs.n]
  exact⟨h1,h2⟩
 omega
end
end Dic
namespace Dic
def cnt(p:Nat→Bool):Nat→Nat
 | 0=>0
 | m+1=>cnt p m+(if p m then 1 else 0)
theorem Zjf{p q:Nat→Bool}:∀ m,(∀ i,i<m→p i=q i)→cnt p m=cnt q m
 | 0,_=>rfl
 | m+1,h=>by simp only[cnt,Zjf m (fun i hi=>h i (by omega)),h m (by omega)]
theorem Zop{p q:Nat→Bool}{r:Nat}(hp:p r=true)(hq:q r=false):∀ m,r<m→(∀ i,i<m→i≠r→q i=p i)→cnt q m+1=cnt p m
 | 0,h,_=>absurd h (Nat.not_lt_zero _)
 | m+1,h,he=>by
   simp only[cnt]
   by_cases e:m=r
   ·subst e
    rw[Zjf (p:=q) (q:=p) m (fun i hi=>he i (by omega) (by omega)),hp,hq]
    simp
   ·have:=Zop hp hq m (by omega) (fun i hi=>he i (by omega))
    rw[he m (by omega) e];omega
theorem ZBB(p:Nat→Bool):∀ m,cnt p m≤m
 | 0=>Ya4 _
 | m+1=>by have:=ZBB p m;simp only[cnt];split<;>omega
theorem ZtA{p:Nat→Bool}:∀ m,cnt p m=0→∀ i,i<m→p i=false
 | 0,_,_,h=>absurd h (Nat.not_lt_zero _)
 | m+1,h,i,hi=>by
   simp only[cnt]at h
   by_cases e:i=m
   ·subst e;cases hp:p i
    ·rfl
    ·rw[hp]at h;simp at h
   ·exact ZtA m (by omega) i (by omega)
theorem ZtB{p:Nat→Bool}:∀ m,0<cnt p m→∃ i,i<m∧p i=true
 | 0,h=>absurd h (Nat.not_lt_zero _)
 | m+1,h=>by
   cases hp:p m
   ·simp only[cnt,hp]at h
    obtain⟨i,hi,e⟩:=ZtB m (by simpa using h)
    exact⟨i,by omega,e⟩
   ·exact⟨m,by omega,hp⟩
theorem Zyd{f:Nat→Nat}{m:Nat}(hf:∀ i i',i<m→i'<m→f i=f i'→i=i'):∀ n,cnt (fun i=>decide (f i<n)) m≤n
 | 0=>by
   rw[Zjf (q:=fun _=>false) m (fun i _=>by simp)]
   have:∀ k,cnt (fun _=>false) k=0:=fun k=>by induction k with
    | zero=>rfl
    | succ k ih=>simp only[cnt,ih];rfl
   rw[this];exact Ya4 _
 | n+1=>by
   have ih:=Zyd hf n
   by_cases h:∃ i,i<m∧f i=n
   ·obtain⟨r,hr,e⟩:=h
    have:=Zop (p:=fun i=>decide (f i<n+1)) (q:=fun i=>decide (f i<n)) (r:=r) (by simp[e]) (by simp[e]) m hr (fun i hi hne=>by
     have:f i≠n:=fun h'=>hne (hf _ _ hi hr (h'.trans e.symm))
     simp only[decide_eq_decide];omega)
    omega
   ·rw[Zjf (q:=fun i=>decide (f i<n)) m (fun i hi=>by
     have:f i≠n:=fun h'=>h ⟨i,hi,h'⟩
     simp only[decide_eq_decide];omega)]
    omega
structure SizeFn (sz:Rat→Nat):Prop where
 zero:sz 0≤1
 one:sz 1≤1
 sub:∀ a b,sz (a-b)≤sz a+sz b+1
 mul:∀ a b,sz (a*b)≤sz a+sz b
 div:∀ a b,b≠0→sz (a / b)≤sz a+sz b
structure Sized (sz:Rat→Nat) (d:Dic) (B:Nat):Prop where
 v:∀ i,i<d.m→sz (d.v i)≤B
 a:∀ i j,i<d.m→j<d.n→sz (d.a i j)≤B
 g:∀ j,j<d.n→sz (d.g j)≤B
theorem ex_sized{sz:Rat→Nat}(L:SizeFn sz){d:Dic}{r s B:Nat}(hr:r<d.m)(hs:s<d.n)(hp:d.a r s≠0)(h:Sized sz d B)(hB:1≤B):Sized sz (d.ex r s) (4*B+1):=by
 have hpb:=h.a r s hr hs
 have h1:=L.div 1 _ hp
 have l1:=L.one
 have l0:=L.zero
 refine⟨fun i hi=>?_,fun i j hi hj=>?_,fun j hj=>?_⟩
 ·simp only[ex]at *
  have hv:=L.div (d.v r) _ hp
  have hb:=h.v r hr
  split
  ·omega
  ·have e1:=L.sub (d.v i) (d.a i s*(d.v r / d.a r s))
   have e2:=L.mul (d.a i s) (d.v r / d.a r s)
   have e3:=h.v i hi
   have e4:=h.a i s hi hs
   omega
 ·simp only[ex]at *
  have hv:=L.div (d.a r j) _ hp
  have hb:=h.a r j hr hj
  split
  ·split<;>omega
  ·have e4:=h.a i s hi hs
   split
   ·have e1:=L.sub 0 (d.a i s*(1 / d.a r s))
    have e2:=L.mul (d.a i s) (1 / d.a r s)
    omega
   ·have e1:=L.sub (d.a i j) (d.a i s*(d.a r j / d.a r s))
    have e2:=L.mul (d.a i s) (d.a r j / d.a r s)
    have e3:=h.a i j hi hj
    omega
 ·simp only[ex]at *
  have hv:=L.div (d.a r j) _ hp
  have hb:=h.a r j hr hj
  have e4:=h.g s hs
  split
  ·have e1:=L.sub 0 (d.g s*(1 / d.a r s))
   have e2:=L.mul (d.g s) (1 / d.a r s)
   omega
  ·have e1:=L.sub (d.g j) (d.g s*(d.a r j / d.a r s))
   have e2:=L.mul (d.g s) (d.a r j / d.a r s)
   have e3:=h.g j hj
   omega
structure First (d:Dic):Prop where
 own:∀ i,i<d.m→d.own i=d.n+i
 free:∀ j,j<d.n→d.free j=j
theorem First.part{d:Dic}(h:First d):Part d:=by
 refine⟨fun i hi=>?_,fun j hj=>?_,fun i i' hi hi' e=>?_,fun j j' hj hj' e=>?_,fun i j hi hj e=>?_,fun q hq=>?_⟩
 ·rw[h.own i hi];omega
 ·rw[h.free j hj];omega
 ·rw[h.own i hi,h.own i' hi']at e;omega
 ·rw[h.free j hj,h.free j' hj']at e;omega
 ·rw[h.own i hi,h.free j hj]at e;omega
 ·rcases Nat.lt_or_ge q d.n with h1|h1
  ·exact .inr ⟨q,h1,h.free q h1⟩
  ·exact .inl ⟨q-d.n,by omega,by rw[h.own _ (by omega)];omega⟩
def grow(B:Nat):Nat→Nat
 | 0=>B
 | t+1=>4*grow B t+1
theorem grow_pos{B:Nat}(h:1≤B):∀ t,1≤grow B t
 | 0=>h
 | t+1=>by simp only[grow];omega
theorem Zvx(f:Nat→Rat)(y:Nat→Rat)(n w:Nat)(hy:∀ q,q<n→y q=if q=w then 1 else 0):sumN n (fun q=>f q*y q)=if w<n then f w else 0:=by
 rw[Za5 (g:=fun q=>if q=w then f w else 0) n (fun q hq=>by
  rw[hy q hq]
  by_cases e:q=w
  ·subst e;rw[if_pos rfl,if_pos rfl];grind
  ·rw[if_neg e,if_neg e];grind),Zg8]
theorem Zrk{sz:Rat→Nat}(L:SizeFn sz){d0 d:Dic}(h0:First d0){B:Nat}(hB:1≤B)(hS:Sized sz d0 B)(hP:Part d)(hE:Same d0 d)(hown:∀ i,i<d.m→d.n≤d.own i):Sized sz d B:=by
 have hm:=hE.m
 have hn:=hE.n
 have l0:=L.zero
 have hfree:∀ q,q<d.n→∃ j,j<d.n∧d.free j=q:=fun q hq=>(hP.all q (by omega)).resolve_left (by rintro⟨i,hi,e⟩;have:=hown i hi;omega)
 have hat:∀ i,i<d.m→∃ i0,i0<d0.m∧d.own i=d0.own i0:=fun i hi=>by
  have h1:=hown i hi
  have h2:=hP.own_lt i hi
  exact⟨d.own i-d.n,by omega,by rw[h0.own _ (by omega)];omega⟩
 have hdir:∀ s,s<d.n→∀ q,q<d0.n→d.dir s (d0.free q)=if q=d.free s then 1 else 0:=by
  intro s hs q hq
  rw[h0.free q hq]
  obtain⟨j,hj,rfl⟩:=hfree q (by omega)
  rw[dir_free hP hj]
  by_cases e:j=s
  ·subst e;rw[if_pos rfl,if_pos rfl]
  ·rw[if_neg e,if_neg (fun h'=>e (hP.free_inj _ _ hj hs h'))]
 refine⟨fun i hi=>?_,fun i j hi hj=>?_,fun j hj=>?_⟩
 ·obtain⟨i0,hi0,e⟩:=hat i hi
  have h1:=(hE.sol 1 d.base).2 (val_sol hP) i0 hi0
  unfold Row at h1
  rw[← e,base_own hP hi,Za5 (g:=fun _=>0) d0.n (fun q hq=>by
   rw[h0.free q hq]
   obtain⟨j,hj,rfl⟩:=hfree q (by omega)
   rw[base_free hP hj];grind),Zbs]at h1
  rw[show d.v i=d0.v i0 by grind]
  exact hS.v i0 hi0
 ·obtain⟨i0,hi0,e⟩:=hat i hi
  have h1:=(hE.sol 0 (d.dir j)).2 (val_sol hP) i0 hi0
  unfold Row at h1
  rw[← e,dir_own hP hi hj,Zvx (fun q=>d0.a i0 q) (fun q=>d.dir j (d0.free q)) d0.n (d.free j) (hdir j hj)]at h1
  by_cases hlt:d.free j<d0.n
  ·rw[if_pos hlt]at h1
   rw[show d.a i j=d0.a i0 (d.free j) by grind]
   exact hS.a i0 _ hi0 hlt
  ·rw[if_neg hlt]at h1
   rw[show d.a i j=0 by grind];omega
 ·have h1:=hE.obj 0 (d.dir j) ((hE.sol 0 (d.dir j)).2 (val_sol hP))
  rw[dir_obj hP hj]at h1
  unfold obj at h1
  rw[Zvx (fun q=>d0.g q) (fun q=>d.dir j (d0.free q)) d0.n (d.free j) (hdir j hj)]at h1
  by_cases hlt:d.free j<d0.n
  ·rw[if_pos hlt]at h1
   rw[show d.g j=d0.g (d.free j) by grind]
   exact hS.g _ hlt
  ·rw[if_neg hlt]at h1
   rw[show d.g j=0 by grind];omega
theorem ZEi{sz:Rat→Nat}(L:SizeFn sz){d0:Dic}(h0:First d0){B:Nat}(hB:1≤B)(hS:Sized sz d0 B):∀ (t:Nat)(d:Dic),Part d→Same d0 d→cnt (fun i=>decide (d.own i<d.n)) d.m=t→Sized sz d (grow B t)
 | 0,d,hP,hE,hc=>Zrk L h0 hB hS hP hE fun i hi=>by have:=ZtA _ hc i hi;simp at this;omega
 | t+1,d,hP,hE,hc=>by
   obtain⟨i,hi,hio⟩:=ZtB (p:=fun i=>decide (d.own i<d.n)) d.m (by omega)
   simp only[decide_eq_true_eq]at hio
   have hn:=hE.n
   obtain⟨j,hj,hjn,hp⟩:∃ j,j<d.n∧d.n≤d.free j∧d.a i j≠0:=by
    refine Classical.byContradiction fun hno=>?_
    have hx:=(hE.sol 0 _).1 (val_sol (k:=0) (c:=fun q=>if q=d.own i then 1 else 0) h0.part) i hi
    unfold Row at hx
    have hv:∀ q,q<d.n→d0.val 0 (fun q=>if q=d.own i then 1 else 0) q=if q=d.own i then 1 else 0:=fun q hq=>by
     have:=val_free (k:=0) (c:=fun q=>if q=d.own i then 1 else 0) h0.part (j:=q) (by omega)
     rwa [h0.free q (by omega)]at this
    rw[hv _ hio,if_pos rfl,Za5 (g:=fun _=>0) d.n (fun j hj=>by
     by_cases h1:d.n≤d.free j
     ·have:d.a i j=0:=Classical.byContradiction fun h2=>hno ⟨j,hj,h1,h2⟩
      rw[this];grind
     ·rw[hv _ (by omega),if_neg (fun e=>hP.apart i j hi hj e.symm)];grind),Zbs]at hx
    grind
   have hP1:=ex_part hP hi hj
   have hE1:=hE.trans (ex_same hi hj hp)
   have hc1:cnt (fun k=>decide ((d.ex i j).own k<(d.ex i j).n)) (d.ex i j).m=t:=by
    have:=Zop (p:=fun k=>decide (d.own k<d.n)) (q:=fun k=>decide ((d.ex i j).own k<(d.ex i j).n)) (r:=i) (by simpa using hio) (by simp[ex,up];omega) d.m hi (fun k _ hne=>by simp[ex,up,hne])
    have h2:(d.ex i j).m=d.m:=rfl
    rw[h2];omega
   have ih:=ZEi L h0 hB hS t (d.ex i j) hP1 hE1 hc1
   have hp1:(d.ex i j).a i j≠0:=by simp only[ex,if_pos];grind
   have:=ex_sized L (d:=d.ex i j) hi hj hp1 ih (grow_pos hB t)
   rw[ex_ex hp]at this
   exact this
theorem Zxu{B:Nat}:∀ {t u:Nat},t≤u→grow B t≤grow B u:=by
 intro t u h
 induction u with
 | zero => obtain rfl : t = 0 := by omega
           exact Ya4 _
 | succ u ih =>
   by_cases e:t=u+1
   ·subst e;exact Ya4 _
   ·have:=ih (by omega);simp only[grow];omega
theorem Sized.mono{sz:Rat→Nat}{d:Dic}{B C:Nat}(h:Sized sz d B)(hBC:B≤C):Sized sz d C:=⟨fun i hi=>Yc7 (h.v i hi) hBC,fun i j hi hj=>Yc7 (h.a i j hi hj) hBC,fun j hj=>Yc7 (h.g j hj) hBC⟩
theorem small{sz:Rat→Nat}(L:SizeFn sz){d0 d:Dic}(h0:First d0){B:Nat}(hB:1≤B)(hS:Sized sz d0 B)(hP:Part d)(hE:Same d0 d){t:Nat}(ht:d.n≤t∨d.m≤t):Sized sz d (grow B t):=by
 refine(ZEi L h0 hB hS _ d hP hE rfl).mono (Zxu ?_)
 have h1:=Zyd hP.own_inj d.n
 have h2:=ZBB (fun i=>decide (d.own i<d.n)) d.m
 omega
end Dic
set_option maxHeartbeats 16000000
section ifm
variable [Ifl]
def ZEp(ops:Array Oper)(tr:List (List Nat×List Nat)):Bool :=
 (List.range ops.size).all fun j=>(List.range j).all fun i=>(Zc3 ops j).contains i||match tr[i]?,tr[j]? with
   | some x,some y=> !ZlD x.2 y.1 && !ZlD x.1 y.2
   | _,_=>true
theorem Zwl{ops:Array Oper}{tr:List (List Nat×List Nat)}(h:ZEp ops tr=true):ZgF ops tr=true:=by
 unfold ZEp at h
 unfold ZgF
 simp only[Ya6,Yd2]at h ⊢
 intro j hj i hi
 have:=h j hj i hi
 rw[Bool.or_eq_true]at this
 split
 ·rename_i x y hx hy
  rw[hx,hy]at this
  rw[Bool.or_eq_true]
  exact this.symm
 ·rfl
theorem Zxf{s:St}(l:List (Nat×D))(ht:∀ p∈l,s.t p.1=p.2):StLe s ⟨tabT l,s.m,s.nx,s.lo⟩:=by
 intro E B nn β a w hr
 refine⟨β,hr.mem,fun k hk=>?_,hr.width,hr.defers,hr.le,hr.sle,hr.lo⟩
 rcases Zg7 l k with h1|⟨d,h1,h2⟩
 ·simp only[h1];exact .junk _
 ·simp only[h2]
  have:=hr.tmp k hk
  rw[ht _ h1]at this
  exact this
def Cl(m:Mem)(nx:Nat):Prop:=∀ id b,m id=some b→id<nx∧Zav (fun i=>(m i).isSome) b
theorem ZaU.closed{E:Env}{β:Bet}{m:Mem}{nx:Nat}{w:World}(h:ZaU E β m nx w):Cl m nx:=by
 intro id b hb
 refine⟨h.lt id b hb,fun e he=>?_⟩
 cases hbt:β id with
 | none=>rw[h.non id b hb hbt]at he;cases he
 | some c =>
   obtain⟨_,cs,_,_,h4⟩:=h.row id b c hb hbt
   obtain⟨i,hi⟩:=List.getElem?_of_mem he
   have:∀ l:List D,(∀ d∈l,okD (fun i=>(m i).isSome) d=true)→okDs (fun i=>(m i).isSome) l=true:=by
    intro l
    induction l with
    | nil=>intro _;rfl
    | cons d l ih=>intro hl;simp only[okDs,Ya2];exact⟨hl d (by simp),ih fun x hx=>hl x (by simp[hx])⟩
   refine this e fun d hd=>?_
   obtain⟨j,hj⟩:=List.getElem?_of_mem hd
   obtain⟨u,_,h5⟩:=h4 i j d (Zal.2 ⟨e,hi,hj⟩)
   exact h5.names
theorem ZaM.cl{P:Program}{f:FuncId}{ds:List D}{m:Mem}{nx:Nat}{K:D→Mem→Nat→Prop}(hb:ZfK P f)(h:Cl m nx→ZaM P f ds m nx K):ZaM P f ds m nx K :=
 ⟨hb,fun E β w vs hM hvs=>(h hM.closed).2 E β w vs hM hvs⟩
def ZsY{X:Type}(l:X→List (Nat×D))(lo:Nat)(Pre:X→Mem→Nat→Prop)(μ:X→Nat)(x:X)(s:St):Prop:=∃ y,Pre y s.m s.nx∧μ y<μ x∧s.lo=lo∧∀ p∈l y,s.t p.1=p.2
theorem ZcT{P:Program}{n:Nat}{Q:Exit→St→Prop}{s:St}{c:Code}{X:Type}(l:X→List (Nat×D))(lo:Nat)(Pre:X→Mem→Nat→Prop)(μ:X→Nat)(x0:X)(h0:Pre x0 s.m s.nx)(hlo:s.lo=lo)(ht:∀ p∈l x0,s.t p.1=p.2)
 (h:∀ x m nx,Pre x m nx→AWP P n c (ZtR (ZsY l lo Pre μ x) Q) ⟨tabT (l x),m,nx,lo⟩):AWP P n (.loop c) Q s:=by
 subst hlo
 refine ZrD (X:=X×Mem×Nat) (fun x=>⟨tabT (l x.1),x.2.1,x.2.2,s.lo⟩) (fun x=>Pre x.1 x.2.1 x.2.2) (fun x=>μ x.1) ⟨(x0,s.m,s.nx),h0,Zxf _ ht⟩ ?_
 rintro⟨x,m,nx⟩ hx
 intro E B β a w hr
 refine wp_mono (h x m nx hx E B β a w hr) ?_
 rintro e a' w' ⟨s',β',h1,h2⟩
 refine⟨s',β',h1,?_⟩
 cases e with
 | normal =>
   obtain⟨y,h3,h4,h5,h6⟩:=h2
   refine⟨(y,s'.m,s'.nx),h3,h4,?_⟩
   have:=Zxf (s:=s') (l y) h6
   rw[h5]at this
   exact this
 | _=>exact h2
theorem Zat{X:Type}{l:X→List (Nat×D)}{lo:Nat}{Pre:X→Mem→Nat→Prop}{μ:X→Nat}{x:X}{s:St}(y:X)(h1:Pre y s.m s.nx)(h2:μ y<μ x)(h3:s.lo=lo)(h4:∀ p∈l y,s.t p.1=p.2):ZsY l lo Pre μ x s:=⟨y,h1,h2,h3,h4⟩
end ifm
theorem useE{KE:List Ev→St→Prop}{A B:List Ev→Prop}{C:St→Prop}{tr:List Ev}{s:St}(h:∀ tr s',A tr→B tr→C s'→KE tr s')(a:A tr)(b:B tr)(c:C s):KE tr s:=h tr s a b c
theorem aGoM{F Y X:Prop}(f:F)(y:Y)(h:F→Keep Y→X:=by
 intro hf y
 repeat(first
  | (refine hI _ ?_;clear hI;clear KI)
  | (refine hK _ ?_;try clear hK;try clear K)
  | ((with_reducible apply useK);(with_reducible assumption))
  | (refine aSeq fun KI hI=>?_)
  | (refine ZcJ ?_)
  | (refine ZeU ?_)
  | (refine ZeW ?_)
  | (refine aRet ?_)
  | (refine aOps _ rfl (by kernel_rfl) ?_)
  | (refine ZeV _ rfl ZdX (by kernel_rfl) (by kernel_rfl) fun KE hE=>?_)
  | (refine hE _ _ (Zwl (by kernel_rfl)) (ZaC rfl) ?_;clear hE;clear KE)
  | ((with_reducible apply useE);(with_reducible assumption);exact Zwl (by kernel_rfl);exact ZaC rfl)
  | (refine ZcH rfl ?hc ?_;case hc=>simp only[go_sem,↓reduceIte,beq_self_eq_true,bne_self_eq_false,hf])
  | (refine ZcI rfl ?hc ?_;case hc=>simp only[go_sem,↓reduceIte,beq_self_eq_true,bne_self_eq_false,hf])
  | ((with_reducible apply Zb1);(first|with_reducible assumption|assumption))
  | ((with_reducible apply ZbR);(first|with_reducible assumption|assumption);rfl)
  | (simp only[go_sem,↓reduceIte,beq_self_eq_true,bne_self_eq_false,hf])
  | (refine And.intro ?ho ?_;(case ho=>omega))
  | (clear hI;clear KI))
 repeat(first|(revert hE;revert KE)|(revert hI;revert KI))
 first|done|exact y.out):X:=h f ⟨y⟩
theorem aGoS{F Y X:Prop}(f:F)(y:Y)(h:F→Keep Y→X:=by
 intro hf y
 repeat(first
  | (refine hI _ ?_;clear hI;clear KI)
  | (refine hK _ ?_;try clear hK;try clear K)
  | ((with_reducible apply useK);(with_reducible assumption))
  | (refine aSeq fun KI hI=>?_)
  | (refine ZcJ ?_)
  | (refine ZeU ?_)
  | (refine ZeW ?_)
  | (refine aRet ?_)
  | (refine aOps _ rfl (by kernel_rfl) ?_)
  | (refine ZeV _ rfl ZdX (by kernel_rfl) (by kernel_rfl) fun KE hE=>?_)
  | (refine ZcH rfl ?hc ?_;case hc=>simp only[go_sem,↓reduceIte,beq_self_eq_true,bne_self_eq_false,hf])
  | (refine ZcI rfl ?hc ?_;case hc=>simp only[go_sem,↓reduceIte,beq_self_eq_true,bne_self_eq_false,hf])
  | ((with_reducible apply Zb1);(first|with_reducible assumption|assumption))
  | ((with_reducible apply ZbR);(first|with_reducible assumption|assumption);rfl)
  | (simp only[go_sem,↓reduceIte,beq_self_eq_true,bne_self_eq_false,hf])
  | (refine And.intro ?ho ?_;(case ho=>omega))
  | (clear hI;clear KI))
 repeat(first|(revert hE;revert KE)|(revert hI;revert KI))
 first|done|exact y.out):X:=h f ⟨y⟩
abbrev fB(n:Nat)(c:Nat→Rat):Blk:=⟨53,1,4,ratL n c,0,false⟩
def ZhE(n s:Nat)(a b:Nat→Rat)(i:Nat):Nat→Rat:=fun j=>if j<i∧j≠s then a j-a s*b j else a j
theorem ZtU{n s:Nat}(a b:Nat→Rat):ZhE n s a b (s+1)=ZhE n s a b s:=by
 funext j;unfold ZhE
 by_cases h:j<s
 ·rw[if_pos ⟨by omega,by omega⟩,if_pos ⟨h,by omega⟩]
 ·rw[if_neg (by omega),if_neg (by omega)]
theorem ZtT{n s i:Nat}(a b:Nat→Rat)(h:i≠s):(ratL n (ZhE n s a b i)).set i (cF (ofQ (a i-a s*b i)))=ratL n (ZhE n s a b (i+1)):=by
 rw[ZdV]
 refine ZaY fun u _=>?_
 unfold ZhE
 by_cases e:u=i
 ·subst e;rw[if_pos rfl,if_pos ⟨by omega,h⟩]
 ·rw[if_neg e]
  by_cases h2:u<i∧u≠s
  ·rw[if_pos h2,if_pos ⟨by omega,h2.2⟩]
  ·rw[if_neg h2,if_neg (by omega)]
def Zl6(s:Nat)(a b:Nat→Rat):Nat→Rat:=fun j=>if j=s then 0-a s*b s else a j-a s*b j
theorem Zvr{n s:Nat}(a b:Nat→Rat):(ratL n (ZhE n s a b n)).set s (cF (ofQ (0-a s*b s)))=ratL n (Zl6 s a b):=by
 rw[ZdV]
 refine ZaY fun u hu=>?_
 unfold ZhE Zl6
 by_cases e:u=s
 ·rw[if_pos e,if_pos e]
 ·rw[if_neg e,if_neg e,if_pos ⟨hu,e⟩]
theorem ZEf[Ifl](n s A R:Nat)(a b:Nat→Rat)(m:Mem)(nx:Nat)(hn:(n:Int)≤4096)(hs:s<n)(hAR:A≠R)(hA:m A=some (fB n a))(hR:m R=some (fB n b))
 (za:∀ j,j<n→(szQ (a j):Int)≤4294967296) (zb:∀ j,j<n→(szQ (b j):Int)≤4294967296) :
 ZaM Tryz.prog 206 [.ls A 1,.ls R 1,dI s] m nx fun d m' nx'=>d=oneD []∧nx≤nx'∧m' A=some (fB n (Zl6 s a b))∧∀ id,id<nx→id≠A→m' id=m id:=by
 refine ZaM.cl ⟨_,_,Tryz.func206,rfl,by kernel_rfl⟩ fun hcl=>?_
 have Zr:=Tryz.results206
 have lA:=(hcl A _ hA).1
 have lR:=(hcl R _ hR).1
 refine inA Tryz.func206 rfl Tryz.ntmps206 ?_
 have hRA:=Ne.symm hAR
 have hs0:(0:Int)≤s:=by omega
 have g1:=Zbc a hs
 have g2:=Zbc b hs
 have nA:A≠nx:=by omega
 have nR:R≠nx:=by omega
 have la:=Zck n a
 refine aGoM (cj4 Zr hA hR (cj4 hAR hRA hs0 (cj4 g1 g2 la (cj2 nA nR)))) ?_
 repeat with_reducible intro K hK
 have q0:ZhE n s a b 0=a:=by funext j;unfold ZhE;rw[if_neg (by omega)]
 refine ZcT (fun(i:Nat)=>[(0,.ls A 1),(1,.ls R 1),(2,dI s),(6,.lp nx 0 0 0),(13,dI n),(14,dI i)]) nx (fun i m1 nx1=>i≤n∧nx<nx1∧m1 A=some (fB n (ZhE n s a b i))∧m1 R=some (fB n b)∧m1 nx=some ⟨53,0,4,[cF (ofQ (a s))],0,false⟩∧∀ id,id<nx→id≠A→m1 id=m id) (fun i=>n-i) 0 ?_ ?_ ?_ ?_
 ·rw[q0]
  simp only[ZaF,nA,nR,↓reduceIte]
  exact⟨Yb0 _,Nat.lt_succ_self _,hA,hR,trivial,fun id h1 h2=>by rw[if_neg (by omega),if_neg (by omega)]⟩
 ·rfl
 ·simp[go_sem]
 ·rintro i m1 nx1 ⟨hi,hnx,eA,eR,eF,hfr⟩
  obtain⟨hw,i0⟩:=ZaO i
  have nx1A:A≠nx1:=by omega
  have nx1R:R≠nx1:=by omega
  have nxnA:nx≠A:=by omega
  have nxnR:nx≠R:=by omega
  have nx1n:nx≠nx1:=by omega
  have la1:=Zck n (ZhE n s a b i)
  by_cases h1:(i:Int)<n
  ·have hin:i<n:=by omega
   have ga:=Zbc (ZhE n s a b i) hin
   have gb:=Zbc b hin
   have ei:ZhE n s a b i i=a i:=by unfold ZhE;rw[if_neg (by omega)]
   by_cases h2:i=s
   ·subst h2
    have h2b:((i:Int) !=i)=false:=by simp
    refine aGoM (cj4 Zr eA eR (cj4 eF hAR hRA (cj4 i0 h1 h2b (cj2 hw la1)))) ?_
    repeat with_reducible intro K hK
    refine Zat (i+1) ?_ (by omega) rfl (by simp[go_sem])
    rw[ZtU]
    exact⟨by omega,hnx,eA,eR,eF,hfr⟩
   ·have h2b:((i:Int) !=s)=true:=by simp;omega
    have k1:=Zqv (a i) (a s) (b i) (by have:=za i hin;omega) (by have:=za s hs;omega) (by have:=zb i hin;omega)
    have es:=ZtT (n:=n) a b h2
    refine aGoM (cj4 Zr eA eR (cj4 eF hAR hRA (cj4 i0 h1 h2b (cj4 hw la1 ga (cj4 gb ei nxnA (cj3 nxnR Yb0 es)))))) ?_
    repeat with_reducible intro K hK
    refine Zat (i+1) ?_ (by omega) rfl (by simp[go_sem])
    simp only[ZaF,nxnA,hRA,↓reduceIte]
    exact⟨by omega,hnx,trivial,eR,eF,fun id h3 h4=>by rw[if_neg h4];exact hfr id h3 h4⟩
  ·obtain rfl:i=n:=by omega
   have ga:=Zbc (ZhE i s a b i) hs
   have k0:=nZ_c
   have zz:=ZdU 0 (by decide) (by decide)
   rw[show((0:Int):Rat)=0 from rfl]at zz
   have k1:=Zqv 0 (a s) (b s) (by omega) (by have:=za s hs;omega) (by have:=zb s hs;omega)
   have es:=Zvr (n:=i) (s:=s) a b
   refine aGoM (cj4 Zr eA eR (cj4 eF hAR hRA (cj4 hs0 h1 g2 (cj4 hw la1 ga (cj3 nxnA nxnR (cj2 Yb0 es)))))) ?_
   exact fun id h3 h4=>by rw[if_neg h4];exact hfr id h3 h4
theorem ZkS[Ifl](n:Nat)(m:Mem)(nx:Nat)(hn:(n:Int)≤4096):ZaM Tryz.prog 180 [dI n] m nx fun d m' nx'=>d = .ls nx 1∧nx<nx'∧m' nx=some (fB n fun _=>0)∧∀ id,id<nx→m' id=m id:=by
 have Zr:=Tryz.results180
 refine inA Tryz.func180 rfl Tryz.ntmps180 ?_
 have n0:(0:Int)≤n:=by omega
 have hrep:List.replicate n zc=ZfC n 0:=(ZlP n).symm
 have hl:=Zhq n 0
 have n1:24*(n:Int)≤140737488355328:=by omega
 have n2:(n:Int)≤9007199254740992:=by omega
 have n3:(n:Int)≤n:=by omega
 refine aGoM (cj4 Zr n0 hrep (cj4 hl n1 n2 (cj2 n3 trivial))) ?_
 repeat with_reducible intro K hK
 refine ZcT (fun(i:Nat)=>[(3,.ls nx 1),(8,dI n),(9,dI i)]) nx (fun i m1 nx1=>i≤n∧nx<nx1∧m1 nx=some ⟨53,1,4,ZfC n i,0,false⟩∧∀ id,id<nx→m1 id=m id) (fun i=>n-i) 0 ?_ ?_ ?_ ?_
 ·simp only[ZaF,↓reduceIte]
  exact⟨Yb0 _,Nat.lt_succ_self _,trivial,fun id h1=>by rw[if_neg (by omega)]⟩
 ·rfl
 ·simp[go_sem]
 ·rintro i m1 nx1 ⟨hi,hnx,eN,hfr⟩
  obtain⟨hw,i0⟩:=ZaO i
  have hl1:=Zhq n i
  have k0:=nZ_c
  by_cases h1:(i:Int)<n
  ·have hg:(ZfC n i)[i]? =some zc:=by unfold ZfC;rw[ZbB _ (by omega),if_neg (by omega)]
   have hset:=Zoa n i
   refine aGoM (cj4 Zr eN i0 (cj4 h1 hw hl1 (cj3 hg hset Yb0))) ?_
   repeat with_reducible intro K hK
   refine Zat (i+1) ?_ (by omega) rfl (by simp[go_sem])
   simp only[ZaF,↓reduceIte]
   exact⟨by omega,hnx,trivial,fun id h3=>by rw[if_neg (by omega)];exact hfr id h3⟩
  ·obtain rfl:i=n:=by omega
   rw[Zoc]at eN
   refine aGoM (cj4 Zr eN h1 hw) ?_
   exact hfr
mutual
theorem Zsx{p q:Nat→Bool}(h:∀ i,p i=true→q i=true):∀ d:D,okD p d=true→okD q d=true
 | .v _,_=>rfl
 | .nil,_=>rfl
 | .agg l,ho=>by simp only[okD]at ho ⊢;exact Zfq h l ho
 | .tup l,ho=>by simp only[okD]at ho ⊢;exact Zfq h l ho
 | .sl _,_=>rfl
 | .cl _,_=>rfl
 | .ep _ _ _,_=>rfl
 | .ls id _,ho=>h id ho
 | .lp id _ _ _,ho=>h id ho
 | .clo _ l,ho=>by simp only[okD]at ho ⊢;exact Zfq h l ho
 | .junk,_=>rfl
theorem Zfq{p q:Nat→Bool}(h:∀ i,p i=true→q i=true):∀ l:List D,okDs p l=true→okDs q l=true
 | [],_=>rfl
 | d ::l,ho=>by
   simp only[okDs,Ya2]at ho ⊢
   exact⟨Zsx h d ho.1,Zfq h l ho.2⟩
end
theorem Zux{b:Blk}(hb:Zav (fun _=>false) b)(k:Nat→Bool):Zav k b:=fun e he=>Zfq (fun _ h=>by cases h) e (hb e he)
theorem Zpl(n:Nat)(c:Nat→Rat):Zav (fun _=>false) (fB n c):=fun e he=>by
 obtain⟨v,_,rfl⟩:=Yc6.1 he;rfl
theorem Cl.upd{m:Mem}{nx id n':Nat}{blk:Blk}(h:Cl m nx)(hb:Zav (fun _=>false) blk)(hid:id<n')(hn:nx≤n'):Cl (upd m id (some blk)) n':=by
 intro i b hi
 by_cases e:i=id
 ·subst e;rw[Zae]at hi;cases hi;exact⟨hid,Zux hb _⟩
 ·rw[Zac _ _ e]at hi
  refine⟨by have:=(h i b hi).1;omega,fun x hx=>Zfq (fun j hj=>?_) x ((h i b hi).2 x hx)⟩
  by_cases e2:j=id
  ·subst e2;rw[Zae];rfl
  ·rw[Zac _ _ e2];exact hj
section
variable [Ifl] {P:Program} {f:FuncId} {ds:List D} {m:Mem} {nx:Nat}
theorem Cl.sub{m':Mem}{n':Nat}(h:Cl m n')(hs:∀ id b,m id=some b→m' id=some b):SubM m m' n':=⟨fun id b hb=>⟨hs id b hb,(h id b hb).1⟩,fun id b hb=>(h id b hb).2⟩
theorem ZaM.made{ver:Nat}{blk:Blk}(hb:Zav (fun _=>false) blk)(h:ZaM P f ds m nx fun d m' nx'=>d = .ls nx ver∧nx<nx'∧m' nx=some blk∧∀ id,id<nx→m' id=m id) :
 ZaM P f ds m nx fun d m' nx'=>d = .ls nx ver∧m'=upd m nx (some blk)∧nx'=nx+1:=by
 refine ZaM.cl h.1 fun hcl=>ZaM.sub (h.mono ?_)
 rintro d m' nx' ⟨rfl,h1,h2,h3⟩
 refine⟨_,_,(hcl.upd hb (Nat.lt_succ_self nx) (Nat.le_succ nx)).sub fun id b hi=>?_,?_,fun id hi=>?_,rfl,rfl,rfl⟩
 ·by_cases e:id=nx
  ·subst e;rw[Zae]at hi;rw[h2];exact hi
  ·rw[Zac _ _ e]at hi;rw[h3 id (hcl id b hi).1];exact hi
 ·simp only[okD,Zae];rfl
 ·cases hm:m id with
  | none=>rw[hm]at hi;cases hi
  | some b =>
    have:=(hcl id b hm).1
    rw[Zac _ _ (by omega),h3 id this]
theorem ZaM.kept{d0:D}{A:Nat}{b0 blk:Blk}(hA:m A=some b0)(hd:okD (fun _=>false) d0=true)(hb:Zav (fun _=>false) blk)(h:ZaM P f ds m nx fun d m' nx'=>d=d0∧nx≤nx'∧m' A=some blk∧∀ id,id<nx→id≠A→m' id=m id) :
 ZaM P f ds m nx fun d m' nx'=>d=d0∧m'=upd m A (some blk)∧nx'=nx:=by
 refine ZaM.cl h.1 fun hcl=>ZaM.sub (h.mono ?_)
 rintro d m' nx' ⟨rfl,h1,h2,h3⟩
 refine⟨_,_,(hcl.upd hb (hcl A b0 hA).1 (Ya4 nx)).sub fun id b hi=>?_,Zsx (fun _ h=>by cases h) d hd,fun id hi=>?_,rfl,rfl,rfl⟩
 ·by_cases e:id=A
  ·subst e;rw[Zae]at hi;rw[h2];exact hi
  ·rw[Zac _ _ e]at hi;rw[h3 id (hcl id b hi).1 e];exact hi
 ·by_cases e:id=A
  ·subst e;rw[Zae,h2]
  ·cases hm:m id with
   | none=>rw[hm]at hi;cases hi
   | some b=>rw[Zac _ _ e,h3 id (hcl id b hm).1 e]
end
theorem Zva[Ifl](n:Nat)(m:Mem)(nx:Nat)(hn:(n:Int)≤4096)(hm:m nx=none):EffC Tryz.prog 180 [dI n] m nx ⟨.ls nx 1,[nx],[(nx,fB n fun _=>0)],false⟩ (nx+1) :=
 EffC.made hm (Zpl n _) fun m1 NX=>ZaM.made (Zpl n _) (ZkS n m1 NX hn)
theorem ZA2[Ifl](n s A R:Nat)(a b:Nat→Rat)(m:Mem)(nx:Nat)(hn:(n:Int)≤4096)(hs:s<n)(hAR:A≠R)(hA:m A=some (fB n a))(hR:m R=some (fB n b))(hl:A<nx)
 (za:∀ j,j<n→(szQ (a j):Int)≤4294967296) (zb:∀ j,j<n→(szQ (b j):Int)≤4294967296) :
 EffC Tryz.prog 206 [.ls A 1,.ls R 1,dI s] m nx ⟨oneD [],[A,R],[(A,fB n (Zl6 s a b))],false⟩ nx :=
 EffC.of ⟨_,_,Tryz.func206,rfl,by kernel_rfl⟩ (fun p hp=>by simp only[List.mem_singleton]at hp;subst hp;exact⟨by simp,hl⟩) fun m1 NX hN ht =>
  ZaM.kept ((ht A (by simp)).trans hA) rfl (Zpl n _) (ZEf n s A R a b m1 NX hn hs hAR ((ht A (by simp)).trans hA) ((ht R (by simp)).trans hR) za zb)
def pick(f:Nat→Nat)(p:Nat→Bool):Nat→Option Nat
 | 0=>none
 | i+1=>if p i then(match pick f p i with
   | none=>some i
   | some a=>if f i<f a then some i else some a)else pick f p i
def oI:Option Nat→Int
 | none=> -1
 | some a=>a
theorem ZdM{f:Nat→Nat}{p:Nat→Bool}:∀ {k:Nat},pick f p k=none→∀ i,i<k→p i=false
 | 0,_,_,h=>absurd h (Nat.not_lt_zero _)
 | k+1,h,i,hi=>by
   unfold pick at h
   cases hp:p k
   ·rw[hp]at h
    by_cases e:i=k
    ·subst e;exact hp
    ·exact ZdM (by simpa using h) i (by omega)
   ·rw[hp]at h
    simp only[if_true]at h
    split at h
    ·cases h
    ·split at h<;>cases h
theorem Zba{f:Nat→Nat}{p:Nat→Bool}:∀ {k a:Nat},pick f p k=some a→a<k∧p a=true∧∀ i,i<k→p i=true→f a≤f i
 | 0,_,h=>by cases h
 | k+1,a,h=>by
   unfold pick at h
   cases hp:p k
   ·rw[hp]at h
    obtain⟨h1,h2,h3⟩:=Zba (k:=k) (by simpa using h)
    exact⟨by omega,h2,fun i hi hpi=>by
     by_cases e:i=k
     ·subst e;rw[hp]at hpi;cases hpi
     ·exact h3 i (by omega) hpi⟩
   ·rw[hp]at h
    simp only[if_true]at h
    split at h
    ·rename_i hn
     cases h
     exact⟨by omega,hp,fun i hi hpi=>by
      by_cases e:i=k
      ·subst e;exact Ya4 _
      ·rw[ZdM hn i (by omega)]at hpi;cases hpi⟩
    ·rename_i b hb
     obtain⟨h1,h2,h3⟩:=Zba hb
     split at h
     ·rename_i hlt
      cases h
      exact⟨by omega,hp,fun i hi hpi=>by
       by_cases e:i=k
       ·subst e;exact Ya4 _
       ·have:=h3 i (by omega) hpi;omega⟩
     ·rename_i hlt
      cases h
      exact⟨by omega,h2,fun i hi hpi=>by
       by_cases e:i=k
       ·subst e;omega
       ·exact h3 i (by omega) hpi⟩
abbrev iB(T ver k:Nat)(f:Nat→Nat):Blk:=⟨T,ver,1,tabL k fun i=>[dI (f i)],0,false⟩
theorem ZCr{f:Nat→Nat}{p:Nat→Bool}{i:Nat}(h:p i=false):pick f p (i+1)=pick f p i:=by rw[pick,if_neg (by rw[h];simp)]
theorem Zus{f:Nat→Nat}{p:Nat→Bool}{i:Nat}(h:p i=true)(hn:pick f p i=none):pick f p (i+1)=some i:=by rw[pick,if_pos h,hn]
theorem Zwu{f:Nat→Nat}{p:Nat→Bool}{i a:Nat}(h:p i=true)(hn:pick f p i=some a)(hl:f i<f a):pick f p (i+1)=some i:=by rw[pick,if_pos h,hn];exact if_pos hl
theorem Zwt{f:Nat→Nat}{p:Nat→Bool}{i a:Nat}(h:p i=true)(hn:pick f p i=some a)(hl:¬ f i<f a):pick f p (i+1)=some a:=by rw[pick,if_pos h,hn];exact if_neg hl
theorem ZjM[Ifl](k:Nat)(f:Nat→Nat)(p:Nat→Bool)(V ver:Nat)(g:FuncId)(caps:List D)(m:Mem)(nx:Nat)(hk:(k:Int)≤4096)(hV:m V=some (iB 3 ver k f))(lV:V<nx)
 (hg:∀ i,i<k→∀ m1 nx1,nx≤nx1→(∀ id,id<nx→m1 id=m id)→ZaM Tryz.prog g (dI i ::caps) m1 nx1 fun d m' nx'=>d=dB (p i)∧nx1≤nx'∧∀ id,id<nx1→m' id=m1 id) :
 ZaM Tryz.prog 183 [.ls V ver,.clo g caps] m nx fun d m' nx'=>d=dI (oI (pick f p k))∧nx≤nx'∧∀ id,id<nx→m' id=m id:=by
 have Zr:=Tryz.results183
 refine inA Tryz.func183 rfl Tryz.ntmps183 ?_
 have hl:=Zc0 k fun i=>[dI (f i)]
 refine aGoM (cj3 Zr hV hl) ?_
 repeat with_reducible intro K hK
 refine ZcT (fun(i:Nat)=>[(0,.ls V ver),(1,.clo g caps),(5,dI (oI (pick f p i))),(8,.ls V ver),(9,dI k),(10,dI i)]) nx (fun i m1 nx1=>i≤k∧nx≤nx1∧∀ id,id<nx→m1 id=m id) (fun i=>k-i) 0 ?_ ?_ ?_ ?_
 ·exact⟨Yb0 _,Ya4 _,fun _ _=>rfl⟩
 ·rfl
 ·simp[go_sem,pick,oI]
 ·rintro i m1 nx1 ⟨hi,hnx,hfr⟩
  obtain⟨hw,i0⟩:=ZaO i
  have eV:=(hfr V lV).trans hV
  by_cases h1:(i:Int)<k
  ·have hin:i<k:=by omega
   have ge:=ZbB (fun i=>[dI (f i)]) hin
   refine aGoM (cj4 Zr eV i0 (cj4 h1 hw hl ge)) ?_
   repeat with_reducible intro K hK
   refine ZaQ (hg i hin m1 nx1 hnx hfr) ?_
   rintro d m2 nx2 ⟨rfl,hn2,hfr2⟩
   have hfr3:∀ id,id<nx→m2 id=m id:=fun id hid=>(hfr2 id (by omega)).trans (hfr id hid)
   have eV2:=(hfr3 V lV).trans hV
   cases hp:p i
   ·have e1:=ZCr (f:=f) hp
    refine aGoM (cj4 Zr eV2 i0 (cj4 h1 hw hl ge)) ?_
    repeat with_reducible intro K hK
    refine Zat (i+1) ⟨by omega,Yc7 hnx hn2,hfr3⟩ (by omega) rfl (by simp[go_sem,e1])
   ·cases ha:pick f p i with
    | none =>
      have e1:=Zus hp ha
      have e0:(-1:Int)<0:=by decide
      have o0:oI none = -1:=rfl
      refine aGoM (cj4 Zr eV2 i0 (cj4 h1 hw hl (cj3 ge e0 o0))) ?_
      repeat with_reducible intro K hK
      refine Zat (i+1) ⟨by omega,Yc7 hnx hn2,hfr3⟩ (by omega) rfl (by simp[go_sem,e1,oI])
    | some c =>
      have hc:=(Zba ha).1
      have gc:=ZbB (fun i=>[dI (f i)]) (show c<k by omega)
      have c0:¬ (c:Int)<0:=by omega
      have c1:(0:Int)≤c:=by omega
      have o1:oI (some c)=c:=rfl
      by_cases hlt:f i<f c
      ·have e1:=Zwu hp ha hlt
       have hlt':(f i:Int)<f c:=by omega
       refine aGoM (cj4 Zr eV2 i0 (cj4 h1 hw hl (cj4 ge c0 c1 (cj3 gc hlt' o1)))) ?_
       repeat with_reducible intro K hK
       refine Zat (i+1) ⟨by omega,Yc7 hnx hn2,hfr3⟩ (by omega) rfl (by simp[go_sem,e1,oI])
      ·have e1:=Zwt hp ha hlt
       have hlt':¬ (f i:Int)<f c:=by omega
       refine aGoM (cj4 Zr eV2 i0 (cj4 h1 hw hl (cj4 ge c0 c1 (cj3 gc hlt' o1)))) ?_
       repeat with_reducible intro K hK
       refine Zat (i+1) ⟨by omega,Yc7 hnx hn2,hfr3⟩ (by omega) rfl (by simp[go_sem,e1,oI,ha])
  ·obtain rfl:i=k:=by omega
   refine aGoM (cj4 Zr eV h1 hw) ?_
   exact hfr
theorem ZaR:tyOf Tryz.prog 210=some ⟨0,1,8,some [.v (.pointer none)],0,none,[]⟩:=by kernel_rfl
structure Ids where
 p:Nat
 R:Nat
 G:Nat
 O:Nat
 Fr:Nat
 F:Nat
 A:Nat→Nat
 vR:Nat
 vO:Nat
 vFr:Nat
 vF:Nat
abbrev pB(I:Ids)(n:Nat):Blk:=⟨252,0,6,[[dI n,.ls I.R I.vR,.ls I.G 1,.ls I.O I.vO,.ls I.Fr I.vFr,.ls I.F I.vF]],0,false⟩
def Zjz(I:Ids)(m:Nat)(v:Nat→Rat):List (List D):=tabL m fun k=>cF (ofQ (v k))++[.ls (I.A k) 1]
theorem ZkA(I:Ids)(m:Nat)(v:Nat→Rat):(Zjz I m v).length=m:=Zc0 _ _
theorem ZdG(I:Ids){m k:Nat}(v:Nat→Rat)(h:k<m):(Zjz I m v)[k]? =some [dI (ofQ (v k)).p.s,Zab (ofQ (v k)).p.d,dI (ofQ (v k)).q.s,Zab (ofQ (v k)).q.d,.ls (I.A k) 1]:=ZbB _ h
theorem Zse{I:Ids}{m r:Nat}(v:Nat→Rat)(q:Rat):(Zjz I m v).set r [dI (ofQ q).p.s,Zab (ofQ q).p.d,dI (ofQ q).q.s,Zab (ofQ q).q.d,.ls (I.A r) 1]=Zjz I m (fun k=>if k=r then q else v k):=by
 unfold Zjz
 rw[Zgu]
 refine Zbr fun u _=>?_
 by_cases e:u=r
 ·subst e;simp only[if_pos];rfl
 ·simp only[if_neg e]
theorem Zug{I:Ids}{m:Nat}{v w:Nat→Rat}(h:∀ k,k<m→v k=w k):Zjz I m v=Zjz I m w:=Zbr fun k hk=>by rw[h k hk]
abbrev rB(I:Ids)(m:Nat)(v:Nat→Rat):Blk:=⟨256,I.vR,5,Zjz I m v,0,false⟩
abbrev sB(ver m:Nat)(src:Nat→Nat×Bool):Blk:=⟨264,ver,2,tabL m fun i=>[dI (src i).1,dB (src i).2],0,false⟩
structure Zbi (m:Mem) (I:Ids) (d:Dic) (src:Nat→Nat×Bool):Prop where
 hp:m I.p=some (pB I d.n)
 hR:m I.R=some (rB I d.m d.v)
 hG:m I.G=some (fB d.n d.g)
 hO:m I.O=some (iB 3 I.vO d.m d.own)
 hFr:m I.Fr=some (iB 3 I.vFr d.n d.free)
 hF:m I.F=some (sB I.vF d.m src)
 hA:∀ k,k<d.m→m (I.A k)=some (fB d.n (d.a k))
structure ZhN (I:Ids) (m:Nat):Prop where
 pR:I.p≠I.R
 pG:I.p≠I.G
 pO:I.p≠I.O
 pFr:I.p≠I.Fr
 pF:I.p≠I.F
 RG:I.R≠I.G
 RO:I.R≠I.O
 RFr:I.R≠I.Fr
 RF:I.R≠I.F
 GO:I.G≠I.O
 GFr:I.G≠I.Fr
 GF:I.G≠I.F
 OFr:I.O≠I.Fr
 OF:I.O≠I.F
 FrF:I.Fr≠I.F
 Ap:∀ k,k<m→I.A k≠I.p
 AR:∀ k,k<m→I.A k≠I.R
 AG:∀ k,k<m→I.A k≠I.G
 AO:∀ k,k<m→I.A k≠I.O
 AFr:∀ k,k<m→I.A k≠I.Fr
 AF:∀ k,k<m→I.A k≠I.F
 AA:∀ k l,k<m→l<m→k≠l→I.A k≠I.A l
def inD(I:Ids)(m:Nat)(id:Nat):Prop:=id=I.p∨id=I.R∨id=I.G∨id=I.O∨id=I.Fr∨id=I.F∨∃ k,k<m∧id=I.A k
theorem Zbi.lt{m:Mem}{I:Ids}{d:Dic}{src:Nat→Nat×Bool}{nx:Nat}(h:Zbi m I d src)(hc:Cl m nx){id:Nat}(hi:inD I d.m id):id<nx:=by
 rcases hi with rfl|rfl|rfl|rfl|rfl|rfl|⟨k,hk,rfl⟩
 ·exact(hc _ _ h.hp).1
 ·exact(hc _ _ h.hR).1
 ·exact(hc _ _ h.hG).1
 ·exact(hc _ _ h.hO).1
 ·exact(hc _ _ h.hFr).1
 ·exact(hc _ _ h.hF).1
 ·exact(hc _ _ (h.hA k hk)).1
theorem Zbi.keep{m m':Mem}{I:Ids}{d:Dic}{src:Nat→Nat×Bool}(h:Zbi m I d src)(hf:∀ id,inD I d.m id→m' id=m id):Zbi m' I d src :=
 ⟨(hf _ (.inl rfl)).trans h.hp,(hf _ (.inr (.inl rfl))).trans h.hR,(hf _ (.inr (.inr (.inl rfl)))).trans h.hG,(hf _ (.inr (.inr (.inr (.inl rfl))))).trans h.hO,(hf _ (.inr (.inr (.inr (.inr (.inl rfl)))))).trans h.hFr,
   (hf _ (.inr (.inr (.inr (.inr (.inr (.inl rfl))))))).trans h.hF,fun k hk=>(hf _ (.inr (.inr (.inr (.inr (.inr (.inr ⟨k,hk,rfl⟩))))))).trans (h.hA k hk)⟩
def neg'(r:Rat):Bool:=decide ((ofQ r).p.s<0)
def pos'(r:Rat):Bool:=decide ((ofQ r).p.s>0)
theorem ZgJ(r:Rat):neg' r=true↔r<0:=by unfold neg';rw[decide_eq_true_eq,ZnF];exact ZgA
theorem ZgG(r:Rat):pos' r=true↔0<r:=by unfold pos';rw[decide_eq_true_eq,ZnF];exact Zdp
abbrev bxB(T id:Nat):Blk:=⟨T,0,1,[[.lp id 0 0 0]],0,false⟩
abbrev nB(n:Int):Blk:=⟨3,0,1,[[dI n]],0,false⟩
section
variable [Ifl] {I:Ids} {d:Dic} {src:Nat→Nat×Bool} {m:Mem} {nx bx:Nat}
theorem s1_a(h:Zbi m I d src)(hb:m bx=some (bxB 210 I.p)){i:Nat}(hi:i<d.m) :
 ZaM Tryz.prog 184 [dI i,.lp bx 0 0 0] m nx fun d' m' nx'=>d'=dB (neg' (d.v i))∧nx≤nx'∧∀ id,id<nx→m' id=m id:=by
 have Zr:=Tryz.results184
 refine inA Tryz.func184 rfl Tryz.ntmps184 ?_
 have g:=ZdG I d.v hi
 have i0:(0:Int)≤i:=by omega
 refine aGoM (cj4 Zr h.hp h.hR (cj4 hb g i0 ZaR)) ?_
 exact⟨rfl,Ya4 _⟩
theorem s2_a(h:Zbi m I d src)(hb:m bx=some (bxB 210 I.p)){i:Nat}(hi:i<d.n) :
 ZaM Tryz.prog 185 [dI i,.lp bx 0 0 0] m nx fun d' m' nx'=>d'=dB (pos' (d.g i))∧nx≤nx'∧∀ id,id<nx→m' id=m id:=by
 have Zr:=Tryz.results185
 refine inA Tryz.func185 rfl Tryz.ntmps185 ?_
 have g:=Zbc d.g hi
 have i0:(0:Int)≤i:=by omega
 refine aGoM (cj4 Zr h.hp h.hG (cj4 hb g i0 ZaR)) ?_
 exact⟨rfl,Ya4 _⟩
theorem s3_a(h:Zbi m I d src)(hb:m bx=some (bxB 210 I.p)){r:Nat}{rx:Nat}(hr:r<d.m)(hrx:m rx=some (nB r)){j:Nat}(hj:j<d.n) :
 ZaM Tryz.prog 186 [dI j,.lp bx 0 0 0,.lp rx 0 0 0] m nx fun d' m' nx'=>d'=dB (neg' (d.a r j))∧nx≤nx'∧∀ id,id<nx→m' id=m id:=by
 have Zr:=Tryz.results186
 refine inA Tryz.func186 rfl Tryz.ntmps186 ?_
 have g:=ZdG I d.v hr
 have g2:=Zbc (d.a r) hj
 have i0:(0:Int)≤r:=by omega
 have j0:(0:Int)≤j:=by omega
 have hA:=h.hA r hr
 refine aGoM (cj4 Zr h.hp h.hR (cj4 hb g i0 (cj4 ZaR hrx g2 (cj2 j0 hA)))) ?_
 exact⟨rfl,Ya4 _⟩
theorem s4_a(h:Zbi m I d src)(hb:m bx=some (bxB 210 I.p)){s:Nat}{sx:Nat}(hs:s<d.n)(hsx:m sx=some (nB s)){i:Nat}(hi:i<d.m) :
 ZaM Tryz.prog 187 [dI i,.lp bx 0 0 0,.lp sx 0 0 0] m nx fun d' m' nx'=>d'=dB (pos' (d.a i s))∧nx≤nx'∧∀ id,id<nx→m' id=m id:=by
 have Zr:=Tryz.results187
 refine inA Tryz.func187 rfl Tryz.ntmps187 ?_
 have g:=ZdG I d.v hi
 have g2:=Zbc (d.a i) hs
 have i0:(0:Int)≤i:=by omega
 have j0:(0:Int)≤s:=by omega
 have hA:=h.hA i hi
 refine aGoM (cj4 Zr h.hp h.hR (cj4 hb g i0 (cj4 ZaR hsx g2 (cj2 j0 hA)))) ?_
 exact⟨rfl,Ya4 _⟩
end
end Go.Proofs.YtjeaacindikplaaGreat
