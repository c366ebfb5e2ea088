/-
  Sets that explain, walked over data: slices.Contains, explain.isSet, explains, Explains.
-/
import Derived.Test.YtjeaacindikplaaGreatWLib
import Derived.Test.YtjeaacindikplaaGreatWT07
import Derived.Test.YtjeaacindikplaaGreatWT00
import Derived.Test.YtjeaacindikplaaGreatWT04
import Derived.Test.YtjeaacindikplaaGreatWConv
import Derived.Test.YtjeaacindikplaaGreatWT01
import Derived.Test.YtjeaacindikplaaGreatWT03
import Derived.Test.YtjeaacindikplaaGreatWT05
import Derived.Test.YtjeaacindikplaaGreatWT06
namespace Go.Proofs.YtjeaacindikplaaGreat
set_option linter.unusedVariables false
set_option linter.unusedSimpArgs false
set_option linter.unusedSectionVars false
open Go Go.RowKit
set_option maxRecDepth 100000
set_option maxHeartbeats 8000000
theorem Zrh(l:List Int)(x:Int)(hl:l.length≤4096):Zaa Tryz.prog 117 [Zab l,dI x] (dI (idxI (fun y=>x==y) l)):=by
 have hres:=Tryz.results117
 refine inN Tryz.func117 rfl Tryz.ntmps117 fun I=>?_
 refine aGo hres ?_
 repeat with_reducible intro K hK
 refine Zat (fun(k:Nat)=>[(0,Zab l),(1,dI x),(7,dI l.length),(8,dI k)]) (fun _=>[]) 0 0 (fun k=>k≤l.length∧(l.take k).any (fun y=>x==y)=false) (fun k=>l.length-k) 0 ⟨by omega,rfl⟩ ?_ ?_
 ·exact leGo trivial
 rintro k ⟨hk,hn⟩
 obtain⟨hw,h0⟩:=ZaM k
 by_cases h1:(k:Int)<l.length
 ·obtain⟨y,hx⟩:=getE (l:=l) (k:=k) (by omega)
  cases h2:(x==y)
  ·refine aGo (cj4 hres h0 h1 (cj3 hx hw h2)) ?_
   repeat with_reducible intro K hK
   exact Zac (k+1) ⟨by omega,Zdu hx hn h2⟩ (by omega) (by exact leGo trivial)
  ·refine aGo (cj4 hres h0 h1 (cj3 hx hw h2)) ?_
   repeat with_reducible intro K hK
   exact ZaX (Zrm hx hn h2).symm
 ·refine aGo (cj2 hres h1) ?_
  repeat with_reducible intro K hK
  rw[Ya8 (by omega)]at hn
  exact ZaX (Zrk hn).symm
theorem ZDa(l:List Int)(x:Int):l.any (fun y=>x==y)=l.contains x:=by
 induction l with
 | nil=>rfl
 | cons a l ih=>rw[List.any_cons,List.contains_cons,ih]
theorem Zma(l:List Int)(x:Int)(hl:l.length≤4096):Zaa Tryz.prog 67 [Zab l,dI x] (dB (l.contains x)):=by
 have hres:=Tryz.results67
 have hc:=Zrh l x hl
 refine inN Tryz.func67 rfl Tryz.ntmps67 fun I=>?_
 refine aGo hres ?_
 repeat with_reducible intro K hK
 exact Zai (by rw[← ZDa];exact Zrl _ _)
theorem ZCz(e:EvD)(set:List Int)(hl:set.length≤4096):Zaa Tryz.prog 44 [Zio e,Zab set] (dB (ZhO e.h (-1) set)):=by
 have hres:=Tryz.results44
 refine inN Tryz.func44 rfl Tryz.ntmps44 fun I=>?_
 refine aGo hres ?_
 repeat with_reducible intro K hK
 refine Zat (fun(x:Nat×Int)=>[(2,.lp 0 0 0 0),(5,dI x.2),(8,Zab set),(9,dI set.length),(10,dI x.1)]) (fun _=>[(0,⟨28,0,8,[cEv e],0,false⟩)]) 1 0 (fun x=>x.1≤set.length∧ZhO e.h (-1) set=ZhO e.h x.2 (set.drop x.1)) (fun x=>set.length-x.1) (0,-1) ⟨by show 0≤_;omega,rfl⟩ ?_ ?_
 ·exact leGo trivial
 rintro⟨k,last⟩ ⟨hk,hi⟩
 simp only at hk hi
 obtain⟨hw,h0⟩:=ZaM k
 by_cases h1:(k:Int)<set.length
 rotate_left
 ·have:set.drop k=[]:=List.drop_eq_nil_of_le (by omega)
  rw[this]at hi
  refine aGo (cj2 hres h1) ?_
  repeat with_reducible intro K hK
  exact Zai hi.symm
 obtain⟨y,hx⟩:∃ y,set[k]? =some y:=⟨_,Ya0 (by omega)⟩
 have ed:set.drop k=y ::set.drop (k+1):=by
  obtain⟨h,rfl⟩:=Ya3.1 hx
  exact List.drop_eq_getElem_cons h
 rw[ed]at hi
 simp only[ZhO]at hi
 by_cases h2:y≤last
 ·rw[decide_eq_false (by omega:¬ last<y),Bool.false_and]at hi
  refine aGo (cj4 hres h0 h1 (cj2 hx h2)) ?_
  repeat with_reducible intro K hK
  exact Zai hi.symm
 rw[decide_eq_true (by omega:last<y),Bool.true_and]at hi
 by_cases h3:y≥e.h
 ·rw[decide_eq_false (by omega:¬ y<e.h),Bool.false_and]at hi
  refine aGo (cj4 hres h0 h1 (cj3 hx h2 h3)) ?_
  repeat with_reducible intro K hK
  exact Zai hi.symm
 rw[decide_eq_true (by omega:y<e.h),Bool.true_and]at hi
 refine aGo (cj4 hres h0 h1 (cj4 hx h2 h3 hw)) ?_
 repeat with_reducible intro K hK
 exact Zac (k+1,y) ⟨by show k+1≤_;omega,hi⟩ (by show set.length-(k+1)<set.length-k;omega) (by exact leGo trivial)
theorem ZB0(e:EvD)(h:Int):ownL e h=(List.range e.mv.length).filter fun(i:Nat)=>(decide ((i:Int)<e.mv.length)&&(Zct e (mvAt e i).f==0&&(decide (0≤(mvAt e i).d)&&decide ((mvAt e i).d≤100000))))&&(((e.pl[(mvAt e i).f.toNat]?).map PlD.h).getD (-1))==h:=by
 unfold ownL ZgE Zie
 refine List.filter_congr fun i _=>?_
 rw[show((-1:Int) == -1)=true from rfl,Bool.true_or,Bool.true_and]
 cases decide ((i:Int)<e.mv.length)<;>cases Zct e (mvAt e i).f==0<;>cases(((e.pl[(mvAt e i).f.toNat]?).map PlD.h).getD (-1))==h<;>simp
theorem ZoG(e:EvD)(set:List Int):∀ n,(ZdM e set n).length≤ZcG n fun h=>(ownL e h).length
 | 0=>by simp[ZdM]
 | n+1=>by
   have ih:=ZoG e set n
   have h1:(if set.contains (n:Int)=true then []else Zu0 e n).length≤(ownL e n).length:=by
    split
    ·simp
    ·simp[Zu0]
   simp only[ZdM,List.length_append,ZcG]
   omega
theorem ZoI(e:EvD)(set:List Int)(n:Nat):(ZdM e set n).length≤e.mv.length:=by
 refine Nat.le_trans (ZoG e set n) ?_
 have h:=ZkI (fun i:Nat=>decide ((i:Int)<e.mv.length)&&(Zct e (mvAt e i).f==0&&(decide (0≤(mvAt e i).d)&&decide ((mvAt e i).d≤100000)))) (fun i=>(((e.pl[(mvAt e i).f.toNat]?).map PlD.h).getD (-1))) n (List.range e.mv.length)
 rw[List.length_range]at h
 refine Nat.le_trans (Zk0 n fun i _=>?_) h
 rw[ZB0]
 exact Ya4 _
section
variable {t:TrD} (h:TrOk t)
include h
theorem TrOk.big:2*t.e.mv.length+t.fi.length+t.cl.length+t.e.h.toNat*t.e.mv.length≤6000:=by
 obtain⟨a,b,c,d⟩:=h.S
 have:t.e.h.toNat*t.e.mv.length≤6*6:=Nat.mul_le_mul (by omega) a
 omega
theorem TrOk.explRows(kind:Int)(set:List Int):(ZfC t kind set).r.length≤32∧∀ w∈(ZfC t kind set).r,RowZ w:=by
 have h4:=Zg9 t kind
 have h5:=ZoI t.e set t.e.h.toNat
 have h6:=h.b
 refine⟨by show(ZbS t kind t.e.mv.length++ZdM t.e set t.e.h.toNat).length≤32;rw[List.length_append];omega,fun w hw=>?_⟩
 rcases List.mem_append.1 hw with hw|hw
 ·exact(h.rows kind).2 w hw
 ·obtain⟨_,_,_,i,_,rfl⟩:=(ZgF _).1 hw
  exact Zwz (by decide +kernel)
theorem TrOk.explFit(kind:Int)(set:List Int):FitG (ZfC t kind set) [] :=
 Zrq h.S.n (h.explRows kind set).1 (h.explRows kind set).2 (ZjQ h.R h.big) (by simp only[Zah,Ya2,decide_eq_true_eq];exact⟨by omega,rfl⟩) IntK.nil (by decide)
theorem TrOk.explSol(kind:Int)(set:List Int):Zaf Tryz.prog 41 [encS (ZfC t kind set)] (.tup [ZaQ (solD (ZfC t kind set)).1,ZaQ (solD (ZfC t kind set)).2.1,dB (solD (ZfC t kind set)).2.2]):=Zmq _ (h.explFit kind set).f
theorem TrOk.explHolds(kind:Int)(set:List Int):Zaf Tryz.prog 91 [encS (ZfC t kind set),ZaQ (solD (ZfC t kind set)).1] (dB (Zal (ZfC t kind set) (solD (ZfC t kind set)).1)):=by
 have F:=h.explFit kind set
 obtain⟨a,b⟩:=h.explRows kind set
 refine ZzJ _ _ ⟨by omega,fun w hw=>?_⟩ ?_
 ·obtain⟨c,d,e⟩:=b w hw
  exact⟨⟨by omega,fun t ht=>by have:=e t ht;show(szF t.f:Int)≤4194304;omega⟩,by show(szF w.v:Int)≤4194304;omega⟩
 ·have ht:=F.tn
  unfold solD
  rw[F.r]
  simp only[if_true]
  split
  ·exact⟨by simp,fun f hf=>by cases hf⟩
  ·exact tnFs.sm ht.2.1
theorem Zm9(kind:Int)(set:List Int)(hl:set.length≤4096):Zaf Tryz.prog 45 [ZbC t,encS (sysT t kind),Zab set] (dB (ZfD t kind set)):=by
 have hres:=Tryz.results45
 have hresC:=Tryz.results90
 have k1:=h.explSol kind set
 have k2:=h.explHolds kind set
 have hf:=h.flow
 have kl:=fun(x:Nat)=>Zrb t.e h.L.e x (-1) 0 100000 h.mvf
 have q1:=nO_c
 have q0:=nZ_c
 have s1:=h.S.n
 have hh:=h.R.e.h
 have hs6:=h.S.h
 have hr:=(h.rows kind).1
 obtain⟨A,eA⟩:∃ A:Nat→List RowD,A=fun k=>ZbS t kind t.e.mv.length++ZdM t.e set k:=⟨_,rfl⟩
 have A0:A 0=ZbS t kind t.e.mv.length:=by rw[eA];simp[ZdM]
 have Al:∀ k,(A k).length≤34:=fun k=>by
  rw[eA];simp only
  rw[List.length_append]
  have:=ZoI t.e set k
  have e:(sysT t kind).r=ZbS t kind t.e.mv.length:=rfl
  rw[e]at hr
  omega
 have AN:∀ k:Nat,A (k+1)=A k++if set.contains (k:Int)=true then []else(ownL t.e k).map fun i=>oneR i 2 (ofQ 0):=fun k=>by rw[eA];simp only[ZdM,List.append_assoc];rfl
 have AE:ZfC t kind set=⟨t.e.mv.length,A t.e.h.toNat⟩:=by rw[eA];rfl
 have hB:ZfD t kind set=((solD (ZfC t kind set)).2.2&&Zal (ZfC t kind set) (solD (ZfC t kind set)).1):=rfl
 rw[hB]
 rw[AE]at k1 k2 ⊢
 have eS:encS (sysT t kind) = .agg [dI t.e.mv.length,.sl ((A 0).map cW)]:=by rw[A0];rfl
 rw[eS]
 obtain⟨H,eH⟩:∃ H:Nat,t.e.h.toNat=H:=⟨_,rfl⟩
 have eH2:t.e.h=(H:Int):=by omega
 rw[eH]at k1 k2 ⊢
 have Ac:∀ k,(A k).length≤34:=Al
 clear eA A0 AE eS hB eH
 refine inC Tryz.func45 rfl Tryz.ntmps45 ?_
 refine ZoD (n:=1) ⟨⟩ hres ?_
 repeat with_reducible intro K hK
 have r1:∀ (V:Nat)(st:St),StLe st ⟨tabT [(2,Zab set),(3,.lp 0 0 0 0),(4,.lp 1 0 0 0),(6,dB false)],tabM [(0,⟨32,0,10,[cTr t],0,false⟩),(1,⟨99,0,2,[[dI t.e.mv.length,.ls 2 V]],0,false⟩),(2,⟨153,V,6,(A 0).map cW,0,false⟩)],3,0⟩→K st:=by
  intro V st hle
  refine hK _ (aLe hle ?_)
  clear hle hK
  refine aGo hres ?_
  repeat with_reducible intro K hK
  refine Zat (fun(x:Nat×Nat)=>[(2,Zab set),(3,.lp 0 0 0 0),(4,.lp 1 0 0 0),(6,dB false),(19,dI t.e.h),(20,dI x.1)]) (fun x=>[(0,⟨32,0,10,[cTr t],0,false⟩),(1,⟨99,0,2,[[dI t.e.mv.length,.ls 2 x.2]],0,false⟩),(2,⟨153,x.2,6,(A x.1).map cW,0,false⟩)]) 3 0 (fun x=>x.1≤H) (fun x=>H-x.1) (0,V) (by show 0≤_;omega) ?_ ?_
  ·refine Zag _ _ _ ?_ ?_ ?_ ?_ ?_ (.inl rfl)<;>simp[go_sem,okD,okDs,Zap]<;>exact ZbQ _ _
  clear V
  rintro⟨k,V⟩ hk
  simp only at hk
  obtain⟨hw,k0⟩:=ZaM k
  have eN:=AN k
  have la:=Al k
  by_cases h2:(k:Int)<t.e.h
  rotate_left
  ·obtain rfl:k=H:=by omega
   have hj:((A k).map cW).map (List.map datJ)=(A k).map cW:=Zan (fun _=>rfl) _
   obtain⟨P,eP⟩:∃ P,solD ⟨(t.e.mv.length:Int),A k⟩=P:=⟨_,rfl⟩
   obtain⟨b,eb⟩:∃ b,Zal ⟨(t.e.mv.length:Int),A k⟩ P.1=b:=⟨_,rfl⟩
   have hfin:((solD ⟨(t.e.mv.length:Int),A k⟩).2.2&&Zal ⟨(t.e.mv.length:Int),A k⟩ (solD ⟨(t.e.mv.length:Int),A k⟩).1)=(P.2.2&&b):=by rw[eP,eb]
   rw[eP]at k1 k2
   rw[eb]at k2
   clear eP eb
   obtain⟨x,y,c⟩:=P
   simp only at k1 k2 hfin
   change Zaf _ _ [.agg [dI t.e.mv.length,.sl ((A k).map cW)]] _ at k1
   change Zaf _ _ [.agg [dI t.e.mv.length,.sl ((A k).map cW)],ZaQ x] _ at k2
   cases c
   ·refine aGo (cj3 hres h2 hj) ?_
    repeat with_reducible intro K hK
    exact Zai hfin.symm
   ·refine aGo (cj3 hres h2 hj) ?_
    repeat with_reducible intro K hK
    exact Zai hfin.symm
  have kL:=kl k
  rw[if_pos hf]at kL
  change Zaa _ _ _ (Zab (natI (ownL t.e k)))at kL
  have kc:=Zma set k hl
  cases hc:set.contains (k:Int)
  rotate_left
  ·rw[hc]at kc eN
   rw[if_pos rfl,List.append_nil]at eN
   refine aGo (cj4 hres h2 k0 hw) ?_
   repeat with_reducible intro K hK
   exact Zac (k+1,V) (by show k+1≤H;omega) (by show H-(k+1)<H-k;omega) (by refine Zag _ _ _ ?_ ?_ ?_ ?_ ?_ (.inl rfl)<;>simp[go_sem,okD,okDs,Zap,eN]<;>exact ZbQ _ _)
  rw[hc]at kc eN
  rw[if_neg Bool.false_ne_true]at eN
  have lo:=ZqP t.e k
  generalize ownL t.e k=O at *
  have lI:(natI O).length=O.length:=by simp[natI]
  refine aGo (cj3 hres h2 k0) ?_
  repeat with_reducible intro K hK
  refine Zat (fun(x:Nat×Nat)=>[(2,Zab set),(3,.lp 0 0 0 0),(4,.lp 1 0 0 0),(6,dB false),(19,dI t.e.h),(20,dI k),(29,Zab (natI O)),(30,dI O.length),(31,dI x.1)]) (fun x=>[(0,⟨32,0,10,[cTr t],0,false⟩),(1,⟨99,0,2,[[dI t.e.mv.length,.ls 2 x.2]],0,false⟩),(2,⟨153,x.2,6,(A k++(O.take x.1).map fun i=>oneR i 2 (ofQ 0)).map cW,0,false⟩)]) 3 0 (fun x=>x.1≤O.length) (fun x=>O.length-x.1) (0,V) (by show 0≤_;omega) ?_ ?_
  ·refine Zag _ _ _ ?_ ?_ ?_ ?_ ?_ (.inl rfl)<;>simp[go_sem,okD,okDs,Zap,lI]<;>exact ZbQ _ _
  rintro⟨j,W⟩ hj
  simp only at hj
  obtain⟨hwj,j0⟩:=ZaM j
  by_cases h5:(j:Int)<O.length
  rotate_left
  ·obtain rfl:j=O.length:=by omega
   rw[List.take_length,← eN]
   refine aGo (cj3 hres h5 hw) ?_
   repeat with_reducible intro K hK
   exact Zac (k+1,W) (by show k+1≤H;omega) (by show H-(k+1)<H-k;omega) (by refine Zag _ _ _ ?_ ?_ ?_ ?_ ?_ (.inl rfl)<;>simp[go_sem,okD,okDs,Zap]<;>exact ZbQ _ _)
  obtain⟨i,hi⟩:∃ i,O[j]? =some i:=⟨_,Ya0 (by omega)⟩
  have hiI:(natI O)[j]? =some (i:Int):=by unfold natI;rw[List.getElem?_map,hi];rfl
  have eB:A k++(O.take (j+1)).map (fun i=>oneR i 2 (ofQ 0))=(A k++(O.take j).map fun i=>oneR i 2 (ofQ 0))++[oneR i 2 (ofQ 0)]:=by rw[Yb4,hi];simp
  have lB:(A k++(O.take j).map fun i=>oneR i 2 (ofQ 0)).length≤34+j:=by rw[List.length_append,List.length_map,List.length_take];omega
  generalize (A k++(O.take j).map fun i=>oneR i 2 (ofQ 0))=B at *
  generalize natI O=I at *
  have ew:cW (oneR i 2 (ofQ 0))=[Zbh [⟨(i:Int),ofQ 1⟩],dI 2,dI (ofQ 0).p.s,Zab (ofQ 0).p.d,dI (ofQ 0).q.s,Zab (ofQ 0).q.d]:=rfl
  have ez:∀ M:Mem,List.map (List.map (fzT false M 4)) (B.map cW)=B.map cW:=fun M=>Zan (fun _=>rfl) _
  refine aGo (cj4 hres h5 j0 (cj2 hiI hwj)) ?_
  repeat with_reducible intro K hK
  refine Zac (j+1,W+1) (by show j+1≤_;omega) (by show O.length-(j+1)<O.length-j;omega) ?_
  rw[eB]
  refine StLe.trans (ZcM 3 rfl) (StLe.trans (ZcY 2 4 rfl) (ZlE (by simp only[go_sem,fzT,ez];exact rfl) ?_))
  refine Zag _ _ _ ?_ ?_ ?_ ?_ ?_ (.inl rfl)<;>simp[go_sem,okD,okDs,Zap,ew]
  all_goals (rintro e (⟨a,_,rfl⟩|rfl)<;>rfl)
 clear hK
 obtain⟨es,ee⟩:∃ es,(A 0).map cW=es:=⟨_,rfl⟩
 have hcell:∀ x∈es,x.length=6∧x.all D.isCell=true:=fun x hx=>by
  rw[← ee]at hx
  obtain⟨u,_,rfl⟩:=List.mem_map.1 hx
  exact⟨rfl,rfl⟩
 have hok:∀ keep,∀ x∈es,okDs keep x=true:=fun keep=>by rw[← ee];exact ZbQ _ _
 have hlen:es.length≤34:=by rw[← ee,List.length_map];exact Al 0
 rw[ee]at r1 ⊢
 refine aGo hres ?_
 repeat with_reducible intro K hK
 refine Zbf Tryz.func90 rfl (by kernel_rfl) (by kernel_rfl) (by kernel_rfl) ?_
 rw[Tryz.ntmps90]
 refine ZoD (n:=1) ⟨⟩ hresC ?_
 repeat with_reducible intro K hK
 refine Ze9 (es:=es) Tryz.underlying97 rfl rfl rfl rfl rfl rfl (by kernel_rfl) (by kernel_rfl) rfl (fun h0=>?_) ?_
 ·refine aGo (cj2 hres hresC) ?_
  repeat with_reducible intro K hK
  refine r1 0 _ (StLe.trans (ZdK 1 0 1 153 6 rfl rfl rfl) ?_)
  refine Zag _ _ _ ?_ ?_ ?_ ?_ ?_ (.inl rfl)<;>simp[go_sem,okD,okDs,Zap,h0]
 ·refine aGo (cj2 hres hresC) ?_
  repeat with_reducible intro K hK
  refine⟨⟨hcell,by omega,by omega⟩,?_⟩
  refine aGo (cj2 hres hresC) ?_
  repeat with_reducible intro K hK
  refine r1 1 _ ?_
  refine Zag _ _ _ ?_ ?_ ?_ ?_ ?_ (.inl rfl)<;>simp[go_sem,okD,okDs,Zap]
  exact hok _
theorem Zrs{kind:Int}(hk:Zdk kind=true)(set:List Int)(hl:set.length≤4096):Zaf Tryz.prog 10 [ZbC t,dI kind,Zab set] (dB (ZgM t kind set)):=by
 have hres:=Tryz.results10
 have k1:=h.sys hk
 have k2:=ZCz t.e set hl
 have k3:=Zm9 h kind set hl
 unfold ZgM
 rw[decide_eq_true h.ta,Bool.true_and,hk,Bool.true_and]
 refine inC Tryz.func10 rfl Tryz.ntmps10 ?_
 cases h1:ZhO t.e.h (-1) set
 ·rw[h1]at k2
  exact aGo hres trivial
 ·rw[h1]at k2
  generalize ZfD t kind set=b at *
  exact aGo hres trivial
end
theorem ZEU(p:List Int)(hp:p.length≤64):Zaa Tryz.prog 157 [Zab p] (.cl (p.map fun x=>[dI x])):=by
 refine⟨⟨_,_,Tryz.func157,rfl,by kernel_rfl⟩,fun S w vs hf hvs=>?_⟩
 obtain⟨v,rfl,h1⟩:=ZqH hvs
 obtain⟨a,cap,rfl,hcap,hle,_⟩:=h1.inv_sl
 have key:Rep noB noM S w (.slice a (p.map fun x=>[dI x]).length (p.map fun x=>[dI x]).length) (.sl (p.map fun x=>[dI x])):=by
  change Rep noB noM S w _ (.sl (p.map fun x=>[dI x]))at h1
  generalize (p.map fun x=>[dI x])=es at *
  have h2:∀ (n:Nat)(y:Value)(d:D),Rep noB noM S w y d→y = .slice a n cap→n=es.length→d = .sl es→Rep noB noM S w (.slice a es.length es.length) (.sl es):=by
   intro n y d hr hy hn hd
   cases hr<;>first|(cases hd;done)|skip
   ·cases hd;exact .sl0 _ _ (Yb0 _)
   ·rename_i b off cap' k es' val g1 g2 g3 g4 g5
    cases hd
    simp only[Value.slice.injEq]at hy
    obtain⟨rfl,-,-⟩:=hy
    exact .sl b off _ k _ val (Ya4 _) (Nat.le_trans g1 g2) g3 g4 g5
  exact h2 _ _ _ h1 rfl rfl rfl
 have hcl:=RepI.cl (S:=S) (w:=w) (β:=noB) (m:=noM) a (p.map fun x=>[dI x]) key
 simp only[List.length_map]at hcl hle ⊢
 cases a with
 | none =>
   go_enter Tryz.func157,Tryz.ntmps157
   go_wp2_with fail
   go_ret
   exact⟨_,rfl,Below.refl _ _,hcl⟩
 | some A =>
   go_enter Tryz.func157,Tryz.ntmps157
   go_wp2_with fail
   go_ret
   exact⟨_,rfl,Below.refl _ _,hcl⟩
theorem Zxf:(Tryz.prog.info? 3).map (fun i=>(i.zero.map fun z=>z.cells.size,i.size,i.bytes))=some (some 1,1,8):=by kernel_rfl
theorem Zxe:∃ i z,Tryz.prog.info? 3=some i∧i.zero=some z∧i.size=1∧i.bytes=8∧z.cells.size=1:=by
 have h:=Zxf
 cases hi:Tryz.prog.info? 3 with
 | none=>rw[hi]at h;cases h
 | some i =>
   rw[hi]at h
   simp only[Option.map_some,Ya1,Prod.mk.injEq]at h
   obtain⟨h1,h2,h3⟩:=h
   cases hz:i.zero with
   | none=>rw[hz]at h1;cases h1
   | some z=>rw[hz]at h1;exact⟨i,z,rfl,hz,h2,h3,by simpa using h1⟩
theorem Zx3:Zaa Tryz.prog 123 [.sl []] (.sl []):=by
 refine⟨⟨_,_,Tryz.func123,rfl,by kernel_rfl⟩,fun S w vs hf hvs=>?_⟩
 obtain⟨v,rfl,h1⟩:=ZqH hvs
 obtain⟨a,cap,rfl,hcap,_,_⟩:=h1.inv_sl
 obtain⟨i0,z,hi,hz0,hz1,hz2,hz3⟩:=Zxe
 have hnil:=fun(W:World) n c n' c'=>Lib.run_eql_slice_nil (P:=Tryz.prog) W 43 3 a n c n' c' Tryz.underlying43
 cases a with
 | none =>
   go_enter Tryz.func123,Tryz.ntmps123
   go_wp2_with fail
   go_ret
   exact⟨_,rfl,Below.refl _ _,.sl0 _ _ (by unfold maxLen;omega)⟩
 | some A =>
   go_enter Tryz.func123,Tryz.ntmps123
   go_wp2_with (at_builtin;refine Zdx _ (by rfl) _ _ _ (by rfl) w.heap.size 3 i0 z 1 _ Tryz.underlying43 hi hz0 hz1 hz2 hz3 (by omega) _ 0 [] (by rfl) (World.ownsRow_made w #[] 0 (Ya4 _) (Yb0 _) (by simp)) (some A) 0 cap [] (by rfl) ⟨rfl,.inl rfl⟩ (by simp) (by unfold maxLen;omega) (by omega) (by simp) ?_;intro v' w1 hown hgrow hat)
   go_ret
   refine⟨_,rfl,?_,?_⟩
   ·exact((Below.refl _ _).alloc (Ya4 _) _).grown hgrow (by simp) (by intro k hk;simp[Value.ownBlock]at hk;omega)
   ·rcases hown.2 with⟨rfl,_⟩|⟨g,cap,cur,rfl,_,_,_,hc,_⟩
    ·exact .sl0 _ _ (by unfold maxLen;omega)
    ·exact .sl0 _ _ hc
set_option maxRecDepth 20000 in
theorem ZC0(p:List Int)(hp:p.length≤64):Zaa Tryz.prog 123 [Zab p] (Zab p):=by
 have hresC:=Tryz.results123
 match p,hp with
 | [],_=>exact Zx3
 | y ::p,hp =>
   simp only[List.length_cons]at hp
   show Zaa _ _ [.sl ([dI y] ::p.map fun x=>[dI x])] (.sl ([dI y] ::p.map fun x=>[dI x]))
   obtain⟨c0,ec0⟩:∃ c0,[dI y]=c0:=⟨_,rfl⟩
   obtain⟨cs,ecs⟩:∃ cs,(p.map fun x=>[dI x])=cs:=⟨_,rfl⟩
   rw[ec0,ecs]
   have lT:cs.length=p.length:=by rw[← ecs];simp
   have hb:((p.length:Nat):Int)≤64:=by omega
   have hcell:∀ x∈c0 ::cs,x.length=1∧x.all D.isCell=true:=by
    intro x hx
    rw[← ec0,← ecs]at hx
    rcases List.mem_cons.1 hx with rfl|hx
    ·exact⟨rfl,rfl⟩
    ·obtain⟨u,_,rfl⟩:=List.mem_map.1 hx
     exact⟨rfl,rfl⟩
   have hfz:∀ (m:Mem)(n:Nat),List.map (List.map (fzT true m (n+1))) (c0 ::cs)=c0 ::cs:=by
    intro m n
    rw[← ec0,← ecs]
    simp[fzT,dI]
   refine inN Tryz.func123 rfl Tryz.ntmps123 fun I=>?_
   refine aGo (cj2 hresC lT) ?_
   repeat with_reducible intro K hK
   refine⟨⟨⟨hcell c0 (by simp),fun x hx=>hcell x (by simp[hx])⟩,by push_cast;omega,by push_cast;omega⟩,?_⟩
   refine aGo hresC ?_
   repeat with_reducible intro K hK
   exact congrArg D.sl (hfz _ _)
theorem ZDo:tyOf Tryz.prog 172=some ⟨0,1,8,some [.v .nilFunc],0,none,[]⟩:=by kernel_rfl
theorem ZDn:tyOf Tryz.prog 223=some ⟨0,1,8,some [.v .nilFunc],0,none,[]⟩:=by kernel_rfl
attribute [local go_sem] ZDo ZDn ZBp Zoc
def outs:List Int→Nat→List Int→List (List Int)
 | _,0,p=>[p]
 | [],_+1,_=>[]
 | x ::t,r+1,p=>outs t r (p++[x])++outs t (r+1) p
theorem Zlq(t:List Int)(p:List Int):outs t 0 p=[p]:=by cases t<;>rfl
theorem Zwr{l:List Int}{i:Nat}{x:Int}(h:l[i]? =some x)(p:List Int)(r:Nat):outs (l.drop i) (r+1) p=outs (l.drop (i+1)) r (p++[x])++outs (l.drop (i+1)) (r+1) p:=by
 obtain⟨hi,rfl⟩:=Ya3.1 h
 rw[List.drop_eq_getElem_cons hi]
 rfl
theorem Zzh(l:List Int)(p:List Int)(r:Nat):outs (l.drop l.length) (r+1) p=[]:=by rw[List.drop_length];rfl
def Zeg(n:Nat):D:=.ep [[dI n]] 0 0
def ZfH(yl:Nat):D:=.ep [[.v (.func (.yield yl) #[] #[])]] 0 0
def Zeh(l:List Int):D:=.ep [[Zab l]] 0 0
def dd(yl:Nat)(l:List Int)(n:Nat):Nat→D
 | 0=>.junk
 | k+1=>.ep [[.clo 156 [Zeg n,ZfH yl,Zeh l,dd yl l n k]]] 0 0
theorem ZER{yl n:Nat}{l:List Int}{xs:List (List Int)}{J:(Nat→Nat→Prop)→List (List Int)→World→Prop}(hJ:∀ S L A B,J S L A→Below A.heap.size A B→J S L B)(hl:l.length≤64)(hn64:n≤64)
 (hY:∀ S L x t v W,L++x ::t=xs→J S L W→ZfM S W→Rep noB noM S W v (Zab x)→YieldAt Fence.wide 0 Tryz.prog yl #[v] W fun e W'=>e = .returned (.bool true)∧∃ S',J S' (L++[x]) W'∧ZfM S' W'∧Zaz S W S' W') :
 ∀ (r k i:Nat)(p:List Int) (L T:List (List Int)),r≤k→p.length+r=n→i≤l.length→L++outs (l.drop i) r p++T=xs →
  ZuY Tryz.prog 156 [dI i,Zab p,Zeg n,ZfH yl,Zeh l,dd yl l n k] (fun S=>J S L) (fun S=>J S (L++outs (l.drop i) r p)) (dB true):=by
 have hst:∀ L S0 W0,Stab fun S w=>J S L w∧Zaz S0 W0 S w:=fun L S0 W0 S A B h hb=>⟨hJ S L A B h.1 hb,h.2.trans fun b o u h1 h2=>⟨h1,(hb.cell (p:=⟨b,o,none⟩) (Zic h2)).trans h2⟩⟩
 have hres:=Tryz.results156
 intro r
 induction r with
 | zero =>
   intro k i p L T hk hn hi hpre
   have hp:p.length≤64:=by omega
   rw[Zlq]at hpre ⊢
   have e1:((p.length:Nat):Int)=n:=by omega
   refine ZuY.inline Tryz.func156 rfl (by kernel_rfl) (by kernel_rfl) (by kernel_rfl) fun S0 W0 hI=>?_
   rw[Tryz.ntmps156]
   repeat(first
    | (refine hK _ ?_;clear hK;clear K)
    | (refine jSeq fun K hK=>?_)
    | (refine ZpM ?_)
    | (refine Zxc ?_)
    | (refine ZzP ?_)
    | (refine jRet ?_)
    | (refine ZjL (hst _ _ _) fun I KR hR=>?_;refine aOps _ rfl (by kernel_rfl) ?_;simp only[go_sem,↓reduceIte,Zeg,ZfH,Zeh];refine ZdW _ ?_;refine hR _ ?_;clear hR;clear KR)
    | (refine ZsW rfl ?hc ?_;case hc=>simp only[go_sem,↓reduceIte,e1]))
   refine ZAZ (k:=3) rfl rfl rfl _ rfl Zeb (by kernel_rfl) (by kernel_rfl) (by kernel_rfl) (by kernel_rfl) (by kernel_rfl) (by kernel_rfl) (hst _ _ _) fun I KE hE=>?_
   have kc:=ZC0 p hp
   repeat(first
    | (simp only[go_sem,↓reduceIte])
    | ((with_reducible apply ZbR);(first|with_reducible assumption|assumption);rfl))
   refine hE _ _ _ _ (by kernel_rfl) (Zay rfl) (StLe.refl _) ?_
   refine ZEm (l:=yl) (I':=fun S w=>J S (L++[p]) w∧Zaz S0 W0 S w) rfl rfl rfl rfl ?_ ?_
   ·intro S w v hw hI hv
    obtain⟨fn,tmps,assign,body,h1,h2⟩:=hY S L p T v w (by simpa using hpre) hI.1 hw hv
    refine⟨fn,tmps,assign,body,h1,RoundIn.mono h2 ?_⟩
    rintro e w' ⟨rfl,S',g1,g2,g3⟩
    exact⟨rfl,S',⟨g1,hI.2.trans g3⟩,g2,g3⟩
   refine jOpL (hst _ _ _) (by kernel_rfl) rfl fun I KR hR=>?_
   simp only[go_sem,↓reduceIte]
   refine hR _ (ZdW _ ?_)
   clear hE;clear KE;clear hR;clear KR
   refine hK _ ?_;clear hK;clear K
   refine jRet ?_
   refine⟨.inr rfl,[dB true],?_,rfl,fun S w h=>h⟩
   simp only[go_sem,↓reduceIte,hres]
 | succ r ih =>
   intro k i p L T hk hn hi hpre
   have hp:p.length≤64:=by omega
   obtain⟨k,rfl⟩:∃ k',k=k'+1:=⟨k-1,by omega⟩
   have e1:(((p.length:Nat):Int)==(n:Int))=false:=by simp;omega
   have kp:=ZEU p hp
   refine ZuY.inline Tryz.func156 rfl (by kernel_rfl) (by kernel_rfl) (by kernel_rfl) fun S0 W0 hI=>?_
   rw[Tryz.ntmps156]
   repeat(first
    | (refine hK _ ?_;clear hK;clear K)
    | (refine jSeq fun K hK=>?_)
    | (refine ZpM ?_)
    | (refine Zxc ?_)
    | (refine ZzP ?_)
    | (refine jRet ?_)
    | (refine ZjL (hst _ _ _) fun I KR hR=>?_;refine aOps _ rfl (by kernel_rfl) ?_;simp only[go_sem,↓reduceIte,Zeg,ZfH,Zeh];refine ZdW _ ?_;refine hR _ ?_;clear hR;clear KR)
    | (refine ZsW rfl ?hc ?_;case hc=>simp only[go_sem,↓reduceIte,e1])
    | (refine ZsX rfl ?hc ?_;case hc=>simp only[go_sem,↓reduceIte,e1]))
   refine jLoop (fun(x:Nat×List (List Int))=>⟨tabT [(1,Zab p),(2,Zeg n),(3,ZfH yl),(4,Zeh l),(5,dd yl l n (k+1)),(9,dI x.1)],fun S w=>J S (L++x.2) w∧Zaz S0 W0 S w⟩) (fun x=>i≤x.1∧x.1≤l.length∧x.2++outs (l.drop x.1) (r+1) p=outs (l.drop i) (r+1) p) (fun x=>l.length-x.1) (i,[]) ⟨Ya4 _,hi,rfl⟩ (Zw9 _ (fun S w h=>by simpa using h) (by simp[go_sem,Zeg,ZfH,Zeh,dI])) ?_
   rintro⟨j,E⟩ ⟨hj1,hj2,hE0⟩
   simp only at hj1 hj2 hE0
   by_cases h1:(j:Int)<l.length
   rotate_left
   ·obtain rfl:j=l.length:=by omega
    rw[Zzh,List.append_nil]at hE0
    subst hE0
    repeat(first
     | (refine hK _ ?_;clear hK;clear K)
     | (refine jSeq fun K hK=>?_)
     | (refine ZpM ?_)
     | (refine Zxc ?_)
     | (refine ZzP ?_)
     | (refine jRet ?_)
     | (refine ZjL (hst _ _ _) fun I KR hR=>?_;refine aOps _ rfl (by kernel_rfl) ?_;simp only[go_sem,↓reduceIte,Zeg,ZfH,Zeh];refine ZdW _ ?_;refine hR _ ?_;clear hR;clear KR)
     | (refine ZsW rfl ?hc ?_;case hc=>simp only[go_sem,↓reduceIte,h1])
     | (refine ZsX rfl ?hc ?_;case hc=>simp only[go_sem,↓reduceIte,h1]))
    simp only[go_sem,↓reduceIte]
    repeat(first
     | (refine hK _ ?_;clear hK;clear K)
     | (refine jSeq fun K hK=>?_)
     | (refine jRet ?_)
     | (refine ZjL (hst _ _ _) fun I KR hR=>?_;refine aOps _ rfl (by kernel_rfl) ?_;simp only[go_sem,↓reduceIte,Zeg,ZfH,Zeh];refine ZdW _ ?_;refine hR _ ?_;clear hR;clear KR)
     | (clear hK;clear K))
    refine⟨.inr rfl,[dB true],?_,rfl,fun S w h=>h⟩
    simp only[go_sem,↓reduceIte,hres]
   repeat(first
    | (refine hK _ ?_;clear hK;clear K)
    | (refine jSeq fun K hK=>?_)
    | (refine ZpM ?_)
    | (refine Zxc ?_)
    | (refine ZzP ?_)
    | (refine jRet ?_)
    | (refine ZjL (hst _ _ _) fun I KR hR=>?_;refine aOps _ rfl (by kernel_rfl) ?_;simp only[go_sem,↓reduceIte,Zeg,ZfH,Zeh];refine ZdW _ ?_;refine hR _ ?_;clear hR;clear KR)
    | (refine ZsW rfl ?hc ?_;case hc=>simp only[go_sem,↓reduceIte,h1])
    | (refine ZsX rfl ?hc ?_;case hc=>simp only[go_sem,↓reduceIte,h1]))
   obtain⟨x,hx⟩:=getE (l:=l) (k:=j) (by omega)
   have hstep:=Zwr hx p r
   have hx2:(l.map fun x=>[dI x])[j]? =some [dI x]:=by rw[List.getElem?_map,hx];rfl
   obtain⟨hw,hj0⟩:=ZaM j
   refine ZAZ (k:=11) rfl rfl rfl _ rfl Zeb (by kernel_rfl) (by kernel_rfl) (by kernel_rfl) (by kernel_rfl) (by kernel_rfl) (by kernel_rfl) (hst _ _ _) fun I KE hE=>?_
   repeat(first
    | (simp only[go_sem,↓reduceIte,dd,hw,hx,h1,hj0])
    | ((with_reducible apply ZbR);(first|with_reducible assumption|assumption);rfl))
   refine⟨⟨by omega,by omega⟩,?_⟩
   have e2:(p.map fun x=>[dI x])++[[D.v (Value.int IntKind.i64 x)]]=(p++[x]).map fun x=>[dI x]:=by simp
   simp only[e2]
   refine hE _ _ (tabT [(1,Zab p),(2,Zeg n),(3,ZfH yl),(4,Zeh l),(5,dd yl l n (k+1)),(9,dI j),(25,.clo 156 [Zeg n,ZfH yl,Zeh l,dd yl l n k]),(27,dI ((j+1:Nat):Int)),(35,Zab (p++[x]))]) 0 (by kernel_rfl) (Zay rfl) ?hle ?_
   case hle =>
    refine StLe.trans (ZcM 1 rfl) (StLe.trans (Zn6 35 4) ?_)
    show StLe _ ⟨tabT _,tabM [],0,0⟩
    refine Zag _ _ _ ?_ ?_ ?_ ?_ ?_ (.inl rfl)
    ·simp[go_sem,dd,Zeg,ZfH,Zeh,Function.comp_def]
    all_goals simp[okD,okDs,dd,Zeg,ZfH,Zeh]
    cases k<;>rfl
   have hc:=ih k (j+1) (p++[x]) (L++E) (outs (l.drop (j+1)) (r+1) p++T) (by omega) (by simp;omega) (by omega) (by rw[← hpre,← hE0,hstep];simp)
   refine jCall (f:=156) (ds:=[dI ((j+1:Nat):Int),Zab (p++[x]),Zeg n,ZfH yl,Zeh l,dd yl l n k]) (d:=dB true) (I':=fun S w=>J S (L++(E++outs (l.drop (j+1)) r (p++[x]))) w∧Zaz S0 W0 S w) (by kernel_rfl) (by simp only[go_sem,↓reduceIte]) ⟨hc.1,fun S W vs q1 q2 q3=>CallsIn.mono (hc.2 S W vs q1 q2.1 q3) ?_⟩ ?_
   ·rintro e w' ⟨v,S',rfl,g1,g2,g3,g4⟩
    exact⟨v,S',rfl,g1,⟨by rw[← List.append_assoc];exact g2,q2.2.trans g4⟩,g3,g4⟩
   refine jOpL (hst _ _ _) (by kernel_rfl) rfl fun I KR hR=>?_
   simp only[go_sem,↓reduceIte]
   refine hR _ (ZdW _ ?_)
   clear hR;clear KR;clear hE;clear KE
   repeat(first
    | (refine hK _ ?_;clear hK;clear K)
    | (refine jSeq fun K hK=>?_)
    | (refine ZpM ?_)
    | (refine Zxc ?_)
    | (refine ZjL (hst _ _ _) fun I KR hR=>?_;refine aOps _ rfl (by kernel_rfl) ?_;simp only[go_sem,↓reduceIte,hw];refine ZdW _ ?_;refine hR _ ?_;clear hR;clear KR)
    | (refine ZsX rfl ?hc ?_;case hc=>simp only[go_sem,↓reduceIte,h1]))
   refine⟨(j+1,E++outs (l.drop (j+1)) r (p++[x])),⟨by show i≤j+1;omega,by show j+1≤l.length;omega,?_⟩,by show l.length-(j+1)<l.length-j;omega,Zw9 _ (fun S w h=>h) ?_⟩
   ·rw[← hE0,hstep];simp
   ·simp[ZaC,dI]
set_option maxRecDepth 20000 in
theorem ZDO(l:List Int)(n:Nat):Zaa Tryz.prog 100 [Zab l,dI n] (.clo 155 [Zeg n,Zeh l]):=by
 have hres:=Tryz.results100
 refine inN Tryz.func100 rfl Tryz.ntmps100 fun I=>?_
 refine aGo hres ?_
 repeat with_reducible intro K hK
 rfl
theorem ZBc{S:Nat→Nat→Prop}{W:World}{b yl n:Nat}{l:List Int}{x y z:Value}(hS:S b 0)(hc:W.cell? ⟨b,0,none⟩=some (.func (.func 156) #[] #[x,y,z,.pointer (some ⟨b,0,none⟩)]))
 (hx:Rep noB noM S W x (Zeg n)) (hy:Rep noB noM S W y (ZfH yl)) (hz:Rep noB noM S W z (Zeh l)):∀ k,Rep noB noM S W (.pointer (some ⟨b,0,none⟩)) (dd yl l n k)
 | 0=>.junk _
 | k+1=>by
   have ih:=ZBc hS hc hx hy hz k
   have hr:Reps noB noM S W [x,y,z,.pointer (some ⟨b,0,none⟩)] [Zeg n,ZfH yl,Zeh l,dd yl l n k]:=Reps.cons hx (Reps.cons hy (Reps.cons hz (Reps.cons ih Reps.nil)))
   have hclo:Rep noB noM S W (.func (.func 156) #[] #[x,y,z,.pointer (some ⟨b,0,none⟩)]) (.clo 156 [Zeg n,ZfH yl,Zeh l,dd yl l n k]):=.clo _ _ _ hr.1 hr.2
   have hrow:ZrL S W b 0 1 [[.clo 156 [Zeg n,ZfH yl,Zeh l,dd yl l n k]]]:=by
    refine⟨fun i e he=>?_,fun i j d hd=>?_⟩
    ·cases i with
     | zero=>simp at he;subst he;rfl
     | succ i=>simp at he
    ·obtain⟨e,he,hj⟩:=Zak.1 hd
     cases i with
     | zero =>
       simp at he
       subst he
       cases j with
       | zero=>simp at hj;subst hj;exact⟨_,hS,hc,hclo⟩
       | succ j=>simp at hj
     | succ i=>simp at he
   have:=Zmz (β:=noB) (m:=noM) hrow 0 0
   simpa[dd]using this
set_option maxRecDepth 20000
theorem ZvO(l:List Int)(n:Nat)(hl:l.length≤64)(hn:n≤64):ZBl Tryz.prog 155 [Zeg n,Zeh l] Zab (outs l n []):=by
 refine⟨⟨_,_,Tryz.func155,rfl,by kernel_rfl⟩,fun yl S W vs J hfr hvs hJ hY h0=>?_⟩
 obtain⟨x,z,rfl⟩:∃ x z,vs=[x,z]:=by
  match vs,hvs.1 with
  | [x,z],_=>exact⟨x,z,rfl⟩
 have hx:Rep noB noM S W x (Zeg n):=hvs.2 0 _ _ rfl rfl
 have hz:Rep noB noM S W z (Zeh l):=hvs.2 1 _ _ rfl rfl
 refine callsIn_wide.2 ?_
 go_enter Tryz.func155,Tryz.ntmps155
 go_wp2_with fail
 obtain⟨W1,e1⟩:∃ W1,W.alloc (.cells #[Value.func (Fn.yield yl) #[] #[]] 172)=W1:=⟨_,rfl⟩
 obtain⟨W2,e2⟩:∃ W2,W1.alloc (.cells #[Value.nilFunc] 223)=W2:=⟨_,rfl⟩
 have s1:W1.heap.size=W.heap.size+1:=by rw[← e1];simp
 have h1:W2.heap[W.heap.size+1]? =some (.cells #[Value.nilFunc] 223):=by rw[← e2,← s1];exact World.alloc_heap_new _ _
 have h2:W2.heap[W.heap.size]? =some (.cells #[Value.func (Fn.yield yl) #[] #[]] 172):=by
  rw[← e2,Below.heap_alloc _ _ _ (by omega),← e1];exact World.alloc_heap_new _ _
 have hf:W2.frozen? ⟨W.heap.size+1,0,none⟩=false:=by simp[World.frozen?,h1]
 rw[e1,e2,run_store _ _ _ _ _ rfl,Zcz h1]
 simp only[List.getElem?_toArray,List.getElem?_cons_zero,hf]
 obtain⟨vd,ed⟩:∃ vd,Value.func (Fn.func 156) #[] #[x,Value.pointer (some ⟨W.heap.size,0,none⟩),z,Value.pointer (some ⟨W.heap.size+1,0,none⟩)]=vd:=⟨_,rfl⟩
 obtain⟨W3,e3⟩:∃ W3,W2.setCell ⟨W.heap.size+1,0,none⟩ vd=W3:=⟨_,rfl⟩
 have c3:W3.cell? ⟨W.heap.size+1,0,none⟩=some vd:=by
  rw[← e3];exact World.cell?_setCell_same W2 _ _ (by rw[Zcz h1];rfl)
 have c4:W3.cell? ⟨W.heap.size,0,none⟩=some (Value.func (Fn.yield yl) #[] #[]):=by
  rw[← e3,World.cell?_setCell_other,Zcz h2];rfl
  intro e;simp only[Addr.mk.injEq]at e;omega
 have hb3:Below W.heap.size W W3:=by
  rw[← e3,← e2,← e1];exact(((Below.refl _ W).alloc (Ya4 _) _).alloc (by simp) _).setCell (Nat.le_succ _) _
 have s3:W3.heap.size=W.heap.size+2:=by rw[← e3,← e2];simp[World.setCell,s1]
 rw[ed,e3]
 simp only[Bool.false_eq_true,if_false,Result.andThen_ok,Oper.upon_skip]
 have sS:∀ b o,W.heap.size≤b→S b o:=hfr
 have hm3:Zaz S W S W3:=fun b o u q1 q2=>⟨q1,(hb3.cell (p:=⟨b,o,none⟩) (Zic q2)).trans q2⟩
 have hx3:Rep noB noM S W3 x (Zeg n):=hx.monoS (fun _=>rfl) hm3
 have hz3:Rep noB noM S W3 z (Zeh l):=hz.monoS (fun _=>rfl) hm3
 have hy3:Rep noB noM S W3 (.pointer (some ⟨W.heap.size,0,none⟩)) (ZfH yl):=by
  have hrow:ZrL S W3 W.heap.size 0 1 [[.v (.func (.yield yl) #[] #[])]]:=by
   refine⟨fun i e he=>?_,fun i j d hd=>?_⟩
   ·cases i with
    | zero=>simp at he;subst he;rfl
    | succ i=>simp at he
   ·obtain⟨e,he,hj⟩:=Zak.1 hd
    cases i with
    | zero =>
      simp at he
      subst he
      cases j with
      | zero=>simp at hj;subst hj;exact⟨_,hfr _ _ (Ya4 _),c4,.v _⟩
      | succ j=>simp at hj
    | succ i=>simp at he
  have:=Zmz (β:=noB) (m:=noM) hrow 0 0
  simpa[ZfH]using this
 have hd3:=ZBc (k:=n) (hfr _ _ (Nat.le_succ _)) (by rw[c3,← ed]) hx3 hy3 hz3
 have hdn:=ZER (yl:=yl) (n:=n) (l:=l) (xs:=outs l n []) (J:=J) hJ hl hn hY n n 0 [] [] [] (Ya4 _) (by simp) (Yb0 _) (by simp)
 have hcall:=hdn.2 S W3 [goInt 0,.slice none 0 0,x,.pointer (some ⟨W.heap.size,0,none⟩),z,.pointer (some ⟨W.heap.size+1,0,none⟩)] (fun b o hb=>hfr b o (Nat.le_trans hb3.size hb)) (hJ _ _ _ _ h0 hb3) (Reps.cons (.v _) (Reps.cons (.sl0 _ _ (Yb0 _)) (Reps.cons hx3 (Reps.cons hy3 (Reps.cons hz3 (Reps.cons hd3 Reps.nil))))))
 subst ed
 go_wp2_with fail
 refine(callsIn_wide.1 hcall).mono ?_
 rintro e w' ⟨v,S',rfl,g1,g2,g3,g4⟩
 go_wp2_with fail
 exact bodyPost_end (results_none Tryz.results155 _ _ _) rfl ⟨⟨_,rfl⟩,S',by simpa using g2⟩
abbrev ZlV(l:List (List Int)):D:=.sl (l.map fun x=>[Zab x])
def fewG(ex:List Int→Bool)(l:List Int):Nat→Nat→List (List Int)
 | 0,_=>[]
 | k+1,n=>if ((outs l n []).filter ex).isEmpty then fewG ex l k (n+1)else(outs l n []).filter ex
theorem ZnF:∀ (t:List Int)(r:Nat)(p:List Int),∀ x∈outs t r p,x.length=p.length+r
 | t,0,p,x,h=>by rw[Zlq]at h;rw[List.mem_singleton.1 h];rfl
 | [],r+1,p,x,h=>by cases h
 | y ::t,r+1,p,x,h=>by
   rcases List.mem_append.1 h with h|h
   ·have:=ZnF t r _ x h;simp at this;omega
   ·exact ZnF t (r+1) p x h
theorem ZnE:∀ (t:List Int)(r:Nat)(p:List Int),(outs t r p).length≤2^t.length
 | t,0,p=>by rw[Zlq];exact Nat.one_le_two_pow
 | [],r+1,p=>Yb0 _
 | y ::t,r+1,p=>by
   have h1:=ZnE t r (p++[y])
   have h2:=ZnE t (r+1) p
   simp only[outs,List.length_append,List.length_cons,Nat.pow_succ];omega
theorem ZjB{l:List Int}{n:Nat}(h:l.length≤8):(outs l n []).length≤256:=Nat.le_trans (ZnE l n []) (Nat.pow_le_pow_right (by decide) h)
theorem Zz8(ex:List Int→Bool)(L:List (List Int))(x:List Int):(L++[x]).filter ex=if ex x then L.filter ex++[x]else L.filter ex:=by
 rw[List.filter_append]
 cases h:ex x<;>simp[h]
theorem lo7:∀ id,id<6→([0,1,2,3,4,5]:List Nat).contains id=true:=by
 intro id h
 have:id=0∨id=1∨id=2∨id=3∨id=4∨id=5:=by omega
 rcases this with rfl|rfl|rfl|rfl|rfl|rfl<;>rfl
theorem ZAg(t:TrD)(kind e:Int)(l:List Int)(he:e≠0)(k1:Zaf Tryz.prog 99 [ZbC t,dI kind] (.tup [Zab l,dI e])) :
 Zaf Tryz.prog 51 [ZbC t,dI kind,dB true] (.tup [ZlV [],dI e]):=by
 have hres:=Tryz.results51
 have h1:(e !=0)=true:=by simpa using he
 refine inC Tryz.func51 rfl Tryz.ntmps51 ?_
 refine aGo (cj2 hres h1) ?_
 repeat with_reducible intro K hK
 rfl
theorem ZCW(t:TrD)(kind n0:Int)(l:List Int)(rs:List (List D))(ex:List Int→Bool)(hl:l.length≤8)
 (k1:Zaf Tryz.prog 99 [ZbC t,dI kind] (.tup [Zab l,dI 0])) (k2:Zaf Tryz.prog 40 [ZbC t,dI kind] (.tup [.agg [dI n0,.sl rs],dI 0]))
 (k3:∀ x:List Int,x.length≤8→Zaf Tryz.prog 45 [ZbC t,.agg [dI n0,.sl rs],Zab x] (dB (ex x))) :
 Zaf Tryz.prog 51 [ZbC t,dI kind,dB true] (.tup [ZlV (fewG ex l (l.length+1) 0),dI 0]):=by
 have hres:=Tryz.results51
 refine inC Tryz.func51 rfl Tryz.ntmps51 ?_
 refine aGo hres ?_
 repeat with_reducible intro K hK
 refine aLe (ZdK 2 0 0 43 1 rfl rfl rfl) ?_
 simp only[go_sem]
 refine Zat (fun(x:Nat×List (List Int))=>[(1,dI kind),(2,dB true),(3,.lp 0 0 0 0),(8,Zab l),(9,dI 0),(10,.lp 1 0 0 0),(11,.lp 2 0 0 0),(12,dI x.1)])
  (fun x=>[(0,⟨32,0,10,[cTr t],0,false⟩),(1,⟨99,0,2,[[dI n0,.sl rs]],0,false⟩),(2,⟨54,0,1,[[.ls 3 x.1]],0,false⟩),(3,⟨43,x.1,1,x.2.map fun s=>[Zab s],0,false⟩)]) 4 0
  (fun x=>x.1≤l.length+1∧fewG ex l (l.length+1) 0=if x.2.isEmpty then fewG ex l (l.length+1-x.1) x.1 else x.2) (fun x=>l.length+2-x.1) (0,[]) ⟨by omega,rfl⟩ ?_ ?_
 ·exact leGo trivial
 rintro⟨n,out⟩ ⟨hn,hout⟩
 simp only at hn hout
 have hw:=ZtF n
 by_cases h1:(n:Int)≤l.length
 rotate_left
 ·have e0:fewG ex l (l.length+1) 0=out:=by
   rw[hout]
   split
   ·rename_i h
    rw[show l.length+1-n=0 by omega,List.isEmpty_iff.1 h];rfl
   ·rfl
  refine aGo (cj2 hres h1) ?_
  repeat with_reducible intro K hK
  rw[Zan (fun _=>rfl),e0]
 cases hz:((out.length:Int)==0)
 ·have e0:fewG ex l (l.length+1) 0=out:=by
   rw[hout,if_neg]
   intro h
   rw[List.isEmpty_iff.1 h]at hz;cases hz
  refine aGo (cj3 hres h1 hz) ?_
  repeat with_reducible intro K hK
  rw[Zan (fun _=>rfl),e0]
 obtain rfl:out=[]:=List.length_eq_zero_iff.1 (by simpa using hz)
 clear hz
 have ks:=ZDO l n
 refine aGo (cj2 hres h1) ?_
 repeat with_reducible intro K hK
 refine aLe (ZdK 4 0 0 43 1 rfl rfl rfl) ?_
 simp only[go_sem]
 refine ZuV Zab (outs l n []) [(1,dI kind),(2,dB true),(3,.lp 0 0 0 0),(8,Zab l),(9,dI 0),(10,.lp 1 0 0 0),(11,.lp 2 0 0 0),(12,dI n),(13,.lp 4 0 0 0),(47,.clo 155 [Zeg n,Zeh l])]
  (fun L=>[(0,⟨32,0,10,[cTr t],0,false⟩),(1,⟨99,0,2,[[dI n0,.sl rs]],0,false⟩),(2,⟨54,0,1,[[.ls 3 n]],0,false⟩),(3,⟨43,n,1,[],0,false⟩),
    (4,⟨54,0,1,[[.ls 5 (L.filter ex).length]],0,false⟩),(5,⟨43,(L.filter ex).length,1,(L.filter ex).map fun s=>[Zab s],0,false⟩)]) 6 0 ?hle rfl rfl rfl (ZvO l n (by omega) (by omega)) (by decide) rfl ?hround ?hend
 case hle =>
  clear hK hres
  refine Zag _ _ _ ?_ ?_ ?_ ?_ ?_ (.inl rfl)<;>simp[go_sem,okD,okDs,Zap,Zeg,Zeh]
 case hround =>
  intro L x T hL
  have hx8:x.length≤8:=by
   have:=ZnF l n [] x (by rw[← hL];simp)
   simp at this;omega
  have kx:=k3 x hx8
  have hLn:(L.filter ex).length≤256:=by
   have h1:=Yb1 ex L
   have h2:=ZjB (l:=l) (n:=n) hl
   have h3:L.length≤(outs l n []).length:=by rw[← hL,List.length_append];omega
   omega
  have eF:=Zz8 ex L x
  clear k1 k2 k3 hK
  generalize L.filter ex=F at *
  have hresC:=Tryz.results101
  have hresI:=Tryz.results158
  cases hx:ex x
  ·rw[hx]at kx
   rw[hx,if_neg Bool.false_ne_true]at eF
   rw[eF]
   clear eF
   refine rGo hres ?_
   intro K hK
   refine Zbf Tryz.func101 rfl (by kernel_rfl) (by kernel_rfl) (by kernel_rfl) ?_
   rw[Tryz.ntmps101]
   refine aGo hresC ?_
   repeat with_reducible intro K hK
   refine Zbf Tryz.func158 rfl (by kernel_rfl) (by kernel_rfl) (by kernel_rfl) ?_
   rw[Tryz.ntmps158]
   refine aGo hresI ?_
   repeat with_reducible intro K hK
   refine ZrJ (fun _:Unit=>_) (fun _=>True) (fun _=>0) ⟨(),trivial,StLe.refl _⟩ ?_
   rintro _ _
   refine aGo (cj3 hresI hresC hres) ?_
   repeat with_reducible intro K hK
   refine rGo hres ?_
   show Zqj _ ⟨tabT [],tabM [(0,⟨32,0,10,[cTr t],0,false⟩),(1,⟨99,0,2,[[dI n0,.sl rs]],0,false⟩),(2,⟨54,0,1,[[.ls 3 n]],0,false⟩),(3,⟨43,n,1,[],0,false⟩),(4,⟨54,0,1,[[.ls 5 F.length]],0,false⟩),(5,⟨43,F.length,1,F.map fun s=>[Zab s],0,false⟩)],6,6⟩
   exact ZsU [] _ 6 (by simp) (by simp[go_sem]) (by simp) (by simp[Zap,okDs,okD]) (by simp) (.inr lo7)
  ·rw[hx]at kx
   rw[hx,if_pos rfl]at eF
   rw[eF]
   clear eF
   refine rGo hres ?_
   intro K hK
   refine Zbf Tryz.func101 rfl (by kernel_rfl) (by kernel_rfl) (by kernel_rfl) ?_
   rw[Tryz.ntmps101]
   refine aGo hresC ?_
   repeat with_reducible intro K hK
   refine Zbf Tryz.func158 rfl (by kernel_rfl) (by kernel_rfl) (by kernel_rfl) ?_
   rw[Tryz.ntmps158]
   refine aGo hresI ?_
   repeat with_reducible intro K hK
   refine ZrJ (fun _:Unit=>_) (fun _=>True) (fun _=>0) ⟨(),trivial,StLe.refl _⟩ ?_
   rintro _ _
   refine aGo (cj3 hresI hresC hres) ?_
   repeat with_reducible intro K hK
   refine rGo hres ?_
   show Zqj _ ⟨tabT [],tabM [(0,⟨32,0,10,[cTr t],0,false⟩),(1,⟨99,0,2,[[dI n0,.sl rs]],0,false⟩),(2,⟨54,0,1,[[.ls 3 n]],0,false⟩),(3,⟨43,n,1,[],0,false⟩),(4,⟨54,0,1,[[.ls 5 (F.length+1)]],0,false⟩),(5,⟨43,F.length+1,1,(F++[x]).map fun s=>[Zab s],0,false⟩)],6,6⟩
   exact ZsU [] _ 6 (by simp) (by simp[go_sem]) (by simp) (by simp[Zap,okDs,okD];rintro e (⟨a,_,rfl⟩|rfl)<;>rfl) (by simp) (.inr lo7)
 case hend =>
  have hF:((outs l n []).filter ex).length≤256:=Nat.le_trans (Yb1 ex _) (ZjB hl)
  have hst:fewG ex l (l.length+1) 0=if ((outs l n []).filter ex).isEmpty then fewG ex l (l.length+1-(n+1)) (n+1)else(outs l n []).filter ex:=by
   rw[hout,List.isEmpty_nil,if_pos rfl,show l.length+1-n=(l.length+1-(n+1))+1 by omega];rfl
  generalize (outs l n []).filter ex=F at hF hst
  refine aGo (cj2 hres hw) ?_
  repeat with_reducible intro K hK
  exact Zac (n+1,F) ⟨by show n+1≤l.length+1;omega,hst⟩ (by show l.length+2-(n+1)<l.length+2-n;omega) (by exact leGo trivial)
theorem Zh5:∀ (t:List Int)(r:Nat)(p:List Int),outs t r p=(Ze7 t r).map (p++·)
 | [],0,p=>by simp[outs,Ze7]
 | _ ::_,0,p=>by simp[outs,Ze7]
 | [],r+1,p=>by simp[outs,Ze7]
 | x ::t,r+1,p=>by
   simp only[outs,Ze7,List.map_append,List.map_map]
   rw[Zh5 t r,Zh5 t (r+1)]
   simp[Function.comp_def]
theorem Zzg(l:List Int)(n:Nat):outs l n []=Ze7 l n:=by rw[Zh5];simp
theorem ZxB(t:TrD)(kind:Int)(l:List Int):∀ k n,fewG (ZfD t kind) l k n=Zim t kind l k n
 | 0,_=>rfl
 | k+1,n=>by
   simp only[fewG,Zim]
   rw[Zzg,ZxB t kind l k (n+1)]
theorem ZrZ(t:TrD)(kind:Int):(ZhW t kind).1.length≤8:=by
 unfold ZhW
 split
 ·split
  ·exact Yb0 _
  ·rename_i h
   rw[List.length_map];omega
 ·exact Yb0 _
theorem Zi7{t:TrD}(h:TrOk t){kind:Int}(hk:Zdk kind=true):Zaf Tryz.prog 15 [ZbC t,dI kind] (.tup [ZlV (ZaJ t kind).1,dI (ZaJ t kind).2]):=by
 have hres:=Tryz.results15
 have k1:=ZtO h hk
 have hl:=ZrZ t kind
 have k2:Zaf Tryz.prog 51 [ZbC t,dI kind,dB true] (.tup [ZlV (ZaJ t kind).1,dI (ZaJ t kind).2]):=by
  unfold ZaJ
  by_cases he:(ZhW t kind).2=0
  ·rw[if_pos he]
   rw[he]at k1
   rw[← ZxB]
   exact ZCW t kind _ _ _ (ZfD t kind) hl k1 (h.sys hk) fun x hx=>Zm9 h kind x (by omega)
  ·rw[if_neg he]
   exact ZAg t kind _ _ he k1
 generalize ZaJ t kind=F at *
 obtain⟨a,b⟩:=F
 simp only at k2 ⊢
 refine inC Tryz.func15 rfl Tryz.ntmps15 ?_
 exact aGo hres trivial
theorem Zuk(t:TrD)(hfi:t.fi.length≤40)(hcl:t.cl.length≤60)(kind:Int)(v:Nat):Zaf Tryz.prog 95 [ZbC t,dI kind,dI v] (.sl [cTr (outF t kind v),cTr (outC t kind v)]):=by
 have hres:=Tryz.results95
 have hresF:=Tryz.results148
 have hresC:=Tryz.results149
 refine inC Tryz.func95 rfl Tryz.ntmps95 ?_
 refine ZoD (n:=2) ⟨⟩ hres ?_
 repeat with_reducible intro K hK
 have r1:True→∀ st,StLe st ⟨tabT [(1,dI kind),(2,dI v),(3,.lp 0 0 0 0),(7,.lp 1 0 0 0),(8,.lp 2 0 0 0)],tabM [(0,⟨32,0,10,[cTr t],0,false⟩),(1,⟨32,0,10,[cTr (outF t kind v)],0,false⟩),(2,⟨32,0,10,[cTr t],0,false⟩)],3,0⟩→K st:=by
  intro _ st hle
  refine hK _ (aLe hle ?_)
  clear hle hK
  refine ZoD (n:=3) ⟨⟩ hres ?_
  repeat with_reducible intro K hK
  have r1:True→∀ st,StLe st ⟨tabT [(1,dI kind),(2,dI v),(3,.lp 0 0 0 0),(7,.lp 1 0 0 0),(8,.lp 2 0 0 0)],tabM [(0,⟨32,0,10,[cTr t],0,false⟩),(1,⟨32,0,10,[cTr (outF t kind v)],0,false⟩),(2,⟨32,0,10,[cTr (outC t kind v)],0,false⟩)],3,0⟩→K st:=by
   intro _ st hle
   refine hK _ (aLe hle ?_)
   clear hle hK
   exact aGo hres trivial
  clear hK
  obtain⟨es,ee⟩:∃ es,t.cl.map cCl=es:=⟨_,rfl⟩
  have hcell:∀ x∈es,x.length=2∧x.all D.isCell=true:=fun x hx=>by
   rw[← ee]at hx
   obtain⟨u,_,rfl⟩:=List.mem_map.1 hx
   exact⟨rfl,rfl⟩
  have hlen:es.length≤60:=by rw[← ee,List.length_map];omega
  have hz:∀ (M:Mem)(n:Nat),List.map (List.map (fzT false M (n+1))) es=es:=fun M n=>by rw[← ee];exact Zan (fun _=>rfl) _
  have eo:Zja (outC t kind v).cl = .sl (es++[[dI v,dI kind]]):=by rw[← ee];exact congrArg D.sl List.map_append
  refine aGo hres ?_
  repeat with_reducible intro K hK
  have el:Zja t.cl = .sl es:=congrArg D.sl ee
  rw[el]
  refine Zbf Tryz.func149 rfl (by kernel_rfl) (by kernel_rfl) (by kernel_rfl) ?_
  rw[Tryz.ntmps149]
  refine ZoD (n:=1) ⟨⟩ hresC ?_
  repeat with_reducible intro K hK
  refine Ze9 (es:=es) Tryz.underlying30 rfl rfl rfl rfl rfl rfl (by kernel_rfl) (by kernel_rfl) rfl (fun h0=>?_) ?_
  ·refine aGo (cj2 hres hresC) ?_
   repeat with_reducible intro K hK
   refine r1 trivial _ ?_
   refine StLe.trans (ZcM 4 rfl) (StLe.trans (ZcY 2 4 rfl) (ZlE (by simp only[go_sem,fzT,hz];exact rfl) ?_))
   refine Zag _ _ _ ?_ ?_ ?_ ?_ ?_ (.inl rfl)<;>simp[go_sem,okD,okDs,Zap,fzT,hz,h0,ee,outF,outC]
  ·refine aGo (cj2 hres hresC) ?_
   repeat with_reducible intro K hK
   refine⟨⟨hcell,by omega,by omega⟩,?_⟩
   refine aGo (cj2 hres hresC) ?_
   repeat with_reducible intro K hK
   refine r1 trivial _ ?_
   refine StLe.trans (ZcM 3 rfl) (StLe.trans (ZcY 2 4 rfl) (ZlE (by simp only[go_sem,fzT,hz];exact rfl) ?_))
   refine Zag _ _ _ ?_ ?_ ?_ ?_ ?_ (.inl rfl)<;>simp[go_sem,okD,okDs,Zap,fzT,hz,ee,outF,outC]
 clear hK
 obtain⟨es,ee⟩:∃ es,t.fi.map cFi=es:=⟨_,rfl⟩
 have hcell:∀ x∈es,x.length=3∧x.all D.isCell=true:=fun x hx=>by
  rw[← ee]at hx
  obtain⟨u,_,rfl⟩:=List.mem_map.1 hx
  exact⟨rfl,rfl⟩
 have hlen:es.length≤60:=by rw[← ee,List.length_map];omega
 have hz:∀ (M:Mem)(n:Nat),List.map (List.map (fzT false M (n+1))) es=es:=fun M n=>by rw[← ee];exact Zan (fun _=>rfl) _
 have eo:Zke (outF t kind v).fi = .sl (es++[[dI v,dI kind,dI 1]]):=by rw[← ee];exact congrArg D.sl List.map_append
 refine aGo hres ?_
 repeat with_reducible intro K hK
 have el:Zke t.fi = .sl es:=congrArg D.sl ee
 rw[el]
 refine Zbf Tryz.func148 rfl (by kernel_rfl) (by kernel_rfl) (by kernel_rfl) ?_
 rw[Tryz.ntmps148]
 refine ZoD (n:=1) ⟨⟩ hresF ?_
 repeat with_reducible intro K hK
 refine Ze9 (es:=es) Tryz.underlying29 rfl rfl rfl rfl rfl rfl (by kernel_rfl) (by kernel_rfl) rfl (fun h0=>?_) ?_
 ·refine aGo (cj2 hres hresF) ?_
  repeat with_reducible intro K hK
  refine r1 trivial _ ?_
  refine StLe.trans (ZcM 4 rfl) (StLe.trans (ZcY 1 4 rfl) (ZlE (by simp only[go_sem,fzT,hz];exact rfl) ?_))
  refine Zag _ _ _ ?_ ?_ ?_ ?_ ?_ (.inl rfl)<;>simp[go_sem,okD,okDs,Zap,fzT,hz,h0,ee,outF,outC]
 ·refine aGo (cj2 hres hresF) ?_
  repeat with_reducible intro K hK
  refine⟨⟨hcell,by omega,by omega⟩,?_⟩
  refine aGo (cj2 hres hresF) ?_
  repeat with_reducible intro K hK
  refine r1 trivial _ ?_
  refine StLe.trans (ZcM 3 rfl) (StLe.trans (ZcY 1 4 rfl) (ZlE (by simp only[go_sem,fzT,hz];exact rfl) ?_))
  refine Zag _ _ _ ?_ ?_ ?_ ?_ ?_ (.inl rfl)<;>simp[go_sem,okD,okDs,Zap,fzT,hz,ee,outF,outC]
noncomputable def scF (a b:Nat):Nat→Nat
 | 0=>0
 | 1=>a
 | _=>max a b
theorem ZlQ{t:TrD}(h:TrOk t)(kind:Int):(ZaJ t kind).1.length≤256:=by
 unfold ZaJ
 have hl:=ZrZ t kind
 split
 ·rw[← ZxB]
  generalize (ZhW t kind).1=l at *
  have:∀ k n,(fewG (ZfD t kind) l k n).length≤256:=by
   intro k
   induction k with
   | zero=>intro n;exact Yb0 _
   | succ k ih =>
     intro n
     unfold fewG
     split
     ·exact ih _
     ·exact Nat.le_trans (Yb1 _ _) (ZjB hl)
  exact this _ _
 ·exact Yb0 _
theorem ZBK{t:TrD}(h:TrOk t){kind:Int}(hk:Zdk kind=true){v:Nat}(hv:v<t.e.mv.length)(hF:TrOk (outF t kind v))(hC:TrOk (outC t kind v))(h0:(ZaJ t kind).2=0) :
 Zaf Tryz.prog 48 [ZbC t,dI kind,dI v] (.tup [dI (ZdO t kind v),dI 0]):=by
 have hres:=Tryz.results48
 have k1:=ZhU t h.L
 rw[h.ta]at k1
 have k2:=Zi7 h hk
 have kF:=Zi7 hF hk
 have kC:=Zi7 hC hk
 have z2:=ZlQ h kind
 have zF:=ZlQ hF kind
 have zC:=ZlQ hC kind
 have hfi:=h.S.fi
 have hcl:=h.S.cl
 have hn:=h.S.n
 have ko:=Zuk t (by omega) (by omega) kind v
 rw[h0]at k2
 simp only[Zdk,Ya2,decide_eq_true_eq]at hk
 have g1:¬ kind<0:=by omega
 have g2:¬ kind≥8:=by omega
 have g3:¬ (v:Int)<0:=by omega
 have g4:¬ (v:Int)≥t.e.mv.length:=by omega
 have g5:((t.fi.length:Int)==20)=false:=beq_eq_false_iff_ne.2 (by omega)
 have g6:((t.cl.length:Int)==50)=false:=beq_eq_false_iff_ne.2 (by omega)
 have eS:ZdO t kind v=if max (lenE (ZaJ (outF t kind v) kind)) (lenE (ZaJ (outC t kind v) kind))=0 then(ZaJ t kind).1.length else max (lenE (ZaJ (outF t kind v) kind)) (lenE (ZaJ (outC t kind v) kind)):=rfl
 have lF:lenE (ZaJ (outF t kind v) kind)=if (ZaJ (outF t kind v) kind).2=0 then(ZaJ (outF t kind v) kind).1.length else 0:=rfl
 have lC:lenE (ZaJ (outC t kind v) kind)=if (ZaJ (outC t kind v) kind).2=0 then(ZaJ (outC t kind v) kind).1.length else 0:=rfl
 rw[eS]
 generalize lenE (ZaJ (outF t kind v) kind)=a at *
 generalize lenE (ZaJ (outC t kind v) kind)=b at *
 generalize ZaJ (outF t kind v) kind=F at *
 generalize ZaJ (outC t kind v) kind=C at *
 generalize (ZaJ t kind).1=N at *
 obtain⟨F1,F2⟩:=F
 obtain⟨C1,C2⟩:=C
 simp only at kF kC zF zC lF lC
 refine inC Tryz.func48 rfl Tryz.ntmps48 ?_
 refine aGo (cj4 hres g1 g2 (cj4 g3 g4 g5 g6)) ?_
 repeat with_reducible intro K hK
 refine Zat (fun(k:Nat)=>[(1,dI kind),(8,ZlV N),(10,dI (scF a b k)),(62,.sl [cTr (outF t kind v),cTr (outC t kind v)]),(63,dI 2),(64,dI k)]) (fun k=>[]) 1 0 (fun k=>k≤2) (fun k=>2-k) 0 (by omega) ?_ ?_
 ·refine Zag _ _ _ ?_ ?_ ?_ ?_ ?_ (.inl rfl)<;>simp[go_sem,okD,okDs,Zap,scF]
 rintro k hk
 have hk3:k=0∨k=1∨k=2:=by omega
 rcases hk3 with rfl|rfl|rfl
 ·by_cases e0:F2=0
  ·subst e0
   rw[if_pos rfl]at lF
   by_cases c:(F1.length:Int)>0
   ·refine aGo (cj2 hres c) ?_
    repeat with_reducible intro K hK
    exact Zac 1 (by omega) (by omega) (by refine Zag _ _ _ ?_ ?_ ?_ ?_ ?_ (.inl rfl)<;>simp[go_sem,okD,okDs,Zap,scF,lF]<;>(intro h;simp[h]))
   ·have e1:F1.length=0:=by omega
    refine aGo (cj2 hres c) ?_
    repeat with_reducible intro K hK
    exact Zac 1 (by omega) (by omega) (by refine Zag _ _ _ ?_ ?_ ?_ ?_ ?_ (.inl rfl)<;>simp[go_sem,okD,okDs,Zap,scF,lF,e1])
  ·have e0':(F2==0)=false:=by simp[e0]
   rw[if_neg e0]at lF
   refine aGo (cj2 hres e0') ?_
   repeat with_reducible intro K hK
   exact Zac 1 (by omega) (by omega) (by refine Zag _ _ _ ?_ ?_ ?_ ?_ ?_ (.inl rfl)<;>simp[go_sem,okD,okDs,Zap,scF,lF])
 ·have sa:scF a b 1=a:=rfl
  have sb:scF a b 2=max a b:=rfl
  rw[sa]
  by_cases e0:C2=0
  ·subst e0
   rw[if_pos rfl]at lC
   by_cases c:(C1.length:Int)>a
   ·have hm:max a b=C1.length:=by omega
    refine aGo (cj2 hres c) ?_
    repeat with_reducible intro K hK
    exact Zac 2 (by omega) (by omega) (by refine Zag _ _ _ ?_ ?_ ?_ ?_ ?_ (.inl rfl)<;>simp[go_sem,okD,okDs,Zap,sb,hm])
   ·have hm:max a b=a:=by omega
    refine aGo (cj2 hres c) ?_
    repeat with_reducible intro K hK
    exact Zac 2 (by omega) (by omega) (by refine Zag _ _ _ ?_ ?_ ?_ ?_ ?_ (.inl rfl)<;>simp[go_sem,okD,okDs,Zap,sb,hm])
  ·have e0':(C2==0)=false:=by simp[e0]
   rw[if_neg e0]at lC
   have hm:max a b=a:=by omega
   refine aGo (cj2 hres e0') ?_
   repeat with_reducible intro K hK
   exact Zac 2 (by omega) (by omega) (by refine Zag _ _ _ ?_ ?_ ?_ ?_ ?_ (.inl rfl)<;>simp[go_sem,okD,okDs,Zap,sb,hm])
 ·have sb:scF a b 2=max a b:=rfl
  rw[sb]
  by_cases e0:max a b=0
  ·have e0':(((max a b:Nat):Int)==0)=true:=by rw[e0];rfl
   have hf:(if max a b=0 then N.length else max a b)=N.length:=if_pos e0
   generalize max a b=M at *
   refine aGo (cj2 hres e0') ?_
   repeat with_reducible intro K hK
   rw[hf]
  ·have e0':(((max a b:Nat):Int)==0)=false:=beq_eq_false_iff_ne.2 (by omega)
   have hf:(if max a b=0 then N.length else max a b)=max a b:=if_neg e0
   generalize max a b=M at *
   refine aGo (cj2 hres e0') ?_
   repeat with_reducible intro K hK
   rw[hf]
def bkN(B:Nat→Nat):Nat→Nat
 | 0=>0
 | k+1=>B k
def bsN(S B:Nat→Nat):Nat→Nat
 | 0=>0
 | k+1=>S (B k)
theorem Zyh(t:TrD)(kind:Int):Zaf Tryz.prog 12 [ZbC t,dI kind,.sl []] (.tup [dI 0,dI 0,dI 4]):=by
 have hres:=Tryz.results12
 refine inC Tryz.func12 rfl Tryz.ntmps12 ?_
 exact aGo hres trivial
theorem ZEX{t:TrD}(h:TrOk t){kind:Int}(hk:Zdk kind=true)(h1:1≤t.e.mv.length)(hF:∀ v,v<t.e.mv.length→TrOk (outF t kind v))(hC:∀ v,v<t.e.mv.length→TrOk (outC t kind v))(h0:(ZaJ t kind).2=0) :
 Zaf Tryz.prog 12 [ZbC t,dI kind,Zab (natI (List.range t.e.mv.length))] (.tup [dI (ZjT t kind (t.e.mv.length-1)),dI (ZdO t kind (ZjT t kind (t.e.mv.length-1))),dI 0]):=by
 have hres:=Tryz.results12
 have ks:=fun v (hv:v<t.e.mv.length)=>ZBK h hk hv (hF v hv) (hC v hv) h0
 have hn:=h.S.n
 have B0:ZjT t kind 0=0:=rfl
 have BN:∀ k,ZjT t kind (k+1)=if ZdO t kind (k+1)<ZdO t kind (ZjT t kind k)then k+1 else ZjT t kind k:=fun _=>rfl
 generalize ZdO t kind=S at *
 generalize ZjT t kind=B at *
 obtain⟨n,en⟩:∃ n,t.e.mv.length=n:=⟨_,rfl⟩
 rw[en]at ks h1 hn ⊢
 have ln:(natI (List.range n)).length=n:=by simp[natI]
 have gn:((n:Int)==0)=false:=beq_eq_false_iff_ne.2 (by omega)
 refine inC Tryz.func12 rfl Tryz.ntmps12 ?_
 refine aGo (cj3 hres ln gn) ?_
 repeat with_reducible intro K hK
 refine Zat (fun(k:Nat)=>[(1,dI kind),(3,.lp 0 0 0 0),(6,dI (bkN B k)),(7,dI (bsN S B k)),(8,dI 0),(16,Zab (natI (List.range n))),(17,dI n),(18,dI k)]) (fun k=>[(0,⟨32,0,10,[cTr t],0,false⟩)]) 1 0 (fun k=>k≤n) (fun k=>n-k) 0 (by omega) ?_ ?_
 ·refine Zag _ _ _ ?_ ?_ ?_ ?_ ?_ (.inl rfl)<;>simp[go_sem,okD,okDs,Zap,bkN,bsN]
 rintro k hk2
 obtain⟨hw,k0⟩:=ZaM k
 by_cases h2:(k:Int)<n
 rotate_left
 ·obtain rfl:k=n:=by omega
  obtain⟨m,rfl⟩:∃ m,k=m+1:=⟨k-1,by omega⟩
  have e1:bkN B (m+1)=B m:=rfl
  have e2:bsN S B (m+1)=S (B m):=rfl
  have e3:m+1-1=m:=rfl
  rw[e1,e2]
  refine aGo (cj2 hres h2) ?_
  repeat with_reducible intro K hK
  rw[e3]
 have hl:(natI (List.range n))[k]? =some (k:Int):=by unfold natI;rw[List.getElem?_map,List.getElem?_range (by omega)];rfl
 have q:=ks k (by omega)
 generalize natI (List.range n)=L at *
 by_cases hk0:k=0
 ·have g:((k:Int)==0)=true:=by rw[hk0];rfl
  have e3:bkN B (k+1)=k:=by rw[hk0];exact B0
  have e4:bsN S B (k+1)=S k:=by rw[hk0];show S (B 0)=S 0;rw[B0]
  generalize S k=s at *
  generalize bkN B k=x at *
  generalize bsN S B k=y at *
  refine aGo (cj4 hres h2 k0 (cj3 hl g hw)) ?_
  repeat with_reducible intro K hK
  exact Zac (k+1) (by omega) (by omega) (by refine Zag _ _ _ ?_ ?_ ?_ ?_ ?_ (.inl rfl)<;>simp[go_sem,okD,okDs,Zap,e3,e4])
 have g:((k:Int)==0)=false:=beq_eq_false_iff_ne.2 (by omega)
 have e3:bkN B (k+1)=if S k<bsN S B k then k else bkN B k:=by
  cases k with
  | zero=>exact absurd rfl hk0
  | succ m=>exact BN m
 have e4:bsN S B (k+1)=S (bkN B (k+1)):=rfl
 have e5:bsN S B k=S (bkN B k):=by
  cases k with
  | zero=>exact absurd rfl hk0
  | succ m=>rfl
 rw[e3]at e4
 by_cases c:S k<bsN S B k
 ·rw[if_pos c]at e3 e4
  have c':(S k:Int)<(bsN S B k:Int):=by omega
  clear e5
  generalize S k=s at *
  generalize bkN B k=x at *
  generalize bsN S B k=y at *
  refine aGo (cj4 hres h2 k0 (cj4 hl g c' hw)) ?_
  repeat with_reducible intro K hK
  exact Zac (k+1) (by omega) (by omega) (by refine Zag _ _ _ ?_ ?_ ?_ ?_ ?_ (.inl rfl)<;>simp[go_sem,okD,okDs,Zap,e3,e4])
 ·rw[if_neg c]at e3 e4
  rw[← e5]at e4
  have c':¬ (S k:Int)<(bsN S B k:Int):=by omega
  clear e5
  generalize S k=s at *
  generalize bkN B k=x at *
  generalize bsN S B k=y at *
  refine aGo (cj4 hres h2 k0 (cj4 hl g c' hw)) ?_
  repeat with_reducible intro K hK
  exact Zac (k+1) (by omega) (by omega) (by refine Zag _ _ _ ?_ ?_ ?_ ?_ ?_ (.inl rfl)<;>simp[go_sem,okD,okDs,Zap,e3,e4])
theorem Zzk(n:Nat)(hn:n≤4096):Zaa Tryz.prog 13 [dI n,dI (-1)] (Zab (natI (List.range n))):=by
 have hres:=Tryz.results13
 refine inN Tryz.func13 rfl Tryz.ntmps13 fun I=>?_
 refine aGo hres ?_
 repeat with_reducible intro K hK
 refine Zat (fun(k:Nat)=>[(0,dI n),(1,dI (-1)),(5,.ls 0 k),(6,dI k)]) (fun k=>[(0,⟨3,k,1,(natI (List.range k)).map fun x=>[dI x],0,false⟩)]) 1 0 (fun k=>k≤n) (fun k=>n-k) 0 (by omega) ?_ ?_
 ·refine Zag _ _ _ ?_ ?_ ?_ ?_ ?_ (.inl rfl)<;>simp[go_sem,okD,okDs,Zap,natI]
 rintro k hk
 obtain⟨hw,h0⟩:=ZaM k
 have eN:natI (List.range (k+1))=natI (List.range k)++[(k:Int)]:=by simp[natI,List.range_succ]
 have lI:(natI (List.range k)).length=k:=by simp[natI]
 have h2:((k:Int) != -1)=true:=by simp<;>omega
 by_cases h1:(k:Int)<n
 rotate_left
 ·obtain rfl:k=n:=by omega
  clear eN
  generalize natI (List.range k)=A at *
  refine aGo (cj2 hres h1) ?_
  repeat with_reducible intro K hK
  exact congrArg D.sl (Zan (fun _=>rfl) _)
 generalize natI (List.range k)=A at *
 refine aGo (cj4 hres h0 h1 (cj2 h2 hw)) ?_
 repeat with_reducible intro K hK
 exact Zac (k+1) (by omega) (by omega) (by rw[eN];refine Zag _ _ _ ?_ ?_ ?_ ?_ ?_ (.inl rfl)<;>simp[go_sem,okD,okDs,Zap]<;>(rintro e (⟨a,_,rfl⟩|rfl)<;>rfl))
def srcN(e:EvD)(z:List FracD)(k:Nat):List Nat:=(List.range k).filter (Zgq e z)
theorem Zvx(e:EvD)(z:List FracD)(k:Nat):srcN e z (k+1)=srcN e z k++if Zgq e z k then [k]else []:=by
 unfold srcN
 rw[List.range_succ,List.filter_append]
 cases h:Zgq e z k<;>simp[h]
theorem ZyO(e:EvD)(z:List FracD)(k:Nat):(srcN e z k).length≤k:=by
 have:=Yb1 (Zgq e z) (List.range k)
 unfold srcN;simpa using this
def srcK(z:List FracD)(l:List Nat)(k:Nat):Bool:=(l.take k).any fun i=>decide (0<atP z (i:Nat))
theorem Zvy{z:List FracD}{l:List Nat}{k i:Nat}(h:l[k]? =some i):srcK z l (k+1)=(srcK z l k||decide (0<atP z (i:Nat))):=by
 unfold srcK
 rw[Yb4,h,List.any_append]
 simp
theorem Zvz(t:TrD)(L:LenE t.e)(hf:Zgg t.e=0)(hp:∀ x∈t.e.mv,0≤x.f∧x.f<t.e.pl.length)(hh:0≤t.e.h∧t.e.h≤6)(z:List FracD)(hz:z.length=t.e.mv.length)(oz:okP z=true)(sz:∀ f∈z,(szF f:Int)≤64)(hn:t.e.mv.length≤64) :
 Zaa Tryz.prog 11 [ZbC t,ZaQ z] (Zab (natI (ZcX t.e z))):=by
 have hres:=Tryz.results11
 have hs:ZcX t.e z=srcN t.e z t.e.h.toNat:=rfl
 obtain⟨H,hH⟩:∃ H:Nat,t.e.h.toNat=H:=⟨_,rfl⟩
 rw[hs,hH]
 have kl:=fun h:Int=>Zrb t.e L h (-1) 0 100000 hp
 simp only[if_pos hf]at kl
 have hH6:H≤6:=by omega
 refine inN Tryz.func11 rfl Tryz.ntmps11 fun I=>?_
 refine aGo hres ?_
 repeat with_reducible intro K hK
 refine aLe (ZcT 5 3 1 rfl) ?_
 simp only[go_sem]
 refine Zat (fun(k:Nat)=>[(1,ZaQ z),(2,.lp 0 0 0 0),(5,.ls 1 (srcN t.e z k).length),(6,dI k)]) (fun k=>[(0,⟨32,0,10,[cTr t],0,false⟩),(1,⟨3,(srcN t.e z k).length,1,(natI (srcN t.e z k)).map fun x=>[dI x],0,false⟩)]) 2 0 (fun k=>k≤H) (fun k=>H-k) 0 (by omega) ?_ ?_
 ·have e0:srcN t.e z 0=[]:=rfl
  have e1:natI []=[]:=rfl
  exact leGo (cj2 e0 e1)
 rintro k hk
 obtain⟨hw,h0⟩:=ZaM k
 have eN:=Zvx t.e z k
 have lN:=ZyO t.e z k
 have lI:(natI (srcN t.e z k)).length=(srcN t.e z k).length:=by simp[natI]
 by_cases h1:(k:Int)<t.e.h
 rotate_left
 ·obtain rfl:k=H:=by omega
  clear eN
  generalize natI (srcN t.e z k)=A at *
  generalize (srcN t.e z k).length=B at *
  refine aGo (cj2 hres h1) ?_
  repeat with_reducible intro K hK
  exact congrArg D.sl (Zan (fun _=>rfl) _)
 have kl':=kl k
 have own:ZgE t.e t.e.mv.length (Zie t.e k (-1) 0 100000)=ownL t.e k:=rfl
 have hb:Zgq t.e z k=srcK z (ownL t.e k) (ownL t.e k).length:=by unfold Zgq srcK;rw[List.take_length]
 rw[hb]at eN
 rw[own]at kl'
 have hm:∀ i∈ownL t.e k,i<t.e.mv.length:=fun i hi=>(ZlA.1 hi).1
 have hlo:(ownL t.e k).length≤64:=by
  have:=Yb1 (fun(i:Nat)=>decide ((i:Int)<t.e.mv.length)&&Zie t.e k (-1) 0 100000 (mvAt t.e i)) (List.range t.e.mv.length)
  rw[List.length_range]at this
  have e:ownL t.e k=(List.range t.e.mv.length).filter (fun(i:Nat)=>decide ((i:Int)<t.e.mv.length)&&Zie t.e k (-1) 0 100000 (mvAt t.e i)):=rfl
  rw[e];omega
 clear own hb
 generalize ownL t.e k=O at *
 generalize hA:natI (srcN t.e z k)=A at *
 generalize hB:(srcN t.e z k).length=B at *
 refine aGo (cj3 hres h0 h1) ?_
 repeat with_reducible intro K hK
 refine Zat (fun(j:Nat)=>[(1,ZaQ z),(2,.lp 0 0 0 0),(5,.ls 1 B),(6,dI k),(7,Zab (natI O)),(8,dB (srcK z O j)),(9,dI j)]) (fun j=>[(0,⟨32,0,10,[cTr t],0,false⟩),(1,⟨3,B,1,A.map fun x=>[dI x],0,false⟩)]) 2 0 (fun j=>j≤O.length) (fun j=>O.length-j) 0 (by omega) ?_ ?_
 ·have e0:srcK z O 0=false:=rfl
  exact leGo e0
 rintro j hj
 obtain⟨hwj,j0⟩:=ZaM j
 have lO:(natI O).length=O.length:=by simp[natI]
 by_cases g1:(j:Int)<O.length
 ·obtain⟨i,hi⟩:∃ i,O[j]? =some i:=⟨_,Ya0 (by omega)⟩
  have hiN:(natI O)[j]? =some (i:Int):=by unfold natI;rw[List.getElem?_map,hi];rfl
  have i1:=hm i (Ya7 hi)
  obtain⟨f,hx⟩:∃ f,z[i]? =some f:=⟨_,Ya0 (by omega)⟩
  have fm:=Ya7 hx
  have of:okF f=true:=Ya6.1 oz f fm
  have ke:=Znx f (by have:=sz f fm;omega)
  have ea:atP z (i:Nat)=qOf f:=by unfold atP;rw[Int.toNat_natCast,hx];rfl
  have es:sgnD f=sgQ (qOf f):=by unfold sgnD;rw[if_pos of]
  have kn:=ke.toN rfl
  have eK:=Zvy (z:=z) hi
  rw[ea]at eK
  have i0:(0:Int)≤i:=by omega
  have i2:(i:Int)<z.length:=by omega
  generalize natI O=ON at *
  cases hs1:srcK z O j
  ·rw[hs1,Bool.false_or]at eK
   by_cases hg:sgnD f>0
   ·rw[decide_eq_true (ZcS.1 (by rw[← es];exact hg))]at eK
    refine aGo (cj4 hres j0 g1 (cj4 lO hiN i0 (cj4 i2 hx hg hwj))) ?_
    repeat with_reducible intro K hK
    exact Zac (j+1) (by omega) (by omega) (by exact leGo eK)
   ·rw[decide_eq_false (fun h=>hg (by rw[es];exact ZcS.2 h))]at eK
    refine aGo (cj4 hres j0 g1 (cj4 lO hiN i0 (cj4 i2 hx hg hwj))) ?_
    repeat with_reducible intro K hK
    exact Zac (j+1) (by omega) (by omega) (by exact leGo eK)
  ·rw[hs1,Bool.true_or]at eK
   refine aGo (cj4 hres j0 g1 (cj4 lO hiN i0 (cj3 i2 hx hwj))) ?_
   repeat with_reducible intro K hK
   exact Zac (j+1) (by omega) (by omega) (by exact leGo eK)
 obtain rfl:j=O.length:=by omega
 subst hA
 subst hB
 cases hs1:srcK z O O.length
 ·rw[hs1,if_neg Bool.false_ne_true,List.append_nil]at eN
  refine aGo (cj4 hres g1 lO hw) ?_
  repeat with_reducible intro K hK
  exact Zac (k+1) (by omega) (by omega) (by exact leGo eN)
 ·rw[hs1,if_pos rfl]at eN
  have eI:natI (srcN t.e z (k+1))=natI (srcN t.e z k)++[(k:Int)]:=by rw[eN];simp[natI]
  have eL:(srcN t.e z (k+1)).length=(srcN t.e z k).length+1:=by rw[eN];simp
  clear eN
  generalize natI (srcN t.e z k)=A at *
  generalize (srcN t.e z k).length=B at *
  refine aGo (cj4 hres g1 lO (cj2 h0 hw)) ?_
  repeat with_reducible intro K hK
  exact Zac (k+1) (by omega) (by omega) (by exact leGo (cj2 eI eL))
theorem ZAz(t:TrD)(kind:Int)(v:Nat)(hcl:t.cl.length≤60)(f:FracD)(hf:okF f=true)(sf:(szF f:Int)≤64)(h0:qOf f=0) :
 Zaa Tryz.prog 14 [ZbC t,dI kind,dI v,encF f] (.tup [ZbC (outC t kind v),dB true]):=by
 have hres:=Tryz.results14
 have ks:=(Znx f (by omega)).toN rfl
 have es:sgnD f=0:=by unfold sgnD;rw[if_pos hf];exact Zcl.2 h0
 rw[es]at ks
 refine inN Tryz.func14 rfl Tryz.ntmps14 fun I=>?_
 refine aGo hres ?_
 repeat with_reducible intro K hK
 have e:Zja (outC t kind v).cl=D.sl (t.cl.map cCl++[[dI v,dI kind]]):=congrArg D.sl List.map_append
 have e2:ZbC (outC t kind v)=D.agg [dI t.e.m,dI t.e.h,dI t.e.s,Zkc t.e.pl,ZhR t.e.mv,Zmc t.e.ce,ZgO t.e.re,Zna t.e.pu,Zke t.fi,Zja (outC t kind v).cl]:=rfl
 rw[List.map_append,Zan (fun _=>rfl),e2,e]
 rfl
theorem ZtA(t:TrD)(kind:Int)(v:Nat)(hfi:t.fi.length≤60)(f:FracD)(hf:okF f=true)(sf:(szF f:Int)≤64)(h0:0<qOf f) :
 Zaa Tryz.prog 14 [ZbC t,dI kind,dI v,encF f] (.tup [ZbC (outF t kind v),dB (decide (1≤qOf f))]):=by
 have hres:=Tryz.results14
 have ks:=(Znx f (by omega)).toN rfl
 have es:sgnD f=1:=by unfold sgnD;rw[if_pos hf];exact ZvN.2 h0
 rw[es]at ks
 have ki:=ZDR 1 (by decide) (by decide)
 have kc:=(ZqN f (ofQ ((1:Int):Rat)) (by omega) (by decide +kernel)).toN rfl
 have ec:(decide (cmpD f (ofQ ((1:Int):Rat))≥0))=decide (1≤qOf f):=by
  obtain⟨q,rfl⟩:∃ q,f=ofQ q:=⟨_,Zcm hf⟩
  rw[Zav,decide_eq_decide]
  exact ZCZ q ((1:Int):Rat)
 refine inN Tryz.func14 rfl Tryz.ntmps14 fun I=>?_
 refine aGo hres ?_
 repeat with_reducible intro K hK
 have e:Zke (outF t kind v).fi=D.sl (t.fi.map cFi++[[dI v,dI kind,dI 1]]):=congrArg D.sl List.map_append
 have e2:ZbC (outF t kind v)=D.agg [dI t.e.m,dI t.e.h,dI t.e.s,Zkc t.e.pl,ZhR t.e.mv,Zmc t.e.ce,ZgO t.e.re,Zna t.e.pu,Zke (outF t kind v).fi,Zja t.cl]:=rfl
 rw[List.map_append,Zan (fun _=>rfl),e2,e,ec]
 rfl
def putL{α:Type}(k:Nat)(x:α):List (Nat×α)→List (Nat×α)
 | []=>[(k,x)]
 | p ::l=>cond (Nat.beq p.1 k) ((k,x) ::l) (p ::putL k x l)
def tabU:List (Nat×D)→Nat→D
 | []=>fun _=>.v undef
 | p ::l=>upd (tabU l) p.1 p.2
theorem Zva{α:Type}(f:Nat→α)(k:Nat)(x y:α):upd (upd f k x) k y=upd f k y:=by
 funext j;unfold upd;split<;>rfl
theorem ZrS{α:Type}(f:Nat→α){k j:Nat}(h:j≠k)(x y:α):upd (upd f k x) j y=upd (upd f j y) k x:=by
 funext i;unfold upd;split<;>split<;>simp_all
theorem Zpi(k:Nat)(x:D):∀ l,tabU (putL k x l)=upd (tabU l) k x
 | []=>rfl
 | p ::l=>by
   unfold putL
   cases h:Nat.beq p.1 k
   ·have hne:p.1≠k:=fun e=>by rw[e,Nat.beq_refl]at h;cases h
    simp only[cond_false,tabU,Zpi k x l]
    exact ZrS _ hne _ _
   ·have:p.1=k:=Nat.eq_of_beq_eq_true h
    subst this
    simp only[cond_true,tabU,Zva]
theorem Zpj(k:Nat)(x:Blk):∀ l,tabM (putL k x l)=upd (tabM l) k (some x)
 | []=>rfl
 | p ::l=>by
   unfold putL
   cases h:Nat.beq p.1 k
   ·have hne:p.1≠k:=fun e=>by rw[e,Nat.beq_refl]at h;cases h
    simp only[cond_false,tabM,Zpj k x l]
    exact ZrS _ hne _ _
   ·have:p.1=k:=Nat.eq_of_beq_eq_true h
    subst this
    simp only[cond_true,tabM,Zva]
def ovL:List (Nat×Blk)→List (Nat×Blk)→List (Nat×Blk)
 | m,[]=>m
 | m,p ::l=>ovL (putL p.1 p.2 m) l
theorem ZiJ:∀ (l m:List (Nat×Blk)),tabM (ovL m l)=ov (tabM m) l
 | [],_=>rfl
 | p ::l,m=>by unfold ovL ov;rw[ZiJ l,Zpj]
def Zru:Nat→List D→List (Nat×D)
 | _,[]=>[]
 | i,d ::l=>(i,d) ::Zru (i+1) l
theorem Zp5:∀ (l:List D)(i k:Nat),tabU (Zru i l) k=if k<i then .v undef else(l[k-i]?).getD (.v undef)
 | [],i,k=>by unfold Zru tabU;split<;>simp
 | d ::l,i,k=>by
   simp only[Zru,tabU,upd,Zp5 l]
   by_cases h:k=i
   ·subst h;simp
   ·by_cases h2:k<i
    ·rw[if_neg h,if_pos h2,if_pos (by omega)]
    ·rw[if_neg h,if_neg h2,if_neg (by omega),show k-i=(k-(i+1))+1 by omega,List.getElem?_cons_succ]
theorem ZuI(l:List D):tabU (Zru 0 l)=Zkp l:=by
 funext k
 rw[Zp5]
 simp[Zkp]
structure CS where
 t:List (Nat×D)
 m:List (Nat×Blk)
 nx:Nat
def putC(t:List (Nat×D))(dst:Option Tmp)(d:D):List (Nat×D) :=
 match dst with
 | none=>t
 | some k=>putL k d t
theorem Zev(t:List (Nat×D))(dst:Option Tmp)(d:D):tabU (putC t dst d)=putT (tabU t) dst d:=by
 cases dst with
 | none=>rfl
 | some k=>exact Zpi k d t
def CS.den(c:CS)(lo:Nat):St:=⟨tabU c.t,tabM c.m,c.nx,lo⟩
def Zup(op:BinOp)(x y:D):Bool :=
 match op with
 | .shr | .shl=>match y with
   | .v (.int _ b)=>decide (0≤b)
   | _=>true
 | .quo | .rem=>match y with
   | .v (.int _ b)=>b !=0
   | _=>true
 | .add=>match x,y with
   | .v (.string a),.v (.string b)=>decide (((a.size+b.size:Nat):Int)≤9223372036854775807)
   | _,_=>true
 | _=>true
theorem Zzs{op:BinOp}{x y:D}{q:Prop}{d:D}(h:binD op x y=some (q,d))(ho:Zup op x y=true):q:=by
 unfold binD at h
 split at h
 ·cases h;simpa[Zup]using ho
 ·cases h;simpa[Zup]using ho
 ·split at h
  ·split at h<;>cases h<;>first|trivial|(simpa[Zup]using ho)
  ·cases h
 ·split at h<;>cases h<;>first|trivial|(simpa[Zup]using ho)
 ·cases h
def ZCa(et:TyI)(s x:D)(m:Mem):Bool :=
 match ZgP m x with
 | some (es,_)=>es.all (fun e=>e.length==et.size&&e.all D.isCell)&&(match s with
   | .nil=>decide ((es.length:Int)*et.bytes≤140737488355328)&&decide ((es.length:Int)≤9007199254740992)
   | .ls id ver=>match ZbU m id ver with
     | some b=>decide (((b.es.length+es.length:Nat):Int)*et.bytes≤140737488355328)&&(decide (((b.es.length+es.length:Nat):Int)≤9007199254740992)&&(!b.dead||decide (0<es.length)))
     | none=>false
   | _=>false)
 | none=>false
theorem Zyt{es:List (List D)}{k:Nat}(h:es.all (fun e=>e.length==k&&e.all D.isCell)=true):∀ e∈es,e.length=k∧e.all D.isCell=true:=by
 intro e he
 have:=Ya6.1 h e he
 simpa using this
theorem Zzu{ty et:TyI}{s x:D}{m:Mem}{nx:Nat}{r:Res}(h:Zf2 ty et s x m nx=some r)(ho:ZCa et s x m=true):r.ok:=by
 unfold Zf2 at h
 unfold ZCa at ho
 split at h
 ·split at h
  ·rename_i es rr he
   rw[he]at ho
   simp only[Ya2]at ho
   obtain⟨h1,h2⟩:=ho
   have h1:=Zyt h1
   split at h
   ·cases h
    simp only[Ya2,decide_eq_true_eq]at h2
    exact⟨h1,h2.1,h2.2⟩
   ·simp at h2
   ·split at h
    ·rename_i b hb
     simp only[hb,Ya2,decide_eq_true_eq,Bool.or_eq_true,Bool.not_eq_true']at h2
     split at h
     ·cases h;exact⟨h1,h2.1,h2.2.1⟩
     ·split at h
      ·rename_i hd
       cases h
       refine⟨h1,h2.1,h2.2.1,?_⟩
       rcases h2.2.2 with hf|hf
       ·rw[hd.1]at hf;cases hf
       ·exact hf
      ·cases h
    ·cases h
   ·cases h
  ·cases h
 ·cases h
def okSl(et:TyI)(x:D)(lo hi:Option D):Bool :=
 match x with
 | .sl es=>match Zgh lo 0,Zgh hi es.length with
   | some l,some h=>es.all (fun e=>e.length==et.size)&&(decide (0≤l)&&(decide (l≤h)&&decide (h≤es.length)))
   | _,_=>false
 | _=>false
theorem ZB7{et:TyI}{x:D}{lo hi:Option D}{r:Res}(h:Zmr et x lo hi=some r)(ho:okSl et x lo hi=true):r.ok:=by
 unfold Zmr at h
 unfold okSl at ho
 split at h
 ·split at h
  ·rename_i l hh h1 h2
   cases h
   simp only[h1,h2,Ya2,decide_eq_true_eq,Ya6,beq_iff_eq]at ho
   exact ho
  ·cases h
 ·cases h
def ZB6(x:D)(lo hi:Option D):Bool :=
 match x with
 | .v (.string s)=>match Zgh lo 0,Zgh hi s.size with
   | some l,some h=>decide (0≤l)&&(decide (l≤h)&&decide (h≤s.size))
   | _,_=>false
 | _=>false
theorem Zzq{x:D}{lo hi:Option D}{r:Res}(h:Zfk x lo hi=some r)(ho:ZB6 x lo hi=true):r.ok:=by
 unfold Zfk at h
 unfold ZB6 at ho
 split at h
 ·split at h
  ·rename_i l hh h1 h2
   cases h
   simp only[h1,h2,Ya2,decide_eq_true_eq]at ho
   exact ho
  ·cases h
 ·cases h
def okMk(et:TyI)(l c:D):Bool :=
 match l,c with
 | .v (.int _ l),.v (.int _ c)=>decide (0≤l)&&(decide (l≤c)&&(decide ((et.bytes:Int)*c≤140737488355328)&&decide (c≤9007199254740992)))
 | _,_=>false
theorem ZB8{ty et:TyI}{l c:D}{nx:Nat}{r:Res}(h:ZdC ty et l c nx=some r)(ho:okMk et l c=true):r.ok:=by
 unfold ZdC at h
 unfold okMk at ho
 split at h
 ·split at h
  ·split at h
   ·cases h
    simpa only[Ya2,decide_eq_true_eq]using ho
   ·cases h
  ·cases h
 ·cases h
def okIx(d:D):Bool :=
 match d with
 | .v (.int _ n)=>decide (0≤n)
 | _=>false
def okOp(P:Program)(o:Op)(t:Nat→D)(m:Mem):Bool :=
 match o with
 | .indexAddr _ _ i=>okIx (rd t i)
 | .index _ _ i=>okIx (rd t i)
 | .slice T x lo hi none=>match tyOf P T with
   | some ty => if ty.kind = 2 then (match tyOf P ty.elem with
       | some et=>okSl et (rd t x) (lo.map (rd t)) (hi.map (rd t))
       | none=>false)
     else ZB6 (rd t x) (lo.map (rd t)) (hi.map (rd t))
   | none=>false
 | .makeSlice T l c=>match tyOf P T with
   | some ty=>match tyOf P ty.elem with
     | some et=>okMk et (rd t l) (rd t c)
     | none=>false
   | none=>false
 | .binOp op _ x y _=>Zup op (rd t x) (rd t y)
 | .call {callee:=.builtin .append,args,argTypes}=>match args.toList,argTypes.toList with
   | [x,y],[T,_]=>match tyOf P T with
     | some ty=>match tyOf P ty.elem with
       | some et=>ZCa et (rd t x) (rd t y) m
       | none=>false
     | none=>false
   | _,_=>false
 | _=>true
theorem Zib{x:Option D}{r:Res}(h:x.map Res.pure=some r):r.ok:=by
 cases x with
 | none=>cases h
 | some d=>cases h;trivial
theorem ZwD{ty et:TyI}{x ix:D}{m:Mem}{r:Res}(h:ZcC ty et x ix m=some r)(ho:okIx ix=true):r.ok:=by
 unfold ZcC at h
 split at h
 ·split at h
  ·rename_i n
   have hn:0≤n:=by simpa[okIx]using ho
   split at h
   ·split at h
    ·split at h
     ·cases h;exact hn
     ·cases h
    ·cases h
   ·split at h
    ·split at h
     ·split at h
      ·cases h;exact hn
      ·cases h
     ·cases h
    ·cases h
   ·cases h
  ·cases h
 ·cases h
theorem ZB9{ty:TyI}{x ix:D}{r:Res}(h:Zm1 ty x ix=some r)(ho:okIx ix=true):r.ok:=by
 unfold Zm1 at h
 split at h
 ·split at h
  ·rename_i s _ n
   have hn:0≤n:=by simpa[okIx]using ho
   split at h
   ·cases h;exact hn
   ·cases h
  ·cases h
 ·cases h
theorem ZzG{ty:TyI}{x:D}{m:Mem}{r:Res}(h:ZjH ty x m=some r):r.ok:=by
 unfold ZjH at h
 split at h
 ·exact Zib h
 ·split at h
  ·rename_i b hb
   cases hq:ldE b.es _ _ ty with
   | none=>rw[hq]at h;cases h
   | some d=>rw[hq]at h;cases h;trivial
  ·cases h
 ·cases h
theorem Zvr{ty:TyI}{x y:D}{m:Mem}{r:Res}(h:ZhK ty x y m=some r):r.ok:=by
 unfold ZhK at h
 split at h
 ·split at h
  ·split at h
   ·split at h
    ·cases h;trivial
    ·cases h
   ·cases h
  ·cases h
 ·cases h
theorem Zom{ty:TyI}{x:D}{f:Nat}{r:Res}(h:Zen ty x f=some r):r.ok:=by
 unfold Zen at h
 split at h
 ·split at h
  ·cases h
  ·split at h
   ·cases h;trivial
   ·cases h;trivial
   ·cases h
 ·cases h
theorem Zxz{ty:TyI}{x:D}{f:Nat}{r:Res}(h:Zm8 ty x f=some r):r.ok:=by
 unfold Zm8 at h
 split at h
 ·split at h
  ·cases h
  ·exact Zib h
 ·cases h
theorem Zyc{ty:TyI}{ps:List (Nat×D)}{r:Res}(h:Znf ty ps=some r):r.ok:=by
 unfold Znf at h
 split at h
 ·split at h
  ·cases hq:ZlP (fun i=>(ty.fields[i]?).map fun f=>(f.1,f.2.1)) _ ps with
   | none=>rw[hq]at h;cases h
   | some d=>rw[hq]at h;cases h;trivial
  ·cases h
 ·cases h
theorem ZrB{ty et:TyI}{n:Nat}{ps:List (Nat×D)}{nx:Nat}{r:Res}(h:Zc7 ty et n ps nx=some r):r.ok:=by
 unfold Zc7 at h
 split at h
 ·split at h
  ·cases h;trivial
  ·cases h
 ·cases h
theorem ZCv{ty:TyI}{x:D}{m:Mem}{r:Res}(h:lenF ty x m=some r):r.ok:=by
 unfold lenF at h
 split at h
 ·split at h<;>cases h;trivial
 ·split at h<;>cases h;trivial
 ·split at h
  ·split at h<;>cases h;trivial
  ·cases h
 ·split at h<;>cases h;trivial
 ·cases h
theorem ZEi{b:Bool}{l:List D}{r:Res}(h:Zh7 b l=some r):r.ok:=by
 unfold Zh7 at h
 split at h
 ·split at h<;>cases h;trivial
 ·cases h
theorem ZAm{a b:TyI}{x:D}{r:Res}(h:Zhv a b x=some r):r.ok:=by
 unfold Zhv at h
 split at h
 ·split at h<;>cases h;trivial
 ·cases h
theorem Zys{T:TypeId}{ty:TyI}{nx:Nat}{r:Res}(h:Zl3 T ty nx=some r):r.ok:=by
 unfold Zl3 at h
 split at h<;>cases h;trivial
theorem ZC7{T:TypeId}{x:D}{nx:Nat}{r:Res}(h:boxF T x nx=some r):r.ok:=by
 unfold boxF at h
 split at h<;>cases h;trivial
theorem ZwC{P:Program}{o:Op}{t:Nat→D}{m:Mem}{nx:Nat}{r:Res}(h:opF P o t m nx=some r)(ho:okOp P o t m=true):r.ok:=by
 unfold opF at h
 unfold okOp at ho
 split at h
 all_goals (try (cases h;trivial))
 all_goals (try simp only at ho)
 all_goals (repeat' (split at h))
 all_goals (try (cases h;done))
 all_goals (try (cases h;trivial))
 all_goals (first
  | exact Zib h
  | exact ZzG h
  | exact Zvr h
  | exact Zom h
  | exact Zxz h
  | exact Zyc h
  | exact ZrB h
  | exact ZCv h
  | exact ZEi h
  | exact ZAm h
  | exact Zys h
  | exact ZC7 h
  | exact ZwD h ho
  | exact ZB9 h ho
  | skip)
 ·rename_i h1 h2 _ _ h3
  simp only[h1,h2,h3,if_true]at ho;exact ZB7 h ho
 ·rename_i h1 h2 _
  simp only[h1,if_neg h2]at ho;exact Zzq h ho
 ·rename_i h1 _ _ h2
  simp only[h1,h2]at ho;exact ZB8 h ho
 ·rename_i h1
  cases h
  exact Zzs h1 ho
 ·rename_i e1 e2 e3 _ _ h1 _ _ h2
  subst e3
  simp only[e1,e2,h1,h2]at ho
  exact Zzu h ho
section
variable (P:Program) (call:FuncId→List D→Option D) (inl:FuncId→List D→List (Nat×Blk)→Nat→Option (D×List (Nat×Blk)×Nat))
def newB(l:List Nat)(nx:Nat):Bool :=
 match l with
 | []=>true
 | [k]=>Nat.beq k nx
 | _=>false
theorem ZwM{l:List Nat}{nx:Nat}(h:newB l nx=true):l=[]∨l=[nx]:=by
 unfold newB at h
 split at h
 ·exact .inl rfl
 ·exact .inr (by rw[Nat.eq_of_beq_eq_true h])
 ·cases h
def Zti(f:FuncId)(ds:List D)(c:CS):Option (D×List (Nat×Blk)) :=
 match call f (ZeQ (tabM (ovL c.m (Zb1 (Zb3 ds) (tabM c.m)))) ds)with
 | some d=>some (d,ovL c.m (Zb1 (Zb3 ds) (tabM c.m)))
 | none=>none
def evOp(o:SOp)(c:CS):Option CS :=
 match opF P o.op (tabU c.t) (tabM c.m) c.nx with
 | some r=>cond (okOp P o.op (tabU c.t) (tabM c.m)&&newB r.new c.nx) (some ⟨putC c.t o.dst r.d,ovL c.m r.wr,c.nx+r.new.length⟩) none
 | none=>match ZgX o.op (tabU c.t)with
   | some (f,ds)=>match inl f ds c.m c.nx with
     | some (d,m',nx')=>some ⟨putC c.t o.dst d,m',nx'⟩
     | none=>match Zti call f ds c with
       | some (d,m')=>some ⟨putC c.t o.dst d,m',c.nx⟩
       | none=>none
   | none=>none
def Zos(ds:List (Option Tmp)):List SOp→CS→Option CS
 | [],c=>some c
 | o ::rest,c=>match o.guard with
   | none=>match evOp P call inl o c with
     | some c'=>Zos ds rest c'
     | none=>none
   | some g=>match Zfw ds g (tabU c.t)with
     | some p => cond (p.2 == g.2) (match evOp P call inl o c with
         | some c'=>Zos ds rest c'
         | none=>none) (Zos ds rest ⟨putC c.t o.dst (.v undef),c.m,c.nx⟩)
     | none=>none
def ZxK(o:SOp)(c:CS):Option (Ev×CS) :=
 match opF P o.op (tabU c.t) (tabM c.m) c.nx with
 | some r => cond (okOp P o.op (tabU c.t) (tabM c.m) && (newB r.new c.nx && r.wr.all (fun p => decide (p.1 < c.nx + r.new.length))))
     (some (⟨r.d,r.rd++r.new++r.wr.map (·.1),r.wr,false⟩,⟨putC c.t o.dst r.d,ovL c.m r.wr,c.nx+r.new.length⟩)) none
 | none=>match ZgX o.op (tabU c.t)with
   | some (f,ds)=>match Zti call f ds c with
     | some (d, m') => cond ((Zb1 (Zb3 ds) (tabM c.m)).all (fun p => decide (p.1 < c.nx)))
         (some (⟨d,Zb3 ds++(Zb1 (Zb3 ds) (tabM c.m)).map (·.1),Zb1 (Zb3 ds) (tabM c.m),false⟩,⟨putC c.t o.dst d,m',c.nx⟩)) none
     | none=>none
   | none=>none
def Zor(ds:List (Option Tmp)):List SOp→CS→List Ev→Option (List Ev×CS)
 | [],c,tr=>some (tr,c)
 | o ::rest,c,tr=>match o.guard with
   | none=>match ZxK P call o c with
     | some (ev,c')=>Zor ds rest c' (tr++[ev])
     | none=>none
   | some g=>match Zfw ds g (tabU c.t)with
     | some p => cond (p.2 == g.2) (match ZxK P call o c with
         | some (ev,c')=>Zor ds rest c' (tr++[ev])
         | none=>none) (Zor ds rest ⟨putC c.t o.dst (.v undef),c.m,c.nx⟩ (tr++[⟨.v undef,[],[],false⟩]))
     | none=>none
def Zth(body:CS→Option (Exit×CS)):Nat→CS→Option (Exit×CS)
 | 0,_=>none
 | k+1,c=>match body c with
   | some (.normal,c')=>Zth body k c'
   | r=>r
def Zy8(ops:Array Oper)(tr:List Ev):Bool:=tr.all (fun e=>e.wr.isEmpty)||Zgy ops (tr.map fun e=>(e.touch,ids e.wr))
def evC(L:Nat):Code→CS→Option (Exit×CS)
 | .skip,c=>some (.normal,c)
 | .exit id,c=>some (.exit id,c)
 | .ret,c=>some (.ret,c)
 | .seq x y,c=>match evC L x c with
   | some (.normal,c')=>evC L y c'
   | r=>r
 | .block id x,c=>match evC L x c with
   | some (.exit id',c')=>if id'=id then some (.normal,c')else some (.exit id',c')
   | r=>r
 | .cond o x y,c=>match rd (tabU c.t) o with
   | .v (.bool true)=>evC L x c
   | .v (.bool false)=>evC L y c
   | _=>none
 | .loop x,c=>Zth (evC L x) L c
 | .region _ l false,c=>match Zos P call inl (l.toList.map (·.dst)) (l.toList.map ZhC) c with
   | some c'=>some (.normal,c')
   | none=>none
 | .region _ l true,c=>match Zor P call (l.toList.map (·.dst)) (l.toList.map ZhC) c []with
   | some (tr,c')=>cond (Zy8 l tr) (some (.normal,c')) none
   | none=>none
 | _,_=>none
def Zi0(n:Nat):Code→Bool
 | .skip | .exit _ | .ret=>true
 | .seq x y=>Zi0 n x&&Zi0 n y
 | .block _ x=>Zi0 n x
 | .cond o x y=>Zee n o&&(Zi0 n x&&Zi0 n y)
 | .loop x=>Zi0 n x
 | .region _ l false=>l.all (Zbq n)
 | .region _ l true=>l.all (Zbq n)&&Zks l
 | _=>true
end
section ifl
variable [Ifl]
section
variable {P:Program} {call:FuncId→List D→Option D} {inl:FuncId→List D→List (Nat×Blk)→Nat→Option (D×List (Nat×Blk)×Nat)}
 (hc:∀ f ds d,call f ds=some d→Zaa P f ds d)
include hc
theorem Zp4{f:FuncId}{ds:List D}{c:CS}{d:D}{m':List (Nat×Blk)}(h:Zti call f ds c=some (d,m')):Zaa P f (ZeQ (ZeE (tabM c.m) ds) ds) d∧tabM m'=ZeE (tabM c.m) ds∧m'=ovL c.m (Zb1 (Zb3 ds) (tabM c.m)):=by
 unfold Zti at h
 split at h
 ·rename_i d' hd
  cases h
  have h1:=hc _ _ _ hd
  rw[ZiJ]at h1
  exact⟨h1,ZiJ _ _,rfl⟩
 ·cases h
variable (hi:∀ f ds m nx d m' nx',inl f ds m nx=some (d,m',nx')→∀ K:D→Mem→Nat→Prop,K d (tabM m') nx'→ZaN P f ds (tabM m) nx K)
include hi
theorem ZxJ{o:SOp}{c c':CS}{lo:Nat}{K:St→Prop}(h:evOp P call inl o c=some c')(k:K (c'.den lo)):opS P o (c.den lo) K:=by
 unfold evOp at h
 unfold opS CS.den
 simp only
 split at h
 ·rename_i r hr
  rw[hr]
  cases hb:(okOp P o.op (tabU c.t) (tabM c.m)&&newB r.new c.nx)
  ·rw[hb]at h;cases h
  ·rw[hb]at h
   simp only[cond_true,Ya1]at h
   subst h
   rw[Ya2]at hb
   refine⟨ZwC hr hb.1,ZwM hb.2,?_⟩
   simp only[CS.den,Zev,ZiJ]at k
   exact k
 ·rename_i hr
  rw[hr]
  split at h
  ·rename_i f ds hd
   rw[hd]
   simp only
   split at h
   ·rename_i d m' nx' hin
    cases h
    refine hi _ _ _ _ _ _ _ hin _ ?_
    simp only[CS.den,Zev]at k
    exact k
   ·split at h
    ·rename_i d m' hq
     cases h
     obtain⟨h1,h2,_⟩:=Zp4 hc hq
     refine ZaN.ofN h1 ?_
     simp only[CS.den,Zev,h2]at k
     exact k
    ·cases h
  ·cases h
theorem ZkL{ds:List (Option Tmp)}{lo:Nat}{K:St→Prop}:∀ (l:List SOp)(c c':CS),Zos P call inl ds l c=some c'→K (c'.den lo)→opsL P ds l (c.den lo) K
 | [],c,c',h,k=>by unfold Zos at h;cases h;exact k
 | o ::rest,c,c',h,k=>by
   unfold Zos at h
   unfold opsL
   split at h
   ·rename_i hg
    rw[hg]
    simp only
    split at h
    ·rename_i c1 h1
     exact ZxJ hc hi h1 (ZkL rest c1 c' h k)
    ·cases h
   ·rename_i g hg
    rw[hg]
    simp only
    split at h
    ·rename_i p hp
     rw[show Zfw ds g (c.den lo).t=some p from hp]
     obtain⟨k1,b⟩:=p
     obtain⟨j,want⟩:=g
     simp only
     have go:∀ {c1},evOp P call inl o c=some c1→Zos P call inl ds rest c1=some c'→opS P o (c.den lo) fun s'=>opsL P ds rest s' K:=fun h1 h2=>ZxJ hc hi h1 (ZkL rest _ c' h2 k)
     have no:Zos P call inl ds rest ⟨putC c.t o.dst (.v undef),c.m,c.nx⟩=some c'→opsL P ds rest {(c.den lo)with t:=putT (c.den lo).t o.dst (.v undef)} K:=fun h2=>by
      have:=ZkL rest _ c' h2 k
      simp only[CS.den,Zev]at this
      exact this
     cases b<;>cases want<;>simp only[beq_self_eq_true,cond_true]at h ⊢
     ·split at h
      ·rename_i c1 h1;exact go h1 h
      ·cases h
     ·exact no h
     ·exact no h
     ·split at h
      ·rename_i c1 h1;exact go h1 h
      ·cases h
    ·cases h
omit hi in
theorem Ztg{o:SOp}{c c':CS}{ev:Ev}{lo:Nat}{K:Ev→St→Prop}(h:ZxK P call o c=some (ev,c'))(k:K ev (c'.den lo)):opE P o (c.den lo) K∧ev.ints=false:=by
 unfold ZxK at h
 unfold opE CS.den
 simp only
 split at h
 ·rename_i r hr
  rw[hr]
  cases hb:(okOp P o.op (tabU c.t) (tabM c.m)&&(newB r.new c.nx&&r.wr.all (fun p=>decide (p.1<c.nx+r.new.length))))
  ·rw[hb]at h;cases h
  ·rw[hb]at h
   simp only[cond_true,Ya1,Prod.mk.injEq]at h
   obtain⟨rfl,rfl⟩:=h
   rw[Ya2,Ya2]at hb
   refine⟨⟨ZwC hr hb.1,ZwM hb.2.1,hb.2.2,?_⟩,rfl⟩
   simp only[CS.den,Zev,ZiJ]at k
   exact k
 ·rename_i hr
  rw[hr]
  split at h
  ·rename_i f ds hd
   rw[hd]
   simp only
   split at h
   ·rename_i d m' hq
    cases hb:(Zb1 (Zb3 ds) (tabM c.m)).all (fun p=>decide (p.1<c.nx))
    ·rw[hb]at h;cases h
    ·rw[hb]at h
     simp only[cond_true,Ya1,Prod.mk.injEq]at h
     obtain⟨rfl,rfl⟩:=h
     obtain⟨h1,h2,h3⟩:=Zp4 hc hq
     refine⟨.inl ⟨d,false,.inr h1,hb,?_⟩,rfl⟩
     simp only[CS.den,Zev,h2]at k
     exact k
   ·cases h
  ·cases h
omit hi in
theorem Zoq{ds:List (Option Tmp)}{lo:Nat}{K:List Ev→St→Prop}:∀ (l:List SOp)(c c':CS)(tr tr':List Ev),Zor P call ds l c tr=some (tr',c')→(tr.any (·.ints)=false→tr'.any (·.ints)=false→K tr' (c'.den lo))→tr.any (·.ints)=false→runL P ds l (c.den lo) tr K∧tr'.any (·.ints)=false
 | [],c,c',tr,tr',h,k,hn=>by unfold Zor at h;cases h;exact⟨k hn hn,hn⟩
 | o ::rest,c,c',tr,tr',h,k,hn=>by
   unfold Zor at h
   unfold runL
   have hn1:∀ ev:Ev,ev.ints=false→(tr++[ev]).any (·.ints)=false:=fun ev he=>by rw[List.any_append,hn];simp[he]
   have go:∀ {ev c1},ZxK P call o c=some (ev,c1)→Zor P call ds rest c1 (tr++[ev])=some (tr',c')→(opE P o (c.den lo) fun ev s'=>runL P ds rest s' (tr++[ev]) K)∧tr'.any (·.ints)=false:=fun {ev c1} h1 h2=>by
    have e0:=(Ztg (lo:=lo) (K:=fun _ _=>True) hc h1 trivial).2
    obtain⟨a,b⟩:=Zoq rest c1 c' _ tr' h2 (fun _=>k hn) (hn1 ev e0)
    exact⟨(Ztg (K:=fun ev s'=>runL P ds rest s' (tr++[ev]) K) hc h1 a).1,b⟩
   split at h
   ·rename_i hg
    rw[hg]
    simp only
    split at h
    ·rename_i ev c1 h1
     exact go h1 h
    ·cases h
   ·rename_i g hg
    rw[hg]
    simp only
    split at h
    ·rename_i p hp
     rw[show Zfw ds g (c.den lo).t=some p from hp]
     obtain⟨k1,b⟩:=p
     obtain⟨j,want⟩:=g
     simp only
     have no:Zor P call ds rest ⟨putC c.t o.dst (.v undef),c.m,c.nx⟩ (tr++[⟨.v undef,[],[],false⟩])=some (tr',c')→runL P ds rest {(c.den lo)with t:=putT (c.den lo).t o.dst (.v undef)} (tr++[⟨.v undef,[],[],false⟩]) K∧tr'.any (·.ints)=false:=fun h2=>by
      have:=Zoq rest _ c' _ tr' h2 (fun _=>k hn) (hn1 _ rfl)
      simp only[CS.den,Zev]at this
      exact this
     cases b<;>cases want<;>simp only[beq_self_eq_true,cond_true]at h ⊢
     ·split at h
      ·rename_i ev c1 h1;exact go h1 h
      ·cases h
     ·exact no h
     ·exact no h
     ·split at h
      ·rename_i ev c1 h1;exact go h1 h
      ·cases h
    ·cases h
omit hc hi in
theorem Zy7{ops:Array Oper}{tr:List Ev}(h:Zy8 ops tr=true):Zgy ops (tr.map fun e=>(e.touch,ids e.wr))=true:=by
 unfold Zy8 at h
 rw[Bool.or_eq_true]at h
 rcases h with h|h
 ·unfold Zgy
  rw[Ya6]
  intro j _
  rw[Ya6]
  intro i _
  have hw:∀ (k:Nat) x,(tr.map fun e=>(e.touch,ids e.wr))[k]? =some x→x.2=[]:=fun k x hx=>by
   rw[List.getElem?_map]at hx
   cases he:tr[k]? with
   | none=>rw[he]at hx;cases hx
   | some e =>
     rw[he]at hx
     cases hx
     have:=Ya6.1 h e (Ya7 he)
     simp only[List.isEmpty_iff]at this
     simp[ids,this]
  split
  ·rename_i x y hx hy
   rw[hw _ _ hx,hw _ _ hy]
   simp[ZlB]
  ·rfl
 ·exact h
theorem ZgN(hm:P.follows .mixedOrders=true){L n lo:Nat}:∀ (x:Code)(c c':CS)(e:Exit)(Q:Exit→St→Prop),Zi0 n x=true→evC P call inl L x c=some (e,c')→Q e (c'.den lo)→AWP P n x Q (c.den lo)
 | .skip,c,c',e,Q,_,h,k=>by unfold evC at h;cases h;exact ZeV k
 | .exit id,c,c',e,Q,_,h,k=>by unfold evC at h;cases h;exact ZeX k
 | .ret,c,c',e,Q,_,h,k=>by unfold evC at h;cases h;exact aRet k
 | .seq x y,c,c',e,Q,g,h,k=>by
   unfold evC at h
   unfold Zi0 at g
   rw[Ya2]at g
   refine aSeq fun K hK=>?_
   split at h
   ·rename_i c1 h1
    exact ZgN hm x c c1 .normal _ g.1 h1 (hK _ (ZgN hm y c1 c' e Q g.2 h k))
   ·rename_i r hne
    refine ZgN hm x c c' e _ g.1 h ?_
    cases e with
    | normal=>exact absurd h (hne c')
    | _=>exact k
 | .block id x,c,c',e,Q,g,h,k=>by
   unfold evC at h
   unfold Zi0 at g
   refine ZcK ?_
   split at h
   ·rename_i id' c1 h1
    refine ZgN hm x c c1 (.exit id') _ g h1 ?_
    unfold Zhm
    simp only
    split at h
    ·rename_i hid;cases h;rw[if_pos hid];exact k
    ·rename_i hid;cases h;rw[if_neg hid];exact k
   ·rename_i r hne
    refine ZgN hm x c c' e _ g h ?_
    cases e with
    | exit id'=>exact absurd h (hne id' c')
    | _=>exact k
 | .cond o x y,c,c',e,Q,g,h,k=>by
   unfold evC at h
   unfold Zi0 at g
   rw[Ya2,Ya2]at g
   split at h
   ·rename_i hr;exact ZcI g.1 hr (ZgN hm x c c' e Q g.2.1 h k)
   ·rename_i hr;exact ZcJ g.1 hr (ZgN hm y c c' e Q g.2.2 h k)
   ·cases h
 | .loop x,c,c',e,Q,g,h,k=>by
   unfold evC at h
   unfold Zi0 at g
   refine ZrJ (X:={p:Nat×CS // Zth (evC P call inl L x) p.1 p.2=some (e,c')}) (fun p=>p.1.2.den lo) (fun _=>True) (fun p=>p.1.1) ⟨⟨(L,c),h⟩,trivial,fun E B n β a w hr=>⟨β,hr⟩⟩ ?_
   rintro⟨⟨f,c1⟩,h1⟩ _
   simp only at h1 ⊢
   cases f with
   | zero=>cases h1
   | succ f =>
     unfold Zth at h1
     split at h1
     ·rename_i c2 h2
      refine ZgN hm x c1 c2 .normal _ g h2 ?_
      exact⟨⟨(f,c2),h1⟩,trivial,Nat.lt_succ_self _,fun E B n β a w hr=>⟨β,hr⟩⟩
     ·rename_i hne
      refine ZgN hm x c1 c' e _ g h1 ?_
      cases e with
      | normal=>exact absurd h1 (hne c')
      | _=>exact k
 | .region id l false,c,c',e,Q,g,h,k=>by
   unfold evC at h
   unfold Zi0 at g
   split at h
   ·rename_i c1 h1
    cases h
    have:l=l.toList.toArray:=by simp
    rw[this]
    exact aOps (l:=l.toList) _ rfl (by simpa using g) (ZkL hc hi _ _ _ h1 k)
   ·cases h
 | .region id l true,c,c',e,Q,g,h,k=>by
   unfold evC at h
   unfold Zi0 at g
   rw[Ya2]at g
   split at h
   ·rename_i tr c1 h1
    cases hb:Zy8 l tr
    ·rw[hb]at h;cases h
    ·rw[hb]at h
     simp only[cond_true,Ya1,Prod.mk.injEq]at h
     obtain⟨rfl,rfl⟩:=h
     have el:l=l.toList.toArray:=by simp
     rw[el]
     refine ZeW (l:=l.toList) _ rfl hm (by simpa using g.2) (by simpa using g.1) fun KE hE=>?_
     refine(Zoq hc _ _ _ _ _ h1 (fun _ h2=>hE tr _ ?_ (Zay h2) k) rfl).1
     simpa using Zy7 hb
   ·cases h
 | .rangeFunc ..,_,_,_,_,_,h,_=>by unfold evC at h;cases h
 | .scope _,_,_,_,_,_,h,_=>by unfold evC at h;cases h
 | .label _,_,_,_,_,_,h,_=>by unfold evC at h;cases h
 | .goto _,_,_,_,_,_,h,_=>by unfold evC at h;cases h
 | .refuse _,_,_,_,_,_,h,_=>by unfold evC at h;cases h
end
end ifl
def Zxm(P:Program)(p:FuncId×Func):Bool :=
 match p.2.body with
 | some c => Zi0 p.2.ntmps c && (!(p.2.name == "runtime.NumGoroutine") && p.2.results.toList.all (Zkr p.2.ntmps))
 | none=>false
def Zz6(f:FuncId):List (FuncId×Func)→Option Func
 | []=>none
 | p ::l=>cond (Nat.beq p.1 f) (some p.2) (Zz6 f l)
theorem ZpY{f:FuncId}{fn:Func}:∀ {l:List (FuncId×Func)},Zz6 f l=some fn→(f,fn)∈l
 | [],h=>by cases h
 | p ::l,h=>by
   unfold Zz6 at h
   cases hb:Nat.beq p.1 f
   ·rw[hb]at h;exact Yb6 _ (ZpY h)
   ·rw[hb]at h
    have:=Nat.eq_of_beq_eq_true hb
    subst this
    simp only[cond_true,Ya1]at h
    subst h
    exact Yb7
section
variable (P:Program) (fs:List (FuncId×Func)) (ora:FuncId→List D→Option D) (inB:FuncId→Bool) (L:Nat)
def evB(call:FuncId→List D→Option D)(inl:FuncId→List D→List (Nat×Blk)→Nat→Option (D×List (Nat×Blk)×Nat))(f:FuncId)(ds:List D)(m:List (Nat×Blk))(nx:Nat):Option (D×List (Nat×Blk)×Nat) :=
 match Zz6 f fs with
 | none=>none
 | some fn=>match fn.body with
   | none=>none
   | some c=>cond (Nat.ble ds.length fn.ntmps) (match evC P call inl L c ⟨Zru 0 ds,m,nx⟩with
     | some (.normal,s)=>match ZhE P (s.den nx) fn.results.toList with
       | some r=>some (oneD r,s.m,s.nx)
       | none=>none
     | some (.ret,s)=>match ZhE P (s.den nx) fn.results.toList with
       | some r=>some (oneD r,s.m,s.nx)
       | none=>none
     | _=>none) none
def evN(inl:FuncId→List D→List (Nat×Blk)→Nat→Option (D×List (Nat×Blk)×Nat))(f:FuncId)(ds:List D):Option D :=
 match ora f ds with
 | some d=>some d
 | none=>match inl f ds [] 0 with
   | some (d,m,_)=>some (fzT true (tabM m) 8 d)
   | none=>none
def evF:Nat→FuncId→List D→List (Nat×Blk)→Nat→Option (D×List (Nat×Blk)×Nat)
 | 0,_,_,_,_=>none
 | k+1,f,ds,m,nx=>evB P fs L (evN ora (evF k)) (fun g es m' nx'=>cond (inB g) (evF k g es m' nx') none) f ds m nx
variable {P fs ora inB L}
theorem ZEQ[Ifl](hm:P.follows .mixedOrders=true)(hfs:∀ p∈fs,P.funcs[p.1]? =some p.2∧Zxm P p=true){call:FuncId→List D→Option D}{inl:FuncId→List D→List (Nat×Blk)→Nat→Option (D×List (Nat×Blk)×Nat)}
 (hc:∀ f ds d,call f ds=some d→Zaa P f ds d) (hi:∀ f ds m nx d m' nx',inl f ds m nx=some (d,m',nx')→∀ K:D→Mem→Nat→Prop,K d (tabM m') nx'→ZaN P f ds (tabM m) nx K)
 {f:FuncId} {ds:List D} {m m':List (Nat×Blk)} {nx nx':Nat} {d:D} (h:evB P fs L call inl f ds m nx=some (d,m',nx')) {K:D→Mem→Nat→Prop} (k:K d (tabM m') nx'):ZaN P f ds (tabM m) nx K:=by
 unfold evB at h
 split at h
 ·cases h
 ·rename_i fn hfn
  obtain⟨h1,h2⟩:=hfs _ (ZpY hfn)
  split at h
  ·cases h
  ·rename_i c hb
   unfold Zxm at h2
   simp only[hb,Ya2,Bool.not_eq_true']at h2
   obtain⟨g1,g2,g3⟩:=h2
   cases hl:Nat.ble ds.length fn.ntmps
   ·rw[hl]at h;cases h
   ·rw[hl]at h
    simp only[cond_true]at h
    have e0:(⟨Zkp ds,tabM m,nx,nx⟩:St)=(⟨Zru 0 ds,m,nx⟩:CS).den nx:=by unfold CS.den;simp only[ZuI]
    have fin : ∀ {s : CS}, (match ZhE P (s.den nx) fn.results.toList with
        | some r=>some (oneD r,s.m,s.nx)
        | none=>none)=some (d,m',nx')→∃ r,ZhE P (s.den nx) fn.results.toList=some r∧K (oneD r) (s.den nx).m (s.den nx).nx:=fun {s} h=>by
     split at h
     ·rename_i r hr;cases h;exact⟨r,hr,k⟩
     ·cases h
    refine ZaN.inline h1 hb g2 (decide_eq_true (Nat.le_of_ble_eq_true hl)) g3 ?_
    rw[e0]
    split at h
    ·rename_i s hs;exact ZgN hc hi hm c _ s .normal _ g1 hs (fin h)
    ·rename_i s hs;exact ZgN hc hi hm c _ s .ret _ g1 hs (fin h)
    ·cases h
theorem ZxL(hm:P.follows .mixedOrders=true)(hfs:∀ p∈fs,P.funcs[p.1]? =some p.2∧Zxm P p=true)(ho:∀ f ds d,ora f ds=some d→Zaa P f ds d):∀ (k:Nat)(f:FuncId)(ds:List D) (m m':List (Nat×Blk)) (nx nx':Nat) (d:D),evF P fs ora inB L k f ds m nx=some (d,m',nx')→∀ (I:Ifl)(K:D→Mem→Nat→Prop),K d (tabM m') nx'→@ZaN I P f ds (tabM m) nx K
 | 0,_,_,_,_,_,_,_,h,_,_,_=>by cases h
 | k+1,f,ds,m,m',nx,nx',d,h,I,K,hk=>by
   unfold evF at h
   refine ZEQ hm hfs (fun g es d hg=>?_) (fun g es m1 n1 d1 m2 n2 hg K1 k1=>?_) h hk
   ·unfold evN at hg
    split at hg
    ·rename_i d' hd;cases hg;exact ho _ _ _ hd
    ·split at hg
     ·rename_i d' m1 n1 hd
      cases hg
      exact Zaa.ofA fun I=>ZxL hm hfs ho k g es [] m1 0 n1 d' hd I _ rfl
     ·cases hg
   ·cases hb:inB g
    ·simp only[hb,cond_false]at hg;cases hg
    ·simp only[hb,cond_true]at hg
     exact ZxL hm hfs ho k g es m1 m2 n1 n2 d1 hg I K1 k1
theorem ZEP(hm:P.follows .mixedOrders=true)(hfs:∀ p∈fs,P.funcs[p.1]? =some p.2∧Zxm P p=true)(ho:∀ f ds d,ora f ds=some d→Zaa P f ds d){k:Nat}{f:FuncId}{ds:List D}{d:D}(h:evN ora (evF P fs ora inB L k) f ds=some d):Zaa P f ds d:=by
 unfold evN at h
 split at h
 ·rename_i d' hd;cases h;exact ho _ _ _ hd
 ·split at h
  ·rename_i d' m1 n1 hd
   cases h
   exact Zaa.ofA fun I=>ZxL hm hfs ho k f ds [] m1 0 n1 d' hd I _ rfl
  ·cases h
end
def ZEb(_:FuncId)(_:List D):Option D:=none
theorem Zzv{P:Program}:∀ (f:FuncId)(ds:List D)(d:D),ZEb f ds=some d→Zaa P f ds d:=fun _ _ _ h=>by cases h
noncomputable def fsE:List (FuncId×Func):=[(25,Tryz.f25)]
theorem ZEu:∀ p∈fsE,Tryz.prog.funcs[p.1]? =some p.2∧Zxm Tryz.prog p=true:=by
 unfold fsE
 simp only[List.forall_mem_cons,List.not_mem_nil,false_implies,implies_true,and_true]
 exact⟨Tryz.func25,by kernel_rfl⟩
theorem Zl6:Zaa Tryz.prog 25 [] (ZbC exT) :=
 ZEP (ora:=ZEb) (inB:=fun _=>false) (L:=100) (k:=10) Zeb ZEu Zzv (by kernel_rfl)
end Go.Proofs.YtjeaacindikplaaGreat
