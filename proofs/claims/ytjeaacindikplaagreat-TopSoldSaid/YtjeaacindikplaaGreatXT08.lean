/-
  What is reached, walked over data: quarantine.reached.
-/
import Derived.Test.YtjeaacindikplaaGreatXLib
import Derived.Test.YtjeaacindikplaaGreatXT07
import Derived.Test.YtjeaacindikplaaGreatXT05
import Derived.Test.YtjeaacindikplaaGreatXT01
import Derived.Test.YtjeaacindikplaaGreatXT00
import Derived.Test.YtjeaacindikplaaGreatXT02
namespace Go.Proofs.YtjeaacindikplaaGreat
set_option linter.unusedVariables false
set_option linter.unusedSimpArgs false
set_option linter.unusedSectionVars false
open Go Go.RowKit
set_option maxRecDepth 100000
set_option maxHeartbeats 16000000
theorem ZC3[Ifl]{s:St}(k:Nat)(hk:s.t k = .nil):StLe s {s with t:=upd s.t k (.sl [])}:=by
 intro E B nn β a w h
 refine⟨β,h.mem,fun j hj=>?_,h.width,h.defers,h.le,h.sle,h.lo⟩
 by_cases e:j=k
 ·subst e
  simp only[Zae]
  have:=h.tmp j hj
  rw[hk]at this
  exact Zdw this.inv_nil
 ·simp only[Zac _ _ e];exact h.tmp j hj
theorem ZAI(x:List Zag)(hx:x.length≤4096):Zah Tryz.prog 142 [Za0 x] (Za0 x):=by
 have hresC:=Tryz.results142
 obtain⟨es,ee⟩:∃ es,x.map cF=es:=⟨_,rfl⟩
 have hcell:=ZhB x
 have hlen:es.length=x.length:=by rw[← ee];simp
 have hfz:∀ (M:Mem)(j:Nat),List.map (List.map (fzT true M (j+3))) es=es:=fun M j=>by rw[← ee];exact Zao (fun _=>rfl) _
 rw[ee]at hcell
 rw[show Za0 x = .sl es from congrArg D.sl ee]
 refine inC Tryz.func142 rfl Tryz.ntmps142 ?_
 repeat ((fail_if_success (with_reducible refine Zdl 1 ?_)); first
     | (refine hK _ ?_;clear hK;clear K)
     | (refine aSeq fun K hK=>?_)
     | (refine ZcJ ?_)
     | (refine ZeU ?_)
     | (refine ZeW ?_)
     | (refine aRet ?_)
     | (refine aOps _ rfl (by kernel_rfl) ?_)
     | (refine ZeV _ rfl ZdX (by kernel_rfl) (by kernel_rfl) fun KE hE=>?_)
     | (refine hE _ _ (by kernel_rfl) (ZaC rfl) ?_;clear hE;clear KE)
     | (refine hE _ _ (by kernel_rfl) (Za7 ?hi ?hj) ?_;(case hi=>(repeat(refine Zan rfl ?_));exact Zaq);(case hj=>simp);clear hE;clear KE)
     | (refine ZcH rfl ?hc ?_;case hc=>simp only[go_sem,↓reduceIte,hresC])
     | (refine ZcI rfl ?hc ?_;case hc=>simp only[go_sem,↓reduceIte,hresC])
     | (simp only[go_sem,↓reduceIte,hresC])
     | (refine And.intro ?ho ?_;(case ho=>omega))
     | (clear hK;clear K))
 refine ZhD (es:=es) Tryz.underlying33 rfl rfl rfl rfl rfl rfl (by kernel_rfl) (by kernel_rfl) rfl (fun h0=>?_) ?_
 ·refine aGo hresC ?_
  repeat with_reducible intro K hK
  rw[h0]
 ·refine aGo hresC ?_
  repeat with_reducible intro K hK
  refine⟨⟨hcell,by omega,by omega⟩,?_⟩
  refine aGo hresC ?_
  repeat with_reducible intro K hK
  exact congrArg D.sl (hfz _ _)
theorem ZoM:∀ (l:List (List Zaf)) (out:List Bool) (a g:List Zaf) (o:Bool),l.length=out.length→sumG (l++[g]) (out++[o]) a=if o then sumG l out a else ZhI (sumG l out a) g
 | [],[],a,g,o,_=>by cases o<;>rfl
 | h ::l,p ::out,a,g,o,hl=>ZoM l out (if p then a else ZhI a h) g o (by simpa using hl)
theorem ZvA{l:List (List Zaf)}{out:List Bool}(hl:l.length=out.length){k:Nat}{g:List Zaf}{o:Bool}(hg:l[k]? =some g)(ho:out[k]? =some o)(a:List Zaf) :
 sumG (l.take (k+1)) (out.take (k+1)) a=if o then sumG (l.take k) (out.take k) a else ZhI (sumG (l.take k) (out.take k) a) g:=by
 rw[Yb4,Yb4,hg,ho]
 exact ZoM _ _ _ _ _ (by rw[Yc1,Yc1,hl])
theorem ZvN{n:Int}{K:Nat}{g:List Zaf}(hg:Zai g n=true)(hn:n≤1500)(hk:IntK K g)(hK:K≤1000000):smT g:=by
 have hl:(g.length:Int)≤n:=Zmv hg
 exact⟨by omega,fun t ht=>by have:=hk.sz hg hK t ht;show(szF t.f:Int)≤4194304;omega⟩
def stK(x:List Zag)(l:List (List Zaf))(out:List Bool)(k:Nat):List Bool:=(Ze9 x l out).take k++out.drop k
def moK(x:List Zag)(l:List (List Zaf))(out:List Bool)(k:Nat):Bool:=((l.zip out).take k).any fun p=> !p.2&&posD p.1 x
section
variable {x:List Zag} {l:List (List Zaf)} {out:List Bool} (h:l.length=out.length)
include h
theorem Zju:(Ze9 x l out).length=out.length:=by unfold Ze9;rw[List.length_zipWith];omega
theorem ZB3:stK x l out out.length=Ze9 x l out:=by
 unfold stK
 rw[Ya8 (by rw[Zju h];exact Ya4 _),List.drop_length,List.append_nil]
theorem ZB1{k:Nat}(hk:k≤out.length):(stK x l out k).length=out.length:=by
 unfold stK
 rw[Yb9,Yc1,List.length_drop,Zju h];omega
theorem ZB2{k:Nat}(hk:k<out.length):(stK x l out k)[k]? =out[k]?:=by
 unfold stK
 rw[Yc4 (by rw[Yc1,Zju h];omega),Yc1,Zju h,show k-min k out.length=0 by omega,List.getElem?_drop]
 simp
theorem ZvG{k:Nat}{g:List Zaf}{o:Bool}(hg:l[k]? =some g)(ho:out[k]? =some o):(Ze9 x l out)[k]? =some (o||posD g x):=by
 unfold Ze9
 rw[List.getElem?_zipWith,hg,ho]
theorem Zr1{k:Nat}{g:List Zaf}{o:Bool}(hg:l[k]? =some g)(ho:out[k]? =some o)(e:(o||posD g x)=o):stK x l out (k+1)=stK x l out k:=by
 obtain⟨hk,rfl⟩:=Ya3.1 ho
 unfold stK
 rw[Yb4,ZvG h hg ho,e,Yd7 hk]
 simp
theorem ZB0{k:Nat}{g:List Zaf}{o:Bool}(hg:l[k]? =some g)(ho:out[k]? =some o)(hp:posD g x=true):(stK x l out k).set k true=stK x l out (k+1):=by
 obtain⟨hk,rfl⟩:=Ya3.1 ho
 have hl:((Ze9 x l out).take k).length=k:=by rw[Yc1,Zju h];omega
 unfold stK
 rw[List.set_append_right _ _ (by omega),hl,Nat.sub_self,Yd7 hk,List.set_cons_zero,Yb4,ZvG h hg ho,hp,Bool.or_true]
 simp
theorem ZzS{k:Nat}{g:List Zaf}{o:Bool}(hg:l[k]? =some g)(ho:out[k]? =some o):moK x l out (k+1)=(moK x l out k||(!o&&posD g x)):=by
 unfold moK
 have:(l.zip out)[k]? =some (g,o):=by rw[List.getElem?_zip_eq_some];exact⟨hg,ho⟩
 rw[Yb4,this,List.any_append];simp
theorem ZCU:moK x l out out.length=Zkn x l out:=by
 unfold moK Zkn
 rw[Ya8 (by rw[List.length_zip];omega)]
end
theorem ZrM{l:List Zaf}{x:List Zag}(hs:smT l)(hx:smFs x):(szF (ZbW l x).1:Int)≤549755813888:=by
 cases h:Zai l x.length&&okP x
 ·rw[Zvj h];decide +kernel
 ·rw[Zjp h]
  rw[Ya2]at h
  have:=Zvw ⟨l,0,zF⟩ x hs hx h.1 h.2
  show(szF (ofQ (dotD l x)):Int)≤_
  have e:dotD (RowD.mk l 0 zF).t x=dotD l x:=rfl
  rw[e]at this;omega
def sdO:Option (List Zag)→D
 | none=>.nil
 | some z=>Za0 z
theorem Zk9(o:Option (List Zag))(keep:Nat→Bool):okD keep (sdO o)=true:=by cases o<;>rfl
theorem Zmp{x:List Zag}:∀ (l:List (List Zaf)) (out:List Bool),out.length=l.length→Zkn x l out=false→Ze9 x l out=out
 | [],[],_,_=>rfl
 | g ::l,o ::out,hl,h=>by
   simp only[Zkn,List.zip_cons_cons,List.any_cons,Bool.or_eq_false_iff]at h
   have ih:=Zmp (x:=x) l out (by simpa using hl) h.2
   show(o||posD g x) ::Ze9 x l out=_
   rw[ih]
   cases o
   ·rw[Bool.not_false,Bool.true_and]at h;rw[h.1];rfl
   ·rfl
section
variable {f:Zag→Zag} {l:List Zag}
def mapA(f:Zag→Zag)(l:List Zag)(k:Nat):List Zag:=(l.map f).take k++l.drop k
theorem Zpv:mapA f l 0=l:=by simp[mapA]
theorem ZsT:mapA f l l.length=l.map f:=by
 unfold mapA
 rw[Ya8 (by rw[Yc0];omega),List.drop_length,List.append_nil]
theorem ZsR{k:Nat}(hk:k≤l.length):(mapA f l k).length=l.length:=by
 unfold mapA
 rw[Yb9,Yc1,List.length_drop,Yc0];omega
theorem ZsS{k:Nat}(hk:k<l.length):(mapA f l k)[k]? =l[k]?:=by
 unfold mapA
 rw[Yc4 (by rw[Yc1,Yc0];omega),Yc1,Yc0,show k-min k l.length=0 by omega,List.getElem?_drop]
 simp
theorem ZsQ{k:Nat}{x:Zag}(hx:l[k]? =some x):(mapA f l k).set k (f x)=mapA f l (k+1):=by
 obtain⟨hk,rfl⟩:=Ya3.1 hx
 have hl:((l.map f).take k).length=k:=by rw[Yc1,Yc0];omega
 unfold mapA
 rw[List.set_append_right _ _ (by omega),hl,Nat.sub_self,Yd7 hk,List.set_cons_zero,Yb4,Yb8,Ya0 hk]
 simp
end
structure ZOk (m K:Nat) (z:List Zag):Prop where
 l:z.length=m
 o:okP z=true
 z:∀ f∈z,szF f≤K*600001
theorem on_z{m n:Nat}{z x:List Zag}(h:ZOk m n z)(hl:x.length=m)(ho:okP x=true)(hx:∀ f∈x,szF f≤600000):ZOk m (n+1) (onD 1 z x):=by
 refine⟨?_,?_,fun f hf=>?_⟩
 ·unfold onD
  rw[List.length_zipWith,h.l,hl,Nat.min_self]
 ·refine Ya6.2 fun f hf=>?_
  obtain⟨a,b,_,_,rfl⟩:=Zpk hf
  exact Zby _
 ·obtain⟨a,b,ha,hb,rfl⟩:=Zpk hf
  have za:=h.z a ha
  have zb:=hx b hb
  have q:=ZfP (qOf a) (qOf b*1)
  rw[show qOf b*1=qOf b by grind]at q ⊢
  rw[Zcl (Ya6.1 h.o a ha),Zcl (Ya6.1 ho b hb)]at q
  show szQ _≤_
  omega
theorem ZBG[Ifl]{P:Program}{n rid:Nat}{Q:Exit→St→Prop}{s:St}{o1 o2:Oper}{T e:TypeId}{i j k:Nat}(hu:P.underlying T=some (.slice e))
 (g1:o1.guard=none) (g2:o2.guard=none) (d1:o1.dst=some j) (d2:o2.dst=some k) (p1:o1.op = .move (.tmp i)) (p2:o2.op = .binOp .eql T (.tmp j) (.const (.slice none 0 0)) T)
 (hf1:Za9 n o1=true) (hn':decide (j<n)=true) (h0:s.t i = .nil)
 (hnil:Q .normal {s with t:=upd (upd s.t j .nil) k (dB true)}):AWP P n (.region rid #[o1,o2] false) Q s:=by
 have hn:j<n:=of_decide_eq_true hn'
 intro E B β a w hr
 refine wp_region_lit (l:=[o1,o2]) ?_
 refine wpList_plain g1 fun K1 hK1=>Zet (K:=fun s'=>s'={s with t:=upd s.t j .nil}) hf1 hr ?_ ?_
 ·unfold opA
  rw[p1,d1]
  simp only[opF,rd,h0,Res.pure,putT,ov,List.length_nil,Nat.add_zero]
  exact⟨trivial,.inl trivial,trivial⟩
 rintro s1 β1 a1 w1 r1 rfl
 refine hK1 _ _ ?_
 have t3:Rep β1 s.m (safe E β1 s.m) w1 (a1.eval (.tmp j)) .nil:=by
  have:=r1.tmp j hn
  simpa only[Zae]using this
 have e3:=t3.inv_nil
 have hrun:(execOp a1.eval o2).run P w1 = .ok (.value (.bool true)) w1:=by
  unfold execOp
  rw[p2]
  have hb:=Lib.run_eql_slice_nil (P:=P) w1 T e none 0 0 0 0 hu
  have ec:a1.eval (.const (.slice none 0 0)) = .slice none 0 0:=rfl
  simp only[e3,ec]
  simp[eqGuard,hb]
 refine wpList_plain g2 fun K2 hK2=>?_
 unfold Oper.wp
 rw[hrun]
 show K2 (a1.put o2.dst (.bool true)) w1
 refine hK2 _ _ (wpList_nil ?_)
 obtain⟨β3,r3⟩:=r1.put (dst:=o2.dst) (Zb3.same r1.mem (.v (.bool true)))
 rw[d2]at r3 ⊢
 exact⟨_,β3,r3,hnil⟩
structure MaxZ (s:SysD) (x:List Zag):Prop where
 l:x.length=s.n.toNat
 o:okP x=true
 z:∀ f∈x,szF f≤600000
theorem ZEN{s:SysD}{g:List Zaf}(h:FitG s (oppT g))(hg:Zai g s.n=true)(hx:∃ x,Zap s x=true):MaxZ s (maxX s g):=by
 obtain⟨h1,h2⟩:=ZCX h.r hg hx
 have ht:=h.tn
 have ho:=ZkI h.r h.gr
 refine⟨by omega,h2,fun f hf=>?_⟩
 unfold maxX at hf
 rw[show maxO s g=ZaJ s (oppT g)from Zee h.r hg]at hf
 split at hf
 ·obtain⟨a,b,ha,hb,rfl⟩:=Zpk hf
  have za:=ht.2.1.2 a ha
  have zb:=ht.2.2.2.2 b hb
  unfold tnF at za zb
  have q:=ZfP (qOf a) (qOf b*1)
  rw[show qOf b*1=qOf b by grind]at q ⊢
  rw[Zcl (Ya6.1 ho.x a ha),Zcl (Ya6.1 ho.d b hb)]at q
  unfold szQ at q
  omega
 ·have:=ht.2.1.2 f hf
  unfold tnF at this;omega
def shr(n:Nat)(f:Zag):Zag:=ofQ (qOf f*Rat.divInt 1 ((n:Int)+1))
theorem Zy4(n:Nat)(z:List Zag):Zr7 n z=z.map (shr n):=by
 unfold Zr7 shr
 simp[Rat.divInt_eq_div,Rat.intCast_natCast]
theorem Zwh(s:SysD)(l:List (List Zaf))(hs:ZaB s=true)(hn1:1≤s.n)(hn6:s.n≤6)(hll:l.length≤40)(hl:∀ g∈l,Zai g s.n=true∧IntK 1 g)(hfit:∀ g K,Zai g s.n=true→IntK K g→K≤1000000→FitG s g)(hx:∃ x,Zap s x=true) :
 Zah Tryz.prog 110 [encS s,Zon l] (.tup [.sl ((Ze2 s l).1.map fun b=>[dB b]),Za0 (Ze2 s l).2]):=by
 have Zr:=Tryz.results110
 have hresC:=Tryz.results142
 have hresP:=Tryz.results119
 have n0:(0:Int)≤(l.length:Int):=by omega
 have n1:(l.length:Int)≤9007199254740992:=by omega
 have n2:(l.length:Int)≤140737488355328:=by omega
 refine inC Tryz.func110 rfl Tryz.ntmps110 ?_
 refine aGo (cj4 Zr n0 n1 n2) ?_
 repeat with_reducible intro K hK
 have hN:s.n≤1500:=by omega
 have nilR:Zai [] s.n=true:=by simp only[Zai,Ya2,decide_eq_true_eq];exact⟨by omega,rfl⟩
 have sumR:∀ (k:Nat)(out:List Bool),Zai (sumG (l.take k) (out.take k) []) s.n=true∧IntK 100 (sumG (l.take k) (out.take k) []):=fun k out=>by
  have hk:∀ g∈l.take k,Zai g s.n=true∧IntK 1 g:=fun g hg=>hl g (List.mem_of_mem_take hg)
  refine⟨Zjt hN _ _ [] nilR fun g hg=>(hk g hg).1,(Zn1 hN _ _ [] 0 IntK.nil nilR hk).mono ?_⟩
  have:=List.length_take_le' k l
  omega
 refine Zas (fun(x:Nat×List Bool×Option (List Zag))=>[(1,Zon l),(2,.lp 0 0 0 0),(6,.ls 1 1),(7,sdO x.2.2),(8,dI x.1)]) (fun x=>[(0,⟨99,0,2,[cS s],0,false⟩),(1,⟨4,1,1,x.2.1.map fun b=>[dB b],0,false⟩)]) 2 0
  (fun x=>x.2.1.length=l.length∧x.1+Zkp x.2.1≤l.length∧(x.2.2=none∨∃ z,x.2.2=some z∧ZOk s.n.toNat x.1 z)∧Ze2 s l=Zlm s l (l.length+1-x.1) x.1 x.2.1 x.2.2) (fun x=>Zkp x.2.1) (0,List.replicate l.length false,none) ?_ ?_ ?_
 ·refine⟨by simp,?_,.inl rfl,rfl⟩
  have:Zkp (List.replicate l.length false)≤l.length:=by
   have:=List.countP_le_length (p:=(! ·)) (l:=List.replicate l.length false)
   unfold Zkp;simpa using this
  show 0+Zkp (List.replicate l.length false)≤l.length
  omega
 ·refine Zak _ _ _ ?_ ?_ ?_ ?_ ?_ (.inl rfl)<;>simp[go_sem,okD,okDs,Zav,sdO]
 rintro⟨n,out,sum⟩ ⟨ho,hn,hz,hR⟩
 simp only at ho hn hz hR
 have hlo:=ho.symm
 refine aGo Zr ?_
 repeat with_reducible intro K hK
 refine aLe (ZC3 9 rfl) ?_
 simp only[go_sem]
 have eS0:sumG (l.take 0) (out.take 0) []=[]:=by simp[sumG]
 refine Zas (fun(k:Nat)=>[(1,Zon l),(2,.lp 0 0 0 0),(6,.ls 1 1),(7,sdO sum),(8,dI n),(9,Zbk (sumG (l.take k) (out.take k) [])),(26,Zon l),(27,dI l.length),(28,dI k)]) (fun k=>[(0,⟨99,0,2,[cS s],0,false⟩),(1,⟨4,1,1,out.map fun b=>[dB b],0,false⟩)]) 2 0 (fun k=>k≤l.length) (fun k=>l.length-k) 0 (by omega) ?_ ?_
 ·refine Zak _ _ _ ?_ ?_ ?_ ?_ ?_ (.inl rfl)<;>simp[go_sem,okD,okDs,Zav,eS0,Zk9]
  all_goals first|rfl|(rintro e (⟨_,rfl⟩|⟨_,rfl⟩)<;>rfl)
 rintro k hk
 obtain⟨hw,k0⟩:=ZaO k
 by_cases h1:(k:Int)<l.length
 ·obtain⟨g,hg⟩:∃ g,l[k]? =some g:=⟨_,Ya0 (by omega)⟩
  obtain⟨o,hoo⟩:∃ o,out[k]? =some o:=⟨_,Ya0 (by omega)⟩
  have eS:=ZvA hlo hg hoo []
  obtain⟨r1,i1⟩:=sumR k out
  obtain⟨r2,i2⟩:=hl g (Ya7 hg)
  have kp:=ZCY _ _ (ZvN r1 hN i1 (by decide)) (ZvN r2 hN i2 (by decide))
  generalize sumG (l.take k) (out.take k) []=A at *
  cases o
  ·rw[if_neg Yc5]at eS
   refine aGo (cj4 Zr k0 h1 (cj3 hg hoo hw)) ?_
   repeat with_reducible intro K hK
   exact Zad (k+1) (by omega) (by omega) (by refine Zak _ _ _ ?_ ?_ ?_ ?_ ?_ (.inl rfl)<;>simp[go_sem,okD,okDs,Zav,eS,Zk9]<;>first|rfl|(rintro e (⟨_,rfl⟩|⟨_,rfl⟩)<;>rfl))
  ·rw[if_pos rfl]at eS
   refine aGo (cj4 Zr k0 h1 (cj3 hg hoo hw)) ?_
   repeat with_reducible intro K hK
   exact Zad (k+1) (by omega) (by omega) (by refine Zak _ _ _ ?_ ?_ ?_ ?_ ?_ (.inl rfl)<;>simp[go_sem,okD,okDs,Zav,eS,Zk9]<;>first|rfl|(rintro e (⟨_,rfl⟩|⟨_,rfl⟩)<;>rfl))
 obtain rfl:k=l.length:=by omega
 have eA:sumG (l.take l.length) (out.take l.length) []=sumG l out []:=by rw[Yc2,Ya8 (by omega)]
 obtain⟨rA,iA⟩:=sumR l.length out
 rw[eA]at rA iA ⊢
 have hF:FitG s (oppT (sumG l out [])):=hfit _ 100 (Zdd rA) (iA.opp rA hN) (by decide)
 have km:=ZBh s _ hF (ZvN rA hN iA (by decide))
 have hX:=ZEN hF rA hx
 obtain⟨X,eX⟩:∃ X,maxX s (sumG l out [])=X:=⟨_,rfl⟩
 have hstep:Ze2 s l=if Zkn X l out then Zlm s l (l.length-n) (n+1) (Ze9 X l out) (some (addO sum X))else(out,Zr7 n (addO sum X)):=by
  rw[hR,show l.length+1-n=(l.length-n)+1 by omega,← eX];rfl
 obtain⟨hlf1,hlf2⟩:=ZjL (x:=X) l out ho
 rw[eX]at km hX
 generalize maxY s (sumG l out [])=Y at km
 generalize sumG l out []=A at *
 clear hR sumR eA hF rA iA eS0
 refine aGo (cj2 Zr h1) ?_
 repeat with_reducible intro K hK
 have b0:stK X l out 0=out:=by simp[stK]
 have b1:moK X l out 0=false:=by simp[moK]
 refine Zas (fun(k:Nat)=>[(1,Zon l),(2,.lp 0 0 0 0),(6,.ls 1 1),(7,sdO sum),(8,dI n),(12,Za0 X),(14,dB (moK X l out k)),(48,Zon l),(49,dI l.length),(50,dI k)]) (fun k=>[(0,⟨99,0,2,[cS s],0,false⟩),(1,⟨4,1,1,(stK X l out k).map fun b=>[dB b],0,false⟩)]) 2 0 (fun k=>k≤l.length) (fun k=>l.length-k) 0 (by omega) ?_ ?_
 ·refine Zak _ _ _ ?_ ?_ ?_ ?_ ?_ (.inl rfl)<;>simp[go_sem,okD,okDs,Zav,b0,b1,Zk9]
  all_goals first|rfl|(rintro e (⟨_,rfl⟩|⟨_,rfl⟩)<;>rfl)
 clear h1 hw k0 hk
 rintro k hk
 obtain⟨hw,k0⟩:=ZaO k
 have kz:(0:Nat)≤k:=Yb0 _
 by_cases h1:(k:Int)<l.length
 ·obtain⟨g,hg⟩:∃ g,l[k]? =some g:=⟨_,Ya0 (by omega)⟩
  obtain⟨o,hoo⟩:∃ o,out[k]? =some o:=⟨_,Ya0 (by omega)⟩
  obtain⟨r2,i2⟩:=hl g (Ya7 hg)
  have sg:=ZvN r2 hN i2 (by decide)
  have sX:smFs X:=⟨by have:=hX.l;omega,fun f hf=>by have:=hX.z f hf;show(szF f:Int)≤4194304;omega⟩
  have kq:=ZmC g X sg sX (ZrM sg sX)
  have hs0:=(ZB2 (x:=X) hlo (k:=k) (by omega)).trans hoo
  have hsl:=ZB1 (x:=X) hlo (k:=k) (by omega)
  have hmk:=ZzS (x:=X) hlo hg hoo
  cases o
  ·cases hp:posD g X
   ·have he:=Zr1 hlo hg hoo (x:=X) (by rw[hp];rfl)
    rw[hp]at kq hmk
    rw[Bool.and_false,Bool.or_false]at hmk
    generalize stK X l out k=B at *
    generalize moK X l out k=mo at *
    refine aGo (cj4 Zr k0 h1 (cj3 hg hs0 hw)) ?_
    repeat with_reducible intro K hK
    exact Zad (k+1) (by omega) (by omega) (by refine Zak _ _ _ ?_ ?_ ?_ ?_ ?_ (.inl rfl)<;>simp[go_sem,okD,okDs,Zav,he,hmk,Zk9]<;>first|rfl|(rintro e (⟨_,rfl⟩|⟨_,rfl⟩)<;>rfl))
   ·have he:=ZB0 hlo hg hoo hp
    have hset:((stK X l out k).map fun b=>[dB b]).set k [dB true]=(stK X l out (k+1)).map fun b=>[dB b]:=by rw[← he,List.map_set]
    rw[hp]at kq hmk
    rw[Bool.not_false,Bool.and_self,Bool.or_true]at hmk
    generalize stK X l out k=B at *
    generalize moK X l out k=mo at *
    refine aGo (cj4 Zr k0 kz (cj4 h1 hg hs0 (cj3 hsl hw hset))) ?_
    repeat with_reducible intro K hK
    exact Zad (k+1) (by omega) (by omega) (by refine Zak _ _ _ ?_ ?_ ?_ ?_ ?_ (.inl rfl)<;>simp[go_sem,okD,okDs,Zav,hmk,Zk9]<;>first|rfl|(rintro e (⟨_,rfl⟩|⟨_,rfl⟩)<;>rfl))
  ·have he:=Zr1 hlo hg hoo (x:=X) rfl
   rw[Bool.not_true,Bool.false_and,Bool.or_false]at hmk
   generalize stK X l out k=B at *
   generalize moK X l out k=mo at *
   refine aGo (cj4 Zr k0 h1 (cj3 hg hs0 hw)) ?_
   repeat with_reducible intro K hK
   exact Zad (k+1) (by omega) (by omega) (by refine Zak _ _ _ ?_ ?_ ?_ ?_ ?_ (.inl rfl)<;>simp[go_sem,okD,okDs,Zav,he,hmk,Zk9]<;>first|rfl|(rintro e (⟨_,rfl⟩|⟨_,rfl⟩)<;>rfl))
 obtain rfl:k=l.length:=by omega
 have eB:stK X l out l.length=Ze9 X l out:=by rw[hlo];exact ZB3 hlo
 have eM:moK X l out l.length=Zkn X l out:=by rw[hlo];exact ZCU hlo
 rw[eB,eM]
 clear eB eM b0 b1 hw k0 kz hk
 have hwn:=ZtM n
 have hsb:=(Zju (x:=X) hlo).trans ho
 have hXl:X.length≤4096:=by have:=hX.l;omega
 have hX1:1≤X.length:=by have:=hX.l;omega
 have zX:ZOk s.n.toNat (n+1) X:=⟨hX.l,hX.o,fun f hf=>by have:=hX.z f hf;omega⟩
 have kcl:=ZAI X hXl
 have kf:=ZE2 1 ((n:Int)+1) (by omega) (by decide) (by decide) (by omega) (by omega)
 have zf:(szQ (Rat.divInt 1 ((n:Int)+1)):Int)≤4:=by have:=Zkx 1 ((n:Int)+1) (by omega) (by omega) (by omega) (by omega) (by omega);omega
 cases hm:Zkn X l out
 ·rw[if_neg (by rw[hm];exact Yc5)]at hstep
  rw[Zmp l out ho hm]
  rw[Zy4]at hstep
  clear hlf1 hlf2 hsb kcl
  rcases hz with rfl|⟨z,rfl,hz⟩
  ·show AWP _ _ _ _ _
   repeat((fail_if_success (with_reducible refine Zdl 20 ?_));first
   | (refine hK _ ?_;clear hK;clear K)
   | (refine aSeq fun K hK=>?_)
   | (refine ZcJ ?_)
   | (refine ZeU ?_)
   | (refine ZeW ?_)
   | (refine aRet ?_)
   | (refine aOps _ rfl (by kernel_rfl) ?_)
   | (refine ZeV _ rfl ZdX (by kernel_rfl) (by kernel_rfl) fun KE hE=>?_)
   | (refine hE _ _ (by kernel_rfl) (ZaC rfl) ?_;clear hE;clear KE)
   | (refine hE _ _ (by kernel_rfl) (Za7 ?hi ?hj) ?_;(case hi=>(repeat(refine Zan rfl ?_));exact Zaq);(case hj=>simp);clear hE;clear KE)
   | (refine ZcH rfl ?hc ?_;case hc=>simp only[go_sem,↓reduceIte,Zr,h1])
   | (refine ZcI rfl ?hc ?_;case hc=>simp only[go_sem,↓reduceIte,Zr,h1])
   | (simp only[go_sem,↓reduceIte,Zr,h1])
   | (refine And.intro ?ho ?_;(case ho=>omega))
   | (clear hK;clear K))
   refine ZBG Tryz.underlying33 rfl rfl rfl rfl rfl rfl (by kernel_rfl) (by kernel_rfl) rfl ?_
   obtain⟨es,ee⟩:∃ es,X.map cF=es:=⟨_,rfl⟩
   have hcell:=ZhB X
   have hlen:es.length=X.length:=by rw[← ee];simp
   rw[ee]at hcell
   rw[show Za0 X = .sl es from congrArg D.sl ee]
   refine aGo Zr ?_
   repeat with_reducible intro K hK
   refine Zbq Tryz.func142 rfl (by kernel_rfl) (by kernel_rfl) (by kernel_rfl) ?_
   rw[Tryz.ntmps142]
   repeat((fail_if_success (with_reducible refine Zdl 1 ?_));first
   | (refine hK _ ?_;clear hK;clear K)
   | (refine aSeq fun K hK=>?_)
   | (refine ZcJ ?_)
   | (refine ZeU ?_)
   | (refine ZeW ?_)
   | (refine aRet ?_)
   | (refine aOps _ rfl (by kernel_rfl) ?_)
   | (refine ZeV _ rfl ZdX (by kernel_rfl) (by kernel_rfl) fun KE hE=>?_)
   | (refine hE _ _ (by kernel_rfl) (ZaC rfl) ?_;clear hE;clear KE)
   | (refine hE _ _ (by kernel_rfl) (Za7 ?hi ?hj) ?_;(case hi=>(repeat(refine Zan rfl ?_));exact Zaq);(case hj=>simp);clear hE;clear KE)
   | (refine ZcH rfl ?hc ?_;case hc=>simp only[go_sem,↓reduceIte,hresC])
   | (refine ZcI rfl ?hc ?_;case hc=>simp only[go_sem,↓reduceIte,hresC])
   | (simp only[go_sem,↓reduceIte,hresC])
   | (refine And.intro ?ho ?_;(case ho=>omega))
   | (clear hK;clear K))
   refine ZhD (es:=es) Tryz.underlying33 rfl rfl rfl rfl rfl rfl (by kernel_rfl) (by kernel_rfl) rfl (fun h0=>?_) ?_
   ·rw[h0]at hlen
    simp at hlen
    omega
   have h1:(es.length:Int)≤4096:=by omega
   refine aGo (cj2 hresC Zr) ?_
   repeat with_reducible intro K hK
   refine⟨⟨hcell,by omega,by omega⟩,?_⟩
   subst ee
   rw[show addO none X=X from rfl]at hstep
   have hZ:=zX
   have hZl:X.length≤4096:=by have:=hZ.l;omega
   refine aGo (cj4 hresC hresP Zr hwn) ?_
   repeat with_reducible intro K hK
   have e0:X.map cF=(mapA (shr n) X 0).map cF:=by rw[Zpv]
   refine Zas (fun(k:Nat)=>[(6,.ls 1 1),(7,.ls 2 1),(17,.lp 3 0 0 0),(84,.ls 2 1),(85,dI X.length),(86,dI k)]) (fun k=>[(1,⟨4,1,1,out.map fun b=>[dB b],0,false⟩),(2,⟨53,1,4,(mapA (shr n) X k).map cF,0,false⟩),(3,⟨53,0,4,[cF (ofQ (Rat.divInt 1 ((n:Int)+1)))],0,false⟩)]) 4 0 (fun k=>k≤X.length) (fun k=>X.length-k) 0 (by omega) ?_ ?_
   ·refine Zak _ _ _ ?_ ?_ ?_ ?_ ?_ (.inl rfl)<;>simp[go_sem,e0,okD,okDs,Zav]
    all_goals first|rfl|(rintro e (⟨_,rfl⟩|⟨_,rfl⟩)<;>rfl)
   rintro k hk
   obtain⟨hw,k0⟩:=ZaO k
   have kz:(0:Nat)≤k:=Yb0 _
   by_cases h2:(k:Int)<X.length
   ·obtain⟨x,hx⟩:=getE (l:=X) (k:=k) (by omega)
    have ox:=Ya6.1 hZ.o x (ZaL hx)
    have zx:=hZ.z x (ZaL hx)
    have hs:=ZsQ (f:=shr n) hx
    have hg:=(ZsS (f:=shr n) (l:=X) (k:=k) (by omega)).trans hx
    have hL:=ZsR (f:=shr n) (l:=X) (k:=k) (by omega)
    obtain⟨qx,rfl⟩:∃ q,x=ofQ q:=⟨_,ZcF ox⟩
    unfold shr at hs
    rw[Zay]at hs
    change szQ qx≤_ at zx
    have ka:=ZsB qx (Rat.divInt 1 ((n:Int)+1)) (by omega) (by omega)
    have hset:((mapA (shr n) X k).map cF).set k [dI (ofQ (qx*Rat.divInt 1 ((n:Int)+1))).p.s,Zab (ofQ (qx*Rat.divInt 1 ((n:Int)+1))).p.d,dI (ofQ (qx*Rat.divInt 1 ((n:Int)+1))).q.s,Zab (ofQ (qx*Rat.divInt 1 ((n:Int)+1))).q.d]=(mapA (shr n) X (k+1)).map cF:=by
     unfold shr
     rw[← hs,List.map_set]
    generalize mapA (shr n) X k=A at *
    refine aGo (cj4 Zr h2 k0 (cj4 kz hx hg (cj3 hL hset hw))) ?_
    repeat with_reducible intro K hK
    exact Zad (k+1) (by omega) (by omega) (by refine Zak _ _ _ ?_ ?_ ?_ ?_ ?_ (.inl rfl)<;>simp[go_sem,okD,okDs,Zav]<;>first|rfl|(rintro e (⟨_,rfl⟩|⟨_,rfl⟩)<;>rfl))
   obtain rfl:k=X.length:=by omega
   refine aGo (cj2 Zr h2) ?_
   repeat with_reducible intro K hK
   rw[Zao (fun _=>rfl),Zao (fun _=>rfl),ZsT,hstep]
  ·have n4:n≤40:=by omega
   obtain⟨es,ee⟩:∃ es,z.map cF=es:=⟨_,rfl⟩
   have hcell:=ZhB z
   have hlen:es.length=z.length:=by rw[← ee];simp
   have hl:z.length=X.length:=by rw[hz.l,hX.l]
   rw[ee]at hcell
   obtain⟨e1,es',hes⟩:∃ e1 es',es=e1 ::es':=by
    cases es with
    | nil=>simp at hlen;omega
    | cons a b=>exact⟨a,b,rfl⟩
   rw[show sdO (some z) = .sl (e1 ::es')from by rw[← hes,← ee];rfl]
   refine aGo (cj2 Zr h1) ?_
   repeat with_reducible intro K hK
   rw[← hes]
   refine Zbq Tryz.func119 rfl (by kernel_rfl) (by kernel_rfl) (by kernel_rfl) ?_
   rw[Tryz.ntmps119]
   refine aGo hresP ?_
   repeat with_reducible intro K hK
   refine Zbq Tryz.func142 rfl (by kernel_rfl) (by kernel_rfl) (by kernel_rfl) ?_
   rw[Tryz.ntmps142]
   repeat((fail_if_success (with_reducible refine Zdl 1 ?_));first
   | (refine hK _ ?_;clear hK;clear K)
   | (refine aSeq fun K hK=>?_)
   | (refine ZcJ ?_)
   | (refine ZeU ?_)
   | (refine ZeW ?_)
   | (refine aRet ?_)
   | (refine aOps _ rfl (by kernel_rfl) ?_)
   | (refine ZeV _ rfl ZdX (by kernel_rfl) (by kernel_rfl) fun KE hE=>?_)
   | (refine hE _ _ (by kernel_rfl) (ZaC rfl) ?_;clear hE;clear KE)
   | (refine hE _ _ (by kernel_rfl) (Za7 ?hi ?hj) ?_;(case hi=>(repeat(refine Zan rfl ?_));exact Zaq);(case hj=>simp);clear hE;clear KE)
   | (refine ZcH rfl ?hc ?_;case hc=>simp only[go_sem,↓reduceIte,hresC])
   | (refine ZcI rfl ?hc ?_;case hc=>simp only[go_sem,↓reduceIte,hresC])
   | (simp only[go_sem,↓reduceIte,hresC])
   | (refine And.intro ?ho ?_;(case ho=>omega))
   | (clear hK;clear K))
   refine ZhD (es:=es) Tryz.underlying33 rfl rfl rfl rfl rfl rfl (by kernel_rfl) (by kernel_rfl) rfl (fun h0=>?_) ?_
   ·rw[hes]at h0
    cases h0
   have h3:(es.length:Int)≤4096:=by omega
   refine aGo (cj2 hresC hresP) ?_
   repeat with_reducible intro K hK
   refine⟨⟨hcell,by omega,by omega⟩,?_⟩
   refine aGo (cj2 hresC hresP) ?_
   repeat with_reducible intro K hK
   have e0:es=(onA z X 0).map cF:=by rw[ZnD,ee]
   refine Zas (fun(k:Nat)=>[(5,.ls 2 1),(10,Za0 X),(11,dI X.length),(12,dI k)]) (fun k=>[(0,⟨99,0,2,[cS s],0,false⟩),(1,⟨4,1,1,out.map fun b=>[dB b],0,false⟩),(2,⟨53,1,4,(onA z X k).map cF,0,false⟩)]) 3 2 (fun k=>k≤X.length) (fun k=>X.length-k) 0 (by omega) ?_ ?_
   ·refine Zak _ _ _ ?_ ?_ ?_ ?_ ?_ (.inr fun id hid=>?_)<;>simp[go_sem,e0,okD,okDs,Zav]
    all_goals first|rfl|(have:id<2:=hid;omega)|(rintro e (⟨_,rfl⟩|⟨_,rfl⟩)<;>rfl)
   rintro k hk
   obtain⟨hw,k0⟩:=ZaO k
   have kz:(0:Nat)≤k:=Yb0 _
   by_cases h2:(k:Int)<X.length
   ·obtain⟨x,hx⟩:=getE (l:=z) (k:=k) (by omega)
    obtain⟨y,hy⟩:=getE (l:=X) (k:=k) (by omega)
    have ox:=Ya6.1 hz.o x (ZaL hx)
    have oy:=Ya6.1 hX.o y (ZaL hy)
    have zx:=hz.z x (ZaL hx)
    have zy:=hX.z y (ZaL hy)
    have hs:=ZqT hl hx hy
    have hg:=(ZqV hl (k:=k) (by omega)).trans hx
    have hL:=ZqU hl k (by omega)
    obtain⟨qx,rfl⟩:∃ q,x=ofQ q:=⟨_,ZcF ox⟩
    obtain⟨qy,rfl⟩:∃ q,y=ofQ q:=⟨_,ZcF oy⟩
    rw[Zay,Zay]at hs
    change szQ qx≤_ at zx
    change szQ qy≤_ at zy
    have ka:=ZhT qx qy (by omega) (by omega)
    have hset:((onA z X k).map cF).set k [dI (ofQ (qx+qy)).p.s,Zab (ofQ (qx+qy)).p.d,dI (ofQ (qx+qy)).q.s,Zab (ofQ (qx+qy)).q.d]=(onA z X (k+1)).map cF:=by rw[← hs,List.map_set]
    generalize onA z X k=A at *
    refine aGo (cj4 hresP h2 k0 (cj4 kz hx hy (cj4 hg hL hset hw))) ?_
    repeat with_reducible intro K hK
    exact Zad (k+1) (by omega) (by omega) (by refine Zak _ _ _ ?_ ?_ ?_ ?_ ?_ (.inr fun id hid=>?_)<;>simp[go_sem,okD,okDs,Zav]<;>first|rfl|(have:id<2:=hid;omega)|(rintro e (⟨_,rfl⟩|⟨_,rfl⟩)<;>rfl))
   obtain rfl:k=X.length:=by omega
   rw[← hl,ZqW hl]
   have hZ:=on_z hz hX.l hX.o hX.z
   have hdef:addO (some z) X=onD 1 z X:=rfl
   rw[hdef]at hstep
   rw[hl]
   clear hdef e0
   generalize onD 1 z X=Z at hZ hstep ⊢
   have hZl:Z.length≤4096:=by have:=hZ.l;omega
   refine aGo (cj4 hresC hresP Zr (cj2 hwn h2)) ?_
   repeat with_reducible intro K hK
   have e0:Z.map cF=(mapA (shr n) Z 0).map cF:=by rw[Zpv]
   refine Zas (fun(k:Nat)=>[(6,.ls 1 1),(7,.ls 2 1),(17,.lp 3 0 0 0),(84,.ls 2 1),(85,dI Z.length),(86,dI k)]) (fun k=>[(1,⟨4,1,1,out.map fun b=>[dB b],0,false⟩),(2,⟨53,1,4,(mapA (shr n) Z k).map cF,0,false⟩),(3,⟨53,0,4,[cF (ofQ (Rat.divInt 1 ((n:Int)+1)))],0,false⟩)]) 4 0 (fun k=>k≤Z.length) (fun k=>Z.length-k) 0 (by omega) ?_ ?_
   ·refine Zak _ _ _ ?_ ?_ ?_ ?_ ?_ (.inl rfl)<;>simp[go_sem,e0,okD,okDs,Zav]
    all_goals first|rfl|(rintro e (⟨_,rfl⟩|⟨_,rfl⟩)<;>rfl)
   rintro k hk
   obtain⟨hw,k0⟩:=ZaO k
   have kz:(0:Nat)≤k:=Yb0 _
   by_cases h2:(k:Int)<Z.length
   ·obtain⟨x,hx⟩:=getE (l:=Z) (k:=k) (by omega)
    have ox:=Ya6.1 hZ.o x (ZaL hx)
    have zx:=hZ.z x (ZaL hx)
    have hs:=ZsQ (f:=shr n) hx
    have hg:=(ZsS (f:=shr n) (l:=Z) (k:=k) (by omega)).trans hx
    have hL:=ZsR (f:=shr n) (l:=Z) (k:=k) (by omega)
    obtain⟨qx,rfl⟩:∃ q,x=ofQ q:=⟨_,ZcF ox⟩
    unfold shr at hs
    rw[Zay]at hs
    change szQ qx≤_ at zx
    have ka:=ZsB qx (Rat.divInt 1 ((n:Int)+1)) (by omega) (by omega)
    have hset:((mapA (shr n) Z k).map cF).set k [dI (ofQ (qx*Rat.divInt 1 ((n:Int)+1))).p.s,Zab (ofQ (qx*Rat.divInt 1 ((n:Int)+1))).p.d,dI (ofQ (qx*Rat.divInt 1 ((n:Int)+1))).q.s,Zab (ofQ (qx*Rat.divInt 1 ((n:Int)+1))).q.d]=(mapA (shr n) Z (k+1)).map cF:=by
     unfold shr
     rw[← hs,List.map_set]
    generalize mapA (shr n) Z k=A at *
    refine aGo (cj4 Zr h2 k0 (cj4 kz hx hg (cj3 hL hset hw))) ?_
    repeat with_reducible intro K hK
    exact Zad (k+1) (by omega) (by omega) (by refine Zak _ _ _ ?_ ?_ ?_ ?_ ?_ (.inl rfl)<;>simp[go_sem,okD,okDs,Zav]<;>first|rfl|(rintro e (⟨_,rfl⟩|⟨_,rfl⟩)<;>rfl))
   obtain rfl:k=Z.length:=by omega
   refine aGo (cj2 Zr h2) ?_
   repeat with_reducible intro K hK
   rw[Zao (fun _=>rfl),Zao (fun _=>rfl),ZsT,hstep]
 ·rw[if_pos hm]at hstep
  have:=hlf2 hm
  rcases hz with rfl|⟨z,rfl,hz⟩
  ·have hzz:ZOk s.n.toNat (n+1) (addO none X):=zX
   repeat((fail_if_success (with_reducible refine Zdl 20 ?_));first
   | (refine hK _ ?_;clear hK;clear K)
   | (refine aSeq fun K hK=>?_)
   | (refine ZcJ ?_)
   | (refine ZeU ?_)
   | (refine ZeW ?_)
   | (refine aRet ?_)
   | (refine aOps _ rfl (by kernel_rfl) ?_)
   | (refine ZeV _ rfl ZdX (by kernel_rfl) (by kernel_rfl) fun KE hE=>?_)
   | (refine hE _ _ (by kernel_rfl) (ZaC rfl) ?_;clear hE;clear KE)
   | (refine hE _ _ (by kernel_rfl) (Za7 ?hi ?hj) ?_;(case hi=>(repeat(refine Zan rfl ?_));exact Zaq);(case hj=>simp);clear hE;clear KE)
   | (refine ZcH rfl ?hc ?_;case hc=>simp only[go_sem,↓reduceIte,Zr,h1])
   | (refine ZcI rfl ?hc ?_;case hc=>simp only[go_sem,↓reduceIte,Zr,h1])
   | (simp only[go_sem,↓reduceIte,Zr,h1])
   | (refine And.intro ?ho ?_;(case ho=>omega))
   | (clear hK;clear K))
   refine ZBG Tryz.underlying33 rfl rfl rfl rfl rfl rfl (by kernel_rfl) (by kernel_rfl) rfl ?_
   refine aGo (cj2 Zr hwn) ?_
   repeat with_reducible intro K hK
   exact Zad (n+1,Ze9 X l out,some (addO none X)) ⟨hsb,by simp only;omega,.inr ⟨_,rfl,hzz⟩,by rw[hstep,show l.length+1-(n+1)=l.length-n by omega]⟩ (by omega) (by refine Zak _ _ _ ?_ ?_ ?_ ?_ ?_ (.inl rfl)<;>simp[go_sem,okD,okDs,Zav,sdO,addO]<;>first|rfl|(rintro e (⟨_,rfl⟩|⟨_,rfl⟩)<;>rfl))
  ·have hzz:=on_z hz hX.l hX.o hX.z
   have kp:=ZA8 z X (by rw[hz.l,hX.l]) hz.o hX.o (by have:=hz.l;omega) (fun f hf=>by have:=hz.z f hf;omega) (fun f hf=>by have:=hX.z f hf;omega)
   obtain⟨f1,z',rfl⟩:∃ f1 z',z=f1 ::z':=by
    cases z with
    | nil=>have:=hz.l;simp at this;omega
    | cons a b=>exact⟨a,b,rfl⟩
   rw[show sdO (some (f1 ::z')) = .sl (cF f1 ::z'.map cF)from rfl]
   rw[show Za0 (f1 ::z') = .sl (cF f1 ::z'.map cF)from rfl]at kp
   refine aGo (cj3 Zr h1 hwn) ?_
   repeat with_reducible intro K hK
   exact Zad (n+1,Ze9 X l out,some (addO (some (f1 ::z')) X)) ⟨hsb,by simp only;omega,.inr ⟨_,rfl,hzz⟩,by rw[hstep,show l.length+1-(n+1)=l.length-n by omega]⟩ (by omega) (by refine Zak _ _ _ ?_ ?_ ?_ ?_ ?_ (.inl rfl)<;>simp[go_sem,okD,okDs,Zav,sdO,addO]<;>first|rfl|(rintro e (⟨_,rfl⟩|⟨_,rfl⟩)<;>rfl))
set_option maxHeartbeats 8000000
theorem Zn9{α β:Type}(p:α→Bool)(f:α→β):∀ l:List α,(l.filter p).map f=l.filterMap fun a=>if p a then some (f a)else none
 | []=>rfl
 | a ::l=>by
   rw[List.filter_cons,List.filterMap_cons]
   cases h:p a
   ·simp only[Bool.false_eq_true,if_false];exact Zn9 p f l
   ·simp only[if_true,List.map_cons];rw[Zn9 p f l]
theorem Ztc{α β:Type}{f g:α→Option β}:∀ {l:List α},(∀ a∈l,f a=g a)→l.filterMap f=l.filterMap g
 | [],_=>rfl
 | a ::l,h=>by rw[List.filterMap_cons,List.filterMap_cons,h a Yb7,Ztc fun b hb=>h b (Yb6 _ hb)]
def ZoF(i:Nat):Zaf:=⟨(i:Int),ofQ 1⟩
theorem ZAc(e:EvD)(h:Int):Zd7 e h=(ownL e h).map ZoF:=by
 unfold Zd7 ownL Zew ZaS
 rw[Zn9]
 refine Ztc fun i hi=>?_
 have hi:=Yd2.1 hi
 unfold ownH ZoF
 rw[show decide ((i:Int)<(e.mv.length:Int))=true from decide_eq_true (by omega),Bool.true_and]
 cases Zko e h (-1) 0 100000 (mvAt e i)
 ·rfl
 ·rfl
theorem ZEX(t:TrD)(R:Zbd t)(h1:ZbX t=0)(L:LenT t)(hp:∀ x∈t.e.mv,0≤x.f∧x.f<t.e.pl.length)(hf:Zf3 t.e=0)(h:Int)(h0:0≤h)(hh:h<t.e.h):Zaa Tryz.prog 43 [ZcL t,dI h] (Zbk (Zd7 t.e h)):=by
 have Zr:=Tryz.results43
 have k1:=ZkY t L
 rw[h1]at k1
 have k2:=Zxc t.e L.e h (-1) 0 100000 hp
 rw[if_pos hf]at k2
 have k3:=nO_c
 have Lm:=R.e.lm
 have ll:(ownL t.e h).length≤t.e.mv.length:=ZqL t.e h
 change Zaa _ _ _ (Zab (natI (ownL t.e h)))at k2
 rw[ZAc]
 have g1:¬ h<0:=by omega
 have g2:¬ h≥t.e.h:=by omega
 obtain⟨O,eO⟩:∃ O,ownL t.e h=O:=⟨_,rfl⟩
 rw[eO]at k2 ll ⊢
 clear eO
 have lI:(natI O).length=O.length:=by simp[natI]
 refine inN Tryz.func43 rfl Tryz.ntmps43 fun I=>?_
 refine aGo (cj3 Zr g1 g2) ?_
 repeat with_reducible intro K hK
 refine aLe (Zcs 5 151 5 rfl) ?_
 simp only[go_sem]
 refine Zas (fun(k:Nat)=>[(5,.ls 1 k),(25,Zab (natI O)),(26,dI O.length),(27,dI k)]) (fun k=>[(1,⟨151,k,5,((O.take k).map ZoF).map cT,0,false⟩)]) 2 0 (fun k=>k≤O.length) (fun k=>O.length-k) 0 (by omega) ?_ ?_
 ·refine Zak _ _ _ ?_ ?_ ?_ ?_ ?_ (.inl rfl)<;>simp[go_sem,okD,okDs,Zav,lI]
 rintro k hk
 obtain⟨hw,k0⟩:=ZaO k
 by_cases h2:(k:Int)<O.length
 ·obtain⟨i,hx⟩:=getE (l:=O) (k:=k) (by omega)
  have hx2:(natI O)[k]? =some (i:Int):=by unfold natI;rw[Yb8,hx];rfl
  have eN:(O.take (k+1)).map ZoF=(O.take k).map ZoF++[⟨(i:Int),ofQ 1⟩]:=by rw[Yb4,hx];simp[ZoF]
  have lN:((O.take k).map ZoF).length=k:=by simp;omega
  generalize (O.take k).map ZoF=A at *
  generalize natI O=B at *
  refine aGo (cj4 Zr k0 h2 (cj3 hx2 lN hw)) ?_
  repeat with_reducible intro K hK
  exact Zad (k+1) (by omega) (by omega) (by refine Zak _ _ _ ?_ ?_ ?_ ?_ ?_ (.inl rfl)<;>simp[go_sem,okD,okDs,Zav,eN]<;>(rintro e (⟨a,_,rfl⟩|rfl)<;>rfl))
 obtain rfl:k=O.length:=by omega
 refine aGo (cj2 Zr h2) ?_
 repeat with_reducible intro K hK
 rw[Zao (fun _=>rfl),Yc2]
theorem Zz2{s:SysD}{g:List Zaf}(h:0<sgnD (ZaJ s g).v):(ZaJ s g).k=0:=by
 unfold ZaJ at h ⊢
 have zz:¬ 0<sgnD zF:=by decide +kernel
 cases hn:next (fin s g)with
 | ex r c=>rfl
 | best=>rfl
 | row r=>rw[hn]at h;exact absurd h zz
 | col c =>
   rw[hn]at h
   simp only at h
   split at h<;>exact absurd h zz
theorem Zvi(s:SysD)(g:List Zaf)(h:Int)(F1:FitG s g)(F2:FitG s (oppT g))(hs:smT g):Zah Tryz.prog 42 [encS s,Zbk g,dI h] (.agg (cV (Zgm s g h))):=by
 have Zr:=Tryz.results42
 have t1:=F1.tn
 have t2:=F2.tn
 have o1:=ZkI F1.r F1.gr
 have o2:=ZkI F2.r F2.gr
 have eL:ZbU s g=(ZaJ s g,0):=by unfold ZbU;rw[F1.r,F1.gr];rfl
 have eM:ZbU s (oppT g)=(ZaJ s (oppT g),0):=by unfold ZbU;rw[F2.r,F2.gr];rfl
 have k1:=ZnW s g F1.f
 have k2:=ZnW s (oppT g) F2.f
 have k3:=Zuv g hs
 have kC:=Zz3 s g F1.f F1.r F1.gr
 have kv0:=Zz2 (s:=s) (g:=g)
 have kn:=ZiS (-1) (by decide) (by decide)
 rw[eL]at k1
 rw[eM]at k2
 have e0:Zgm s g h=if 0<sgnD (ZaJ s g).v then⟨h,2,(ZaJ s g).x,[],(ZaJ s g).y++[ofQ (-1)]⟩else if (ZaJ s (oppT g)).k=2 then⟨h,1,onD 1 (ZaJ s (oppT g)).x (ZaJ s (oppT g)).d,(ZaJ s g).x,[]⟩else if sgnD (ZaJ s (oppT g)).v<0 then⟨h,1,(ZaJ s (oppT g)).x,(ZaJ s g).x,[]⟩else⟨h,0,[],(ZaJ s g).x,(ZaJ s (oppT g)).y⟩:=by
  unfold Zgm maxO
  rw[eL,eM]
 rw[e0]
 have ks:=ZeD (ZaJ s g).v (by have:=t1.1;unfold tnF at this;omega)
 have kt:=ZeD (ZaJ s (oppT g)).v (by have:=t2.1;unfold tnF at this;omega)
 generalize ZaJ s g=A at *
 generalize ZaJ s (oppT g)=B at *
 generalize oppT g=g2 at *
 obtain⟨ak,av,ax,ay,ad⟩:=A
 obtain⟨bk,bv,bx,byy,bd⟩:=B
 simp only at ks kt kC kv0 k1 k2 ⊢
 by_cases c1:0<sgnD av
 ·have k:=kC (kv0 c1)
  clear k1 k2 kC
  rw[if_pos c1]
  have yl:(ay.length:Int)≤64:=t1.2.2.1.1
  have yc:=ZhB ay
  refine inC Tryz.func42 rfl Tryz.ntmps42 ?_
  refine aGo (cj2 Zr c1) ?_
  repeat with_reducible intro K hK
  rw[List.map_append,Zao (fun _=>rfl)]
  exact congrArg (fun x=>D.agg [dI h,dI 2,Za0 ax,.sl [],.sl x]) (List.map_append (f:=cF) (l₁:=ay) (l₂:=[ofQ (-1)])).symm
 clear kC kv0
 rw[if_neg c1]
 refine inC Tryz.func42 rfl Tryz.ntmps42 ?_
 by_cases c2:bk=2
 ·have c2':(bk==2)=true:=by simp[c2]
  have kp:=sum_c bx bd (o2.l c2) o2.x o2.d (by have:(bx.length:Int)≤64:=t2.2.1.1;omega) (fun f hf=>by have:=t2.2.1.2 f hf;unfold tnF at this;omega) (fun f hf=>by have:=t2.2.2.2.2 f hf;unfold tnF at this;omega)
  rw[if_pos c2]
  refine aGo (cj3 Zr c1 c2') ?_
  repeat with_reducible intro K hK
  rfl
 have c2':(bk==2)=false:=by simp[c2]
 rw[if_neg c2]
 by_cases c3:sgnD bv<0
 ·rw[if_pos c3]
  refine aGo (cj4 Zr c1 c2' c3) ?_
  repeat with_reducible intro K hK
  rfl
 ·rw[if_neg c3]
  refine aGo (cj4 Zr c1 c2' c3) ?_
  repeat with_reducible intro K hK
  rfl
structure SmT (t:TrD):Prop where
 n:t.e.mv.length≤4
 h:t.e.h≤3
 fi:t.fi.length≤8
 cl:t.cl.length≤8
section
variable {t:TrD} (R:Zbd t) {kind:Int} (hk:ZnZ kind=true) (sm:SmT t) {z:List Zag} (hz:Zap (sysT t kind) z=true)
include R sm
theorem SmT.big:2*t.e.mv.length+t.fi.length+t.cl.length+t.e.h.toNat*t.e.mv.length≤6000:=by
 obtain⟨a,b,c,d⟩:=sm
 have h0:=R.e.h.1
 have:t.e.h.toNat*t.e.mv.length≤3*4:=Nat.mul_le_mul (by omega) a
 omega
end
theorem ZhZ{t:TrD}(h:ZbX t=0):Zf3 t.e=0∧Zfx t.e t.fi=0∧ZeL t.e t.cl=0:=by
 unfold ZbX at h
 split at h
 ·rename_i h1
  split at h
  ·omega
  ·split at h
   ·rename_i h3;exact⟨h1,h3,h⟩
   ·rename_i h3;exact absurd h h3
 ·rename_i h1;exact absurd h h1
section
variable {t:TrD} {kind:Int} (ht:ZbX t=0) (hk:ZnZ kind=true) {v:Nat} (hv:v<t.e.mv.length)
include ht hk hv
omit ht hk hv in
omit ht hk hv in
end
structure TrOk (t:TrD):Prop where
 R:Zbd t
 ta:ZbX t=0
 L:LenT t
 S:SmE t
 b:3*t.e.mv.length+t.fi.length+t.cl.length≤32
section
variable {t:TrD} (h:TrOk t)
include h
theorem TrOk.flow:Zf3 t.e=0:=(ZhZ h.ta).1
theorem TrOk.mvf:∀ x∈t.e.mv,0≤x.f∧x.f<t.e.pl.length:=fun x hx=>(h.R.e.mv x hx).f
theorem TrOk.rows(kind:Int):(sysT t kind).r.length≤28∧∀ w∈(sysT t kind).r,RowZ w:=by
 have h1:=h.S.n
 have h2:=h.S.fi
 have h3:=h.S.cl
 have h4:=Zhc t kind
 exact⟨by show(ZbS t kind t.e.mv.length).length≤28;omega,fun w hw=>Zv0 h.R (by omega) hw⟩
theorem TrOk.fitG(kind:Int)(g:List Zaf)(K:Nat)(hg:Zai g t.e.mv.length=true)(hk:IntK K g)(hK:K≤1000000):FitG (sysT t kind) g :=
 Zrj h.S.n (by have:=(h.rows kind).1;have e:(sysT t kind).r=ZbS t kind t.e.mv.length:=rfl;rw[e]at this;omega) (h.rows kind).2 (Zbv h.R kind) hg hk hK
theorem TrOk.fit0(kind:Int):Fit (sysT t kind) [] 4 6 :=
 ZBq h.S.n (by have:=(h.rows kind).1;have e:(sysT t kind).r=ZbS t kind t.e.mv.length:=rfl;rw[e]at this;omega) (h.rows kind).2 ⟨by decide,fun t ht=>by cases ht⟩
theorem ZuL(e:EvD)(x:Int):IntK 1 (Zd7 e x):=ZjP fun i=>by
 unfold ownH
 split
 ·exact .inr (.inl rfl)
 ·exact .inl rfl
theorem TrOk.verdict(kind:Int)(x:Int):Zah Tryz.prog 42 [encS (sysT t kind),Zbk (Zd7 t.e x),dI x] (.agg (cV (Zgm (sysT t kind) (Zd7 t.e x) x))):=by
 have h1:=h.S.n
 have hr:=Zih t.e x
 have hk:=ZuL (t:=t) h t.e x
 exact Zvi _ _ _ (h.fitG kind _ 1 hr hk (by decide)) (h.fitG kind _ 1 (Zdd hr) (hk.opp hr (by omega)) (by decide)) (ZvN hr (by omega) hk (by decide))
theorem TrOk.goal{x:Int}(h0:0≤x)(hx:x<t.e.h):Zaa Tryz.prog 43 [ZcL t,dI x] (Zbk (Zd7 t.e x)):=ZEX t h.R h.ta h.L h.mvf h.flow x h0 hx
theorem TrOk.sys{kind:Int}(hk:ZnZ kind=true):Zah Tryz.prog 40 [ZcL t,dI kind] (.tup [encS (sysT t kind),dI 0]):=sys_c t h.R h.ta h.L kind hk
theorem TrOk.sol(kind:Int):Zah Tryz.prog 41 [encS (sysT t kind)] (.tup [Za0 (solD (sysT t kind)).1,Za0 (solD (sysT t kind)).2.1,dB (solD (sysT t kind)).2.2]):=Zmr _ (h.fit0 kind)
theorem Zmh{kind:Int}(hk:ZnZ kind=true):Zah Tryz.prog 9 [ZcL t,dI kind] (.tup [ZFm (Zcf t kind).1,dI (Zcf t kind).2]):=by
 have Zr:=Tryz.results9
 have k1:=h.sys hk
 have k2:=h.sol kind
 have hh:=h.R.e.h
 have hs6:=h.S.h
 unfold Zcf
 rw[if_pos ⟨h.ta,hk⟩]
 have kg:=fun(x:Nat) (hx:(x:Int)<t.e.h)=>h.goal (x:=x) (by omega) hx
 have kv:=fun(x:Nat)=>h.verdict kind x
 obtain⟨s,es⟩:∃ s,sysT t kind=s:=⟨_,rfl⟩
 rw[es]at k1 k2 kv ⊢
 clear es
 obtain⟨p,ep⟩:∃ p,solD s=p:=⟨_,rfl⟩
 rw[ep]at k2 ⊢
 clear ep
 obtain⟨a,b,c⟩:=p
 simp only at k2 ⊢
 refine inC Tryz.func9 rfl Tryz.ntmps9 ?_
 cases c
 ·refine aGo Zr ?_
  repeat with_reducible intro K hK
  rfl
 rw[if_pos rfl]
 refine aGo Zr ?_
 repeat with_reducible intro K hK
 refine aLe (Zcs 11 58 5 rfl) ?_
 simp only[go_sem]
 obtain⟨A,eA⟩:∃ A:Nat→List VerD,A=fun k=>(List.range k).map fun(x:Nat)=>Zgm s (Zd7 t.e x) x:=⟨_,rfl⟩
 have A0:A 0=[]:=by rw[eA];rfl
 have Al:∀ k,(A k).length=k:=fun k=>by rw[eA];simp
 have AN:∀ k,A (k+1)=A k++[Zgm s (Zd7 t.e k) k]:=fun k=>by rw[eA];simp only;rw[List.range_succ];simp
 have AE:A t.e.h.toNat=(ZC8 t.e).map fun(x:Nat)=>Zgm s (Zd7 t.e x) x:=by rw[eA];rfl
 obtain⟨H,eH⟩:∃ H:Nat,t.e.h.toNat=H:=⟨_,rfl⟩
 have eH2:t.e.h=(H:Int):=by omega
 rw[eH2]at kg
 rw[eH]at AE
 clear eA
 refine Zas (fun(k:Nat)=>[(2,.lp 0 0 0 0),(6,.lp 1 0 0 0),(11,.ls 2 k),(31,dI t.e.h),(32,dI k)]) (fun k=>[(0,⟨32,0,10,[cTr t],0,false⟩),(1,⟨99,0,2,[cS s],0,false⟩),(2,⟨58,k,5,(A k).map cV,0,false⟩)]) 3 0 (fun k=>k≤H) (fun k=>H-k) 0 (by omega) ?_ ?_
 ·refine Zak _ _ _ ?_ ?_ ?_ ?_ ?_ (.inl rfl)<;>simp[go_sem,okD,okDs,Zav,A0]
 rintro k hk
 obtain⟨hw,k0⟩:=ZaO k
 by_cases h2:(k:Int)<t.e.h
 ·have q1:=kg k (by omega)
  have q2:=kv k
  have eN:=AN k
  have la:=Al k
  generalize Zgm s (Zd7 t.e k) k=v at *
  generalize Zd7 t.e k=g at *
  generalize A k=B at *
  refine aGo (cj4 Zr k0 h2 (cj2 la hw)) ?_
  repeat with_reducible intro K hK
  exact Zad (k+1) (by omega) (by omega) (by refine Zak _ _ _ ?_ ?_ ?_ ?_ ?_ (.inl rfl)<;>simp[go_sem,okD,okDs,Zav,eN]<;>(rintro e (⟨a,_,rfl⟩|rfl)<;>rfl))
 obtain rfl:k=H:=by omega
 refine aGo (cj2 Zr h2) ?_
 repeat with_reducible intro K hK
 rw[Zao (fun _=>rfl),AE]
def suV(v:VerD):Bool:=v.s !=0
def suA(l:List VerD)(k:Nat):List Int:=((l.take k).filter suV).map VerD.h
theorem ZtV{kind:Int}(hk:ZnZ kind=true):Zah Tryz.prog 99 [ZcL t,dI kind] (.tup [Zab (Zkm t kind).1,dI (Zkm t kind).2]):=by
 have Zr:=Tryz.results99
 have k1:=Zmh h hk
 have hh:=h.R.e.h
 have hs6:=h.S.h
 have ll:(Zcf t kind).1.length≤6:=by
  unfold Zcf
  split
  ·split
   ·simp[ZC8];omega
   ·simp
  ·simp
 unfold Zkm
 generalize Zcf t kind=V at *
 obtain⟨l,e⟩:=V
 simp only at k1 ll ⊢
 refine inC Tryz.func99 rfl Tryz.ntmps99 ?_
 by_cases he:e=0
 rotate_left
 ·have he':(e !=0)=true:=by simpa using he
  rw[if_neg he]
  refine aGo (cj2 Zr he') ?_
  repeat with_reducible intro K hK
  rfl
 subst he
 rw[if_pos rfl,if_neg (by have:=Yb1 (fun v:VerD=>v.s !=0) l;omega)]
 refine aGo Zr ?_
 repeat with_reducible intro K hK
 refine aLe (Zcs 8 3 1 rfl) ?_
 simp only[go_sem]
 refine Zas (fun(k:Nat)=>[(8,.ls 1 (suA l k).length),(20,ZFm l),(21,dI l.length),(22,dI k)]) (fun k=>[(1,⟨3,(suA l k).length,1,(suA l k).map fun x=>[dI x],0,false⟩)]) 2 0 (fun k=>k≤l.length) (fun k=>l.length-k) 0 (by omega) ?_ ?_
 ·have e0:suA l 0=[]:=rfl
  refine Zak _ _ _ ?_ ?_ ?_ ?_ ?_ (.inl rfl)<;>simp[go_sem,okD,okDs,Zav,e0]
 rintro k hk
 obtain⟨hw,k0⟩:=ZaO k
 by_cases h2:(k:Int)<l.length
 ·obtain⟨v,hx⟩:=getE (l:=l) (k:=k) (by omega)
  have eN:suA l (k+1)=suA l k++if suV v then [v.h]else []:=by
   unfold suA
   rw[Yb4,hx,List.filter_append,List.map_append]
   cases hv:suV v<;>simp[hv]
  have la:(suA l k).length≤k:=by
   unfold suA
   rw[Yc0]
   refine Yc7 (Yb1 _ _) ?_
   rw[Yc1];omega
  have ev:suV v=(v.s !=0):=rfl
  cases hv:(v.s !=0)
  ·rw[ev,hv,if_neg Yc5,List.append_nil]at eN
   generalize suA l k=A at *
   refine aGo (cj4 Zr k0 h2 (cj3 hx hv hw)) ?_
   repeat with_reducible intro K hK
   exact Zad (k+1) (by omega) (by omega) (by refine Zak _ _ _ ?_ ?_ ?_ ?_ ?_ (.inl rfl)<;>simp[go_sem,okD,okDs,Zav,eN])
  ·rw[ev,hv,if_pos rfl]at eN
   generalize suA l k=A at *
   refine aGo (cj4 Zr k0 h2 (cj3 hx hv hw)) ?_
   repeat with_reducible intro K hK
   exact Zad (k+1) (by omega) (by omega) (by refine Zak _ _ _ ?_ ?_ ?_ ?_ ?_ (.inl rfl)<;>simp[go_sem,okD,okDs,Zav,eN]<;>(rintro e (⟨a,_,rfl⟩|rfl)<;>rfl))
 obtain rfl:k=l.length:=by omega
 have eA:suA l l.length=(l.filter fun v=>v.s !=0).map VerD.h:=by unfold suA;rw[Yc2];rfl
 have la:(suA l l.length).length≤6:=by
  rw[eA,Yc0]
  exact Yc7 (Yb1 _ _) ll
 have h9:¬ ((suA l l.length).length:Int)>8:=by omega
 refine aGo (cj3 Zr h2 h9) ?_
 repeat with_reducible intro K hK
 rw[Zao (fun _=>rfl),eA]
end
theorem Zrb(l:List Int)(x:Int)(hl:l.length≤4096):Zaa Tryz.prog 117 [Zab l,dI x] (dI (idxI (fun y=>x==y) l)):=by
 have Zr:=Tryz.results117
 refine inN Tryz.func117 rfl Tryz.ntmps117 fun I=>?_
 refine aGo Zr ?_
 repeat with_reducible intro K hK
 refine Zas (fun(k:Nat)=>[(0,Zab l),(1,dI x),(7,dI l.length),(8,dI k)]) (fun _=>[]) 0 0 (fun k=>k≤l.length∧(l.take k).any (fun y=>x==y)=false) (fun k=>l.length-k) 0 ⟨by omega,rfl⟩ ?_ ?_
 ·exact leGo trivial
 rintro k ⟨hk,hn⟩
 obtain⟨hw,h0⟩:=ZaO k
 by_cases h1:(k:Int)<l.length
 ·obtain⟨y,hx⟩:=getE (l:=l) (k:=k) (by omega)
  cases h2:(x==y)
  ·refine aGo (cj4 Zr h0 h1 (cj3 hx hw h2)) ?_
   repeat with_reducible intro K hK
   exact Zad (k+1) ⟨by omega,Zdm hx hn h2⟩ (by omega) (by exact leGo trivial)
  ·refine aGo (cj4 Zr h0 h1 (cj3 hx hw h2)) ?_
   repeat with_reducible intro K hK
   exact ZbA (Zrg hx hn h2).symm
 ·refine aGo (cj2 Zr h1) ?_
  repeat with_reducible intro K hK
  rw[Ya8 (by omega)]at hn
  exact ZbA (Zre hn).symm
theorem ZDD(l:List Int)(x:Int):l.any (fun y=>x==y)=l.contains x:=by
 induction l with
 | nil=>rfl
 | cons a l ih=>rw[List.any_cons,List.contains_cons,ih]
theorem ZhW(l:List Int)(x:Int)(hl:l.length≤4096):Zaa Tryz.prog 67 [Zab l,dI x] (dB (l.contains x)):=by
 have Zr:=Tryz.results67
 have hc:=Zrb l x hl
 refine inN Tryz.func67 rfl Tryz.ntmps67 fun I=>?_
 refine aGo Zr ?_
 repeat with_reducible intro K hK
 exact Zaj (by rw[← ZDD];exact Zrf _ _)
theorem ZCu(e:EvD)(h:Int):ownL e h=(List.range e.mv.length).filter fun(i:Nat)=>(decide ((i:Int)<e.mv.length)&&(Zch e (mvAt e i).f==0&&(decide (0≤(mvAt e i).d)&&decide ((mvAt e i).d≤100000))))&&(((e.pl[(mvAt e i).f.toNat]?).map PlD.h).getD (-1))==h:=by
 unfold ownL Zew Zko
 refine List.filter_congr fun i _=>?_
 rw[show((-1:Int) == -1)=true from rfl,Bool.true_or,Bool.true_and]
 cases decide ((i:Int)<e.mv.length)<;>cases Zch e (mvAt e i).f==0<;>cases(((e.pl[(mvAt e i).f.toNat]?).map PlD.h).getD (-1))==h<;>simp
theorem Zoy(e:EvD)(set:List Int):∀ n,(ZdJ e set n).length≤ZcE n fun h=>(ownL e h).length
 | 0=>by simp[ZdJ]
 | n+1=>by
   have ih:=Zoy e set n
   have h1:(if set.contains (n:Int)=true then []else Zvb e n).length≤(ownL e n).length:=by
    split
    ·simp
    ·simp[Zvb]
   simp only[ZdJ,Yb9,ZcE]
   omega
theorem ZoA(e:EvD)(set:List Int)(n:Nat):(ZdJ e set n).length≤e.mv.length:=by
 refine Yc7 (Zoy e set n) ?_
 have h:=ZkL (fun i:Nat=>decide ((i:Int)<e.mv.length)&&(Zch e (mvAt e i).f==0&&(decide (0≤(mvAt e i).d)&&decide ((mvAt e i).d≤100000)))) (fun i=>(((e.pl[(mvAt e i).f.toNat]?).map PlD.h).getD (-1))) n (List.range e.mv.length)
 rw[List.length_range]at h
 refine Yc7 (Zk1 n fun i _=>?_) h
 rw[ZCu]
 exact Ya4 _
section
variable {t:TrD} (h:TrOk t)
include h
theorem TrOk.big:2*t.e.mv.length+t.fi.length+t.cl.length+t.e.h.toNat*t.e.mv.length≤6000:=by
 obtain⟨a,b,c,d⟩:=h.S
 have:t.e.h.toNat*t.e.mv.length≤6*6:=Nat.mul_le_mul (by omega) a
 omega
theorem TrOk.explRows(kind:Int)(set:List Int):(ZfE t kind set).r.length≤32∧∀ w∈(ZfE t kind set).r,RowZ w:=by
 have h4:=Zhc t kind
 have h5:=ZoA t.e set t.e.h.toNat
 have h6:=h.b
 refine⟨by show(ZbS t kind t.e.mv.length++ZdJ t.e set t.e.h.toNat).length≤32;rw[Yb9];omega,fun w hw=>?_⟩
 rcases Yd5.1 hw with hw|hw
 ·exact(h.rows kind).2 w hw
 ·obtain⟨_,_,_,i,_,rfl⟩:=(ZgK _).1 hw
  exact ZwH (by decide +kernel)
theorem TrOk.explFit(kind:Int)(set:List Int):FitG (ZfE t kind set) [] :=
 Zrj h.S.n (h.explRows kind set).1 (h.explRows kind set).2 (ZjU h.R h.big) (by simp only[Zai,Ya2,decide_eq_true_eq];exact⟨by omega,rfl⟩) IntK.nil (by decide)
theorem TrOk.explSol(kind:Int)(set:List Int):Zah Tryz.prog 41 [encS (ZfE t kind set)] (.tup [Za0 (solD (ZfE t kind set)).1,Za0 (solD (ZfE t kind set)).2.1,dB (solD (ZfE t kind set)).2.2]):=Zmr _ (h.explFit kind set).f
theorem TrOk.explHolds(kind:Int)(set:List Int):Zah Tryz.prog 91 [encS (ZfE t kind set),Za0 (solD (ZfE t kind set)).1] (dB (Zap (ZfE t kind set) (solD (ZfE t kind set)).1)):=by
 have F:=h.explFit kind set
 obtain⟨a,b⟩:=h.explRows kind set
 refine Zz0 _ _ ⟨by omega,fun w hw=>?_⟩ ?_
 ·obtain⟨c,d,e⟩:=b w hw
  exact⟨⟨by omega,fun t ht=>by have:=e t ht;show(szF t.f:Int)≤4194304;omega⟩,by show(szF w.v:Int)≤4194304;omega⟩
 ·have ht:=F.tn
  unfold solD
  rw[F.r]
  simp only[if_true]
  split
  ·exact⟨by simp,fun f hf=>by cases hf⟩
  ·exact tnFs.sm ht.2.1
theorem ZuU(kind:Int)(set:List Int)(hl:set.length≤4096):Zah Tryz.prog 45 [ZcL t,encS (sysT t kind),Zab set] (dB (ZhL t kind set)):=by
 have Zr:=Tryz.results45
 have hresC:=Tryz.results90
 have k1:=h.explSol kind set
 have k2:=h.explHolds kind set
 have hf:=h.flow
 have kl:=fun(x:Nat)=>Zxc t.e h.L.e x (-1) 0 100000 h.mvf
 have q1:=nO_c
 have q0:=nZ_c
 have s1:=h.S.n
 have hh:=h.R.e.h
 have hs6:=h.S.h
 have hr:=(h.rows kind).1
 obtain⟨A,eA⟩:∃ A:Nat→List RowD,A=fun k=>ZbS t kind t.e.mv.length++ZdJ t.e set k:=⟨_,rfl⟩
 have A0:A 0=ZbS t kind t.e.mv.length:=by rw[eA];simp[ZdJ]
 have Al:∀ k,(A k).length≤34:=fun k=>by
  rw[eA];simp only
  rw[Yb9]
  have:=ZoA t.e set k
  have e:(sysT t kind).r=ZbS t kind t.e.mv.length:=rfl
  rw[e]at hr
  omega
 have AN:∀ k:Nat,A (k+1)=A k++if set.contains (k:Int)=true then []else(ownL t.e k).map fun i=>oneR i 2 (ofQ 0):=fun k=>by rw[eA];simp only[ZdJ,Yd3];rfl
 have AE:ZfE t kind set=⟨t.e.mv.length,A t.e.h.toNat⟩:=by rw[eA];rfl
 have hB:ZhL t kind set=((solD (ZfE t kind set)).2.2&&Zap (ZfE t kind set) (solD (ZfE t kind set)).1):=rfl
 rw[hB]
 rw[AE]at k1 k2 ⊢
 have eS:encS (sysT t kind) = .agg [dI t.e.mv.length,.sl ((A 0).map cW)]:=by rw[A0];rfl
 rw[eS]
 obtain⟨H,eH⟩:∃ H:Nat,t.e.h.toNat=H:=⟨_,rfl⟩
 have eH2:t.e.h=(H:Int):=by omega
 rw[eH]at k1 k2 ⊢
 have Ac:∀ k,(A k).length≤34:=Al
 clear eA A0 AE eS hB eH
 refine inC Tryz.func45 rfl Tryz.ntmps45 ?_
 refine ZrE (n:=1) ⟨⟩ Zr ?_
 repeat with_reducible intro K hK
 have r1:∀ (V:Nat)(st:St),StLe st ⟨tabT [(2,Zab set),(3,.lp 0 0 0 0),(4,.lp 1 0 0 0),(6,dB false)],tabM [(0,⟨32,0,10,[cTr t],0,false⟩),(1,⟨99,0,2,[[dI t.e.mv.length,.ls 2 V]],0,false⟩),(2,⟨153,V,6,(A 0).map cW,0,false⟩)],3,0⟩→K st:=by
  intro V st hle
  refine hK _ (aLe hle ?_)
  clear hle hK
  refine aGo Zr ?_
  repeat with_reducible intro K hK
  refine Zas (fun(x:Nat×Nat)=>[(2,Zab set),(3,.lp 0 0 0 0),(4,.lp 1 0 0 0),(6,dB false),(19,dI t.e.h),(20,dI x.1)]) (fun x=>[(0,⟨32,0,10,[cTr t],0,false⟩),(1,⟨99,0,2,[[dI t.e.mv.length,.ls 2 x.2]],0,false⟩),(2,⟨153,x.2,6,(A x.1).map cW,0,false⟩)]) 3 0 (fun x=>x.1≤H) (fun x=>H-x.1) (0,V) (by show 0≤_;omega) ?_ ?_
  ·refine Zak _ _ _ ?_ ?_ ?_ ?_ ?_ (.inl rfl)<;>simp[go_sem,okD,okDs,Zav]<;>exact ZbQ _ _
  clear V
  rintro⟨k,V⟩ hk
  simp only at hk
  obtain⟨hw,k0⟩:=ZaO k
  have eN:=AN k
  have la:=Al k
  by_cases h2:(k:Int)<t.e.h
  rotate_left
  ·obtain rfl:k=H:=by omega
   have hj:((A k).map cW).map (List.map datJ)=(A k).map cW:=Zao (fun _=>rfl) _
   obtain⟨P,eP⟩:∃ P,solD ⟨(t.e.mv.length:Int),A k⟩=P:=⟨_,rfl⟩
   obtain⟨b,eb⟩:∃ b,Zap ⟨(t.e.mv.length:Int),A k⟩ P.1=b:=⟨_,rfl⟩
   have hfin:((solD ⟨(t.e.mv.length:Int),A k⟩).2.2&&Zap ⟨(t.e.mv.length:Int),A k⟩ (solD ⟨(t.e.mv.length:Int),A k⟩).1)=(P.2.2&&b):=by rw[eP,eb]
   rw[eP]at k1 k2
   rw[eb]at k2
   clear eP eb
   obtain⟨x,y,c⟩:=P
   simp only at k1 k2 hfin
   change Zah _ _ [.agg [dI t.e.mv.length,.sl ((A k).map cW)]] _ at k1
   change Zah _ _ [.agg [dI t.e.mv.length,.sl ((A k).map cW)],Za0 x] _ at k2
   cases c
   ·refine aGo (cj3 Zr h2 hj) ?_
    repeat with_reducible intro K hK
    exact Zaj hfin.symm
   ·refine aGo (cj3 Zr h2 hj) ?_
    repeat with_reducible intro K hK
    exact Zaj hfin.symm
  have kL:=kl k
  rw[if_pos hf]at kL
  change Zaa _ _ _ (Zab (natI (ownL t.e k)))at kL
  have kc:=ZhW set k hl
  cases hc:set.contains (k:Int)
  rotate_left
  ·rw[hc]at kc eN
   rw[if_pos rfl,List.append_nil]at eN
   refine aGo (cj4 Zr h2 k0 hw) ?_
   repeat with_reducible intro K hK
   exact Zad (k+1,V) (by show k+1≤H;omega) (by show H-(k+1)<H-k;omega) (by refine Zak _ _ _ ?_ ?_ ?_ ?_ ?_ (.inl rfl)<;>simp[go_sem,okD,okDs,Zav,eN]<;>exact ZbQ _ _)
  rw[hc]at kc eN
  rw[if_neg Yc5]at eN
  have lo:=ZqL t.e k
  generalize ownL t.e k=O at *
  have lI:(natI O).length=O.length:=by simp[natI]
  refine aGo (cj3 Zr h2 k0) ?_
  repeat with_reducible intro K hK
  refine Zas (fun(x:Nat×Nat)=>[(2,Zab set),(3,.lp 0 0 0 0),(4,.lp 1 0 0 0),(6,dB false),(19,dI t.e.h),(20,dI k),(29,Zab (natI O)),(30,dI O.length),(31,dI x.1)]) (fun x=>[(0,⟨32,0,10,[cTr t],0,false⟩),(1,⟨99,0,2,[[dI t.e.mv.length,.ls 2 x.2]],0,false⟩),(2,⟨153,x.2,6,(A k++(O.take x.1).map fun i=>oneR i 2 (ofQ 0)).map cW,0,false⟩)]) 3 0 (fun x=>x.1≤O.length) (fun x=>O.length-x.1) (0,V) (by show 0≤_;omega) ?_ ?_
  ·refine Zak _ _ _ ?_ ?_ ?_ ?_ ?_ (.inl rfl)<;>simp[go_sem,okD,okDs,Zav,lI]<;>exact ZbQ _ _
  rintro⟨j,W⟩ hj
  simp only at hj
  obtain⟨hwj,j0⟩:=ZaO j
  by_cases h5:(j:Int)<O.length
  rotate_left
  ·obtain rfl:j=O.length:=by omega
   rw[Yc2,← eN]
   refine aGo (cj3 Zr h5 hw) ?_
   repeat with_reducible intro K hK
   exact Zad (k+1,W) (by show k+1≤H;omega) (by show H-(k+1)<H-k;omega) (by refine Zak _ _ _ ?_ ?_ ?_ ?_ ?_ (.inl rfl)<;>simp[go_sem,okD,okDs,Zav]<;>exact ZbQ _ _)
  obtain⟨i,hi⟩:∃ i,O[j]? =some i:=⟨_,Ya0 (by omega)⟩
  have hiI:(natI O)[j]? =some (i:Int):=by unfold natI;rw[Yb8,hi];rfl
  have eB:A k++(O.take (j+1)).map (fun i=>oneR i 2 (ofQ 0))=(A k++(O.take j).map fun i=>oneR i 2 (ofQ 0))++[oneR i 2 (ofQ 0)]:=by rw[Yb4,hi];simp
  have lB:(A k++(O.take j).map fun i=>oneR i 2 (ofQ 0)).length≤34+j:=by rw[Yb9,Yc0,Yc1];omega
  generalize (A k++(O.take j).map fun i=>oneR i 2 (ofQ 0))=B at *
  generalize natI O=I at *
  have ew:cW (oneR i 2 (ofQ 0))=[Zbk [⟨(i:Int),ofQ 1⟩],dI 2,dI (ofQ 0).p.s,Zab (ofQ 0).p.d,dI (ofQ 0).q.s,Zab (ofQ 0).q.d]:=rfl
  have ez:∀ M:Mem,List.map (List.map (fzT false M 4)) (B.map cW)=B.map cW:=fun M=>Zao (fun _=>rfl) _
  refine aGo (cj4 Zr h5 j0 (cj2 hiI hwj)) ?_
  repeat with_reducible intro K hK
  refine Zad (j+1,W+1) (by show j+1≤_;omega) (by show O.length-(j+1)<O.length-j;omega) ?_
  rw[eB]
  refine StLe.trans (Zdz 3 rfl) (StLe.trans (Ze4 2 4 rfl) (Zq8 (by simp only[go_sem,fzT,ez];exact rfl) ?_))
  refine Zak _ _ _ ?_ ?_ ?_ ?_ ?_ (.inl rfl)<;>simp[go_sem,okD,okDs,Zav,ew]
  all_goals (rintro e (⟨a,_,rfl⟩|rfl)<;>rfl)
 clear hK
 obtain⟨es,ee⟩:∃ es,(A 0).map cW=es:=⟨_,rfl⟩
 have hcell:∀ x∈es,x.length=6∧x.all D.isCell=true:=fun x hx=>by
  rw[← ee]at hx
  obtain⟨u,_,rfl⟩:=Yc6.1 hx
  exact⟨rfl,rfl⟩
 have hok:∀ keep,∀ x∈es,okDs keep x=true:=fun keep=>by rw[← ee];exact ZbQ _ _
 have hlen:es.length≤34:=by rw[← ee,Yc0];exact Al 0
 rw[ee]at r1 ⊢
 refine aGo Zr ?_
 repeat with_reducible intro K hK
 refine Zbq Tryz.func90 rfl (by kernel_rfl) (by kernel_rfl) (by kernel_rfl) ?_
 rw[Tryz.ntmps90]
 refine ZrE (n:=1) ⟨⟩ hresC ?_
 repeat with_reducible intro K hK
 refine ZhD (es:=es) Tryz.underlying97 rfl rfl rfl rfl rfl rfl (by kernel_rfl) (by kernel_rfl) rfl (fun h0=>?_) ?_
 ·refine aGo (cj2 Zr hresC) ?_
  repeat with_reducible intro K hK
  refine r1 0 _ (StLe.trans (ZdH 1 0 1 153 6 rfl rfl rfl) ?_)
  refine Zak _ _ _ ?_ ?_ ?_ ?_ ?_ (.inl rfl)<;>simp[go_sem,okD,okDs,Zav,h0]
 ·refine aGo (cj2 Zr hresC) ?_
  repeat with_reducible intro K hK
  refine⟨⟨hcell,by omega,by omega⟩,?_⟩
  refine aGo (cj2 Zr hresC) ?_
  repeat with_reducible intro K hK
  refine r1 1 _ ?_
  refine Zak _ _ _ ?_ ?_ ?_ ?_ ?_ (.inl rfl)<;>simp[go_sem,okD,okDs,Zav]
  exact hok _
end
abbrev Zjd(l:List Bool):D:=.sl (l.map fun b=>[dB b])
def blkL(e:EvD)(blk:Nat→Bool):List Bool:=(List.range e.mv.length).map blk
theorem Zos(e:EvD)(blk:Nat→Bool):(blkL e blk).length=e.mv.length:=by simp[blkL]
theorem Zru{e:EvD}{blk:Nat→Bool}{i:Nat}(h:i<e.mv.length):(blkL e blk)[i]? =some (blk i):=by
 unfold blkL;rw[Yb8,List.getElem?_range h];rfl
theorem ZqC(e:EvD)(m:Nat)(bl:List Bool)(hb:bl.length=e.mv.length):Zaa Tryz.prog 63 [Zfd e,dI m,Zjd bl] (dB (decide (m<e.mv.length))):=by
 have Zr:=Tryz.results63
 refine inN Tryz.func63 rfl Tryz.ntmps63 fun I=>?_
 have h0:(m:Int)≥0:=by omega
 have hb':((bl.length:Int)==(e.mv.length:Int))=true:=by rw[hb];exact beq_self_eq_true _
 by_cases h1:(m:Int)<e.mv.length
 ·have e1:decide (m<e.mv.length)=true:=decide_eq_true (by omega)
  rw[e1]
  exact aGo (cj4 Zr h0 h1 hb') trivial
 ·have e1:decide (m<e.mv.length)=false:=decide_eq_false (by omega)
  rw[e1]
  exact aGo (cj4 Zr h0 h1 hb') trivial
theorem ZmJ{e:EvD}{blk:Nat→Bool}{p:Int}{k i:Nat}:ZiR e blk p (k+1) i=if (mvAt e i).f=p then(if blk i then []else [i])++(if (mvAt e i).a then []else ZiR e blk p k (i+1))else ZiR e blk p k (i+1):=rfl
theorem Zv5(e:EvD)(blk:Nat→Bool)(m:Nat)(hm:m<e.mv.length)(hn:e.mv.length≤4096):Zaa Tryz.prog 65 [Zfd e,dI m,Zjd (blkL e blk)] (Zab (natI (Zfr e blk m))):=by
 have Zr:=Tryz.results65
 have hxm:=ZiT hm
 have m0:(0:Int)≤m:=by omega
 have hwm:IntKind.i64.wrap ((m:Int)+1)=((m+1:Nat):Int):=Zax (by omega) (by omega)
 obtain⟨p,hp⟩:∃ p,(mvAt e m).t=p:=⟨_,rfl⟩
 have hN:Zfr e blk m=ZiR e blk p (e.mv.length-(m+1)) (m+1):=by unfold Zfr;rw[hp]
 have hlb:=Zos e blk
 have hbl:=fun(i:Nat) (h:i<e.mv.length)=>Zru (blk:=blk) h
 rw[hN]
 obtain⟨R,hR⟩:∃ R,ZiR e blk p (e.mv.length-(m+1)) (m+1)=R:=⟨_,rfl⟩
 rw[hR]
 generalize blkL e blk=bl at *
 refine inN Tryz.func65 rfl Tryz.ntmps65 fun I=>?_
 refine aGo (cj2 Zr hwm) ?_
 repeat with_reducible intro K hK
 refine aLe (Zcs 7 3 1 rfl) ?_
 simp only[go_sem]
 refine Zas (fun(x:Nat×List Nat)=>[(1,dI m),(2,Zjd bl),(3,.lp 0 0 0 0),(7,.ls 1 x.2.length),(8,dI x.1)]) (fun x=>[(0,⟨28,0,8,[cEv e],0,false⟩),(1,⟨3,x.2.length,1,(natI x.2).map fun x=>[dI x],0,false⟩)]) 2 0
  (fun x=>x.1≤e.mv.length∧x.2.length≤x.1∧x.2++ZiR e blk p (e.mv.length-x.1) x.1=R) (fun x=>e.mv.length-x.1) (m+1,[]) ⟨by omega,Yb0 _,by simpa using hR⟩ ?_ ?_
 ·have e1:natI []=[]:=rfl
  exact leGo e1
 rintro⟨i,acc⟩ ⟨hi,hla,hx⟩
 simp only at hi hla hx ⊢
 have hw:IntKind.i64.wrap ((i:Int)+1)=((i+1:Nat):Int):=Zax (by omega) (by omega)
 have i0:(0:Int)≤i:=by omega
 have lI:(natI acc).length=acc.length:=by simp[natI]
 by_cases h1:(i:Int)<e.mv.length
 rotate_left
 ·obtain rfl:i=e.mv.length:=by omega
  rw[Nat.sub_self]at hx
  have e0:ZiR e blk p 0 e.mv.length=[]:=rfl
  rw[e0,List.append_nil]at hx
  subst hx
  generalize natI acc=A at *
  generalize acc.length=B at *
  refine aGo (cj2 Zr h1) ?_
  repeat with_reducible intro K hK
  exact congrArg D.sl (Zao (fun _=>rfl) _)
 have hxi:=ZiT (e:=e) (i:=i) (by omega)
 have hbi:=hbl i (by omega)
 rw[show e.mv.length-i=(e.mv.length-(i+1))+1 by omega,ZmJ]at hx
 by_cases h2:(mvAt e i).f=p
 rotate_left
 ·rw[if_neg h2]at hx
  have h2':((mvAt e i).f !=(mvAt e m).t)=true:=by rw[hp];simpa using h2
  refine aGo (cj4 Zr m0 i0 (cj4 h1 hxm hxi (cj2 h2' hw))) ?_
  repeat with_reducible intro K hK
  exact Zad (i+1,acc) ⟨by show i+1≤e.mv.length;omega,by show acc.length≤i+1;omega,hx⟩ (by show e.mv.length-(i+1)<e.mv.length-i;omega) (by exact leGo trivial)
 rw[if_pos h2]at hx
 have h2':((mvAt e i).f !=(mvAt e m).t)=false:=by rw[hp,h2];exact bne_self_eq_false _
 cases h3:blk i<;>cases h4:(mvAt e i).a
 ·rw[h3,h4,if_neg Yc5,if_neg Yc5,← Yd3]at hx
  rw[h3]at hbi
  have eI:natI (acc++[i])=natI acc++[(i:Int)]:=by simp[natI]
  have eL:(acc++[i]).length=acc.length+1:=by simp
  generalize acc++[i]=acc' at *
  generalize natI acc=A at *
  generalize acc.length=B at *
  refine aGo (cj4 Zr m0 i0 (cj4 h1 hxm hxi (cj4 h2' hbi h4 (cj3 lI hlb hw)))) ?_
  repeat with_reducible intro K hK
  exact Zad (i+1,acc') ⟨by show i+1≤e.mv.length;omega,by show acc'.length≤i+1;omega,hx⟩ (by show e.mv.length-(i+1)<e.mv.length-i;omega) (by exact leGo (cj2 eI eL))
 ·rw[h3,h4,if_neg Yc5,if_pos rfl,List.append_nil]at hx
  rw[h3]at hbi
  have eI:natI (acc++[i])=natI acc++[(i:Int)]:=by simp[natI]
  subst hx
  generalize natI acc=A at *
  generalize acc.length=B at *
  refine aGo (cj4 Zr m0 i0 (cj4 h1 hxm hxi (cj4 h2' hbi h4 (cj3 lI hlb hw)))) ?_
  repeat with_reducible intro K hK
  rw[eI,show Zab (A++[(i:Int)])=D.sl (A.map (fun x=>[dI x])++[[dI i]])from congrArg D.sl List.map_append]
  refine congrArg D.sl ?_
  rw[List.map_append,Zao (fun _=>rfl)]
  rfl
 ·rw[h3,h4,if_pos rfl,if_neg Yc5,Yc8]at hx
  rw[h3]at hbi
  refine aGo (cj4 Zr m0 i0 (cj4 h1 hxm hxi (cj4 h2' hbi h4 (cj2 hlb hw)))) ?_
  repeat with_reducible intro K hK
  exact Zad (i+1,acc) ⟨by show i+1≤e.mv.length;omega,by show acc.length≤i+1;omega,hx⟩ (by show e.mv.length-(i+1)<e.mv.length-i;omega) (by exact leGo trivial)
 ·rw[h3,h4,if_pos rfl,if_pos rfl,List.append_nil,List.append_nil]at hx
  rw[h3]at hbi
  subst hx
  generalize natI acc=A at *
  generalize acc.length=B at *
  refine aGo (cj4 Zr m0 i0 (cj4 h1 hxm hxi (cj4 h2' hbi h4 (cj2 hlb hw)))) ?_
  repeat with_reducible intro K hK
  exact congrArg D.sl (Zao (fun _=>rfl) _)
theorem ZlA{e:EvD}{blk:Nat→Bool}{p:Int}:∀ (k i:Nat),(ZiR e blk p k i).length≤k
 | 0,_=>Ya4 _
 | k+1,i=>by
   have ih:=ZlA (e:=e) (blk:=blk) (p:=p) k (i+1)
   rw[ZmJ]
   split
   ·rw[Yb9]
    have h1:(if blk i then([]:List Nat)else [i]).length≤1:=by split<;>simp
    have h2:(if (mvAt e i).a then []else ZiR e blk p k (i+1)).length≤k:=by split<;>simp_all
    omega
   ·omega
def Zlo(path:List Nat):Nat→Option Nat
 | 0=>none
 | k+1=>path[k]?
theorem ZnJ(l:List Nat)(m:Nat):(natI l).contains (m:Int)=l.contains m:=by
 rw[Bool.eq_iff_iff,List.contains_iff_mem,List.contains_iff_mem]
 unfold natI
 rw[Yc6]
 constructor
 ·rintro⟨x,hx,he⟩
  have:x=m:=by omega
  subst this;exact hx
 ·intro h;exact⟨m,h,rfl⟩
theorem ZxF(e:EvD)(blk:Nat→Bool)(hn:e.mv.length≤4096)(path:List Nat)(hne:path≠[])(hm:∀ m∈path,m<e.mv.length)(hl:path.length≤4096) :
 Zaa Tryz.prog 24 [Zfd e,Zab (natI path),Zjd (blkL e blk)] (dB (folB e blk none path)):=by
 have Zr:=Tryz.results24
 have hlb:=Zos e blk
 have hbl:=fun(i:Nat) (h:i<e.mv.length)=>Zru (blk:=blk) h
 have kf:=fun m:Nat=>ZqC e m (blkL e blk) hlb
 have kn:=fun(m:Nat) (h:m<e.mv.length)=>Zv5 e blk m h hn
 have kc:=fun(q m:Nat)=>ZhW (natI (Zfr e blk q)) m (by have:=ZlA (e:=e) (blk:=blk) (p:=(mvAt e q).t) (e.mv.length-(q+1)) (q+1);simp only[natI,Yc0];unfold Zfr;omega)
 obtain⟨F,hF0⟩:∃ F,folB e blk none path=F:=⟨_,rfl⟩
 rw[hF0]
 generalize blkL e blk=bl at *
 have lP:(natI path).length=path.length:=by simp[natI]
 refine inN Tryz.func24 rfl Tryz.ntmps24 fun I=>?_
 refine aGo Zr ?_
 repeat with_reducible intro K hK
 refine Zas (fun(k:Nat)=>[(1,Zab (natI path)),(2,Zjd bl),(3,.lp 0 0 0 0),(9,Zab (natI path)),(10,dI path.length),(11,dI k)]) (fun k=>[(0,⟨28,0,8,[cEv e],0,false⟩)]) 1 0 (fun k=>k≤path.length∧F=folB e blk (Zlo path k) (path.drop k)) (fun k=>path.length-k) 0 ⟨by omega,hF0.symm⟩ ?_ ?_
 ·exact leGo lP
 rintro k ⟨hk,hF⟩
 obtain⟨hw,k0⟩:=ZaO k
 by_cases h1:(k:Int)<path.length
 rotate_left
 ·obtain rfl:k=path.length:=by omega
  rw[List.drop_length]at hF
  have hp:(path.length:Int)>0:=by
   cases path with
   | nil=>exact absurd rfl hne
   | cons=>simp<;>omega
  have hF1:F=true:=hF
  generalize natI path=P at *
  refine aGo (cj4 Zr h1 lP hp) ?_
  repeat with_reducible intro K hK
  exact Zaj hF1.symm
 obtain⟨m,hx⟩:∃ m,path[k]? =some m:=⟨_,Ya0 (by omega)⟩
 have hxN:(natI path)[k]? =some (m:Int):=by unfold natI;rw[Yb8,hx];rfl
 have m1:=hm m (Ya7 hx)
 have m0:(0:Int)≤m:=by omega
 have kfm:=kf m
 rw[decide_eq_true m1]at kfm
 have hbm:=hbl m m1
 have hd:path.drop k=m ::path.drop (k+1):=by obtain⟨hi,rfl⟩:=Ya3.1 hx;rw[Yd7 hi]
 rw[hd]at hF
 have hFe:folB e blk (Zlo path k) (m ::path.drop (k+1))=(decide (m<e.mv.length)&&(!blk m&&((match Zlo path k with|none=>true|some q=>(Zfr e blk q).contains m)&&folB e blk (some m) (path.drop (k+1))))):=by
  cases Zlo path k<;>rfl
 rw[hFe,decide_eq_true m1,Bool.true_and]at hF
 have hpv:Zlo path (k+1)=some m:=hx
 cases hb:blk m
 rotate_left
 ·rw[hb]at hF hbm
  have hF1:F=false:=hF
  generalize natI path=P at *
  refine aGo (cj4 Zr h1 k0 (cj4 hxN m0 hbm lP)) ?_
  repeat with_reducible intro K hK
  exact Zaj hF1.symm
 rw[hb,Bool.not_false,Bool.true_and]at hF
 rw[hb]at hbm
 by_cases hk0:k=0
 ·have hp:¬ (k:Int)>0:=by omega
  have e0:Zlo path k=none:=by rw[hk0];rfl
  rw[e0]at hF
  simp only[Bool.true_and]at hF
  rw[← hpv]at hF
  generalize natI path=P at *
  refine aGo (cj4 Zr h1 k0 (cj4 hxN m0 hbm (cj3 lP hp hw))) ?_
  repeat with_reducible intro K hK
  exact Zad (k+1) ⟨by omega,hF⟩ (by omega) (by exact leGo trivial)
 obtain⟨j,hj⟩:∃ j,k=j+1:=⟨k-1,by omega⟩
 obtain⟨q,hq⟩:∃ q,path[j]? =some q:=⟨_,Ya0 (by omega)⟩
 have hqN:(natI path)[j]? =some (q:Int):=by unfold natI;rw[Yb8,hq];rfl
 have q1:=hm q (Ya7 hq)
 have kq:=kn q q1
 have kcq:=kc q m
 rw[ZnJ]at kcq
 have hp:(k:Int)>0:=by omega
 have hwj:IntKind.i64.wrap ((k:Int)-1)=(j:Int):=by rw[show(k:Int)-1=(j:Int) by omega];exact Zax (by omega) (by omega)
 have j0:(0:Int)≤j:=by omega
 have e1:Zlo path k=some q:=by rw[hj];exact hq
 rw[e1]at hF
 simp only at hF
 generalize natI path=P at *
 cases hc:(Zfr e blk q).contains m
 ·rw[hc,Bool.false_and]at hF
  rw[hc]at kcq
  generalize natI (Zfr e blk q)=N at *
  refine aGo (cj4 Zr h1 k0 (cj4 hxN m0 hbm (cj4 lP hp hwj (cj2 j0 hqN)))) ?_
  repeat with_reducible intro K hK
  exact Zaj hF.symm
 ·rw[hc,Bool.true_and,← hpv]at hF
  rw[hc]at kcq
  generalize natI (Zfr e blk q)=N at *
  refine aGo (cj4 Zr h1 k0 (cj4 hxN m0 hbm (cj4 lP hp hwj (cj3 j0 hqN hw)))) ?_
  repeat with_reducible intro K hK
  exact Zad (k+1) ⟨by omega,hF⟩ (by omega) (by exact leGo trivial)
set_option maxHeartbeats 4000000
theorem ZrL.r{x:List Zag}(S:ZrL fun i=>atP x (i:Nat)):0≤atP x (0:Nat)∧0≤atP x (1:Nat)∧atP x (2:Nat)=atP x (0:Nat)∧0≤atP x (3:Nat)∧atP x (3:Nat)≤atP x (2:Nat)∧atP x (4:Nat)=atP x (1:Nat):=⟨S.p0,S.p1,S.e2,S.p3,S.l3,S.e4⟩
theorem Zth:ZaB (sysT exT 0)=true:=Zbv ZbI 0
theorem ZpQ:Zap (sysT exT 0) (exX 2 0 2 2 0)=true:=Ztl (by decide) (by decide) (by decide)
theorem ZBs:Zap (sysT exT 0) (exX 2 1 2 2 1)=true:=Ztl (by decide) (by decide) (by decide)
theorem own0:ownL exE 0=[0]:=by decide +kernel
theorem own1:ownL exE 1=[1]:=by decide +kernel
theorem ZlS{h:Int}{i:Nat}(ho:ownL exE h=[i]){x:List Zag}(hx:Zap (sysT exT 0) x=true):0≤atG x (Zd7 exE h)∧(0<atG x (Zd7 exE h)↔0<atP x (i:Nat)):=by
 have S:=((ZeB Zth).1 hx).2.2
 obtain⟨a,b⟩:=Zxv (e:=exE) (h:=h) (x:=x) S.pos
 refine⟨a,b.trans ?_⟩
 rw[ho]
 simp
theorem ZlR:∃ a b:VerD,Zcf exT 0=([a,b],0)∧a.s=2∧b.s=1∧a.h=0∧b.h=1:=by
 have hx:∃ x,Zap (sysT exT 0) x=true:=⟨_,ZpQ⟩
 have g0:=Zih exE 0
 have g1:=Zih exE 1
 obtain⟨a1,a2,a3,a4⟩:=ZoC (h:=0) Zth (g:=Zd7 exE 0) g0 hx fun x h=>(ZlS own0 h).1
 obtain⟨b1,b2,b3,b4⟩:=ZoC (h:=1) Zth (g:=Zd7 exE 1) g1 hx fun x h=>(ZlS own1 h).1
 refine⟨Zgm (sysT exT 0) (Zd7 exE 0) 0,Zgm (sysT exT 0) (Zd7 exE 1) 1,?_,a1.2 fun x h=>?_,?_,a4,b4⟩
 ·unfold Zcf
  rw[if_pos ⟨ZAw,by decide⟩]
  rcases Zr4 Zth with⟨h,_⟩|⟨_,h⟩
  ·rw[h,if_pos rfl];rfl
  ·have:=ZpQ
   rw[h]at this;cases this
 ·rw[(ZlS own0 h).2]
  obtain⟨S,h3⟩:=ZxP h
  obtain⟨_,_,_,_,_,_⟩:=S.r
  grind
 ·rcases b3 with h|h|h
  ·exfalso
   have h1:=(b2.1 h) _ ZBs
   have h2:=(ZlS own1 ZBs).2.2 (by rw[(ZeH 2 1 2 2 1).2.1];decide)
   grind
  ·exact h
  ·exfalso
   have h1:=(b1.1 h) _ ZpQ
   have h2:=(ZlS own1 ZpQ).2.1 h1
   rw[(ZeH 2 0 2 2 0).2.1]at h2
   exact absurd h2 (by decide)
theorem ZFj:2*exT.e.mv.length+exT.fi.length+exT.cl.length+exT.e.h.toNat*exT.e.mv.length≤6000:=by decide
theorem Zrl{set:List Int}:ZhL exT 0 set=true↔set.contains 0=true:=by
 rw[ZAt ZbI ZFj]
 constructor
 ·rintro⟨x,hx,hz⟩
  cases hc:set.contains (0:Int)
  ·exfalso
   have h0:=hz 0 (by decide) hc 0 (by rw[show exT.e=exE from rfl,show((0:Nat):Int)=0 from rfl,own0];exact Yb7)
   obtain⟨S,h3⟩:=ZxP hx
   obtain⟨_,_,_,_,_,_⟩:=S.r
   grind
  ·rfl
 ·intro hc
  refine⟨exX 2 0 2 2 0,ZpQ,fun h hh hs i hi=>?_⟩
  have h2:h<2:=hh
  have:h=0∨h=1:=by omega
  rcases this with rfl|rfl
  ·rw[show((0:Nat):Int)=0 from rfl,hc]at hs;cases hs
  ·rw[show exT.e=exE from rfl,show((1:Nat):Int)=1 from rfl,own1,List.mem_singleton]at hi
   subst hi
   exact(ZeH 2 0 2 2 0).2.1
theorem ZDi:Zkm exT 0=([0,1],0):=by
 obtain⟨a,b,h,ha,hb,h0,h1⟩:=ZlR
 unfold Zkm
 rw[h]
 have e:([a,b].filter fun v=>v.s !=0)=[a,b]:=by simp[ha,hb]
 simp only[if_true,e,List.map,h0,h1]
 rfl
theorem ZFi:ZgR exT 0=([[0]],0):=by
 unfold ZgR
 rw[ZDi,if_pos rfl]
 have e0:ZhL exT 0 []=false:=by
  cases h:ZhL exT 0 []
  ·rfl
  ·have:=Zrl.1 h;cases this
 have e1:ZhL exT 0 [0]=true:=Zrl.2 (by decide)
 have e2:ZhL exT 0 [1]=false:=by
  cases h:ZhL exT 0 [1]
  ·rfl
  ·have:=Zrl.1 h;exact absurd this (by decide)
 have c0:Ze6 [0,1] 0=[[]]:=rfl
 have c1:Ze6 [0,1] 1=[[0],[1]]:=rfl
 have f0:(Ze6 [0,1] 0).filter (ZhL exT 0)=[]:=by rw[c0];simp[e0]
 have f1:(Ze6 [0,1] 1).filter (ZhL exT 0)=[[0]]:=by rw[c1];simp[e1,e2]
 show(Zim exT 0 [0,1] 3 0,(0:Int))=_
 unfold Zim
 rw[f0]
 simp only[List.isEmpty_nil,if_true]
 unfold Zim
 rw[f1]
 rfl
theorem Zog:Zaw exE=[0,1]:=by decide +kernel
theorem Zhs{lift:Nat}{x:List Zag}:Zap (ZaG exT 0 lift) x=true↔Zap (sysT (ZcS exT) 0) x=true∧(lift≠0→atP x (0:Nat)=0)∧(lift≠1→atP x (1:Nat)=0):=by
 rw[ZeA ZbI]
 refine and_congr_right fun _=>?_
 constructor
 ·intro h
  exact⟨fun hl=>h 0 (by decide) (by decide +kernel) fun e=>hl e.symm,fun hl=>h 1 (by decide) (by decide +kernel) fun e=>hl e.symm⟩
 ·rintro⟨h0,h1⟩
  exact lt5 (fun _ hl=>h0 fun e=>hl e.symm) (fun _ hl=>h1 fun e=>hl e.symm) (fun h=>absurd h (by decide +kernel)) (fun h=>absurd h (by decide +kernel)) (fun h=>absurd h (by decide +kernel))
theorem ZpS:Zap (ZaG exT 0 0) (exX 1 0 1 1 0)=true:=Zhs.2 ⟨Zoh (by decide) (by decide) (by decide) (by decide) rfl,fun h=>absurd rfl h,fun _=>(ZeH 1 0 1 1 0).2.1⟩
theorem ex_a2:Zap (ZaG exT 0 0) (exX 1 0 1 0 0)=true:=Zhs.2 ⟨Zoh (by decide) (by decide) (by decide) (by decide) rfl,fun h=>absurd rfl h,fun _=>(ZeH 1 0 1 0 0).2.1⟩
theorem ZFh{i:Nat}{g:List Zaf}(hg:(Zct exE)[i]? =some g):((Zc2 exT 0 0).is[i]?).getD false=true↔∃ x,Zap (ZaG exT 0 0) x=true∧0<atG x g:=(Ze1 ZbI 0 0).2 i g hg
theorem Zi8{x:List Zag}(h:Zap (ZaG exT 0 0) x=true):ZrL (fun i=>atP x (i:Nat))∧atP x (1:Nat)=0:=by
 obtain⟨a,_,c⟩:=Zhs.1 h
 exact⟨Zof a,c (by decide)⟩
theorem ZxQ{i:Nat}(hi:i<5):((Zc2 exT 0 0).is[i]?).getD false=true↔∃ x,Zap (ZaG exT 0 0) x=true∧0<atP x (i:Nat):=ZiD ZbI hi
theorem ZAv{p:Nat}{pl:PlD}(hp:exPl[p]? =some pl)(hk:pl.k≠0):((Zc2 exT 0 0).is[5+p]?).getD false=true↔∃ x,Zap (ZaG exT 0 0) x=true∧0<stN exE (fun i=>atP x (i:Nat)) p 5:=by
 rw[show 5+p=exE.mv.length+p from rfl,ZFh (Zig (e:=exE) hp)]
 simp only[Zl1 (e:=exE) hk]
 exact Iff.rfl
theorem ZBu{p:Nat}{pl:PlD}(hp:exPl[p]? =some pl)(hk:pl.k=0):((Zc2 exT 0 0).is[5+p]?).getD false=false:=by
 cases h:((Zc2 exT 0 0).is[5+p]?).getD false
 ·rfl
 ·obtain⟨x,_,b⟩:=(ZFh (Zig (e:=exE) hp)).1 h
  rw[ZyB hk]at b
  exact absurd b (by decide)
theorem Zti(f:Nat→Rat):stN exE f (2:Nat) 5=f 0-f 2∧stN exE f (3:Nat) 5=f 1-f 4∧stN exE f (4:Nat) 5=f 2-f 3+f 4∧stN exE f (5:Nat) 5=f 3:=by
 refine⟨?_,?_,?_,?_⟩
 ·show 0+f 0+0 + -(f 2)+0+0=_;grind
 ·show 0+0+f 1+0+0 + -(f 4)=_;grind
 ·show 0+0+0+f 2 + -(f 3)+f 4=_;grind
 ·show 0+0+0+0+f 3+0=_;grind
theorem Zf7{b:Bool}(h:¬ b=true):b=false:=by cases b;rfl;exact absurd rfl h
theorem ZFg:((Zc2 exT 0 0).is[0]?).getD false=true:=(ZxQ (by decide)).2 ⟨_,ZpS,by rw[(ZeH 1 0 1 1 0).1];decide⟩
theorem ZFf:((Zc2 exT 0 0).is[1]?).getD false=false:=Zf7 fun h=>by
 obtain⟨x,a,b⟩:=(ZxQ (by decide)).1 h
 rw[(Zi8 a).2]at b
 exact absurd b (by decide)
theorem ZFe:((Zc2 exT 0 0).is[2]?).getD false=true:=(ZxQ (by decide)).2 ⟨_,ZpS,by rw[(ZeH 1 0 1 1 0).2.2.1];decide⟩
theorem ZBw:((Zc2 exT 0 0).is[3]?).getD false=true:=(ZxQ (by decide)).2 ⟨_,ZpS,by rw[(ZeH 1 0 1 1 0).2.2.2.1];decide⟩
theorem ZE6{x:List Zag}(h:Zap (ZaG exT 0 0) x=true):atP x (4:Nat)=0:=by
 obtain⟨S,h1⟩:=Zi8 h
 exact S.r.2.2.2.2.2.trans h1
theorem ZBv:((Zc2 exT 0 0).is[4]?).getD false=false:=Zf7 fun h=>by
 obtain⟨x,a,b⟩:=(ZxQ (by decide)).1 h
 rw[ZE6 a]at b
 exact absurd b (by decide)
theorem ZFd:((Zc2 exT 0 0).is[7]?).getD false=false:=Zf7 fun h=>by
 obtain⟨x,a,b⟩:=(ZAv (p:=2) rfl (by decide)).1 h
 rw[(Zti _).1,(Zi8 a).1.e2]at b
 grind
theorem ZFc:((Zc2 exT 0 0).is[8]?).getD false=false:=Zf7 fun h=>by
 obtain⟨x,a,b⟩:=(ZAv (p:=3) rfl (by decide)).1 h
 rw[(Zti _).2.1,(Zi8 a).1.e4]at b
 grind
theorem ZFb:((Zc2 exT 0 0).is[9]?).getD false=true:=(ZAv (p:=4) rfl (by decide)).2 ⟨_,ex_a2,by
 obtain⟨_,_,h2,h3,h4⟩:=ZeH 1 0 1 0 0
 rw[(Zti _).2.2.1,h2,h3,h4];decide +kernel⟩
theorem ZDl:((Zc2 exT 0 0).is[10]?).getD false=true:=(ZAv (p:=5) rfl (by decide)).2 ⟨_,ZpS,by rw[(Zti _).2.2.2,(ZeH 1 0 1 1 0).2.2.2.1];decide⟩
theorem ZDk{x:List Zag}(h:Zap (ZaG exT 0 1) x=true):atP x (3:Nat)≤0:=by
 obtain⟨a,b,_⟩:=Zhs.1 h
 have S:=Zof a
 have h0:=b (by decide)
 obtain⟨_,_,_,_,_,_⟩:=S.r
 grind
theorem ZE8:ZaN exT exF=[Zc2 exT 0 0]:=by
 have h1:((Zc2 exT 0 1).is[3]?).getD false=false:=Zf7 fun h=>by
  obtain⟨x,a,b⟩:=(ZiD (lift:=1) (kind:=0) ZbI (i:=3) (by decide)).1 h
  have:=ZDk a
  grind
 unfold ZaN
 rw[show exT.e=exE from rfl,Zog]
 simp only[List.map,List.filter]
 rw[show exF.v.toNat=3 from rfl,show exF.k=0 from rfl,ZBw,h1]
theorem ZxS(i:Nat):hasR (ZaN exT exF) i=((Zc2 exT 0 0).is[i]?).getD false:=by rw[ZE8];simp[hasR]
theorem ZpR:ZhU exT exF=[0,2,3]:=by
 unfold ZhU
 rw[show exT.e.mv.length=5 from rfl,show List.range 5=[0,1,2,3,4]from rfl]
 simp only[List.filter,ZxS,ZFg,ZFf,ZFe,ZBw,ZBv]
theorem ZxR:Zgh exT exF=[4,5]:=by
 unfold Zgh
 rw[show exT.e.pl.length=6 from rfl,show exT.e.mv.length=5 from rfl,show List.range 6=[0,1,2,3,4,5]from rfl]
 have h5:=ZBu (p:=0) rfl rfl
 have h6:=ZBu (p:=1) rfl rfl
 simp only[List.filter,ZxS,Nat.reduceAdd,Nat.add_zero,h5,h6,ZFd,ZFc,ZFb,ZDl]
theorem ZDj:Ziw exT exF=[3]:=by
 unfold Ziw
 rw[ZpR]
 decide +kernel
theorem Ztk:Zis exT exF 4 (Zgf exT exF 4)=true∧Zis exT exF 3 (Zgf exT exF 4)=false:=by
 have hs0:=Zc8 ZbI 0 0
 have hs1:=Zc8 ZbI 0 1
 have p0:ZiI exT exF 4 0=maxY (ZaG exT 0 0) (ZaX (4:Nat) 1):=by
  unfold ZiI
  have hm:=ZnQ (g:=ZaX (3:Nat) 1) hs0 (Zcj (by decide) (by decide)) fun x hx=>by
   have:=(Zi8 hx).1.r.2.2.2.1
   rw[Zec];grind
  have:posD (ZaX exF.v 1) (maxX (ZaG exT exF.k 0) (ZaX exF.v 1))=true:=by
   rcases hm with⟨h,_⟩|⟨h1,h2⟩
   ·have:=ZpS
    rw[h]at this;cases this
   ·obtain⟨_,a,b,_⟩:=Zbb.1 h1
    refine(ZkC (n:=5) (Zcj (by decide) (by decide)) a b).2 (h2 _ ZpS ?_)
    rw[Zec,(ZeH 1 0 1 1 0).2.2.2.1];decide +kernel
  rw[this,if_pos rfl];rfl
 have p1:ZiI exT exF 4 1=maxY (ZaG exT 0 1) (ZaX (3:Nat) 1):=by
  unfold ZiI
  have:posD (ZaX exF.v 1) (maxX (ZaG exT exF.k 1) (ZaX exF.v 1))=false:=Zf7 fun h=>by
   have hm:=ZnQ (g:=ZaX (3:Nat) 1) hs1 (Zcj (by decide) (by decide)) fun x hx=>by
    have:=(Zof (Zhs.1 hx).1).r.2.2.2.1
    rw[Zec];grind
   rcases hm with⟨_,h2⟩|⟨h1,_⟩
   ·rw[show maxX (ZaG exT exF.k 1) (ZaX exF.v 1)=[]from h2,Zwr]at h;cases h
   ·obtain⟨_,a,b,_⟩:=Zbb.1 h1
    have h3:=(ZkC (n:=5) (Zcj (by decide) (by decide)) a b).1 h
    have h4:=ZDk h1
    have h5:atG (maxX (ZaG exT 0 1) (ZaX (3:Nat) 1)) (ZaX (3:Nat) 1)=1*atP (maxX (ZaG exT 0 1) (ZaX (3:Nat) 1)) (3:Nat):=Zec
    have h6:0<atG (maxX (ZaG exT 0 1) (ZaX (3:Nat) 1)) (ZaX (3:Nat) 1):=h3
    rw[h5]at h6
    grind
  rw[this,if_neg Yc5];rfl
 have n0:ZdO (ZaG exT 0 0) (4:Nat) (maxY (ZaG exT 0 0) (ZaX (4:Nat) 1))=true:=ZmK hs0 (by decide) ⟨_,ZpS⟩ fun x hx=>by rw[ZE6 hx];exact Rat.le_refl
 have z1:Zap (ZaG exT 0 1) (exX 0 1 0 0 1)=true:=Zhs.2 ⟨Zoh (by decide) (by decide) (by decide) (by decide) rfl,fun _=>(ZeH 0 1 0 0 1).1,fun h=>absurd rfl h⟩
 have n1:ZdO (ZaG exT 0 1) (3:Nat) (maxY (ZaG exT 0 1) (ZaX (3:Nat) 1))=true:=ZmK hs1 (by decide) ⟨_,z1⟩ fun x hx=>ZDk hx
 have n2:∀ y,ZdO (ZaG exT 0 0) (3:Nat) y=false:=fun y=>Zf7 fun h=>by
  have:=Zq0 hs0 (by decide) h ZpS
  rw[(ZeH 1 0 1 1 0).2.2.2.1]at this
  exact absurd this (by decide)
 have ep:Zgf exT exF 4=[maxY (ZaG exT 0 0) (ZaX (4:Nat) 1),maxY (ZaG exT 0 1) (ZaX (3:Nat) 1)]:=by
  unfold Zgf
  rw[show exT.e=exE from rfl,Zog]
  simp only[List.map,p0,p1]
 rw[ep]
 unfold Zis
 rw[show exT.e=exE from rfl,Zog,show exF.k=0 from rfl,show exF.v=(3:Nat)from rfl]
 constructor
 ·simp only[List.length_cons,List.length_nil,List.zip_cons_cons,List.zip_nil_right,List.all_cons,List.all_nil,n0,n1,n2,Bool.or_true,Bool.true_or,decide_true,Bool.and_self]
 ·simp only[List.length_cons,List.length_nil,List.zip_cons_cons,List.zip_nil_right,List.all_cons,List.all_nil,n2,Bool.or_false,Bool.false_and,Bool.and_false]
def ZlK(e:EvD)(p:Int):List Nat:=Zew e e.mv.length fun m=>m.t==p
def blkT(t:TrD)(kind:Int)(i:Nat):Bool:=((mvAt t.e i).s != -1&&((intD t.e.ce t.e.re (mvAt t.e i).s (mvAt t.e i).r (mvAt t.e i).d).ok&&sgnD (intD t.e.ce t.e.re (mvAt t.e i).s (mvAt t.e i).r (mvAt t.e i).d).hi==0))||t.cl.any fun c=>c.k==kind&&c.v==(i:Int)
noncomputable def Zt8 (t:TrD) (f:FiD) (p:Nat):Bool:=(ZlK t.e p).any fun i=>(Ziw t f).contains i
noncomputable def Zsu (t:TrD) (f:FiD):List Nat:=(ZaN t f).map ResD.l
noncomputable def ZxE (t:TrD) (f:FiD) (i:Nat):Bool:=(Zsu t f).any fun o=> !(Zdo t.e (blkT t f.k) o i).isEmpty&&Ze5 t.e (blkT t f.k) (Zdo t.e (blkT t f.k) o i)
section
variable {t:TrD} (R:Zbd t)
include R
theorem ZAR{kind:Int}{x:List Zag}(hx:Zap (sysT (ZcS t) kind) x=true){i:Nat}(hi:i<t.e.mv.length)(hb:blkT t kind i=true):atP x (i:Nat)=0:=by
 have S:=((ZeB (Zbv (Zb2 R) kind)).1 hx).2.2
 have h0:0≤atP x (i:Nat):=S.pos i hi
 simp only[blkT,Bool.or_eq_true,Ya2,bne_iff_ne,beq_iff_eq]at hb
 rcases hb with⟨h1,h2,h3⟩|h
 ·have e:hiI t.e (mvAt t.e i)=((intD t.e.ce t.e.re (mvAt t.e i).s (mvAt t.e i).r (mvAt t.e i).d).hi,(intD t.e.ce t.e.re (mvAt t.e i).s (mvAt t.e i).r (mvAt t.e i).d).ok):=by unfold hiI;rw[if_neg h1]
  have c:atP x (i:Nat)≤qOf (hiI t.e (mvAt t.e i)).1:=S.cap i hi (by show(hiI t.e (mvAt t.e i)).2=true;rw[e];exact h2)
  have o:=ZEV t.e (mvAt t.e i) (by rw[e];exact h2)
  rw[e]at c o
  simp only at c o
  have:qOf (intD t.e.ce t.e.re (mvAt t.e i).s (mvAt t.e i).r (mvAt t.e i).d).hi=0:=by
   obtain⟨q,hq⟩:∃ q,(intD t.e.ce t.e.re (mvAt t.e i).s (mvAt t.e i).r (mvAt t.e i).d).hi=ofQ q:=⟨_,ZcF o⟩
   rw[hq,ZbN,ZdF]at h3
   rw[hq,Zay];exact h3
  rw[this]at c
  grind
 ·refine S.cle i hi ?_
  rw[List.any_eq_true]at h
  obtain⟨c,hc,h⟩:=h
  unfold cleK
  exact List.length_pos_of_mem (List.mem_filter.2 ⟨hc,h⟩)
theorem ZkH{f:FiD}{i:Nat}:i∈Ziw t f↔i<t.e.mv.length∧hasR (ZaN t f) i=true∧Zch t.e (mvAt t.e i).t=5:=by
 simp only[Ziw,ZhU,List.mem_filter,Yd2,beq_iff_eq,and_assoc]
theorem ZsN{p:Int}{i:Nat}:i∈ZlK t.e p↔i<t.e.mv.length∧(mvAt t.e i).t=p:=by
 simp only[ZlK,Zew,List.mem_filter,Yd2,Ya2,decide_eq_true_eq,beq_iff_eq]
 exact⟨fun⟨a,_,b⟩=>⟨a,b⟩,fun⟨a,b⟩=>⟨a,by omega,b⟩⟩
theorem Zr3{f:FiD}{p:Nat}{pl:PlD}(hp:t.e.pl[p]? =some pl):Zt8 t f p=true↔pl.k=5∧∃ i,i<t.e.mv.length∧(mvAt t.e i).t=p∧hasR (ZaN t f) i=true:=by
 unfold Zt8
 rw[List.any_eq_true]
 constructor
 ·rintro⟨i,hi,hs⟩
  obtain⟨a,b⟩:=(ZsN R).1 hi
  obtain⟨_,c,d⟩:=(ZkH R).1 (List.contains_iff_mem.1 hs)
  rw[b,Zf2 hp]at d
  exact⟨d,i,a,b,c⟩
 ·rintro⟨hk,i,a,b,c⟩
  exact⟨i,(ZsN R).2 ⟨a,b⟩,List.contains_iff_mem.2 ((ZkH R).2 ⟨a,c,by rw[b,Zf2 hp];exact hk⟩)⟩
theorem Zt7{f:FiD}{p:Nat}{pl:PlD}(hp:t.e.pl[p]? =some pl)(hk:pl.k=5):Zt8 t f p=(Zgh t f).contains p:=by
 rw[Bool.eq_iff_iff,Zr3 R hp,List.contains_iff_mem]
 have hlt:p<t.e.pl.length:=(Ya3.1 hp).1
 simp only[Zgh,List.mem_filter,Yd2,Zyn R hp hk,hk,hlt,true_and]
theorem Zy2{f:FiD}{p:Nat}{pl:PlD}(hp:t.e.pl[p]? =some pl)(hk:pl.k≠5):Zt8 t f p=false:=by
 cases h:Zt8 t f p
 ·rfl
 ·exact absurd ((Zr3 R hp).1 h).1 hk
theorem ZxD{f:FiD}{i:Nat}(hi:i∈Ziw t f):ZxE t f i=true:=by
 obtain⟨a,b,_⟩:=(ZkH R).1 hi
 obtain⟨r,hr,h1,h2,h3⟩:=ZCt R (blk:=blkT t f.k) (fun x hx i hi hb=>ZAR R hx hi hb) a b
 obtain⟨p1,p2⟩:=ZCs h1 a h2 h3
 unfold ZxE
 rw[List.any_eq_true]
 refine⟨r.l,Yc6.2 ⟨r,hr,rfl⟩,?_⟩
 rw[p2,Bool.and_true,Bool.not_eq_true',List.isEmpty_eq_false_iff]
 exact p1
end
def clB(t:TrD)(kind:Int)(i:Nat)(k:Nat):Bool:=(t.cl.take k).any fun c=>c.k==kind&&c.v==(i:Int)
theorem ZAK{t:TrD}{kind:Int}{i k:Nat}{c:ClD}(h:t.cl[k]? =some c):clB t kind i (k+1)=(clB t kind i k||(c.k==kind&&c.v==(i:Int))):=by
 unfold clB
 rw[Yb4,h,List.any_append]
 simp
theorem Zys(t:TrD)(L:LenT t)(kind:Int)(i:Nat)(hi:i<t.e.mv.length) :
 Zah Tryz.prog 20 [ZcL t,dI kind,dI i] (dB (blkT t kind i)):=by
 have Zr:=Tryz.results20
 have hx:=ZiT hi
 have i0:(0:Int)≤i:=by omega
 have hk0:(mvAt t.e i).s ≠ -1→(intD t.e.ce t.e.re (mvAt t.e i).s (mvAt t.e i).r (mvAt t.e i).d).ok=true→szF (intD t.e.ce t.e.re (mvAt t.e i).s (mvAt t.e i).r (mvAt t.e i).d).hi≤4:=fun h1 h2=>by
  have e:hiI t.e (mvAt t.e i)=((intD t.e.ce t.e.re (mvAt t.e i).s (mvAt t.e i).r (mvAt t.e i).d).hi,(intD t.e.ce t.e.re (mvAt t.e i).s (mvAt t.e i).r (mvAt t.e i).d).ok):=by unfold hiI;rw[if_neg h1]
  have:=ZEU (e:=t.e) (x:=mvAt t.e i) (by rw[e];exact h2)
  rw[e]at this;exact this
 have k1:=Zxm t.e.ce t.e.re (mvAt t.e i).s (mvAt t.e i).r (mvAt t.e i).d L.e.ce L.e.re
 have hcl:=L.cl
 have eB:blkT t kind i=(((mvAt t.e i).s != -1&&((intD t.e.ce t.e.re (mvAt t.e i).s (mvAt t.e i).r (mvAt t.e i).d).ok&&sgnD (intD t.e.ce t.e.re (mvAt t.e i).s (mvAt t.e i).r (mvAt t.e i).d).hi==0))||clB t kind i t.cl.length):=by unfold blkT clB;rw[Yc2]
 rw[eB]
 clear eB
 generalize mvAt t.e i=x at *
 generalize intD t.e.ce t.e.re x.s x.r x.d=J at *
 obtain⟨B,hB⟩:∃ B:Bool,(x.s != -1&&(J.ok&&sgnD J.hi==0))=B:=⟨_,rfl⟩
 refine inC Tryz.func20 rfl Tryz.ntmps20 ?_
 refine ZrE (n:=3) ⟨⟩ (cj3 Zr hx i0) ?_
 repeat with_reducible intro K hK
 have main:True→∀ st,StLe st ⟨tabT [(1,dI kind),(2,dI i),(3,.lp 0 0 0 0),(11,dB B)],tabM [(0,⟨32,0,10,[cTr t],0,false⟩)],1,0⟩→K st:=by
  intro _ st hle
  refine hK _ (aLe hle ?_)
  clear hle hK
  rw[hB]
  refine aGo Zr ?_
  repeat with_reducible intro K hK
  refine Zas (fun(k:Nat)=>[(1,dI kind),(2,dI i),(3,.lp 0 0 0 0),(11,dB (B||clB t kind i k)),(12,dI k)]) (fun k=>[(0,⟨32,0,10,[cTr t],0,false⟩)]) 1 0 (fun k=>k≤t.cl.length) (fun k=>t.cl.length-k) 0 (by omega) ?_ ?_
  ·have e0:(B||clB t kind i 0)=B:=by show(B||false)=B;exact Bool.or_false B
   exact leGo e0
  rintro k hk
  obtain⟨hw,k0⟩:=ZaO k
  by_cases h1:(k:Int)<t.cl.length
  rotate_left
  ·obtain rfl:k=t.cl.length:=by omega
   generalize (B||clB t kind i t.cl.length)=R at *
   exact aGo (cj2 Zr h1) trivial
  obtain⟨c,hc⟩:∃ c,t.cl[k]? =some c:=⟨_,Ya0 (by omega)⟩
  have eK:(B||clB t kind i (k+1))=((B||clB t kind i k)||(c.k==kind&&c.v==(i:Int))):=by rw[ZAK hc,Bool.or_assoc]
  generalize (B||clB t kind i k)=B1 at *
  cases B1
  ·rw[Bool.false_or]at eK
   cases c1:(c.k==kind)
   ·rw[c1,Bool.false_and]at eK
    refine aGo (cj4 Zr h1 k0 (cj3 hc c1 hw)) ?_
    repeat with_reducible intro K hK
    exact Zad (k+1) (by omega) (by omega) (by exact leGo eK)
   ·rw[c1,Bool.true_and]at eK
    refine aGo (cj4 Zr h1 k0 (cj3 hc c1 hw)) ?_
    repeat with_reducible intro K hK
    exact Zad (k+1) (by omega) (by omega) (by exact leGo eK)
  ·rw[Bool.true_or]at eK
   refine aGo (cj4 Zr h1 k0 (cj2 hc hw)) ?_
   repeat with_reducible intro K hK
   exact Zad (k+1) (by omega) (by omega) (by exact leGo eK)
 clear hK
 cases c1:(x.s != -1)
 ·have eB:B=false:=by rw[← hB,c1];rfl
  refine aGo (cj2 Zr c1) ?_
  repeat with_reducible intro K hK
  exact main trivial _ (by rw[eB];exact leGo trivial)
 cases c2:J.ok
 ·have eB:B=false:=by rw[← hB,c1,c2];rfl
  refine aGo (cj3 Zr c1 c2) ?_
  repeat with_reducible intro K hK
  exact main trivial _ (by rw[eB];exact leGo trivial)
 have ks:=(Zzd J.hi (by have:=hk0 (by simpa using c1) c2;omega)).toN rfl
 have eB:B=(sgnD J.hi==0):=by rw[← hB,c1,c2];rfl
 refine aGo (cj3 Zr c1 c2) ?_
 repeat with_reducible intro K hK
 exact main trivial _ (by rw[eB];exact leGo trivial)
section ifl
variable [Ifl]
theorem Zw5{E β m nx w}(h:ZaU E β m nx w){w':World}(hB:Below w.heap.size w w'){g id nx':Nat}(hg:w.heap.size≤g)(hid:m id=none)(hnx:nx≤nx')(hlt:id<nx')(blk:Blk)(cs:Array Value)(hc:w'.heap[g]? =some (.cells cs blk.T (0,0)))
 (hfz:blk.fz≤blk.es.length) (hwid:∀ (i:Nat)(e:List D),blk.es[i]? =some e→e.length=blk.k) (hsz:blk.es.length*blk.k≤cs.size)
 (hcs:∀ (i j:Nat)(d:D),cellAt blk.es i j=some d→∃ u,cs[i*blk.k+j]? =some u∧d = .v u) :
 ZaU E (upd β id (some g)) (upd m id (some blk)) nx' w'∧Zbf β m w (upd β id (some g)) (upd m id (some blk)) w'∧ZaA (safe E β m) w (safe E (upd β id (some g)) (upd m id (some blk))) w':=by
 have hk:∀ b,b<w.heap.size→w'.heap[b]? =w.heap[b]?:=hB.block
 have hne:∀ x y,m x=some y→x≠id:=fun x y hx e=>by rw[e,hid]at hx;cases hx
 have hm:Zbf β m w (upd β id (some g)) (upd m id (some blk)) w':=by
  refine⟨fun x y hx=>⟨y,by rw[Zac _ _ (hne x y hx)];exact hx,Ya4 _,fun _=>⟨rfl,rfl,by rw[Zac _ _ (hne x y hx)]⟩⟩,fun b n hr=>Zg9 hk hr⟩
 have hs:ZaA (safe E β m) w (safe E (upd β id (some g)) (upd m id (some blk))) w':=by
  intro b o u h1 h2
  have hl:=Zf1 h2
  refine⟨⟨h1.1,fun x y hx hy=>?_⟩,(hB.cell (p:=⟨b,o,none⟩) hl).trans h2⟩
  by_cases e:x=id
  ·subst e
   rw[Zae]at hy
   simp only[Ya1]at hy
   have:b<w.heap.size:=hl
   omega
  ·rw[Zac _ _ e]at hx hy
   exact h1.2 x y hx hy
 have hblt:∀ x y b,m x=some y→β x=some b→b<w.heap.size:=fun x y b hx hb=>by
  obtain⟨_,cs,h4,_⟩:=h.row x y b hx hb
  exact(Ya5.1 h4).1
 refine⟨⟨h.below.trans (hB.mono h.below.size),?_,?_,?_,?_,?_,?_⟩,hm,hs⟩
 ·intro x y hx
  by_cases e:x=id
  ·subst e;exact hlt
  ·rw[Zac _ _ e]at hx;exact Nat.lt_of_lt_of_le (h.lt x y hx) hnx
 ·intro x y hx
  by_cases e:x=id
  ·subst e;rw[Zae]at hx;cases hx;exact hfz
  ·rw[Zac _ _ e]at hx;exact h.fz x y hx
 ·intro x y hx
  by_cases e:x=id
  ·subst e;rw[Zae]at hx;cases hx;exact hwid
  ·rw[Zac _ _ e]at hx;exact h.wid x y hx
 ·intro x y hx hb
  by_cases e:x=id
  ·subst e;rw[Zae]at hb;cases hb
  ·rw[Zac _ _ e]at hx hb;exact h.non x y hx hb
 ·intro x y b hx hb
  by_cases e:x=id
  ·subst e
   rw[Zae]at hx hb
   cases hx
   cases hb
   refine⟨Yc7 h.below.size hg,cs,hc,hsz,fun i j d hd=>?_⟩
   obtain⟨u,h1,rfl⟩:=hcs i j d hd
   exact⟨u,h1,.v _⟩
  ·rw[Zac _ _ e]at hx hb
   obtain⟨h3,cs',h4,h5,h6⟩:=h.row x y b hx hb
   refine⟨h3,cs',by rw[hk b (hblt x y b hx hb)];exact h4,h5,fun i j d hd=>?_⟩
   obtain⟨u,h7,h8⟩:=h6 i j d hd
   exact⟨u,h7,h8.mono hm hs⟩
 ·intro x1 x2 y1 y2 b h1 h2 h3 h4
  by_cases e1:x1=id
  ·by_cases e2:x2=id
   ·rw[e1,e2]
   ·subst e1
    rw[Zae]at h3
    rw[Zac _ _ e2]at h2 h4
    cases h3
    have:=hblt x2 y2 _ h2 h4
    omega
  ·by_cases e2:x2=id
   ·subst e2
    rw[Zae]at h4
    rw[Zac _ _ e1]at h1 h3
    cases h4
    have:=hblt x1 y1 _ h1 h3
    omega
   ·rw[Zac _ _ e1]at h1 h3
    rw[Zac _ _ e2]at h2 h4
    exact h.inj x1 x2 y1 y2 b h1 h2 h3 h4
theorem le_fz{s:St}(id:Nat){b:Blk}(hb:s.m id=some b)(hd:b.dead=false):StLe s {s with m:=upd s.m id (some {b with fz:=b.es.length})}:=by
 intro E B nn β a w h
 have hM:=h.mem
 have hm:Zbf β s.m w β (upd s.m id (some {b with fz:=b.es.length})) w:=by
  refine⟨fun x y hx=>?_,fun _ _ h=>h⟩
  by_cases e:x=id
  ·subst e
   rw[hb]at hx;cases hx
   exact⟨_,Zae _ _ _,Ya4 _,fun _=>⟨rfl,rfl,rfl⟩⟩
  ·exact⟨y,by rw[Zac _ _ e];exact hx,Ya4 _,fun _=>⟨rfl,rfl,rfl⟩⟩
 have hget:∀ x y,upd s.m id (some {b with fz:=b.es.length}) x=some y→∃ z,s.m x=some z∧y.T=z.T∧y.k=z.k∧y.es=z.es∧z.fz≤y.fz∧y.fz≤y.es.length∧y.dead=z.dead:=by
  intro x y hx
  by_cases e:x=id
  ·subst e;rw[Zae]at hx;cases hx;exact⟨b,hb,rfl,rfl,rfl,hM.fz x b hb,Ya4 _,rfl⟩
  ·rw[Zac _ _ e]at hx;exact⟨y,hx,rfl,rfl,rfl,Ya4 _,hM.fz x y hx,rfl⟩
 have hs:ZaA (safe E β s.m) w (safe E β (upd s.m id (some {b with fz:=b.es.length}))) w:=by
  intro c o u h1 h2
  refine⟨⟨h1.1,fun x y hx hy=>?_⟩,h2⟩
  obtain⟨z,hz,e1,e2,e3,e4,e5,e6⟩:=hget x y hx
  rcases h1.2 x z hz hy with h|h
  ·exact .inl (Nat.lt_of_lt_of_le h (by rw[e2];exact Nat.mul_le_mul_right _ e4))
  ·exact .inr (by rw[e6];exact h)
 refine⟨β,⟨hM.below,?_,?_,?_,?_,?_,?_⟩,fun j hj=>(h.tmp j hj).mono hm hs,h.width,h.defers,h.le.trans hm,h.sle.trans hs,h.lo⟩
 ·intro x y hx
  obtain⟨z,hz,_⟩:=hget x y hx
  exact hM.lt x z hz
 ·intro x y hx
  obtain⟨z,hz,e1,e2,e3,e4,e5,e6⟩:=hget x y hx
  exact e5
 ·intro x y hx i e he
  obtain⟨z,hz,e1,e2,e3,e4,e5,e6⟩:=hget x y hx
  rw[e2];exact hM.wid x z hz i e (by rw[← e3];exact he)
 ·intro x y hx hb'
  obtain⟨z,hz,e1,e2,e3,e4,e5,e6⟩:=hget x y hx
  rw[e3]
  exact hM.non x z hz hb'
 ·intro x y b' hx hb'
  obtain⟨z,hz,e1,e2,e3,e4,e5,e6⟩:=hget x y hx
  obtain⟨h3,cs,h4,h5,h6⟩:=hM.row x z b' hz hb'
  refine⟨h3,cs,by rw[e1];exact h4,by rw[e2,e3];exact h5,fun i j d hd=>?_⟩
  obtain⟨u,h7,h8⟩:=h6 i j d (by rw[← e3];exact hd)
  exact⟨u,by rw[e2];exact h7,h8.mono hm hs⟩
 ·intro x1 x2 y1 y2 b' h1 h2 h3 h4
  obtain⟨z1,hz1,_⟩:=hget x1 y1 h1
  obtain⟨z2,hz2,_⟩:=hget x2 y2 h2
  exact hM.inj x1 x2 z1 z2 b' hz1 hz2 h3 h4
end ifl
end Go.Proofs.YtjeaacindikplaaGreat
