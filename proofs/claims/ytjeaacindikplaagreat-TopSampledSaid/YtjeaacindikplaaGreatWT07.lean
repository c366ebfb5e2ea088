/-
  Sizes of the systems of a trace (plain).
-/
import Derived.Test.YtjeaacindikplaaGreatWLib
import Derived.Test.YtjeaacindikplaaGreatWT06
import Derived.Test.YtjeaacindikplaaGreatWT03
import Derived.Test.YtjeaacindikplaaGreatWT05
import Derived.Test.YtjeaacindikplaaGreatWT01
import Derived.Test.YtjeaacindikplaaGreatWT04
import Derived.Test.YtjeaacindikplaaGreatWT00
import Derived.Test.YtjeaacindikplaaGreatWConv
namespace Go.Proofs.YtjeaacindikplaaGreat
set_option linter.unusedVariables false
set_option linter.unusedSimpArgs false
set_option linter.unusedSectionVars false
open Go Go.RowKit
set_option maxRecDepth 100000
set_option maxHeartbeats 4000000
theorem Zxo{n:Int}:∀ (l:List TermD)(last:Int),-1≤last→goR n last l=true→(l.length:Int)+last+1≤max n (last+1)
 | [],last,_,_=>by simp only[List.length_nil];omega
 | u ::l,last,hl,h=>by
   have h':=ZaE.1 h
   have:=Zxo l u.v (by omega) h'.2.2.2
   simp only[List.length_cons];omega
theorem Zmu{n:Int}{l:List TermD}(h:Zah l n=true):(l.length:Int)≤n:=by
 simp only[Zah,Ya2,decide_eq_true_eq]at h
 have:=Zxo l (-1) (by decide) h.2
 omega
def IntK(K:Nat)(g:List TermD):Prop:=∀ v:Nat,∃ z:Int,Za5 g v=(z:Rat)∧z.natAbs≤K
theorem IntK.sz{K:Nat}{g:List TermD}{n:Int}(h:IntK K g)(hg:Zah g n=true)(hK:K≤1000000):∀ t∈g,szF t.f≤4:=by
 intro t ht
 obtain⟨i,hi⟩:=List.getElem?_of_mem ht
 obtain⟨h0,_,ho,_⟩:=Za7 hg ht
 obtain⟨z,hz,hz2⟩:=h t.v.toNat
 rw[Zry hg hi h0]at hz
 rw[Zcm ho,hz]
 exact Zdf z (by omega) (by omega)
theorem IntK.plus{K L:Nat}{a b:List TermD}(ha:IntK K a)(hb:IntK L b)(ra:Zah a 1500=true)(rb:Zah b 1500=true):IntK (K+L) (ZhF a b):=by
 intro v
 obtain⟨x,hx,hx2⟩:=ha v
 obtain⟨y,hy,hy2⟩:=hb v
 refine⟨x+y,?_,by omega⟩
 unfold Za5 at *
 rw[Zpo ra rb,hx,hy,Rat.intCast_add]
theorem IntK.opp{K:Nat}{g:List TermD}{n:Int}(h:IntK K g)(hg:Zah g n=true)(hn:n≤1500):IntK K (oppT g):=by
 intro v
 obtain⟨x,hx,hx2⟩:=h v
 refine⟨-x,?_,by omega⟩
 unfold Za5 at *
 rw[ZqS hg hn,hx,Rat.intCast_neg]
theorem IntK.nil:IntK 0 []:=fun v=>⟨0,rfl,by decide⟩
theorem IntK.mono{K L:Nat}{g:List TermD}(h:IntK K g)(hl:K≤L):IntK L g:=fun v=>let ⟨z,a,b⟩:=h v;⟨z,a,Nat.le_trans b hl⟩
theorem ZjM{n:Nat}{c:Nat→Rat}(h:∀ i,c i=0∨c i=1∨c i = -1):IntK 1 (ZaS n c):=by
 intro v
 rw[ZeZ]
 by_cases hv:v<n
 ·rw[if_pos hv]
  rcases h v with e|e|e
  ·exact⟨0,by rw[e];rfl,by decide⟩
  ·exact⟨1,by rw[e];rfl,by decide⟩
  ·exact⟨-1,by rw[e];rfl,by decide⟩
 ·rw[if_neg hv];exact⟨0,rfl,by decide⟩
theorem ZpN(i:Nat):IntK 1 (ZaY i 1):=by
 intro v
 unfold ZaY Za5
 simp only[dotS,indI,Zav]
 by_cases e:(i:Int)=(v:Int)
 ·exact⟨1,by rw[if_pos (by omega)];decide +kernel,by decide⟩
 ·exact⟨0,by rw[if_neg (by omega)];decide +kernel,by decide⟩
theorem ZuA{e:EvD}{g:List TermD}(h:g∈Zcu e):IntK 1 g:=by
 unfold Zcu at h
 rcases List.mem_append.1 h with h|h
 ·obtain⟨i,_,rfl⟩:=List.mem_map.1 h
  exact ZpN i
 ·obtain⟨p,hp,rfl⟩:=List.mem_mapIdx.1 h
  unfold Zkq
  split
  ·exact IntK.nil.mono (by decide)
  ·refine ZjM fun i=>?_
   unfold plC
   split
   ·exact .inr (.inl rfl)
   ·split
    ·exact .inr (.inr rfl)
    ·exact .inl rfl
theorem Zoa{n:Int}(hn:n≤1500):∀ (l:List (List TermD)) (out:List Bool) (a:List TermD) (K:Nat),IntK K a→Zah a n=true→(∀ g∈l,Zah g n=true∧IntK 1 g)→IntK (K+l.length) (sumG l out a)
 | [],_,a,K,ha,_,_=>ha
 | g ::l,[],a,K,ha,_,_=>ha.mono (by omega)
 | g ::l,o ::out,a,K,ha,ra,hl=>by
   obtain⟨h1,h2⟩:=hl g Yb7
   have hl':∀ g∈l,Zah g n=true∧IntK 1 g:=fun g hg=>hl g (Yb6 _ hg)
   cases o
   ·show IntK _ (sumG l out (ZhF a g))
    have:=Zoa hn l out (ZhF a g) (K+1) (ha.plus h2 (Zc3 hn ra) (Zc3 hn h1)) (Zh0 hn ra h1) hl'
    exact this.mono (by simp;omega)
   ·show IntK _ (sumG l out a)
    exact(Zoa hn l out a K ha ra hl').mono (by simp)
theorem ZEp{e:EvD}{x:MvD}(h:(hiI e x).2=true):szF (hiI e x).1≤4:=by
 unfold hiI at h ⊢
 split at h
 ·cases h
 ·rename_i h1
  rw[if_neg h1]
  unfold intD at h ⊢
  revert h
  cases hf:ZpZ e.ce x.s x.d with
  | none=>intro h;cases h
  | some b =>
    simp only
    cases hb:e.ce[b]? with
    | none=>intro h;cases h
    | some c =>
      simp only
      obtain⟨_,c',hb',hcov,_⟩:=ZjP hf
      rw[hb]at hb'
      obtain rfl:=Option.some.inj hb'
      cases hr:inB x.r 0 1099511627776
      ·simp only[Bool.not_false,Bool.or_true,if_true];intro h;cases h
      ·split
       ·intro h;cases h
       ·intro _
        have hok:Zin c x.r x.d=true:=by simp[Zin,hcov,hr]
        obtain⟨b1,b2,b3,b4,b5⟩:=ZfE hok
        have e1:((x.r:Int):Rat)+errQ c x.r x.d=Rat.divInt (c.p*x.r+1000*(x.r+(c.g+c.d*(x.d-c.f)))) 1000:=by
         unfold errQ
         rw[Rat.divInt_eq_div,Rat.divInt_eq_div]
         simp only[Rat.intCast_add,Rat.intCast_mul]
         grind
        show szF (ofQ (((x.r:Int):Rat)+errQ c x.r x.d))≤4
        rw[e1]
        exact Zkw _ _ (by decide) (by omega) (by omega) (by decide) (by decide)
theorem ZxV{g:Int}(h1:1≤g)(h2:g≤1099511627776):szF (ofQ (g:Rat))≤4:=Zdf g (by omega) (by omega)
theorem ZtL{n:Nat}{c:Nat→Rat}(h:∀ i,c i=0∨c i=1∨c i = -1):(ZaS n c).length≤n∧∀ t∈ZaS n c,szF t.f≤4 :=
 ⟨Zeq c n,(ZjM h).sz (n:=(n:Int)) (ZcA (Int.le_refl _)) (by decide)⟩
structure RowZ (w:RowD):Prop where
 l:w.t.length≤64
 v:szF w.v≤4
 c:∀ t∈w.t,szF t.f≤4
theorem Zwz{i:Nat}{k:Int}{v:FracD}(h:szF v≤4):RowZ (oneR i k v):=⟨by show 1≤64;decide,h,fun t ht=>by rw[List.mem_singleton.1 ht];show szF (ofQ 1)≤4;decide +kernel⟩
theorem ZBQ{t:TrD}(R:RightTr t){kind:Int}{i:Nat}(hi:i<t.e.mv.length)(hn:t.e.mv.length≤60){w:RowD}(h:w∈ZhD t kind i):RowZ w:=by
 have z0:szF (ofQ 0)≤4:=by decide +kernel
 rcases ZdT.1 h with⟨_,rfl⟩|⟨hc,rfl⟩|⟨g,hg,rfl⟩|⟨_,rfl⟩
 ·obtain⟨h1,h2⟩:=ZtL (n:=i+1) (c:=stC t.e i) fun j=>by
   unfold stC
   split
   ·split
    ·exact .inr (.inl rfl)
    ·split
     ·exact .inr (.inr rfl)
     ·exact .inl rfl
   ·exact .inr (.inr rfl)
  exact⟨by show(ZaS (i+1) (stC t.e i)).length≤64;omega,z0,h2⟩
 ·exact Zwz (ZEp hc)
 ·obtain⟨f,hf,rfl⟩:=List.mem_map.1 hg
  have:=(R.fi f (List.mem_filter.1 hf).1).2.2
  exact Zwz (ZxV this.1 this.2)
 ·exact Zwz z0
theorem ZvT{t:TrD}(R:RightTr t){kind:Int}(hn:t.e.mv.length≤60){w:RowD}(h:w∈ZbS t kind t.e.mv.length):RowZ w:=by
 obtain⟨i,hi,hw⟩:=(ZeB _).1 h
 exact ZBQ R hi hn hw
structure SmE (t:TrD):Prop where
 n:t.e.mv.length≤6
 h:t.e.h≤6
 fi:t.fi.length≤8
 cl:t.cl.length≤8
theorem ZA4{n:Nat}{r:List RowD}{g:List TermD}(hn:n≤6)(hr:r.length≤32)(hw:∀ w∈r,RowZ w)(hg:g.length≤16∧∀ t∈g,szF t.f≤4):Fit ⟨n,r⟩ g 4 6 :=
 ⟨hr,fun _=>by show(n:Int)≤16;omega,fun _=>.inl (by show(n:Int)≤6;omega),fun w h=>⟨(hw w h).l,(hw w h).v,(hw w h).c⟩,hg,by decide,by rw[Zoe];decide⟩
theorem Zrq{n:Nat}{r:List RowD}{g:List TermD}{K:Nat}(hn:n≤6)(hr:r.length≤32)(hw:∀ w∈r,RowZ w)(hs:Zax ⟨n,r⟩=true)(hg:Zah g n=true)(hk:IntK K g)(hK:K≤1000000):FitG ⟨n,r⟩ g:=by
 have hl:(g.length:Int)≤n:=Zmu hg
 exact⟨ZA4 hn hr hw ⟨by omega,hk.sz hg hK⟩,hs,hg,by show(n:Int)≤6;omega,by omega⟩
set_option maxHeartbeats 16000000
theorem ZCx[Ifl]{s:St}(k:Nat)(hk:s.t k = .nil):StLe s {s with t:=upd s.t k (.sl [])}:=by
 intro E B nn β a w h
 refine⟨β,h.mem,fun j hj=>?_,h.width,h.defers,h.le,h.sle,h.lo⟩
 by_cases e:j=k
 ·subst e
  simp only[Zae]
  have:=h.tmp j hj
  rw[hk]at this
  exact ZdB this.inv_nil
 ·simp only[Zad _ _ e];exact h.tmp j hj
theorem ZAo(x:List FracD)(hx:x.length≤4096):Zaf Tryz.prog 142 [ZaQ x] (ZaQ x):=by
 have hresC:=Tryz.results142
 obtain⟨es,ee⟩:∃ es,x.map cF=es:=⟨_,rfl⟩
 have hcell:=Zhz x
 have hlen:es.length=x.length:=by rw[← ee];simp
 have hfz:∀ (M:Mem)(j:Nat),List.map (List.map (fzT true M (j+3))) es=es:=fun M j=>by rw[← ee];exact Zan (fun _=>rfl) _
 rw[ee]at hcell
 rw[show ZaQ x = .sl es from congrArg D.sl ee]
 refine inC Tryz.func142 rfl Tryz.ntmps142 ?_
 repeat ((fail_if_success (with_reducible refine Zdt 1 ?_)); first
     | (refine hK _ ?_;clear hK;clear K)
     | (refine aSeq fun K hK=>?_)
     | (refine ZcK ?_)
     | (refine ZeV ?_)
     | (refine ZeX ?_)
     | (refine aRet ?_)
     | (refine aOps _ rfl (by kernel_rfl) ?_)
     | (refine ZeW _ rfl Zeb (by kernel_rfl) (by kernel_rfl) fun KE hE=>?_)
     | (refine hE _ _ (by kernel_rfl) (Zay rfl) ?_;clear hE;clear KE)
     | (refine hE _ _ (by kernel_rfl) (Za8 ?hi ?hj) ?_;(case hi=>(repeat(refine Zam rfl ?_));exact Zao);(case hj=>simp);clear hE;clear KE)
     | (refine ZcI rfl ?hc ?_;case hc=>simp only[go_sem,↓reduceIte,hresC])
     | (refine ZcJ rfl ?hc ?_;case hc=>simp only[go_sem,↓reduceIte,hresC])
     | (simp only[go_sem,↓reduceIte,hresC])
     | (refine And.intro ?ho ?_;(case ho=>omega))
     | (clear hK;clear K))
 refine Ze9 (es:=es) Tryz.underlying33 rfl rfl rfl rfl rfl rfl (by kernel_rfl) (by kernel_rfl) rfl (fun h0=>?_) ?_
 ·refine aGo hresC ?_
  repeat with_reducible intro K hK
  rw[h0]
 ·refine aGo hresC ?_
  repeat with_reducible intro K hK
  refine⟨⟨hcell,by omega,by omega⟩,?_⟩
  refine aGo hresC ?_
  repeat with_reducible intro K hK
  exact congrArg D.sl (hfz _ _)
theorem ZoT:∀ (l:List (List TermD)) (out:List Bool) (a g:List TermD) (o:Bool),l.length=out.length→sumG (l++[g]) (out++[o]) a=if o then sumG l out a else ZhF (sumG l out a) g
 | [],[],a,g,o,_=>by cases o<;>rfl
 | h ::l,p ::out,a,g,o,hl=>ZoT l out (if p then a else ZhF a h) g o (by simpa using hl)
theorem Zvp{l:List (List TermD)}{out:List Bool}(hl:l.length=out.length){k:Nat}{g:List TermD}{o:Bool}(hg:l[k]? =some g)(ho:out[k]? =some o)(a:List TermD) :
 sumG (l.take (k+1)) (out.take (k+1)) a=if o then sumG (l.take k) (out.take k) a else ZhF (sumG (l.take k) (out.take k) a) g:=by
 rw[Yb4,Yb4,hg,ho]
 exact ZoT _ _ _ _ _ (by rw[List.length_take,List.length_take,hl])
theorem ZvG{n:Int}{K:Nat}{g:List TermD}(hg:Zah g n=true)(hn:n≤1500)(hk:IntK K g)(hK:K≤1000000):smT g:=by
 have hl:(g.length:Int)≤n:=Zmu hg
 exact⟨by omega,fun t ht=>by have:=hk.sz hg hK t ht;show(szF t.f:Int)≤4194304;omega⟩
def stK(x:List FracD)(l:List (List TermD))(out:List Bool)(k:Nat):List Bool:=(Zfc x l out).take k++out.drop k
def moK(x:List FracD)(l:List (List TermD))(out:List Bool)(k:Nat):Bool:=((l.zip out).take k).any fun p=> !p.2&&posD p.1 x
section
variable {x:List FracD} {l:List (List TermD)} {out:List Bool} (h:l.length=out.length)
include h
theorem Zjr:(Zfc x l out).length=out.length:=by unfold Zfc;rw[List.length_zipWith];omega
theorem ZBF:stK x l out out.length=Zfc x l out:=by
 unfold stK
 rw[Ya8 (by rw[Zjr h];exact Ya4 _),List.drop_length,List.append_nil]
theorem ZBD{k:Nat}(hk:k≤out.length):(stK x l out k).length=out.length:=by
 unfold stK
 rw[List.length_append,List.length_take,List.length_drop,Zjr h];omega
theorem ZBE{k:Nat}(hk:k<out.length):(stK x l out k)[k]? =out[k]?:=by
 unfold stK
 rw[List.getElem?_append_right (by rw[List.length_take,Zjr h];omega),List.length_take,Zjr h,show k-min k out.length=0 by omega,List.getElem?_drop]
 simp
theorem Zvv{k:Nat}{g:List TermD}{o:Bool}(hg:l[k]? =some g)(ho:out[k]? =some o):(Zfc x l out)[k]? =some (o||posD g x):=by
 unfold Zfc
 rw[List.getElem?_zipWith,hg,ho]
theorem Zr5{k:Nat}{g:List TermD}{o:Bool}(hg:l[k]? =some g)(ho:out[k]? =some o)(e:(o||posD g x)=o):stK x l out (k+1)=stK x l out k:=by
 obtain⟨hk,rfl⟩:=Ya3.1 ho
 unfold stK
 rw[Yb4,Zvv h hg ho,e,List.drop_eq_getElem_cons hk]
 simp
theorem ZBC{k:Nat}{g:List TermD}{o:Bool}(hg:l[k]? =some g)(ho:out[k]? =some o)(hp:posD g x=true):(stK x l out k).set k true=stK x l out (k+1):=by
 obtain⟨hk,rfl⟩:=Ya3.1 ho
 have hl:((Zfc x l out).take k).length=k:=by rw[List.length_take,Zjr h];omega
 unfold stK
 rw[List.set_append_right _ _ (by omega),hl,Nat.sub_self,List.drop_eq_getElem_cons hk,List.set_cons_zero,Yb4,Zvv h hg ho,hp,Bool.or_true]
 simp
theorem ZzB{k:Nat}{g:List TermD}{o:Bool}(hg:l[k]? =some g)(ho:out[k]? =some o):moK x l out (k+1)=(moK x l out k||(!o&&posD g x)):=by
 unfold moK
 have:(l.zip out)[k]? =some (g,o):=by rw[List.getElem?_zip_eq_some];exact⟨hg,ho⟩
 rw[Yb4,this,List.any_append];simp
theorem ZCn:moK x l out out.length=Zkn x l out:=by
 unfold moK Zkn
 rw[Ya8 (by rw[List.length_zip];omega)]
end
theorem ZrQ{l:List TermD}{x:List FracD}(hs:smT l)(hx:smFs x):(szF (ZbX l x).1:Int)≤549755813888:=by
 cases h:Zah l x.length&&okP x
 ·rw[Zu8 h];decide +kernel
 ·rw[Zjl h]
  rw[Ya2]at h
  have:=Zvl ⟨l,0,zF⟩ x hs hx h.1 h.2
  show(szF (ofQ (dotD l x)):Int)≤_
  have e:dotD (RowD.mk l 0 zF).t x=dotD l x:=rfl
  rw[e]at this;omega
def sdO:Option (List FracD)→D
 | none=>.nil
 | some z=>ZaQ z
theorem Zk7(o:Option (List FracD))(keep:Nat→Bool):okD keep (sdO o)=true:=by cases o<;>rfl
theorem Zmo{x:List FracD}:∀ (l:List (List TermD)) (out:List Bool),out.length=l.length→Zkn x l out=false→Zfc x l out=out
 | [],[],_,_=>rfl
 | g ::l,o ::out,hl,h=>by
   simp only[Zkn,List.zip_cons_cons,List.any_cons,Bool.or_eq_false_iff]at h
   have ih:=Zmo (x:=x) l out (by simpa using hl) h.2
   show(o||posD g x) ::Zfc x l out=_
   rw[ih]
   cases o
   ·rw[Bool.not_false,Bool.true_and]at h;rw[h.1];rfl
   ·rfl
section
variable {f:FracD→FracD} {l:List FracD}
def mapA(f:FracD→FracD)(l:List FracD)(k:Nat):List FracD:=(l.map f).take k++l.drop k
theorem ZpE:mapA f l 0=l:=by simp[mapA]
theorem ZsN:mapA f l l.length=l.map f:=by
 unfold mapA
 rw[Ya8 (by rw[List.length_map];omega),List.drop_length,List.append_nil]
theorem ZsL{k:Nat}(hk:k≤l.length):(mapA f l k).length=l.length:=by
 unfold mapA
 rw[List.length_append,List.length_take,List.length_drop,List.length_map];omega
theorem ZsM{k:Nat}(hk:k<l.length):(mapA f l k)[k]? =l[k]?:=by
 unfold mapA
 rw[List.getElem?_append_right (by rw[List.length_take,List.length_map];omega),List.length_take,List.length_map,show k-min k l.length=0 by omega,List.getElem?_drop]
 simp
theorem ZsK{k:Nat}{x:FracD}(hx:l[k]? =some x):(mapA f l k).set k (f x)=mapA f l (k+1):=by
 obtain⟨hk,rfl⟩:=Ya3.1 hx
 have hl:((l.map f).take k).length=k:=by rw[List.length_take,List.length_map];omega
 unfold mapA
 rw[List.set_append_right _ _ (by omega),hl,Nat.sub_self,List.drop_eq_getElem_cons hk,List.set_cons_zero,Yb4,List.getElem?_map,Ya0 hk]
 simp
end
structure ZOk (m K:Nat) (z:List FracD):Prop where
 l:z.length=m
 o:okP z=true
 z:∀ f∈z,szF f≤K*600001
theorem on_z{m n:Nat}{z x:List FracD}(h:ZOk m n z)(hl:x.length=m)(ho:okP x=true)(hx:∀ f∈x,szF f≤600000):ZOk m (n+1) (onD 1 z x):=by
 refine⟨?_,?_,fun f hf=>?_⟩
 ·unfold onD
  rw[List.length_zipWith,h.l,hl,Nat.min_self]
 ·refine Ya6.2 fun f hf=>?_
  obtain⟨a,b,_,_,rfl⟩:=Zps hf
  exact Zbw _
 ·obtain⟨a,b,ha,hb,rfl⟩:=Zps hf
  have za:=h.z a ha
  have zb:=hx b hb
  have q:=Zfb (qOf a) (qOf b*1)
  rw[show qOf b*1=qOf b by grind]at q ⊢
  rw[Zch (Ya6.1 h.o a ha),Zch (Ya6.1 ho b hb)]at q
  show szQ _≤_
  omega
theorem ZBi[Ifl]{P:Program}{n rid:Nat}{Q:Exit→St→Prop}{s:St}{o1 o2:Oper}{T e:TypeId}{i j k:Nat}(hu:P.underlying T=some (.slice e))
 (g1:o1.guard=none) (g2:o2.guard=none) (d1:o1.dst=some j) (d2:o2.dst=some k) (p1:o1.op = .move (.tmp i)) (p2:o2.op = .binOp .eql T (.tmp j) (.const (.slice none 0 0)) T)
 (hf1:Zbq n o1=true) (hn':decide (j<n)=true) (h0:s.t i = .nil)
 (hnil:Q .normal {s with t:=upd (upd s.t j .nil) k (dB true)}):AWP P n (.region rid #[o1,o2] false) Q s:=by
 have hn:j<n:=of_decide_eq_true hn'
 intro E B β a w hr
 refine wp_region_lit (l:=[o1,o2]) ?_
 refine wpList_plain g1 fun K1 hK1=>Zj2 (K:=fun s'=>s'={s with t:=upd s.t j .nil}) hf1 hr ?_ ?_
 ·unfold opA
  rw[p1,d1]
  simp only[opF,rd,h0,Res.pure,putT,ov,List.length_nil,Nat.add_zero]
  exact⟨trivial,.inl trivial,trivial⟩
 rintro s1 β1 a1 w1 r1 rfl
 refine hK1 _ _ ?_
 have t3:Rep β1 s.m (safe E β1 s.m) w1 (a1.eval (.tmp j)) .nil:=by
  have:=r1.tmp j hn
  simpa only[Zae]using this
 have e3:=t3.inv_nil
 have hrun:(execOp a1.eval o2).run P w1 = .ok (.value (.bool true)) w1:=by
  unfold execOp
  rw[p2]
  have hb:=Lib.run_eql_slice_nil (P:=P) w1 T e none 0 0 0 0 hu
  have ec:a1.eval (.const (.slice none 0 0)) = .slice none 0 0:=rfl
  simp only[e3,ec]
  simp[eqGuard,hb]
 refine wpList_plain g2 fun K2 hK2=>?_
 unfold Oper.wp
 rw[hrun]
 show K2 (a1.put o2.dst (.bool true)) w1
 refine hK2 _ _ (wpList_nil ?_)
 obtain⟨β3,r3⟩:=r1.put (dst:=o2.dst) (Zb5.same r1.mem (.v (.bool true)))
 rw[d2]at r3 ⊢
 exact⟨_,β3,r3,hnil⟩
structure MaxZ (s:SysD) (x:List FracD):Prop where
 l:x.length=s.n.toNat
 o:okP x=true
 z:∀ f∈x,szF f≤600000
theorem ZEj{s:SysD}{g:List TermD}(h:FitG s (oppT g))(hg:Zah g s.n=true)(hx:∃ x,Zal s x=true):MaxZ s (maxX s g):=by
 obtain⟨h1,h2⟩:=ZCq h.r hg hx
 have ht:=h.tn
 have ho:=ZkF h.r h.gr
 refine⟨by omega,h2,fun f hf=>?_⟩
 unfold maxX at hf
 rw[show maxO s g=ZaH s (oppT g)from Zel h.r hg]at hf
 split at hf
 ·obtain⟨a,b,ha,hb,rfl⟩:=Zps hf
  have za:=ht.2.1.2 a ha
  have zb:=ht.2.2.2.2 b hb
  unfold tnF at za zb
  have q:=Zfb (qOf a) (qOf b*1)
  rw[show qOf b*1=qOf b by grind]at q ⊢
  rw[Zch (Ya6.1 ho.x a ha),Zch (Ya6.1 ho.d b hb)]at q
  unfold szQ at q
  omega
 ·have:=ht.2.1.2 f hf
  unfold tnF at this;omega
def shr(n:Nat)(f:FracD):FracD:=ofQ (qOf f*Rat.divInt 1 ((n:Int)+1))
theorem ZyQ(n:Nat)(z:List FracD):Zr9 n z=z.map (shr n):=by
 unfold Zr9 shr
 simp[Rat.divInt_eq_div,Rat.intCast_natCast]
theorem Zwa(s:SysD)(l:List (List TermD))(hs:Zax s=true)(hn1:1≤s.n)(hn6:s.n≤6)(hll:l.length≤40)(hl:∀ g∈l,Zah g s.n=true∧IntK 1 g)(hfit:∀ g K,Zah g s.n=true→IntK K g→K≤1000000→FitG s g)(hx:∃ x,Zal s x=true) :
 Zaf Tryz.prog 110 [encS s,Zou l] (.tup [.sl ((Ze4 s l).1.map fun b=>[dB b]),ZaQ (Ze4 s l).2]):=by
 have hres:=Tryz.results110
 have hresC:=Tryz.results142
 have hresP:=Tryz.results119
 have n0:(0:Int)≤(l.length:Int):=by omega
 have n1:(l.length:Int)≤9007199254740992:=by omega
 have n2:(l.length:Int)≤140737488355328:=by omega
 refine inC Tryz.func110 rfl Tryz.ntmps110 ?_
 refine aGo (cj4 hres n0 n1 n2) ?_
 repeat with_reducible intro K hK
 have hN:s.n≤1500:=by omega
 have nilR:Zah [] s.n=true:=by simp only[Zah,Ya2,decide_eq_true_eq];exact⟨by omega,rfl⟩
 have sumR:∀ (k:Nat)(out:List Bool),Zah (sumG (l.take k) (out.take k) []) s.n=true∧IntK 100 (sumG (l.take k) (out.take k) []):=fun k out=>by
  have hk:∀ g∈l.take k,Zah g s.n=true∧IntK 1 g:=fun g hg=>hl g (List.mem_of_mem_take hg)
  refine⟨Zjp hN _ _ [] nilR fun g hg=>(hk g hg).1,(Zoa hN _ _ [] 0 IntK.nil nilR hk).mono ?_⟩
  have:=List.length_take_le' k l
  omega
 refine Zat (fun(x:Nat×List Bool×Option (List FracD))=>[(1,Zou l),(2,.lp 0 0 0 0),(6,.ls 1 1),(7,sdO x.2.2),(8,dI x.1)]) (fun x=>[(0,⟨99,0,2,[cS s],0,false⟩),(1,⟨4,1,1,x.2.1.map fun b=>[dB b],0,false⟩)]) 2 0
  (fun x=>x.2.1.length=l.length∧x.1+Zko x.2.1≤l.length∧(x.2.2=none∨∃ z,x.2.2=some z∧ZOk s.n.toNat x.1 z)∧Ze4 s l=Zlk s l (l.length+1-x.1) x.1 x.2.1 x.2.2) (fun x=>Zko x.2.1) (0,List.replicate l.length false,none) ?_ ?_ ?_
 ·refine⟨by simp,?_,.inl rfl,rfl⟩
  have:Zko (List.replicate l.length false)≤l.length:=by
   have:=List.countP_le_length (p:=(! ·)) (l:=List.replicate l.length false)
   unfold Zko;simpa using this
  show 0+Zko (List.replicate l.length false)≤l.length
  omega
 ·refine Zag _ _ _ ?_ ?_ ?_ ?_ ?_ (.inl rfl)<;>simp[go_sem,okD,okDs,Zap,sdO]
 rintro⟨n,out,sum⟩ ⟨ho,hn,hz,hR⟩
 simp only at ho hn hz hR
 have hlo:=ho.symm
 refine aGo hres ?_
 repeat with_reducible intro K hK
 refine aLe (ZCx 9 rfl) ?_
 simp only[go_sem]
 have eS0:sumG (l.take 0) (out.take 0) []=[]:=by simp[sumG]
 refine Zat (fun(k:Nat)=>[(1,Zou l),(2,.lp 0 0 0 0),(6,.ls 1 1),(7,sdO sum),(8,dI n),(9,Zbh (sumG (l.take k) (out.take k) [])),(26,Zou l),(27,dI l.length),(28,dI k)]) (fun k=>[(0,⟨99,0,2,[cS s],0,false⟩),(1,⟨4,1,1,out.map fun b=>[dB b],0,false⟩)]) 2 0 (fun k=>k≤l.length) (fun k=>l.length-k) 0 (by omega) ?_ ?_
 ·refine Zag _ _ _ ?_ ?_ ?_ ?_ ?_ (.inl rfl)<;>simp[go_sem,okD,okDs,Zap,eS0,Zk7]
  all_goals first|rfl|(rintro e (⟨_,rfl⟩|⟨_,rfl⟩)<;>rfl)
 rintro k hk
 obtain⟨hw,k0⟩:=ZaM k
 by_cases h1:(k:Int)<l.length
 ·obtain⟨g,hg⟩:∃ g,l[k]? =some g:=⟨_,Ya0 (by omega)⟩
  obtain⟨o,hoo⟩:∃ o,out[k]? =some o:=⟨_,Ya0 (by omega)⟩
  have eS:=Zvp hlo hg hoo []
  obtain⟨r1,i1⟩:=sumR k out
  obtain⟨r2,i2⟩:=hl g (Ya7 hg)
  have kp:=ZCr _ _ (ZvG r1 hN i1 (by decide)) (ZvG r2 hN i2 (by decide))
  generalize sumG (l.take k) (out.take k) []=A at *
  cases o
  ·rw[if_neg Bool.false_ne_true]at eS
   refine aGo (cj4 hres k0 h1 (cj3 hg hoo hw)) ?_
   repeat with_reducible intro K hK
   exact Zac (k+1) (by omega) (by omega) (by refine Zag _ _ _ ?_ ?_ ?_ ?_ ?_ (.inl rfl)<;>simp[go_sem,okD,okDs,Zap,eS,Zk7]<;>first|rfl|(rintro e (⟨_,rfl⟩|⟨_,rfl⟩)<;>rfl))
  ·rw[if_pos rfl]at eS
   refine aGo (cj4 hres k0 h1 (cj3 hg hoo hw)) ?_
   repeat with_reducible intro K hK
   exact Zac (k+1) (by omega) (by omega) (by refine Zag _ _ _ ?_ ?_ ?_ ?_ ?_ (.inl rfl)<;>simp[go_sem,okD,okDs,Zap,eS,Zk7]<;>first|rfl|(rintro e (⟨_,rfl⟩|⟨_,rfl⟩)<;>rfl))
 obtain rfl:k=l.length:=by omega
 have eA:sumG (l.take l.length) (out.take l.length) []=sumG l out []:=by rw[List.take_length,Ya8 (by omega)]
 obtain⟨rA,iA⟩:=sumR l.length out
 rw[eA]at rA iA ⊢
 have hF:FitG s (oppT (sumG l out [])):=hfit _ 100 (Zdj rA) (iA.opp rA hN) (by decide)
 have km:=ZAU s _ hF (ZvG rA hN iA (by decide))
 have hX:=ZEj hF rA hx
 obtain⟨X,eX⟩:∃ X,maxX s (sumG l out [])=X:=⟨_,rfl⟩
 have hstep:Ze4 s l=if Zkn X l out then Zlk s l (l.length-n) (n+1) (Zfc X l out) (some (addO sum X))else(out,Zr9 n (addO sum X)):=by
  rw[hR,show l.length+1-n=(l.length-n)+1 by omega,← eX];rfl
 obtain⟨hlf1,hlf2⟩:=ZjI (x:=X) l out ho
 rw[eX]at km hX
 generalize maxY s (sumG l out [])=Y at km
 generalize sumG l out []=A at *
 clear hR sumR eA hF rA iA eS0
 refine aGo (cj2 hres h1) ?_
 repeat with_reducible intro K hK
 have b0:stK X l out 0=out:=by simp[stK]
 have b1:moK X l out 0=false:=by simp[moK]
 refine Zat (fun(k:Nat)=>[(1,Zou l),(2,.lp 0 0 0 0),(6,.ls 1 1),(7,sdO sum),(8,dI n),(12,ZaQ X),(14,dB (moK X l out k)),(48,Zou l),(49,dI l.length),(50,dI k)]) (fun k=>[(0,⟨99,0,2,[cS s],0,false⟩),(1,⟨4,1,1,(stK X l out k).map fun b=>[dB b],0,false⟩)]) 2 0 (fun k=>k≤l.length) (fun k=>l.length-k) 0 (by omega) ?_ ?_
 ·refine Zag _ _ _ ?_ ?_ ?_ ?_ ?_ (.inl rfl)<;>simp[go_sem,okD,okDs,Zap,b0,b1,Zk7]
  all_goals first|rfl|(rintro e (⟨_,rfl⟩|⟨_,rfl⟩)<;>rfl)
 clear h1 hw k0 hk
 rintro k hk
 obtain⟨hw,k0⟩:=ZaM k
 have kz:(0:Nat)≤k:=Yb0 _
 by_cases h1:(k:Int)<l.length
 ·obtain⟨g,hg⟩:∃ g,l[k]? =some g:=⟨_,Ya0 (by omega)⟩
  obtain⟨o,hoo⟩:∃ o,out[k]? =some o:=⟨_,Ya0 (by omega)⟩
  obtain⟨r2,i2⟩:=hl g (Ya7 hg)
  have sg:=ZvG r2 hN i2 (by decide)
  have sX:smFs X:=⟨by have:=hX.l;omega,fun f hf=>by have:=hX.z f hf;show(szF f:Int)≤4194304;omega⟩
  have kq:=ZmB g X sg sX (ZrQ sg sX)
  have hs0:=(ZBE (x:=X) hlo (k:=k) (by omega)).trans hoo
  have hsl:=ZBD (x:=X) hlo (k:=k) (by omega)
  have hmk:=ZzB (x:=X) hlo hg hoo
  cases o
  ·cases hp:posD g X
   ·have he:=Zr5 hlo hg hoo (x:=X) (by rw[hp];rfl)
    rw[hp]at kq hmk
    rw[Bool.and_false,Bool.or_false]at hmk
    generalize stK X l out k=B at *
    generalize moK X l out k=mo at *
    refine aGo (cj4 hres k0 h1 (cj3 hg hs0 hw)) ?_
    repeat with_reducible intro K hK
    exact Zac (k+1) (by omega) (by omega) (by refine Zag _ _ _ ?_ ?_ ?_ ?_ ?_ (.inl rfl)<;>simp[go_sem,okD,okDs,Zap,he,hmk,Zk7]<;>first|rfl|(rintro e (⟨_,rfl⟩|⟨_,rfl⟩)<;>rfl))
   ·have he:=ZBC hlo hg hoo hp
    have hset:((stK X l out k).map fun b=>[dB b]).set k [dB true]=(stK X l out (k+1)).map fun b=>[dB b]:=by rw[← he,List.map_set]
    rw[hp]at kq hmk
    rw[Bool.not_false,Bool.and_self,Bool.or_true]at hmk
    generalize stK X l out k=B at *
    generalize moK X l out k=mo at *
    refine aGo (cj4 hres k0 kz (cj4 h1 hg hs0 (cj3 hsl hw hset))) ?_
    repeat with_reducible intro K hK
    exact Zac (k+1) (by omega) (by omega) (by refine Zag _ _ _ ?_ ?_ ?_ ?_ ?_ (.inl rfl)<;>simp[go_sem,okD,okDs,Zap,hmk,Zk7]<;>first|rfl|(rintro e (⟨_,rfl⟩|⟨_,rfl⟩)<;>rfl))
  ·have he:=Zr5 hlo hg hoo (x:=X) rfl
   rw[Bool.not_true,Bool.false_and,Bool.or_false]at hmk
   generalize stK X l out k=B at *
   generalize moK X l out k=mo at *
   refine aGo (cj4 hres k0 h1 (cj3 hg hs0 hw)) ?_
   repeat with_reducible intro K hK
   exact Zac (k+1) (by omega) (by omega) (by refine Zag _ _ _ ?_ ?_ ?_ ?_ ?_ (.inl rfl)<;>simp[go_sem,okD,okDs,Zap,he,hmk,Zk7]<;>first|rfl|(rintro e (⟨_,rfl⟩|⟨_,rfl⟩)<;>rfl))
 obtain rfl:k=l.length:=by omega
 have eB:stK X l out l.length=Zfc X l out:=by rw[hlo];exact ZBF hlo
 have eM:moK X l out l.length=Zkn X l out:=by rw[hlo];exact ZCn hlo
 rw[eB,eM]
 clear eB eM b0 b1 hw k0 kz hk
 have hwn:=ZtF n
 have hsb:=(Zjr (x:=X) hlo).trans ho
 have hXl:X.length≤4096:=by have:=hX.l;omega
 have hX1:1≤X.length:=by have:=hX.l;omega
 have zX:ZOk s.n.toNat (n+1) X:=⟨hX.l,hX.o,fun f hf=>by have:=hX.z f hf;omega⟩
 have kcl:=ZAo X hXl
 have kf:=ZEv 1 ((n:Int)+1) (by omega) (by decide) (by decide) (by omega) (by omega)
 have zf:(szQ (Rat.divInt 1 ((n:Int)+1)):Int)≤4:=by have:=Zkw 1 ((n:Int)+1) (by omega) (by omega) (by omega) (by omega) (by omega);omega
 cases hm:Zkn X l out
 ·rw[if_neg (by rw[hm];exact Bool.false_ne_true)]at hstep
  rw[Zmo l out ho hm]
  rw[ZyQ]at hstep
  clear hlf1 hlf2 hsb kcl
  rcases hz with rfl|⟨z,rfl,hz⟩
  ·show AWP _ _ _ _ _
   repeat((fail_if_success (with_reducible refine Zdt 20 ?_));first
   | (refine hK _ ?_;clear hK;clear K)
   | (refine aSeq fun K hK=>?_)
   | (refine ZcK ?_)
   | (refine ZeV ?_)
   | (refine ZeX ?_)
   | (refine aRet ?_)
   | (refine aOps _ rfl (by kernel_rfl) ?_)
   | (refine ZeW _ rfl Zeb (by kernel_rfl) (by kernel_rfl) fun KE hE=>?_)
   | (refine hE _ _ (by kernel_rfl) (Zay rfl) ?_;clear hE;clear KE)
   | (refine hE _ _ (by kernel_rfl) (Za8 ?hi ?hj) ?_;(case hi=>(repeat(refine Zam rfl ?_));exact Zao);(case hj=>simp);clear hE;clear KE)
   | (refine ZcI rfl ?hc ?_;case hc=>simp only[go_sem,↓reduceIte,hres,h1])
   | (refine ZcJ rfl ?hc ?_;case hc=>simp only[go_sem,↓reduceIte,hres,h1])
   | (simp only[go_sem,↓reduceIte,hres,h1])
   | (refine And.intro ?ho ?_;(case ho=>omega))
   | (clear hK;clear K))
   refine ZBi Tryz.underlying33 rfl rfl rfl rfl rfl rfl (by kernel_rfl) (by kernel_rfl) rfl ?_
   obtain⟨es,ee⟩:∃ es,X.map cF=es:=⟨_,rfl⟩
   have hcell:=Zhz X
   have hlen:es.length=X.length:=by rw[← ee];simp
   rw[ee]at hcell
   rw[show ZaQ X = .sl es from congrArg D.sl ee]
   refine aGo hres ?_
   repeat with_reducible intro K hK
   refine Zbf Tryz.func142 rfl (by kernel_rfl) (by kernel_rfl) (by kernel_rfl) ?_
   rw[Tryz.ntmps142]
   repeat((fail_if_success (with_reducible refine Zdt 1 ?_));first
   | (refine hK _ ?_;clear hK;clear K)
   | (refine aSeq fun K hK=>?_)
   | (refine ZcK ?_)
   | (refine ZeV ?_)
   | (refine ZeX ?_)
   | (refine aRet ?_)
   | (refine aOps _ rfl (by kernel_rfl) ?_)
   | (refine ZeW _ rfl Zeb (by kernel_rfl) (by kernel_rfl) fun KE hE=>?_)
   | (refine hE _ _ (by kernel_rfl) (Zay rfl) ?_;clear hE;clear KE)
   | (refine hE _ _ (by kernel_rfl) (Za8 ?hi ?hj) ?_;(case hi=>(repeat(refine Zam rfl ?_));exact Zao);(case hj=>simp);clear hE;clear KE)
   | (refine ZcI rfl ?hc ?_;case hc=>simp only[go_sem,↓reduceIte,hresC])
   | (refine ZcJ rfl ?hc ?_;case hc=>simp only[go_sem,↓reduceIte,hresC])
   | (simp only[go_sem,↓reduceIte,hresC])
   | (refine And.intro ?ho ?_;(case ho=>omega))
   | (clear hK;clear K))
   refine Ze9 (es:=es) Tryz.underlying33 rfl rfl rfl rfl rfl rfl (by kernel_rfl) (by kernel_rfl) rfl (fun h0=>?_) ?_
   ·rw[h0]at hlen
    simp at hlen
    omega
   have h1:(es.length:Int)≤4096:=by omega
   refine aGo (cj2 hresC hres) ?_
   repeat with_reducible intro K hK
   refine⟨⟨hcell,by omega,by omega⟩,?_⟩
   subst ee
   rw[show addO none X=X from rfl]at hstep
   have hZ:=zX
   have hZl:X.length≤4096:=by have:=hZ.l;omega
   refine aGo (cj4 hresC hresP hres hwn) ?_
   repeat with_reducible intro K hK
   have e0:X.map cF=(mapA (shr n) X 0).map cF:=by rw[ZpE]
   refine Zat (fun(k:Nat)=>[(6,.ls 1 1),(7,.ls 2 1),(17,.lp 3 0 0 0),(84,.ls 2 1),(85,dI X.length),(86,dI k)]) (fun k=>[(1,⟨4,1,1,out.map fun b=>[dB b],0,false⟩),(2,⟨53,1,4,(mapA (shr n) X k).map cF,0,false⟩),(3,⟨53,0,4,[cF (ofQ (Rat.divInt 1 ((n:Int)+1)))],0,false⟩)]) 4 0 (fun k=>k≤X.length) (fun k=>X.length-k) 0 (by omega) ?_ ?_
   ·refine Zag _ _ _ ?_ ?_ ?_ ?_ ?_ (.inl rfl)<;>simp[go_sem,e0,okD,okDs,Zap]
    all_goals first|rfl|(rintro e (⟨_,rfl⟩|⟨_,rfl⟩)<;>rfl)
   rintro k hk
   obtain⟨hw,k0⟩:=ZaM k
   have kz:(0:Nat)≤k:=Yb0 _
   by_cases h2:(k:Int)<X.length
   ·obtain⟨x,hx⟩:=getE (l:=X) (k:=k) (by omega)
    have ox:=Ya6.1 hZ.o x (ZaI hx)
    have zx:=hZ.z x (ZaI hx)
    have hs:=ZsK (f:=shr n) hx
    have hg:=(ZsM (f:=shr n) (l:=X) (k:=k) (by omega)).trans hx
    have hL:=ZsL (f:=shr n) (l:=X) (k:=k) (by omega)
    obtain⟨qx,rfl⟩:∃ q,x=ofQ q:=⟨_,Zcm ox⟩
    unfold shr at hs
    rw[Zav]at hs
    change szQ qx≤_ at zx
    have ka:=Zsw qx (Rat.divInt 1 ((n:Int)+1)) (by omega) (by omega)
    have hset:((mapA (shr n) X k).map cF).set k [dI (ofQ (qx*Rat.divInt 1 ((n:Int)+1))).p.s,Zab (ofQ (qx*Rat.divInt 1 ((n:Int)+1))).p.d,dI (ofQ (qx*Rat.divInt 1 ((n:Int)+1))).q.s,Zab (ofQ (qx*Rat.divInt 1 ((n:Int)+1))).q.d]=(mapA (shr n) X (k+1)).map cF:=by
     unfold shr
     rw[← hs,List.map_set]
    generalize mapA (shr n) X k=A at *
    refine aGo (cj4 hres h2 k0 (cj4 kz hx hg (cj3 hL hset hw))) ?_
    repeat with_reducible intro K hK
    exact Zac (k+1) (by omega) (by omega) (by refine Zag _ _ _ ?_ ?_ ?_ ?_ ?_ (.inl rfl)<;>simp[go_sem,okD,okDs,Zap]<;>first|rfl|(rintro e (⟨_,rfl⟩|⟨_,rfl⟩)<;>rfl))
   obtain rfl:k=X.length:=by omega
   refine aGo (cj2 hres h2) ?_
   repeat with_reducible intro K hK
   rw[Zan (fun _=>rfl),Zan (fun _=>rfl),ZsN,hstep]
  ·have n4:n≤40:=by omega
   obtain⟨es,ee⟩:∃ es,z.map cF=es:=⟨_,rfl⟩
   have hcell:=Zhz z
   have hlen:es.length=z.length:=by rw[← ee];simp
   have hl:z.length=X.length:=by rw[hz.l,hX.l]
   rw[ee]at hcell
   obtain⟨e1,es',hes⟩:∃ e1 es',es=e1 ::es':=by
    cases es with
    | nil=>simp at hlen;omega
    | cons a b=>exact⟨a,b,rfl⟩
   rw[show sdO (some z) = .sl (e1 ::es')from by rw[← hes,← ee];rfl]
   refine aGo (cj2 hres h1) ?_
   repeat with_reducible intro K hK
   rw[← hes]
   refine Zbf Tryz.func119 rfl (by kernel_rfl) (by kernel_rfl) (by kernel_rfl) ?_
   rw[Tryz.ntmps119]
   refine aGo hresP ?_
   repeat with_reducible intro K hK
   refine Zbf Tryz.func142 rfl (by kernel_rfl) (by kernel_rfl) (by kernel_rfl) ?_
   rw[Tryz.ntmps142]
   repeat((fail_if_success (with_reducible refine Zdt 1 ?_));first
   | (refine hK _ ?_;clear hK;clear K)
   | (refine aSeq fun K hK=>?_)
   | (refine ZcK ?_)
   | (refine ZeV ?_)
   | (refine ZeX ?_)
   | (refine aRet ?_)
   | (refine aOps _ rfl (by kernel_rfl) ?_)
   | (refine ZeW _ rfl Zeb (by kernel_rfl) (by kernel_rfl) fun KE hE=>?_)
   | (refine hE _ _ (by kernel_rfl) (Zay rfl) ?_;clear hE;clear KE)
   | (refine hE _ _ (by kernel_rfl) (Za8 ?hi ?hj) ?_;(case hi=>(repeat(refine Zam rfl ?_));exact Zao);(case hj=>simp);clear hE;clear KE)
   | (refine ZcI rfl ?hc ?_;case hc=>simp only[go_sem,↓reduceIte,hresC])
   | (refine ZcJ rfl ?hc ?_;case hc=>simp only[go_sem,↓reduceIte,hresC])
   | (simp only[go_sem,↓reduceIte,hresC])
   | (refine And.intro ?ho ?_;(case ho=>omega))
   | (clear hK;clear K))
   refine Ze9 (es:=es) Tryz.underlying33 rfl rfl rfl rfl rfl rfl (by kernel_rfl) (by kernel_rfl) rfl (fun h0=>?_) ?_
   ·rw[hes]at h0
    cases h0
   have h3:(es.length:Int)≤4096:=by omega
   refine aGo (cj2 hresC hresP) ?_
   repeat with_reducible intro K hK
   refine⟨⟨hcell,by omega,by omega⟩,?_⟩
   refine aGo (cj2 hresC hresP) ?_
   repeat with_reducible intro K hK
   have e0:es=(onA z X 0).map cF:=by rw[ZnM,ee]
   refine Zat (fun(k:Nat)=>[(5,.ls 2 1),(10,ZaQ X),(11,dI X.length),(12,dI k)]) (fun k=>[(0,⟨99,0,2,[cS s],0,false⟩),(1,⟨4,1,1,out.map fun b=>[dB b],0,false⟩),(2,⟨53,1,4,(onA z X k).map cF,0,false⟩)]) 3 2 (fun k=>k≤X.length) (fun k=>X.length-k) 0 (by omega) ?_ ?_
   ·refine Zag _ _ _ ?_ ?_ ?_ ?_ ?_ (.inr fun id hid=>?_)<;>simp[go_sem,e0,okD,okDs,Zap]
    all_goals first|rfl|(have:id<2:=hid;omega)|(rintro e (⟨_,rfl⟩|⟨_,rfl⟩)<;>rfl)
   rintro k hk
   obtain⟨hw,k0⟩:=ZaM k
   have kz:(0:Nat)≤k:=Yb0 _
   by_cases h2:(k:Int)<X.length
   ·obtain⟨x,hx⟩:=getE (l:=z) (k:=k) (by omega)
    obtain⟨y,hy⟩:=getE (l:=X) (k:=k) (by omega)
    have ox:=Ya6.1 hz.o x (ZaI hx)
    have oy:=Ya6.1 hX.o y (ZaI hy)
    have zx:=hz.z x (ZaI hx)
    have zy:=hX.z y (ZaI hy)
    have hs:=ZqX hl hx hy
    have hg:=(ZqZ hl (k:=k) (by omega)).trans hx
    have hL:=ZqY hl k (by omega)
    obtain⟨qx,rfl⟩:∃ q,x=ofQ q:=⟨_,Zcm ox⟩
    obtain⟨qy,rfl⟩:∃ q,y=ofQ q:=⟨_,Zcm oy⟩
    rw[Zav,Zav]at hs
    change szQ qx≤_ at zx
    change szQ qy≤_ at zy
    have ka:=ZgD qx qy (by omega) (by omega)
    have hset:((onA z X k).map cF).set k [dI (ofQ (qx+qy)).p.s,Zab (ofQ (qx+qy)).p.d,dI (ofQ (qx+qy)).q.s,Zab (ofQ (qx+qy)).q.d]=(onA z X (k+1)).map cF:=by rw[← hs,List.map_set]
    generalize onA z X k=A at *
    refine aGo (cj4 hresP h2 k0 (cj4 kz hx hy (cj4 hg hL hset hw))) ?_
    repeat with_reducible intro K hK
    exact Zac (k+1) (by omega) (by omega) (by refine Zag _ _ _ ?_ ?_ ?_ ?_ ?_ (.inr fun id hid=>?_)<;>simp[go_sem,okD,okDs,Zap]<;>first|rfl|(have:id<2:=hid;omega)|(rintro e (⟨_,rfl⟩|⟨_,rfl⟩)<;>rfl))
   obtain rfl:k=X.length:=by omega
   rw[← hl,Zq0 hl]
   have hZ:=on_z hz hX.l hX.o hX.z
   have hdef:addO (some z) X=onD 1 z X:=rfl
   rw[hdef]at hstep
   rw[hl]
   clear hdef e0
   generalize onD 1 z X=Z at hZ hstep ⊢
   have hZl:Z.length≤4096:=by have:=hZ.l;omega
   refine aGo (cj4 hresC hresP hres (cj2 hwn h2)) ?_
   repeat with_reducible intro K hK
   have e0:Z.map cF=(mapA (shr n) Z 0).map cF:=by rw[ZpE]
   refine Zat (fun(k:Nat)=>[(6,.ls 1 1),(7,.ls 2 1),(17,.lp 3 0 0 0),(84,.ls 2 1),(85,dI Z.length),(86,dI k)]) (fun k=>[(1,⟨4,1,1,out.map fun b=>[dB b],0,false⟩),(2,⟨53,1,4,(mapA (shr n) Z k).map cF,0,false⟩),(3,⟨53,0,4,[cF (ofQ (Rat.divInt 1 ((n:Int)+1)))],0,false⟩)]) 4 0 (fun k=>k≤Z.length) (fun k=>Z.length-k) 0 (by omega) ?_ ?_
   ·refine Zag _ _ _ ?_ ?_ ?_ ?_ ?_ (.inl rfl)<;>simp[go_sem,e0,okD,okDs,Zap]
    all_goals first|rfl|(rintro e (⟨_,rfl⟩|⟨_,rfl⟩)<;>rfl)
   rintro k hk
   obtain⟨hw,k0⟩:=ZaM k
   have kz:(0:Nat)≤k:=Yb0 _
   by_cases h2:(k:Int)<Z.length
   ·obtain⟨x,hx⟩:=getE (l:=Z) (k:=k) (by omega)
    have ox:=Ya6.1 hZ.o x (ZaI hx)
    have zx:=hZ.z x (ZaI hx)
    have hs:=ZsK (f:=shr n) hx
    have hg:=(ZsM (f:=shr n) (l:=Z) (k:=k) (by omega)).trans hx
    have hL:=ZsL (f:=shr n) (l:=Z) (k:=k) (by omega)
    obtain⟨qx,rfl⟩:∃ q,x=ofQ q:=⟨_,Zcm ox⟩
    unfold shr at hs
    rw[Zav]at hs
    change szQ qx≤_ at zx
    have ka:=Zsw qx (Rat.divInt 1 ((n:Int)+1)) (by omega) (by omega)
    have hset:((mapA (shr n) Z k).map cF).set k [dI (ofQ (qx*Rat.divInt 1 ((n:Int)+1))).p.s,Zab (ofQ (qx*Rat.divInt 1 ((n:Int)+1))).p.d,dI (ofQ (qx*Rat.divInt 1 ((n:Int)+1))).q.s,Zab (ofQ (qx*Rat.divInt 1 ((n:Int)+1))).q.d]=(mapA (shr n) Z (k+1)).map cF:=by
     unfold shr
     rw[← hs,List.map_set]
    generalize mapA (shr n) Z k=A at *
    refine aGo (cj4 hres h2 k0 (cj4 kz hx hg (cj3 hL hset hw))) ?_
    repeat with_reducible intro K hK
    exact Zac (k+1) (by omega) (by omega) (by refine Zag _ _ _ ?_ ?_ ?_ ?_ ?_ (.inl rfl)<;>simp[go_sem,okD,okDs,Zap]<;>first|rfl|(rintro e (⟨_,rfl⟩|⟨_,rfl⟩)<;>rfl))
   obtain rfl:k=Z.length:=by omega
   refine aGo (cj2 hres h2) ?_
   repeat with_reducible intro K hK
   rw[Zan (fun _=>rfl),Zan (fun _=>rfl),ZsN,hstep]
 ·rw[if_pos hm]at hstep
  have:=hlf2 hm
  rcases hz with rfl|⟨z,rfl,hz⟩
  ·have hzz:ZOk s.n.toNat (n+1) (addO none X):=zX
   repeat((fail_if_success (with_reducible refine Zdt 20 ?_));first
   | (refine hK _ ?_;clear hK;clear K)
   | (refine aSeq fun K hK=>?_)
   | (refine ZcK ?_)
   | (refine ZeV ?_)
   | (refine ZeX ?_)
   | (refine aRet ?_)
   | (refine aOps _ rfl (by kernel_rfl) ?_)
   | (refine ZeW _ rfl Zeb (by kernel_rfl) (by kernel_rfl) fun KE hE=>?_)
   | (refine hE _ _ (by kernel_rfl) (Zay rfl) ?_;clear hE;clear KE)
   | (refine hE _ _ (by kernel_rfl) (Za8 ?hi ?hj) ?_;(case hi=>(repeat(refine Zam rfl ?_));exact Zao);(case hj=>simp);clear hE;clear KE)
   | (refine ZcI rfl ?hc ?_;case hc=>simp only[go_sem,↓reduceIte,hres,h1])
   | (refine ZcJ rfl ?hc ?_;case hc=>simp only[go_sem,↓reduceIte,hres,h1])
   | (simp only[go_sem,↓reduceIte,hres,h1])
   | (refine And.intro ?ho ?_;(case ho=>omega))
   | (clear hK;clear K))
   refine ZBi Tryz.underlying33 rfl rfl rfl rfl rfl rfl (by kernel_rfl) (by kernel_rfl) rfl ?_
   refine aGo (cj2 hres hwn) ?_
   repeat with_reducible intro K hK
   exact Zac (n+1,Zfc X l out,some (addO none X)) ⟨hsb,by simp only;omega,.inr ⟨_,rfl,hzz⟩,by rw[hstep,show l.length+1-(n+1)=l.length-n by omega]⟩ (by omega) (by refine Zag _ _ _ ?_ ?_ ?_ ?_ ?_ (.inl rfl)<;>simp[go_sem,okD,okDs,Zap,sdO,addO]<;>first|rfl|(rintro e (⟨_,rfl⟩|⟨_,rfl⟩)<;>rfl))
  ·have hzz:=on_z hz hX.l hX.o hX.z
   have kp:=ZAL z X (by rw[hz.l,hX.l]) hz.o hX.o (by have:=hz.l;omega) (fun f hf=>by have:=hz.z f hf;omega) (fun f hf=>by have:=hX.z f hf;omega)
   obtain⟨f1,z',rfl⟩:∃ f1 z',z=f1 ::z':=by
    cases z with
    | nil=>have:=hz.l;simp at this;omega
    | cons a b=>exact⟨a,b,rfl⟩
   rw[show sdO (some (f1 ::z')) = .sl (cF f1 ::z'.map cF)from rfl]
   rw[show ZaQ (f1 ::z') = .sl (cF f1 ::z'.map cF)from rfl]at kp
   refine aGo (cj3 hres h1 hwn) ?_
   repeat with_reducible intro K hK
   exact Zac (n+1,Zfc X l out,some (addO (some (f1 ::z')) X)) ⟨hsb,by simp only;omega,.inr ⟨_,rfl,hzz⟩,by rw[hstep,show l.length+1-(n+1)=l.length-n by omega]⟩ (by omega) (by refine Zag _ _ _ ?_ ?_ ?_ ?_ ?_ (.inl rfl)<;>simp[go_sem,okD,okDs,Zap,sdO,addO]<;>first|rfl|(rintro e (⟨_,rfl⟩|⟨_,rfl⟩)<;>rfl))
set_option maxHeartbeats 8000000
theorem Zoj{α β:Type}(p:α→Bool)(f:α→β):∀ l:List α,(l.filter p).map f=l.filterMap fun a=>if p a then some (f a)else none
 | []=>rfl
 | a ::l=>by
   rw[List.filter_cons,List.filterMap_cons]
   cases h:p a
   ·simp only[Bool.false_eq_true,if_false];exact Zoj p f l
   ·simp only[if_true,List.map_cons];rw[Zoj p f l]
theorem Zs5{α β:Type}{f g:α→Option β}:∀ {l:List α},(∀ a∈l,f a=g a)→l.filterMap f=l.filterMap g
 | [],_=>rfl
 | a ::l,h=>by rw[List.filterMap_cons,List.filterMap_cons,h a Yb7,Zs5 fun b hb=>h b (Yb6 _ hb)]
def ZoM(i:Nat):TermD:=⟨(i:Int),ofQ 1⟩
theorem ZzU(e:EvD)(h:Int):ZbW e h=(ownL e h).map ZoM:=by
 unfold ZbW ownL ZgE ZaS
 rw[Zoj]
 refine Zs5 fun i hi=>?_
 have hi:=List.mem_range.1 hi
 unfold ownH ZoM
 rw[show decide ((i:Int)<(e.mv.length:Int))=true from decide_eq_true (by omega),Bool.true_and]
 cases Zie e h (-1) 0 100000 (mvAt e i)
 ·rfl
 ·rfl
theorem ZEr(t:TrD)(R:RightTr t)(h1:ZaZ t=0)(L:LenT t)(hp:∀ x∈t.e.mv,0≤x.f∧x.f<t.e.pl.length)(hf:Zgg t.e=0)(h:Int)(h0:0≤h)(hh:h<t.e.h):Zaa Tryz.prog 43 [ZbC t,dI h] (Zbh (ZbW t.e h)):=by
 have hres:=Tryz.results43
 have k1:=ZhU t L
 rw[h1]at k1
 have k2:=Zrb t.e L.e h (-1) 0 100000 hp
 rw[if_pos hf]at k2
 have k3:=nO_c
 have Lm:=R.e.lm
 have ll:(ownL t.e h).length≤t.e.mv.length:=ZqP t.e h
 change Zaa _ _ _ (Zab (natI (ownL t.e h)))at k2
 rw[ZzU]
 have g1:¬ h<0:=by omega
 have g2:¬ h≥t.e.h:=by omega
 obtain⟨O,eO⟩:∃ O,ownL t.e h=O:=⟨_,rfl⟩
 rw[eO]at k2 ll ⊢
 clear eO
 have lI:(natI O).length=O.length:=by simp[natI]
 refine inN Tryz.func43 rfl Tryz.ntmps43 fun I=>?_
 refine aGo (cj3 hres g1 g2) ?_
 repeat with_reducible intro K hK
 refine aLe (ZcT 5 151 5 rfl) ?_
 simp only[go_sem]
 refine Zat (fun(k:Nat)=>[(5,.ls 1 k),(25,Zab (natI O)),(26,dI O.length),(27,dI k)]) (fun k=>[(1,⟨151,k,5,((O.take k).map ZoM).map cT,0,false⟩)]) 2 0 (fun k=>k≤O.length) (fun k=>O.length-k) 0 (by omega) ?_ ?_
 ·refine Zag _ _ _ ?_ ?_ ?_ ?_ ?_ (.inl rfl)<;>simp[go_sem,okD,okDs,Zap,lI]
 rintro k hk
 obtain⟨hw,k0⟩:=ZaM k
 by_cases h2:(k:Int)<O.length
 ·obtain⟨i,hx⟩:=getE (l:=O) (k:=k) (by omega)
  have hx2:(natI O)[k]? =some (i:Int):=by unfold natI;rw[List.getElem?_map,hx];rfl
  have eN:(O.take (k+1)).map ZoM=(O.take k).map ZoM++[⟨(i:Int),ofQ 1⟩]:=by rw[Yb4,hx];simp[ZoM]
  have lN:((O.take k).map ZoM).length=k:=by simp;omega
  generalize (O.take k).map ZoM=A at *
  generalize natI O=B at *
  refine aGo (cj4 hres k0 h2 (cj3 hx2 lN hw)) ?_
  repeat with_reducible intro K hK
  exact Zac (k+1) (by omega) (by omega) (by refine Zag _ _ _ ?_ ?_ ?_ ?_ ?_ (.inl rfl)<;>simp[go_sem,okD,okDs,Zap,eN]<;>(rintro e (⟨a,_,rfl⟩|rfl)<;>rfl))
 obtain rfl:k=O.length:=by omega
 refine aGo (cj2 hres h2) ?_
 repeat with_reducible intro K hK
 rw[Zan (fun _=>rfl),List.take_length]
theorem ZzL{s:SysD}{g:List TermD}(h:0<sgnD (ZaH s g).v):(ZaH s g).k=0:=by
 unfold ZaH at h ⊢
 have zz:¬ 0<sgnD zF:=by decide +kernel
 cases hn:next (fin s g)with
 | ex r c=>rfl
 | best=>rfl
 | row r=>rw[hn]at h;exact absurd h zz
 | col c =>
   rw[hn]at h
   simp only at h
   split at h<;>exact absurd h zz
theorem Zu7(s:SysD)(g:List TermD)(h:Int)(F1:FitG s g)(F2:FitG s (oppT g))(hs:smT g):Zaf Tryz.prog 42 [encS s,Zbh g,dI h] (.agg (cV (ZcL s g h))):=by
 have hres:=Tryz.results42
 have t1:=F1.tn
 have t2:=F2.tn
 have o1:=ZkF F1.r F1.gr
 have o2:=ZkF F2.r F2.gr
 have eL:ZbV s g=(ZaH s g,0):=by unfold ZbV;rw[F1.r,F1.gr];rfl
 have eM:ZbV s (oppT g)=(ZaH s (oppT g),0):=by unfold ZbV;rw[F2.r,F2.gr];rfl
 have k1:=Zn5 s g F1.f
 have k2:=Zn5 s (oppT g) F2.f
 have k3:=Zum g hs
 have kC:=ZzM s g F1.f F1.r F1.gr
 have kv0:=ZzL (s:=s) (g:=g)
 have kn:=ZhN (-1) (by decide) (by decide)
 rw[eL]at k1
 rw[eM]at k2
 have e0:ZcL s g h=if 0<sgnD (ZaH s g).v then⟨h,2,(ZaH s g).x,[],(ZaH s g).y++[ofQ (-1)]⟩else if (ZaH s (oppT g)).k=2 then⟨h,1,onD 1 (ZaH s (oppT g)).x (ZaH s (oppT g)).d,(ZaH s g).x,[]⟩else if sgnD (ZaH s (oppT g)).v<0 then⟨h,1,(ZaH s (oppT g)).x,(ZaH s g).x,[]⟩else⟨h,0,[],(ZaH s g).x,(ZaH s (oppT g)).y⟩:=by
  unfold ZcL maxO
  rw[eL,eM]
 rw[e0]
 have ks:=Zd1 (ZaH s g).v (by have:=t1.1;unfold tnF at this;omega)
 have kt:=Zd1 (ZaH s (oppT g)).v (by have:=t2.1;unfold tnF at this;omega)
 generalize ZaH s g=A at *
 generalize ZaH s (oppT g)=B at *
 generalize oppT g=g2 at *
 obtain⟨ak,av,ax,ay,ad⟩:=A
 obtain⟨bk,bv,bx,byy,bd⟩:=B
 simp only at ks kt kC kv0 k1 k2 ⊢
 by_cases c1:0<sgnD av
 ·have k:=kC (kv0 c1)
  clear k1 k2 kC
  rw[if_pos c1]
  have yl:(ay.length:Int)≤64:=t1.2.2.1.1
  have yc:=Zhz ay
  refine inC Tryz.func42 rfl Tryz.ntmps42 ?_
  refine aGo (cj2 hres c1) ?_
  repeat with_reducible intro K hK
  rw[List.map_append,Zan (fun _=>rfl)]
  exact congrArg (fun x=>D.agg [dI h,dI 2,ZaQ ax,.sl [],.sl x]) (List.map_append (f:=cF) (l₁:=ay) (l₂:=[ofQ (-1)])).symm
 clear kC kv0
 rw[if_neg c1]
 refine inC Tryz.func42 rfl Tryz.ntmps42 ?_
 by_cases c2:bk=2
 ·have c2':(bk==2)=true:=by simp[c2]
  have kp:=sum_c bx bd (o2.l c2) o2.x o2.d (by have:(bx.length:Int)≤64:=t2.2.1.1;omega) (fun f hf=>by have:=t2.2.1.2 f hf;unfold tnF at this;omega) (fun f hf=>by have:=t2.2.2.2.2 f hf;unfold tnF at this;omega)
  rw[if_pos c2]
  refine aGo (cj3 hres c1 c2') ?_
  repeat with_reducible intro K hK
  rfl
 have c2':(bk==2)=false:=by simp[c2]
 rw[if_neg c2]
 by_cases c3:sgnD bv<0
 ·rw[if_pos c3]
  refine aGo (cj4 hres c1 c2' c3) ?_
  repeat with_reducible intro K hK
  rfl
 ·rw[if_neg c3]
  refine aGo (cj4 hres c1 c2' c3) ?_
  repeat with_reducible intro K hK
  rfl
theorem Znu(a b:List Int)(ha:a.length≤4096)(hb:b.length≤4096):Zaa Tryz.prog 27 [Zab a,Zab b] (dB (a==b)):=by
 have hres:=Tryz.results27
 refine inN Tryz.func27 rfl Tryz.ntmps27 fun I=>?_
 by_cases hl:a.length=b.length
 rotate_left
 ·have hl':((a.length:Int) !=(b.length:Int))=true:=by simp;omega
  refine aGo (cj2 hres hl') ?_
  repeat with_reducible intro K hK
  exact Zai (by simp;intro e;exact hl (by rw[e]))
 have hl':((a.length:Int) !=(b.length:Int))=false:=by simp;omega
 refine aGo (cj2 hres hl') ?_
 repeat with_reducible intro K hK
 refine Zat (fun(k:Nat)=>[(0,Zab a),(1,Zab b),(5,dI k)]) (fun _=>[]) 0 0 (fun k=>k≤a.length∧a.take k=b.take k) (fun k=>a.length-k) 0 ⟨by omega,rfl⟩ ?_ ?_
 ·exact leGo trivial
 rintro k ⟨hk,hn⟩
 obtain⟨hw,h0⟩:=ZaM k
 by_cases h1:(k:Int)<a.length
 ·obtain⟨x,hx⟩:=getE (l:=a) (k:=k) (by omega)
  obtain⟨y,hy⟩:=getE (l:=b) (k:=k) (by omega)
  by_cases h2:x=y
  ·have h2':(x !=y)=false:=by simp[h2]
   have hn2:a.take (k+1)=b.take (k+1):=by rw[Yb4,Yb4,hx,hy,hn,h2]
   refine aGo (cj4 hres h0 h1 (cj4 hx hy hw h2')) ?_
   repeat with_reducible intro K hK
   exact Zac (k+1) ⟨by omega,hn2⟩ (by omega) (by exact leGo trivial)
  ·have h2':(x !=y)=true:=by simpa using h2
   have hf:(a==b)=false:=by
    simp
    intro e
    subst e
    rw[hx]at hy
    exact h2 (Option.some.inj hy)
   refine aGo (cj4 hres h0 h1 (cj3 hx hy h2')) ?_
   repeat with_reducible intro K hK
   exact Zai hf.symm
 ·have hf:(a==b)=true:=by
   rw[Ya8 (by omega),Ya8 (by omega)]at hn
   simpa using hn
  refine aGo (cj2 hres h1) ?_
  repeat with_reducible intro K hK
  exact Zai hf.symm
def ZdA(e:EvD)(mv m:Int):Bool :=
 !(decide (e.m>m)||(decide (e.h>6)||(decide (e.s>6)||decide ((e.pl.length:Int)>12))))&&(decide ((e.mv.length:Int)≤mv)&&(decide ((e.ce.length:Int)≤10)&&(decide ((e.re.length:Int)≤4)&&decide ((e.pu.length:Int)≤6))))
theorem ZvF(e:EvD)(mv m:Int):Zaa Tryz.prog 29 [Zio e,dI mv,dI m] (dB (ZdA e mv m)):=by
 have hres:=Tryz.results29
 refine inN Tryz.func29 rfl Tryz.ntmps29 fun I=>?_
 obtain⟨b,hb⟩:∃ b,ZdA e mv m=b:=⟨_,rfl⟩
 rw[hb]
 by_cases h1:e.m>m
 ·refine aGo (cj2 hres h1) ?_
  repeat with_reducible intro K hK
  exact Zai (by rw[← hb];simp[ZdA,h1])
 by_cases h2:e.h>6
 ·refine aGo (cj3 hres h1 h2) ?_
  repeat with_reducible intro K hK
  exact Zai (by rw[← hb];simp[ZdA,h2])
 by_cases h3:e.s>6
 ·refine aGo (cj4 hres h1 h2 h3) ?_
  repeat with_reducible intro K hK
  exact Zai (by rw[← hb];simp[ZdA,h3])
 by_cases h4:(e.pl.length:Int)>12
 ·refine aGo (cj4 hres h1 h2 (cj2 h3 h4)) ?_
  repeat with_reducible intro K hK
  exact Zai (by rw[← hb];have:decide ((e.pl.length:Int)>12)=true:=decide_eq_true h4;simp only[ZdA,this,Bool.or_true,Bool.not_true,Bool.false_and])
 have g4:(decide (e.m>m)||(decide (e.h>6)||(decide (e.s>6)||decide ((e.pl.length:Int)>12))))=false:=by rw[decide_eq_false h1,decide_eq_false h2,decide_eq_false h3,decide_eq_false h4];rfl
 by_cases h5:(e.mv.length:Int)≤mv
 rotate_left
 ·refine aGo (cj4 hres h1 h2 (cj3 h3 h4 h5)) ?_
  repeat with_reducible intro K hK
  exact Zai (by rw[← hb];unfold ZdA;rw[g4,decide_eq_false h5];rfl)
 by_cases h6:(e.ce.length:Int)≤10
 rotate_left
 ·refine aGo (cj4 hres h1 h2 (cj4 h3 h4 h5 h6)) ?_
  repeat with_reducible intro K hK
  exact Zai (by rw[← hb];unfold ZdA;rw[g4,decide_eq_true h5,decide_eq_false h6];rfl)
 by_cases h7:(e.re.length:Int)≤4
 rotate_left
 ·refine aGo (cj4 hres h1 h2 (cj4 h3 h4 h5 (cj2 h6 h7))) ?_
  repeat with_reducible intro K hK
  exact Zai (by rw[← hb];unfold ZdA;rw[g4,decide_eq_true h5,decide_eq_true h6,decide_eq_false h7];rfl)
 refine aGo (cj4 hres h1 h2 (cj4 h3 h4 h5 (cj2 h6 h7))) ?_
 repeat with_reducible intro K hK
 exact Zai (by rw[← hb];unfold ZdA;rw[g4,decide_eq_true h5,decide_eq_true h6,decide_eq_true h7];rfl)
def ZfQ(t:TrD)(mv:Int):Bool:=ZdA t.e mv 3&&(decide (t.e.h≤4)&&(decide ((t.fi.length:Int)≤6)&&decide ((t.cl.length:Int)≤6)))
theorem ZvE(t:TrD)(mv:Int):Zaa Tryz.prog 6 [ZbC t,dI mv] (dB (ZfQ t mv)):=by
 have hres:=Tryz.results6
 have k:=ZvF t.e mv 3
 obtain⟨b,hb⟩:∃ b,ZfQ t mv=b:=⟨_,rfl⟩
 rw[hb]
 refine inN Tryz.func6 rfl Tryz.ntmps6 fun I=>?_
 cases h1:ZdA t.e mv 3
 ·rw[h1]at k
  refine aGo hres ?_
  repeat with_reducible intro K hK
  exact Zai (by rw[← hb];unfold ZfQ;rw[h1];rfl)
 rw[h1]at k
 by_cases h2:t.e.h≤4
 rotate_left
 ·refine aGo (cj2 hres h2) ?_
  repeat with_reducible intro K hK
  exact Zai (by rw[← hb];unfold ZfQ;rw[h1,decide_eq_false h2];rfl)
 by_cases h3:(t.fi.length:Int)≤6
 rotate_left
 ·refine aGo (cj3 hres h2 h3) ?_
  repeat with_reducible intro K hK
  exact Zai (by rw[← hb];unfold ZfQ;rw[h1,decide_eq_true h2,decide_eq_false h3];rfl)
 refine aGo (cj3 hres h2 h3) ?_
 repeat with_reducible intro K hK
 exact Zai (by rw[← hb];unfold ZfQ;rw[h1,decide_eq_true h2,decide_eq_true h3];rfl)
def ZgY(t:TrD)(kind:Int)(z:Rat)(i:Nat):Int :=
 if (hiI t.e (mvAt t.e i)).2=true∧qOf (hiI t.e (mvAt t.e i)).1<z then 20
 else if ((finK t kind i).any fun g=>decide (z<(g:Rat)))=true then 24
 else if 0<cleK t kind i∧z≠0 then 13 else 0
def ZnV(t:TrD)(kind:Int)(z:List FracD)(i:Nat):Int :=
 if atP z (i:Nat)<0 then 3
 else if ZbK t.e i=false∧stN t.e (fun j=>atP z (j:Nat)) (mvAt t.e i).f i<atP z (i:Nat)then 4
 else if (mvAt t.e i).a=true∧atP z (i:Nat)≠stN t.e (fun j=>atP z (j:Nat)) (mvAt t.e i).f i then 7
 else ZgY t kind (atP z (i:Nat)) i
def ZgL(f:Nat→Int):Nat→Nat→Int
 | 0,_=>0
 | k+1,i=>if f i=0 then ZgL f k (i+1)else f i
def Zia(t:TrD)(kind:Int)(z:List FracD):Int :=
 if ZaZ t=0∧Zdk kind=true then(if z.length=t.e.mv.length∧okP z=true then ZgL (ZnV t kind z) t.e.mv.length 0 else 2)else 1
theorem Zm6(f:Nat→Int):∀ k i,ZgL f k i=0↔∀ j,i≤j→j<i+k→f j=0
 | 0,i=>⟨fun _ j h1 h2=>by omega,fun _=>rfl⟩
 | k+1,i=>by
   unfold ZgL
   by_cases h:f i=0
   ·rw[if_pos h,Zm6 f k (i+1)]
    constructor
    ·intro a j h1 h2
     by_cases e:j=i
     ·subst e;exact h
     ·exact a j (by omega) (by omega)
    ·intro a j h1 h2
     exact a j (by omega) (by omega)
   ·rw[if_neg h]
    exact⟨fun e=>absurd e h,fun a=>absurd (a i (Ya4 _) (by omega)) h⟩
theorem Zf3{t:TrD}{kind:Int}{z:Rat}{i:Nat}:ZgY t kind z i=0↔((hiI t.e (mvAt t.e i)).2=true→z≤qOf (hiI t.e (mvAt t.e i)).1)∧(∀ g∈finK t kind i,(g:Rat)≤z)∧(0<cleK t kind i→z=0):=by
 unfold ZgY
 by_cases h1:(hiI t.e (mvAt t.e i)).2=true∧qOf (hiI t.e (mvAt t.e i)).1<z
 ·rw[if_pos h1]
  refine⟨fun h=>absurd h (by decide),fun⟨a,_⟩=>?_⟩
  have:=a h1.1
  have:=h1.2
  exfalso;grind
 rw[if_neg h1]
 by_cases h2:((finK t kind i).any fun g=>decide (z<(g:Rat)))=true
 ·rw[if_pos h2]
  refine⟨fun h=>absurd h (by decide),fun⟨_,a,_⟩=>?_⟩
  rw[List.any_eq_true]at h2
  obtain⟨g,hg,h⟩:=h2
  have:=a g hg
  simp only[decide_eq_true_eq]at h
  exfalso;grind
 rw[if_neg h2]
 have h2':∀ g∈finK t kind i,(g:Rat)≤z:=fun g hg=>by
  rw[List.any_eq_true]at h2
  have:¬ z<(g:Rat):=fun h=>h2 ⟨g,hg,by simpa using h⟩
  grind
 have h1':(hiI t.e (mvAt t.e i)).2=true→z≤qOf (hiI t.e (mvAt t.e i)).1:=fun h=>by
  have:¬ qOf (hiI t.e (mvAt t.e i)).1<z:=fun h3=>h1 ⟨h,h3⟩
  grind
 by_cases h3:0<cleK t kind i∧z≠0
 ·rw[if_pos h3]
  exact⟨fun h=>absurd h (by decide),fun⟨_,_,a⟩=>absurd (a h3.1) h3.2⟩
 ·rw[if_neg h3]
  refine⟨fun _=>⟨h1',h2',fun h=>?_⟩,fun _=>rfl⟩
  by_cases hz:z=0
  ·exact hz
  ·exact absurd ⟨h,hz⟩ h3
theorem ZpA{t:TrD}{kind:Int}{z:List FracD}{i:Nat}(hb:ZbK t.e i=true→(mvAt t.e i).a=false):ZnV t kind z i=0↔0≤atP z (i:Nat)∧(ZbK t.e i=false→atP z (i:Nat)≤stN t.e (fun j=>atP z (j:Nat)) (mvAt t.e i).f i)∧(ZbK t.e i=false→(mvAt t.e i).a=true→atP z (i:Nat)=stN t.e (fun j=>atP z (j:Nat)) (mvAt t.e i).f i)∧ZgY t kind (atP z (i:Nat)) i=0:=by
 unfold ZnV
 by_cases h1:atP z (i:Nat)<0
 ·rw[if_pos h1]
  exact⟨fun h=>absurd h (by decide),fun⟨a,_⟩=>by exfalso;grind⟩
 rw[if_neg h1]
 have h1':0≤atP z (i:Nat):=by grind
 by_cases h2:ZbK t.e i=false∧stN t.e (fun j=>atP z (j:Nat)) (mvAt t.e i).f i<atP z (i:Nat)
 ·rw[if_pos h2]
  exact⟨fun h=>absurd h (by decide),fun⟨_,a,_⟩=>by have:=a h2.1;have:=h2.2;exfalso;grind⟩
 rw[if_neg h2]
 have h2':ZbK t.e i=false→atP z (i:Nat)≤stN t.e (fun j=>atP z (j:Nat)) (mvAt t.e i).f i:=fun h=>by
  have:¬ stN t.e (fun j=>atP z (j:Nat)) (mvAt t.e i).f i<atP z (i:Nat):=fun h3=>h2 ⟨h,h3⟩
  grind
 by_cases h3:(mvAt t.e i).a=true∧atP z (i:Nat)≠stN t.e (fun j=>atP z (j:Nat)) (mvAt t.e i).f i
 ·rw[if_pos h3]
  refine⟨fun h=>absurd h (by decide),fun⟨_,_,a,_⟩=>?_⟩
  cases hbin:ZbK t.e i
  ·exact absurd (a hbin h3.1) h3.2
  ·have:=hb hbin
   rw[h3.1]at this;cases this
 ·rw[if_neg h3]
  refine⟨fun h=>⟨h1',h2',fun _ ha=>?_,h⟩,fun h=>h.2.2.2⟩
  by_cases e:atP z (i:Nat)=stN t.e (fun j=>atP z (j:Nat)) (mvAt t.e i).f i
  ·exact e
  ·exact absurd ⟨ha,e⟩ h3
theorem ZmT{t:TrD}{kind:Int}{z:List FracD}:Zia t kind z=0↔ZaZ t=0∧Zdk kind=true∧Zal (sysT t kind) z=true:=by
 unfold Zia
 by_cases h1:ZaZ t=0∧Zdk kind=true
 ·rw[if_pos h1]
  have R:=Zby h1.1
  rw[ZcN (ZaU R kind)]
  have hb:∀ i,i<t.e.mv.length→ZbK t.e i=true→(mvAt t.e i).a=false:=fun i hi h=>(R.e.mvOk hi).bin (by unfold ZbK at h;simpa using h)
  by_cases h2:z.length=t.e.mv.length∧okP z=true
  ·rw[if_pos h2,Zm6]
   constructor
   ·intro h
    have hm:∀ i,i<t.e.mv.length→_:=fun i hi=>(ZpA (hb i hi)).1 (h i (Yb0 _) (by omega))
    exact⟨h1.1,h1.2,h2.1,h2.2,fun i hi=>(hm i hi).1,fun i hi=>(hm i hi).2.1,fun i hi=>(hm i hi).2.2.1,fun i hi=>(Zf3.1 (hm i hi).2.2.2).1,fun i hi=>(Zf3.1 (hm i hi).2.2.2).2.1,fun i hi=>(Zf3.1 (hm i hi).2.2.2).2.2⟩
   ·rintro⟨_,_,_,_,S⟩ j _ hj
    have hj:j<t.e.mv.length:=by omega
    exact(ZpA (hb j hj)).2 ⟨S.pos j hj,S.st j hj,S.all j hj,Zf3.2 ⟨S.cap j hj,S.fin j hj,S.cle j hj⟩⟩
  ·rw[if_neg h2]
   exact⟨fun h=>absurd h (by decide),fun⟨_,_,a,b,_⟩=>absurd ⟨a,b⟩ h2⟩
 ·rw[if_neg h1]
  exact⟨fun h=>absurd h (by decide),fun⟨a,b,_⟩=>absurd ⟨a,b⟩ h1⟩
def outF(t:TrD)(kind:Int)(v:Nat):TrD:={t with fi:=t.fi++[⟨v,kind,1⟩]}
def outC(t:TrD)(kind:Int)(v:Nat):TrD:={t with cl:=t.cl++[⟨v,kind⟩]}
noncomputable def lenE (x:List (List Int)×Int):Nat:=if x.2=0 then x.1.length else 0
noncomputable def ZdO (t:TrD) (kind:Int) (v:Nat):Nat :=
 if max (lenE (ZaJ (outF t kind v) kind)) (lenE (ZaJ (outC t kind v) kind))=0 then(ZaJ t kind).1.length else max (lenE (ZaJ (outF t kind v) kind)) (lenE (ZaJ (outC t kind v) kind))
theorem ZBL{t:TrD}{kind:Int}{v:Nat}(h:(ZaJ (outF t kind v) kind).2=0):(ZaJ (outF t kind v) kind).1.length≤ZdO t kind v:=by
 have:lenE (ZaJ (outF t kind v) kind)=(ZaJ (outF t kind v) kind).1.length:=by unfold lenE;rw[if_pos h]
 unfold ZdO
 split<;>omega
theorem ZBM{t:TrD}{kind:Int}{v:Nat}(h:(ZaJ (outC t kind v) kind).2=0):(ZaJ (outC t kind v) kind).1.length≤ZdO t kind v:=by
 have:lenE (ZaJ (outC t kind v) kind)=(ZaJ (outC t kind v) kind).1.length:=by unfold lenE;rw[if_pos h]
 unfold ZdO
 split<;>omega
noncomputable def ZjT (t:TrD) (kind:Int):Nat→Nat
 | 0=>0
 | n+1=>if ZdO t kind (n+1)<ZdO t kind (ZjT t kind n)then n+1 else ZjT t kind n
theorem Zyi(t:TrD)(kind:Int):∀ n,ZjT t kind n≤n
 | 0=>Ya4 _
 | n+1=>by
   have:=Zyi t kind n
   unfold ZjT
   split<;>omega
structure SmT (t:TrD):Prop where
 n:t.e.mv.length≤4
 h:t.e.h≤3
 fi:t.fi.length≤8
 cl:t.cl.length≤8
section
variable {t:TrD} (R:RightTr t) {kind:Int} (hk:Zdk kind=true) (sm:SmT t) {z:List FracD} (hz:Zal (sysT t kind) z=true)
include R sm
theorem SmT.big:2*t.e.mv.length+t.fi.length+t.cl.length+t.e.h.toNat*t.e.mv.length≤6000:=by
 obtain⟨a,b,c,d⟩:=sm
 have h0:=R.e.h.1
 have:t.e.h.toNat*t.e.mv.length≤3*4:=Nat.mul_le_mul (by omega) a
 omega
end
theorem ZhT{t:TrD}{kind:Int}(ht:ZaZ t=0)(hk:Zdk kind=true){z:List FracD}(hz:Zal (sysT t kind) z=true):ZbL t kind=((Zed t.e).map (fun(h:Nat)=>ZcL (sysT t kind) (ZbW t.e h) h),0):=by
 unfold ZbL
 rw[if_pos ⟨ht,hk⟩]
 rcases Zno (ZaU (Zby ht) kind)with⟨h,_⟩|⟨_,h⟩
 ·rw[h,if_pos rfl]
 ·rw[h]at hz;cases hz
theorem ZBv{t:TrD}{kind:Int}(ht:ZaZ t=0)(hk:Zdk kind=true)(sm:SmT t){z:List FracD}(hz:Zal (sysT t kind) z=true):(ZhW t kind).2=0:=by
 unfold ZhW
 rw[ZhT ht hk hz]
 simp only[if_true]
 have:=Yb1 (fun v:VerD=>v.s !=0) ((Zed t.e).map (fun(h:Nat)=>ZcL (sysT t kind) (ZbW t.e h) h))
 have h3:=sm.h
 simp only[List.length_map,Zed,List.length_range]at this
 rw[if_neg (by unfold Zed;omega)]
theorem ZxA{t:TrD}{kind:Int}(ht:ZaZ t=0)(hk:Zdk kind=true)(sm:SmT t){z:List FracD}(hz:Zal (sysT t kind) z=true):(ZaJ t kind).2=0:=by
 unfold ZaJ
 rw[ZBv ht hk sm hz,if_pos rfl]
def Zgq(e:EvD)(z:List FracD)(h:Nat):Bool:=(ownL e h).any fun i=>decide (0<atP z (i:Nat))
def ZcX(e:EvD)(z:List FracD):List Nat:=(Zed e).filter (Zgq e z)
theorem ZlJ{h:Int}(p:Nat→Bool):∀ (k a:Nat)(last:Int),last<a→((a+k:Nat):Int)≤h→ZhO h last (((List.range' a k).filter p).map fun(x:Nat)=>(x:Int))=true
 | 0,_,_,_,_=>rfl
 | k+1,a,last,h1,h2=>by
   rw[List.range'_succ,List.filter_cons]
   have ih:=ZlJ (h:=h) p k (a+1)
   split
   ·rw[List.map_cons]
    unfold ZhO
    rw[decide_eq_true h1,decide_eq_true (by omega),ih a (by omega) (by omega)];rfl
   ·exact ih last (by omega) (by omega)
theorem ZoY{t:TrD}{kind:Int}(ht:ZaZ t=0)(hk:Zdk kind=true)(sm:SmT t){z:List FracD}(hz:Zal (sysT t kind) z=true):ZgM t kind ((ZcX t.e z).map fun(x:Nat)=>(x:Int))=true:=by
 have R:=Zby ht
 unfold ZgM
 rw[ht,hk]
 have h1:ZhO t.e.h (-1) ((ZcX t.e z).map fun(x:Nat)=>(x:Int))=true:=by
  unfold ZcX Zed
  rw[List.range_eq_range']
  exact ZlJ _ _ _ _ (by omega) (by have:=R.e.h.1;omega)
 rw[h1]
 have h2:ZfD t kind ((ZcX t.e z).map fun(x:Nat)=>(x:Int))=true:=by
  rw[Zta R (SmT.big R sm)]
  refine⟨z,hz,fun h hh hs i hi=>?_⟩
  have S:=((ZcN (ZaU R kind)).1 hz).2.2
  have h0:0≤atP z (i:Nat):=S.pos i (ZlA.1 hi).1
  by_cases hp:0<atP z (i:Nat)
  ·exfalso
   have:h∈ZcX t.e z:=List.mem_filter.2 ⟨List.mem_range.2 hh,List.any_eq_true.2 ⟨i,hi,by simpa using hp⟩⟩
   have:((ZcX t.e z).map fun(x:Nat)=>(x:Int)).contains (h:Int)=true:=List.contains_iff_mem.2 (List.mem_map.2 ⟨h,this,rfl⟩)
   rw[this]at hs;cases hs
  ·grind
 rw[h2];rfl
theorem Zit{t u:TrD}{kind:Int}(ht:ZaZ t=0)(hu:ZaZ u=0)(he:u.e=t.e)(hs:∀ x,Zal (sysT u kind) x=true→Zal (sysT t kind) x=true){z:List FracD}(hz:Zal (sysT u kind) z=true)(h:Nat)(h1:(ZcL (sysT t kind) (ZbW t.e h) h).s≠1):(ZcL (sysT u kind) (ZbW u.e h) h).s=(ZcL (sysT t kind) (ZbW t.e h) h).s:=by
 have R:=Zby ht
 have Ru:=Zby hu
 have n0:∀ {t:TrD} (R:RightTr t) x,Zal (sysT t kind) x=true→0≤atG x (ZbW t.e h):=fun R x hx=>(ZpS ((ZcN (ZaU R kind)).1 hx).2.2.pos).1
 obtain⟨a,b,c,_⟩:=Ziu (h:=h) (ZaU R kind) (g:=ZbW t.e h) (ZeG t.e h) ⟨z,hs z hz⟩ (n0 R)
 obtain⟨a',b',_⟩:=Ziu (h:=h) (ZaU Ru kind) (g:=ZbW u.e h) (ZeG u.e h) ⟨z,hz⟩ (n0 Ru)
 rw[he]at a' b' ⊢
 rcases c with c|c|c
 ·rw[c];exact b'.2 fun x hx=>b.1 c x (hs x hx)
 ·exact absurd c h1
 ·rw[c];exact a'.2 fun x hx=>a.1 c x (hs x hx)
theorem ZpW{e:EvD}{x:FiD}(h1:ZeC e x.v x.k=0)(h2:¬ (x.g<1∨x.g>1099511627776)):∀ l:List FiD,Zdc e l=0→Zdc e (l++[x])=0
 | [],_=>by show Zdc e [x]=0;unfold Zdc;rw[if_pos h1,if_neg h2];rfl
 | y ::l,h=>by
   rw[List.cons_append]
   unfold Zdc at h ⊢
   split at h
   ·rename_i h3
    rw[if_pos h3]
    split at h
    ·omega
    ·rename_i h4
     rw[if_neg h4]
     exact ZpW h1 h2 l h
   ·rename_i h3;exact absurd h h3
theorem Zne{e:EvD}{x:ClD}(h1:ZeC e x.v x.k=0):∀ l:List ClD,ZcP e l=0→ZcP e (l++[x])=0
 | [],_=>by show ZcP e [x]=0;unfold ZcP;rw[if_pos h1];rfl
 | y ::l,h=>by
   rw[List.cons_append]
   unfold ZcP at h ⊢
   split at h
   ·rename_i h3
    rw[if_pos h3]
    exact Zne h1 l h
   ·rename_i h3;exact absurd h h3
theorem ZfO{t:TrD}(h:ZaZ t=0):Zgg t.e=0∧Zdc t.e t.fi=0∧ZcP t.e t.cl=0:=by
 unfold ZaZ at h
 split at h
 ·rename_i h1
  split at h
  ·omega
  ·split at h
   ·rename_i h3;exact⟨h1,h3,h⟩
   ·rename_i h3;exact absurd h h3
 ·rename_i h1;exact absurd h h1
theorem ZpD{e:EvD}{v:Nat}{kind:Int}(hv:v<e.mv.length)(hk:Zdk kind=true):ZeC e v kind=0:=by
 simp only[Zdk,Ya2,decide_eq_true_eq]at hk
 unfold ZeC
 rw[if_neg (by omega),if_neg (by omega)]
section
variable {t:TrD} {kind:Int} (ht:ZaZ t=0) (hk:Zdk kind=true) {v:Nat} (hv:v<t.e.mv.length)
include ht hk hv
theorem ZmH(h:t.fi.length<20):ZaZ (outF t kind v)=0:=by
 obtain⟨a,b,c⟩:=ZfO ht
 have R:=Zby ht
 have:=R.lc
 unfold ZaZ
 rw[if_pos (show Zgg (outF t kind v).e=0 from a),if_neg (by simp only[outF,List.length_append,List.length_singleton];omega),if_pos (show Zdc (outF t kind v).e (outF t kind v).fi=0 from ZpW (ZpD hv hk) (by simp only;omega) _ b)]
 exact c
theorem ZmJ(h:t.cl.length<50):ZaZ (outC t kind v)=0:=by
 obtain⟨a,b,c⟩:=ZfO ht
 have R:=Zby ht
 have:=R.lf
 unfold ZaZ
 rw[if_pos (show Zgg (outC t kind v).e=0 from a),if_neg (by simp only[outC,List.length_append,List.length_singleton];omega),if_pos (show Zdc (outC t kind v).e (outC t kind v).fi=0 from b)]
 exact Zne (ZpD hv hk) _ c
omit ht hk hv in
theorem Zoi(i:Nat):finK (outF t kind v) kind i=finK t kind i++(if v=i then [1]else []):=by
 unfold finK outF
 rw[List.filter_append,List.map_append]
 refine congrArg _ ?_
 by_cases h:v=i
 ·subst h;simp
 ·rw[if_neg h]
  have:((v:Int)==(i:Int))=false:=by simp;omega
  simp[this]
omit ht hk hv in
theorem Zoz(i:Nat):cleK (outC t kind v) kind i=cleK t kind i+(if v=i then 1 else 0):=by
 unfold cleK outC
 rw[List.filter_append,List.length_append]
 refine congrArg _ ?_
 by_cases h:v=i
 ·subst h;simp
 ·rw[if_neg h]
  have:((v:Int)==(i:Int))=false:=by simp;omega
  simp[this]
theorem ZmI(h:t.fi.length<20){x:List FracD}:Zal (sysT (outF t kind v) kind) x=true↔Zal (sysT t kind) x=true∧1≤atP x (v:Nat):=by
 rw[ZcN (ZaU (Zby (ZmH ht hk hv h)) kind),ZcN (ZaU (Zby ht) kind)]
 constructor
 ·rintro⟨a,b,S⟩
  refine⟨⟨a,b,S.pos,S.st,S.all,S.cap,fun i hi g hg=>S.fin i hi g (by rw[Zoi];exact List.mem_append_left _ hg),S.cle⟩,?_⟩
  have:=S.fin v hv 1 (by rw[Zoi,if_pos rfl];exact List.mem_append_right _ Yb7)
  exact this
 ·rintro⟨⟨a,b,S⟩,h1⟩
  refine⟨a,b,S.pos,S.st,S.all,S.cap,fun i hi g hg=>?_,S.cle⟩
  rw[Zoi]at hg
  rcases List.mem_append.1 hg with hg|hg
  ·exact S.fin i hi g hg
  ·split at hg
   ·rename_i e
    rw[List.mem_singleton.1 hg,← e];exact h1
   ·cases hg
theorem ZmK(h:t.cl.length<50){x:List FracD}:Zal (sysT (outC t kind v) kind) x=true↔Zal (sysT t kind) x=true∧atP x (v:Nat)=0:=by
 rw[ZcN (ZaU (Zby (ZmJ ht hk hv h)) kind),ZcN (ZaU (Zby ht) kind)]
 constructor
 ·rintro⟨a,b,S⟩
  refine⟨⟨a,b,S.pos,S.st,S.all,S.cap,S.fin,fun i hi hc=>S.cle i hi (by rw[Zoz];omega)⟩,?_⟩
  exact S.cle v hv (by rw[Zoz,if_pos rfl];omega)
 ·rintro⟨⟨a,b,S⟩,h1⟩
  refine⟨a,b,S.pos,S.st,S.all,S.cap,S.fin,fun i hi hc=>?_⟩
  rw[Zoz]at hc
  by_cases e:v=i
  ·subst e;exact h1
  ·rw[if_neg e]at hc;exact S.cle i hi (by omega)
end
structure TrOk (t:TrD):Prop where
 R:RightTr t
 ta:ZaZ t=0
 L:LenT t
 S:SmE t
 b:3*t.e.mv.length+t.fi.length+t.cl.length≤32
section
variable {t:TrD} (h:TrOk t)
include h
theorem TrOk.flow:Zgg t.e=0:=(ZfO h.ta).1
theorem TrOk.mvf:∀ x∈t.e.mv,0≤x.f∧x.f<t.e.pl.length:=fun x hx=>(h.R.e.mv x hx).f
theorem TrOk.rows(kind:Int):(sysT t kind).r.length≤28∧∀ w∈(sysT t kind).r,RowZ w:=by
 have h1:=h.S.n
 have h2:=h.S.fi
 have h3:=h.S.cl
 have h4:=Zg9 t kind
 exact⟨by show(ZbS t kind t.e.mv.length).length≤28;omega,fun w hw=>ZvT h.R (by omega) hw⟩
theorem TrOk.fitG(kind:Int)(g:List TermD)(K:Nat)(hg:Zah g t.e.mv.length=true)(hk:IntK K g)(hK:K≤1000000):FitG (sysT t kind) g :=
 Zrq h.S.n (by have:=(h.rows kind).1;have e:(sysT t kind).r=ZbS t kind t.e.mv.length:=rfl;rw[e]at this;omega) (h.rows kind).2 (ZaU h.R kind) hg hk hK
theorem TrOk.fit0(kind:Int):Fit (sysT t kind) [] 4 6 :=
 ZA4 h.S.n (by have:=(h.rows kind).1;have e:(sysT t kind).r=ZbS t kind t.e.mv.length:=rfl;rw[e]at this;omega) (h.rows kind).2 ⟨by decide,fun t ht=>by cases ht⟩
theorem ZuB(e:EvD)(x:Int):IntK 1 (ZbW e x):=ZjM fun i=>by
 unfold ownH
 split
 ·exact .inr (.inl rfl)
 ·exact .inl rfl
theorem TrOk.verdict(kind:Int)(x:Int):Zaf Tryz.prog 42 [encS (sysT t kind),Zbh (ZbW t.e x),dI x] (.agg (cV (ZcL (sysT t kind) (ZbW t.e x) x))):=by
 have h1:=h.S.n
 have hr:=ZeG t.e x
 have hk:=ZuB (t:=t) h t.e x
 exact Zu7 _ _ _ (h.fitG kind _ 1 hr hk (by decide)) (h.fitG kind _ 1 (Zdj hr) (hk.opp hr (by omega)) (by decide)) (ZvG hr (by omega) hk (by decide))
theorem TrOk.goal{x:Int}(h0:0≤x)(hx:x<t.e.h):Zaa Tryz.prog 43 [ZbC t,dI x] (Zbh (ZbW t.e x)):=ZEr t h.R h.ta h.L h.mvf h.flow x h0 hx
theorem TrOk.sys{kind:Int}(hk:Zdk kind=true):Zaf Tryz.prog 40 [ZbC t,dI kind] (.tup [encS (sysT t kind),dI 0]):=sys_c t h.R h.ta h.L kind hk
theorem TrOk.sol(kind:Int):Zaf Tryz.prog 41 [encS (sysT t kind)] (.tup [ZaQ (solD (sysT t kind)).1,ZaQ (solD (sysT t kind)).2.1,dB (solD (sysT t kind)).2.2]):=Zmq _ (h.fit0 kind)
theorem Zg0{kind:Int}(hk:Zdk kind=true):Zaf Tryz.prog 9 [ZbC t,dI kind] (.tup [ZAf (ZbL t kind).1,dI (ZbL t kind).2]):=by
 have hres:=Tryz.results9
 have k1:=h.sys hk
 have k2:=h.sol kind
 have hh:=h.R.e.h
 have hs6:=h.S.h
 unfold ZbL
 rw[if_pos ⟨h.ta,hk⟩]
 have kg:=fun(x:Nat) (hx:(x:Int)<t.e.h)=>h.goal (x:=x) (by omega) hx
 have kv:=fun(x:Nat)=>h.verdict kind x
 obtain⟨s,es⟩:∃ s,sysT t kind=s:=⟨_,rfl⟩
 rw[es]at k1 k2 kv ⊢
 clear es
 obtain⟨p,ep⟩:∃ p,solD s=p:=⟨_,rfl⟩
 rw[ep]at k2 ⊢
 clear ep
 obtain⟨a,b,c⟩:=p
 simp only at k2 ⊢
 refine inC Tryz.func9 rfl Tryz.ntmps9 ?_
 cases c
 ·refine aGo hres ?_
  repeat with_reducible intro K hK
  rfl
 rw[if_pos rfl]
 refine aGo hres ?_
 repeat with_reducible intro K hK
 refine aLe (ZcT 11 58 5 rfl) ?_
 simp only[go_sem]
 obtain⟨A,eA⟩:∃ A:Nat→List VerD,A=fun k=>(List.range k).map fun(x:Nat)=>ZcL s (ZbW t.e x) x:=⟨_,rfl⟩
 have A0:A 0=[]:=by rw[eA];rfl
 have Al:∀ k,(A k).length=k:=fun k=>by rw[eA];simp
 have AN:∀ k,A (k+1)=A k++[ZcL s (ZbW t.e k) k]:=fun k=>by rw[eA];simp only;rw[List.range_succ];simp
 have AE:A t.e.h.toNat=(Zed t.e).map fun(x:Nat)=>ZcL s (ZbW t.e x) x:=by rw[eA];rfl
 obtain⟨H,eH⟩:∃ H:Nat,t.e.h.toNat=H:=⟨_,rfl⟩
 have eH2:t.e.h=(H:Int):=by omega
 rw[eH2]at kg
 rw[eH]at AE
 clear eA
 refine Zat (fun(k:Nat)=>[(2,.lp 0 0 0 0),(6,.lp 1 0 0 0),(11,.ls 2 k),(31,dI t.e.h),(32,dI k)]) (fun k=>[(0,⟨32,0,10,[cTr t],0,false⟩),(1,⟨99,0,2,[cS s],0,false⟩),(2,⟨58,k,5,(A k).map cV,0,false⟩)]) 3 0 (fun k=>k≤H) (fun k=>H-k) 0 (by omega) ?_ ?_
 ·refine Zag _ _ _ ?_ ?_ ?_ ?_ ?_ (.inl rfl)<;>simp[go_sem,okD,okDs,Zap,A0]
 rintro k hk
 obtain⟨hw,k0⟩:=ZaM k
 by_cases h2:(k:Int)<t.e.h
 ·have q1:=kg k (by omega)
  have q2:=kv k
  have eN:=AN k
  have la:=Al k
  generalize ZcL s (ZbW t.e k) k=v at *
  generalize ZbW t.e k=g at *
  generalize A k=B at *
  refine aGo (cj4 hres k0 h2 (cj2 la hw)) ?_
  repeat with_reducible intro K hK
  exact Zac (k+1) (by omega) (by omega) (by refine Zag _ _ _ ?_ ?_ ?_ ?_ ?_ (.inl rfl)<;>simp[go_sem,okD,okDs,Zap,eN]<;>(rintro e (⟨a,_,rfl⟩|rfl)<;>rfl))
 obtain rfl:k=H:=by omega
 refine aGo (cj2 hres h2) ?_
 repeat with_reducible intro K hK
 rw[Zan (fun _=>rfl),AE]
def suV(v:VerD):Bool:=v.s !=0
def suA(l:List VerD)(k:Nat):List Int:=((l.take k).filter suV).map VerD.h
theorem ZtO{kind:Int}(hk:Zdk kind=true):Zaf Tryz.prog 99 [ZbC t,dI kind] (.tup [Zab (ZhW t kind).1,dI (ZhW t kind).2]):=by
 have hres:=Tryz.results99
 have k1:=Zg0 h hk
 have hh:=h.R.e.h
 have hs6:=h.S.h
 have ll:(ZbL t kind).1.length≤6:=by
  unfold ZbL
  split
  ·split
   ·simp[Zed];omega
   ·simp
  ·simp
 unfold ZhW
 generalize ZbL t kind=V at *
 obtain⟨l,e⟩:=V
 simp only at k1 ll ⊢
 refine inC Tryz.func99 rfl Tryz.ntmps99 ?_
 by_cases he:e=0
 rotate_left
 ·have he':(e !=0)=true:=by simpa using he
  rw[if_neg he]
  refine aGo (cj2 hres he') ?_
  repeat with_reducible intro K hK
  rfl
 subst he
 rw[if_pos rfl,if_neg (by have:=Yb1 (fun v:VerD=>v.s !=0) l;omega)]
 refine aGo hres ?_
 repeat with_reducible intro K hK
 refine aLe (ZcT 8 3 1 rfl) ?_
 simp only[go_sem]
 refine Zat (fun(k:Nat)=>[(8,.ls 1 (suA l k).length),(20,ZAf l),(21,dI l.length),(22,dI k)]) (fun k=>[(1,⟨3,(suA l k).length,1,(suA l k).map fun x=>[dI x],0,false⟩)]) 2 0 (fun k=>k≤l.length) (fun k=>l.length-k) 0 (by omega) ?_ ?_
 ·have e0:suA l 0=[]:=rfl
  refine Zag _ _ _ ?_ ?_ ?_ ?_ ?_ (.inl rfl)<;>simp[go_sem,okD,okDs,Zap,e0]
 rintro k hk
 obtain⟨hw,k0⟩:=ZaM k
 by_cases h2:(k:Int)<l.length
 ·obtain⟨v,hx⟩:=getE (l:=l) (k:=k) (by omega)
  have eN:suA l (k+1)=suA l k++if suV v then [v.h]else []:=by
   unfold suA
   rw[Yb4,hx,List.filter_append,List.map_append]
   cases hv:suV v<;>simp[hv]
  have la:(suA l k).length≤k:=by
   unfold suA
   rw[List.length_map]
   refine Nat.le_trans (Yb1 _ _) ?_
   rw[List.length_take];omega
  have ev:suV v=(v.s !=0):=rfl
  cases hv:(v.s !=0)
  ·rw[ev,hv,if_neg Bool.false_ne_true,List.append_nil]at eN
   generalize suA l k=A at *
   refine aGo (cj4 hres k0 h2 (cj3 hx hv hw)) ?_
   repeat with_reducible intro K hK
   exact Zac (k+1) (by omega) (by omega) (by refine Zag _ _ _ ?_ ?_ ?_ ?_ ?_ (.inl rfl)<;>simp[go_sem,okD,okDs,Zap,eN])
  ·rw[ev,hv,if_pos rfl]at eN
   generalize suA l k=A at *
   refine aGo (cj4 hres k0 h2 (cj3 hx hv hw)) ?_
   repeat with_reducible intro K hK
   exact Zac (k+1) (by omega) (by omega) (by refine Zag _ _ _ ?_ ?_ ?_ ?_ ?_ (.inl rfl)<;>simp[go_sem,okD,okDs,Zap,eN]<;>(rintro e (⟨a,_,rfl⟩|rfl)<;>rfl))
 obtain rfl:k=l.length:=by omega
 have eA:suA l l.length=(l.filter fun v=>v.s !=0).map VerD.h:=by unfold suA;rw[List.take_length];rfl
 have la:(suA l l.length).length≤6:=by
  rw[eA,List.length_map]
  exact Nat.le_trans (Yb1 _ _) ll
 have h9:¬ ((suA l l.length).length:Int)>8:=by omega
 refine aGo (cj3 hres h2 h9) ?_
 repeat with_reducible intro K hK
 rw[Zan (fun _=>rfl),eA]
end
theorem Zrh(l:List Int)(x:Int)(hl:l.length≤4096):Zaa Tryz.prog 117 [Zab l,dI x] (dI (idxI (fun y=>x==y) l)):=by
 have hres:=Tryz.results117
 refine inN Tryz.func117 rfl Tryz.ntmps117 fun I=>?_
 refine aGo hres ?_
 repeat with_reducible intro K hK
 refine Zat (fun(k:Nat)=>[(0,Zab l),(1,dI x),(7,dI l.length),(8,dI k)]) (fun _=>[]) 0 0 (fun k=>k≤l.length∧(l.take k).any (fun y=>x==y)=false) (fun k=>l.length-k) 0 ⟨by omega,rfl⟩ ?_ ?_
 ·exact leGo trivial
 rintro k ⟨hk,hn⟩
 obtain⟨hw,h0⟩:=ZaM k
 by_cases h1:(k:Int)<l.length
 ·obtain⟨y,hx⟩:=getE (l:=l) (k:=k) (by omega)
  cases h2:(x==y)
  ·refine aGo (cj4 hres h0 h1 (cj3 hx hw h2)) ?_
   repeat with_reducible intro K hK
   exact Zac (k+1) ⟨by omega,Zdu hx hn h2⟩ (by omega) (by exact leGo trivial)
  ·refine aGo (cj4 hres h0 h1 (cj3 hx hw h2)) ?_
   repeat with_reducible intro K hK
   exact ZaX (Zrm hx hn h2).symm
 ·refine aGo (cj2 hres h1) ?_
  repeat with_reducible intro K hK
  rw[Ya8 (by omega)]at hn
  exact ZaX (Zrk hn).symm
theorem ZDa(l:List Int)(x:Int):l.any (fun y=>x==y)=l.contains x:=by
 induction l with
 | nil=>rfl
 | cons a l ih=>rw[List.any_cons,List.contains_cons,ih]
theorem Zma(l:List Int)(x:Int)(hl:l.length≤4096):Zaa Tryz.prog 67 [Zab l,dI x] (dB (l.contains x)):=by
 have hres:=Tryz.results67
 have hc:=Zrh l x hl
 refine inN Tryz.func67 rfl Tryz.ntmps67 fun I=>?_
 refine aGo hres ?_
 repeat with_reducible intro K hK
 exact Zai (by rw[← ZDa];exact Zrl _ _)
theorem ZCz(e:EvD)(set:List Int)(hl:set.length≤4096):Zaa Tryz.prog 44 [Zio e,Zab set] (dB (ZhO e.h (-1) set)):=by
 have hres:=Tryz.results44
 refine inN Tryz.func44 rfl Tryz.ntmps44 fun I=>?_
 refine aGo hres ?_
 repeat with_reducible intro K hK
 refine Zat (fun(x:Nat×Int)=>[(2,.lp 0 0 0 0),(5,dI x.2),(8,Zab set),(9,dI set.length),(10,dI x.1)]) (fun _=>[(0,⟨28,0,8,[cEv e],0,false⟩)]) 1 0 (fun x=>x.1≤set.length∧ZhO e.h (-1) set=ZhO e.h x.2 (set.drop x.1)) (fun x=>set.length-x.1) (0,-1) ⟨by show 0≤_;omega,rfl⟩ ?_ ?_
 ·exact leGo trivial
 rintro⟨k,last⟩ ⟨hk,hi⟩
 simp only at hk hi
 obtain⟨hw,h0⟩:=ZaM k
 by_cases h1:(k:Int)<set.length
 rotate_left
 ·have:set.drop k=[]:=List.drop_eq_nil_of_le (by omega)
  rw[this]at hi
  refine aGo (cj2 hres h1) ?_
  repeat with_reducible intro K hK
  exact Zai hi.symm
 obtain⟨y,hx⟩:∃ y,set[k]? =some y:=⟨_,Ya0 (by omega)⟩
 have ed:set.drop k=y ::set.drop (k+1):=by
  obtain⟨h,rfl⟩:=Ya3.1 hx
  exact List.drop_eq_getElem_cons h
 rw[ed]at hi
 simp only[ZhO]at hi
 by_cases h2:y≤last
 ·rw[decide_eq_false (by omega:¬ last<y),Bool.false_and]at hi
  refine aGo (cj4 hres h0 h1 (cj2 hx h2)) ?_
  repeat with_reducible intro K hK
  exact Zai hi.symm
 rw[decide_eq_true (by omega:last<y),Bool.true_and]at hi
 by_cases h3:y≥e.h
 ·rw[decide_eq_false (by omega:¬ y<e.h),Bool.false_and]at hi
  refine aGo (cj4 hres h0 h1 (cj3 hx h2 h3)) ?_
  repeat with_reducible intro K hK
  exact Zai hi.symm
 rw[decide_eq_true (by omega:y<e.h),Bool.true_and]at hi
 refine aGo (cj4 hres h0 h1 (cj4 hx h2 h3 hw)) ?_
 repeat with_reducible intro K hK
 exact Zac (k+1,y) ⟨by show k+1≤_;omega,hi⟩ (by show set.length-(k+1)<set.length-k;omega) (by exact leGo trivial)
theorem ZB0(e:EvD)(h:Int):ownL e h=(List.range e.mv.length).filter fun(i:Nat)=>(decide ((i:Int)<e.mv.length)&&(Zct e (mvAt e i).f==0&&(decide (0≤(mvAt e i).d)&&decide ((mvAt e i).d≤100000))))&&(((e.pl[(mvAt e i).f.toNat]?).map PlD.h).getD (-1))==h:=by
 unfold ownL ZgE Zie
 refine List.filter_congr fun i _=>?_
 rw[show((-1:Int) == -1)=true from rfl,Bool.true_or,Bool.true_and]
 cases decide ((i:Int)<e.mv.length)<;>cases Zct e (mvAt e i).f==0<;>cases(((e.pl[(mvAt e i).f.toNat]?).map PlD.h).getD (-1))==h<;>simp
theorem ZoG(e:EvD)(set:List Int):∀ n,(ZdM e set n).length≤ZcG n fun h=>(ownL e h).length
 | 0=>by simp[ZdM]
 | n+1=>by
   have ih:=ZoG e set n
   have h1:(if set.contains (n:Int)=true then []else Zu0 e n).length≤(ownL e n).length:=by
    split
    ·simp
    ·simp[Zu0]
   simp only[ZdM,List.length_append,ZcG]
   omega
theorem ZoI(e:EvD)(set:List Int)(n:Nat):(ZdM e set n).length≤e.mv.length:=by
 refine Nat.le_trans (ZoG e set n) ?_
 have h:=ZkI (fun i:Nat=>decide ((i:Int)<e.mv.length)&&(Zct e (mvAt e i).f==0&&(decide (0≤(mvAt e i).d)&&decide ((mvAt e i).d≤100000)))) (fun i=>(((e.pl[(mvAt e i).f.toNat]?).map PlD.h).getD (-1))) n (List.range e.mv.length)
 rw[List.length_range]at h
 refine Nat.le_trans (Zk0 n fun i _=>?_) h
 rw[ZB0]
 exact Ya4 _
section
variable {t:TrD} (h:TrOk t)
include h
theorem TrOk.big:2*t.e.mv.length+t.fi.length+t.cl.length+t.e.h.toNat*t.e.mv.length≤6000:=by
 obtain⟨a,b,c,d⟩:=h.S
 have:t.e.h.toNat*t.e.mv.length≤6*6:=Nat.mul_le_mul (by omega) a
 omega
theorem TrOk.explRows(kind:Int)(set:List Int):(ZfC t kind set).r.length≤32∧∀ w∈(ZfC t kind set).r,RowZ w:=by
 have h4:=Zg9 t kind
 have h5:=ZoI t.e set t.e.h.toNat
 have h6:=h.b
 refine⟨by show(ZbS t kind t.e.mv.length++ZdM t.e set t.e.h.toNat).length≤32;rw[List.length_append];omega,fun w hw=>?_⟩
 rcases List.mem_append.1 hw with hw|hw
 ·exact(h.rows kind).2 w hw
 ·obtain⟨_,_,_,i,_,rfl⟩:=(ZgF _).1 hw
  exact Zwz (by decide +kernel)
theorem TrOk.explFit(kind:Int)(set:List Int):FitG (ZfC t kind set) [] :=
 Zrq h.S.n (h.explRows kind set).1 (h.explRows kind set).2 (ZjQ h.R h.big) (by simp only[Zah,Ya2,decide_eq_true_eq];exact⟨by omega,rfl⟩) IntK.nil (by decide)
theorem TrOk.explSol(kind:Int)(set:List Int):Zaf Tryz.prog 41 [encS (ZfC t kind set)] (.tup [ZaQ (solD (ZfC t kind set)).1,ZaQ (solD (ZfC t kind set)).2.1,dB (solD (ZfC t kind set)).2.2]):=Zmq _ (h.explFit kind set).f
theorem TrOk.explHolds(kind:Int)(set:List Int):Zaf Tryz.prog 91 [encS (ZfC t kind set),ZaQ (solD (ZfC t kind set)).1] (dB (Zal (ZfC t kind set) (solD (ZfC t kind set)).1)):=by
 have F:=h.explFit kind set
 obtain⟨a,b⟩:=h.explRows kind set
 refine ZzJ _ _ ⟨by omega,fun w hw=>?_⟩ ?_
 ·obtain⟨c,d,e⟩:=b w hw
  exact⟨⟨by omega,fun t ht=>by have:=e t ht;show(szF t.f:Int)≤4194304;omega⟩,by show(szF w.v:Int)≤4194304;omega⟩
 ·have ht:=F.tn
  unfold solD
  rw[F.r]
  simp only[if_true]
  split
  ·exact⟨by simp,fun f hf=>by cases hf⟩
  ·exact tnFs.sm ht.2.1
theorem Zm9(kind:Int)(set:List Int)(hl:set.length≤4096):Zaf Tryz.prog 45 [ZbC t,encS (sysT t kind),Zab set] (dB (ZfD t kind set)):=by
 have hres:=Tryz.results45
 have hresC:=Tryz.results90
 have k1:=h.explSol kind set
 have k2:=h.explHolds kind set
 have hf:=h.flow
 have kl:=fun(x:Nat)=>Zrb t.e h.L.e x (-1) 0 100000 h.mvf
 have q1:=nO_c
 have q0:=nZ_c
 have s1:=h.S.n
 have hh:=h.R.e.h
 have hs6:=h.S.h
 have hr:=(h.rows kind).1
 obtain⟨A,eA⟩:∃ A:Nat→List RowD,A=fun k=>ZbS t kind t.e.mv.length++ZdM t.e set k:=⟨_,rfl⟩
 have A0:A 0=ZbS t kind t.e.mv.length:=by rw[eA];simp[ZdM]
 have Al:∀ k,(A k).length≤34:=fun k=>by
  rw[eA];simp only
  rw[List.length_append]
  have:=ZoI t.e set k
  have e:(sysT t kind).r=ZbS t kind t.e.mv.length:=rfl
  rw[e]at hr
  omega
 have AN:∀ k:Nat,A (k+1)=A k++if set.contains (k:Int)=true then []else(ownL t.e k).map fun i=>oneR i 2 (ofQ 0):=fun k=>by rw[eA];simp only[ZdM,List.append_assoc];rfl
 have AE:ZfC t kind set=⟨t.e.mv.length,A t.e.h.toNat⟩:=by rw[eA];rfl
 have hB:ZfD t kind set=((solD (ZfC t kind set)).2.2&&Zal (ZfC t kind set) (solD (ZfC t kind set)).1):=rfl
 rw[hB]
 rw[AE]at k1 k2 ⊢
 have eS:encS (sysT t kind) = .agg [dI t.e.mv.length,.sl ((A 0).map cW)]:=by rw[A0];rfl
 rw[eS]
 obtain⟨H,eH⟩:∃ H:Nat,t.e.h.toNat=H:=⟨_,rfl⟩
 have eH2:t.e.h=(H:Int):=by omega
 rw[eH]at k1 k2 ⊢
 have Ac:∀ k,(A k).length≤34:=Al
 clear eA A0 AE eS hB eH
 refine inC Tryz.func45 rfl Tryz.ntmps45 ?_
 refine ZoD (n:=1) ⟨⟩ hres ?_
 repeat with_reducible intro K hK
 have r1:∀ (V:Nat)(st:St),StLe st ⟨tabT [(2,Zab set),(3,.lp 0 0 0 0),(4,.lp 1 0 0 0),(6,dB false)],tabM [(0,⟨32,0,10,[cTr t],0,false⟩),(1,⟨99,0,2,[[dI t.e.mv.length,.ls 2 V]],0,false⟩),(2,⟨153,V,6,(A 0).map cW,0,false⟩)],3,0⟩→K st:=by
  intro V st hle
  refine hK _ (aLe hle ?_)
  clear hle hK
  refine aGo hres ?_
  repeat with_reducible intro K hK
  refine Zat (fun(x:Nat×Nat)=>[(2,Zab set),(3,.lp 0 0 0 0),(4,.lp 1 0 0 0),(6,dB false),(19,dI t.e.h),(20,dI x.1)]) (fun x=>[(0,⟨32,0,10,[cTr t],0,false⟩),(1,⟨99,0,2,[[dI t.e.mv.length,.ls 2 x.2]],0,false⟩),(2,⟨153,x.2,6,(A x.1).map cW,0,false⟩)]) 3 0 (fun x=>x.1≤H) (fun x=>H-x.1) (0,V) (by show 0≤_;omega) ?_ ?_
  ·refine Zag _ _ _ ?_ ?_ ?_ ?_ ?_ (.inl rfl)<;>simp[go_sem,okD,okDs,Zap]<;>exact ZbQ _ _
  clear V
  rintro⟨k,V⟩ hk
  simp only at hk
  obtain⟨hw,k0⟩:=ZaM k
  have eN:=AN k
  have la:=Al k
  by_cases h2:(k:Int)<t.e.h
  rotate_left
  ·obtain rfl:k=H:=by omega
   have hj:((A k).map cW).map (List.map datJ)=(A k).map cW:=Zan (fun _=>rfl) _
   obtain⟨P,eP⟩:∃ P,solD ⟨(t.e.mv.length:Int),A k⟩=P:=⟨_,rfl⟩
   obtain⟨b,eb⟩:∃ b,Zal ⟨(t.e.mv.length:Int),A k⟩ P.1=b:=⟨_,rfl⟩
   have hfin:((solD ⟨(t.e.mv.length:Int),A k⟩).2.2&&Zal ⟨(t.e.mv.length:Int),A k⟩ (solD ⟨(t.e.mv.length:Int),A k⟩).1)=(P.2.2&&b):=by rw[eP,eb]
   rw[eP]at k1 k2
   rw[eb]at k2
   clear eP eb
   obtain⟨x,y,c⟩:=P
   simp only at k1 k2 hfin
   change Zaf _ _ [.agg [dI t.e.mv.length,.sl ((A k).map cW)]] _ at k1
   change Zaf _ _ [.agg [dI t.e.mv.length,.sl ((A k).map cW)],ZaQ x] _ at k2
   cases c
   ·refine aGo (cj3 hres h2 hj) ?_
    repeat with_reducible intro K hK
    exact Zai hfin.symm
   ·refine aGo (cj3 hres h2 hj) ?_
    repeat with_reducible intro K hK
    exact Zai hfin.symm
  have kL:=kl k
  rw[if_pos hf]at kL
  change Zaa _ _ _ (Zab (natI (ownL t.e k)))at kL
  have kc:=Zma set k hl
  cases hc:set.contains (k:Int)
  rotate_left
  ·rw[hc]at kc eN
   rw[if_pos rfl,List.append_nil]at eN
   refine aGo (cj4 hres h2 k0 hw) ?_
   repeat with_reducible intro K hK
   exact Zac (k+1,V) (by show k+1≤H;omega) (by show H-(k+1)<H-k;omega) (by refine Zag _ _ _ ?_ ?_ ?_ ?_ ?_ (.inl rfl)<;>simp[go_sem,okD,okDs,Zap,eN]<;>exact ZbQ _ _)
  rw[hc]at kc eN
  rw[if_neg Bool.false_ne_true]at eN
  have lo:=ZqP t.e k
  generalize ownL t.e k=O at *
  have lI:(natI O).length=O.length:=by simp[natI]
  refine aGo (cj3 hres h2 k0) ?_
  repeat with_reducible intro K hK
  refine Zat (fun(x:Nat×Nat)=>[(2,Zab set),(3,.lp 0 0 0 0),(4,.lp 1 0 0 0),(6,dB false),(19,dI t.e.h),(20,dI k),(29,Zab (natI O)),(30,dI O.length),(31,dI x.1)]) (fun x=>[(0,⟨32,0,10,[cTr t],0,false⟩),(1,⟨99,0,2,[[dI t.e.mv.length,.ls 2 x.2]],0,false⟩),(2,⟨153,x.2,6,(A k++(O.take x.1).map fun i=>oneR i 2 (ofQ 0)).map cW,0,false⟩)]) 3 0 (fun x=>x.1≤O.length) (fun x=>O.length-x.1) (0,V) (by show 0≤_;omega) ?_ ?_
  ·refine Zag _ _ _ ?_ ?_ ?_ ?_ ?_ (.inl rfl)<;>simp[go_sem,okD,okDs,Zap,lI]<;>exact ZbQ _ _
  rintro⟨j,W⟩ hj
  simp only at hj
  obtain⟨hwj,j0⟩:=ZaM j
  by_cases h5:(j:Int)<O.length
  rotate_left
  ·obtain rfl:j=O.length:=by omega
   rw[List.take_length,← eN]
   refine aGo (cj3 hres h5 hw) ?_
   repeat with_reducible intro K hK
   exact Zac (k+1,W) (by show k+1≤H;omega) (by show H-(k+1)<H-k;omega) (by refine Zag _ _ _ ?_ ?_ ?_ ?_ ?_ (.inl rfl)<;>simp[go_sem,okD,okDs,Zap]<;>exact ZbQ _ _)
  obtain⟨i,hi⟩:∃ i,O[j]? =some i:=⟨_,Ya0 (by omega)⟩
  have hiI:(natI O)[j]? =some (i:Int):=by unfold natI;rw[List.getElem?_map,hi];rfl
  have eB:A k++(O.take (j+1)).map (fun i=>oneR i 2 (ofQ 0))=(A k++(O.take j).map fun i=>oneR i 2 (ofQ 0))++[oneR i 2 (ofQ 0)]:=by rw[Yb4,hi];simp
  have lB:(A k++(O.take j).map fun i=>oneR i 2 (ofQ 0)).length≤34+j:=by rw[List.length_append,List.length_map,List.length_take];omega
  generalize (A k++(O.take j).map fun i=>oneR i 2 (ofQ 0))=B at *
  generalize natI O=I at *
  have ew:cW (oneR i 2 (ofQ 0))=[Zbh [⟨(i:Int),ofQ 1⟩],dI 2,dI (ofQ 0).p.s,Zab (ofQ 0).p.d,dI (ofQ 0).q.s,Zab (ofQ 0).q.d]:=rfl
  have ez:∀ M:Mem,List.map (List.map (fzT false M 4)) (B.map cW)=B.map cW:=fun M=>Zan (fun _=>rfl) _
  refine aGo (cj4 hres h5 j0 (cj2 hiI hwj)) ?_
  repeat with_reducible intro K hK
  refine Zac (j+1,W+1) (by show j+1≤_;omega) (by show O.length-(j+1)<O.length-j;omega) ?_
  rw[eB]
  refine StLe.trans (ZcM 3 rfl) (StLe.trans (ZcY 2 4 rfl) (ZlE (by simp only[go_sem,fzT,ez];exact rfl) ?_))
  refine Zag _ _ _ ?_ ?_ ?_ ?_ ?_ (.inl rfl)<;>simp[go_sem,okD,okDs,Zap,ew]
  all_goals (rintro e (⟨a,_,rfl⟩|rfl)<;>rfl)
 clear hK
 obtain⟨es,ee⟩:∃ es,(A 0).map cW=es:=⟨_,rfl⟩
 have hcell:∀ x∈es,x.length=6∧x.all D.isCell=true:=fun x hx=>by
  rw[← ee]at hx
  obtain⟨u,_,rfl⟩:=List.mem_map.1 hx
  exact⟨rfl,rfl⟩
 have hok:∀ keep,∀ x∈es,okDs keep x=true:=fun keep=>by rw[← ee];exact ZbQ _ _
 have hlen:es.length≤34:=by rw[← ee,List.length_map];exact Al 0
 rw[ee]at r1 ⊢
 refine aGo hres ?_
 repeat with_reducible intro K hK
 refine Zbf Tryz.func90 rfl (by kernel_rfl) (by kernel_rfl) (by kernel_rfl) ?_
 rw[Tryz.ntmps90]
 refine ZoD (n:=1) ⟨⟩ hresC ?_
 repeat with_reducible intro K hK
 refine Ze9 (es:=es) Tryz.underlying97 rfl rfl rfl rfl rfl rfl (by kernel_rfl) (by kernel_rfl) rfl (fun h0=>?_) ?_
 ·refine aGo (cj2 hres hresC) ?_
  repeat with_reducible intro K hK
  refine r1 0 _ (StLe.trans (ZdK 1 0 1 153 6 rfl rfl rfl) ?_)
  refine Zag _ _ _ ?_ ?_ ?_ ?_ ?_ (.inl rfl)<;>simp[go_sem,okD,okDs,Zap,h0]
 ·refine aGo (cj2 hres hresC) ?_
  repeat with_reducible intro K hK
  refine⟨⟨hcell,by omega,by omega⟩,?_⟩
  refine aGo (cj2 hres hresC) ?_
  repeat with_reducible intro K hK
  refine r1 1 _ ?_
  refine Zag _ _ _ ?_ ?_ ?_ ?_ ?_ (.inl rfl)<;>simp[go_sem,okD,okDs,Zap]
  exact hok _
theorem Zrs{kind:Int}(hk:Zdk kind=true)(set:List Int)(hl:set.length≤4096):Zaf Tryz.prog 10 [ZbC t,dI kind,Zab set] (dB (ZgM t kind set)):=by
 have hres:=Tryz.results10
 have k1:=h.sys hk
 have k2:=ZCz t.e set hl
 have k3:=Zm9 h kind set hl
 unfold ZgM
 rw[decide_eq_true h.ta,Bool.true_and,hk,Bool.true_and]
 refine inC Tryz.func10 rfl Tryz.ntmps10 ?_
 cases h1:ZhO t.e.h (-1) set
 ·rw[h1]at k2
  exact aGo hres trivial
 ·rw[h1]at k2
  generalize ZfD t kind set=b at *
  exact aGo hres trivial
end
theorem ZEU(p:List Int)(hp:p.length≤64):Zaa Tryz.prog 157 [Zab p] (.cl (p.map fun x=>[dI x])):=by
 refine⟨⟨_,_,Tryz.func157,rfl,by kernel_rfl⟩,fun S w vs hf hvs=>?_⟩
 obtain⟨v,rfl,h1⟩:=ZqH hvs
 obtain⟨a,cap,rfl,hcap,hle,_⟩:=h1.inv_sl
 have key:Rep noB noM S w (.slice a (p.map fun x=>[dI x]).length (p.map fun x=>[dI x]).length) (.sl (p.map fun x=>[dI x])):=by
  change Rep noB noM S w _ (.sl (p.map fun x=>[dI x]))at h1
  generalize (p.map fun x=>[dI x])=es at *
  have h2:∀ (n:Nat)(y:Value)(d:D),Rep noB noM S w y d→y = .slice a n cap→n=es.length→d = .sl es→Rep noB noM S w (.slice a es.length es.length) (.sl es):=by
   intro n y d hr hy hn hd
   cases hr<;>first|(cases hd;done)|skip
   ·cases hd;exact .sl0 _ _ (Yb0 _)
   ·rename_i b off cap' k es' val g1 g2 g3 g4 g5
    cases hd
    simp only[Value.slice.injEq]at hy
    obtain⟨rfl,-,-⟩:=hy
    exact .sl b off _ k _ val (Ya4 _) (Nat.le_trans g1 g2) g3 g4 g5
  exact h2 _ _ _ h1 rfl rfl rfl
 have hcl:=RepI.cl (S:=S) (w:=w) (β:=noB) (m:=noM) a (p.map fun x=>[dI x]) key
 simp only[List.length_map]at hcl hle ⊢
 cases a with
 | none =>
   go_enter Tryz.func157,Tryz.ntmps157
   go_wp2_with fail
   go_ret
   exact⟨_,rfl,Below.refl _ _,hcl⟩
 | some A =>
   go_enter Tryz.func157,Tryz.ntmps157
   go_wp2_with fail
   go_ret
   exact⟨_,rfl,Below.refl _ _,hcl⟩
theorem Zxf:(Tryz.prog.info? 3).map (fun i=>(i.zero.map fun z=>z.cells.size,i.size,i.bytes))=some (some 1,1,8):=by kernel_rfl
theorem Zxe:∃ i z,Tryz.prog.info? 3=some i∧i.zero=some z∧i.size=1∧i.bytes=8∧z.cells.size=1:=by
 have h:=Zxf
 cases hi:Tryz.prog.info? 3 with
 | none=>rw[hi]at h;cases h
 | some i =>
   rw[hi]at h
   simp only[Option.map_some,Ya1,Prod.mk.injEq]at h
   obtain⟨h1,h2,h3⟩:=h
   cases hz:i.zero with
   | none=>rw[hz]at h1;cases h1
   | some z=>rw[hz]at h1;exact⟨i,z,rfl,hz,h2,h3,by simpa using h1⟩
theorem Zx3:Zaa Tryz.prog 123 [.sl []] (.sl []):=by
 refine⟨⟨_,_,Tryz.func123,rfl,by kernel_rfl⟩,fun S w vs hf hvs=>?_⟩
 obtain⟨v,rfl,h1⟩:=ZqH hvs
 obtain⟨a,cap,rfl,hcap,_,_⟩:=h1.inv_sl
 obtain⟨i0,z,hi,hz0,hz1,hz2,hz3⟩:=Zxe
 have hnil:=fun(W:World) n c n' c'=>Lib.run_eql_slice_nil (P:=Tryz.prog) W 43 3 a n c n' c' Tryz.underlying43
 cases a with
 | none =>
   go_enter Tryz.func123,Tryz.ntmps123
   go_wp2_with fail
   go_ret
   exact⟨_,rfl,Below.refl _ _,.sl0 _ _ (by unfold maxLen;omega)⟩
 | some A =>
   go_enter Tryz.func123,Tryz.ntmps123
   go_wp2_with (at_builtin;refine Zdx _ (by rfl) _ _ _ (by rfl) w.heap.size 3 i0 z 1 _ Tryz.underlying43 hi hz0 hz1 hz2 hz3 (by omega) _ 0 [] (by rfl) (World.ownsRow_made w #[] 0 (Ya4 _) (Yb0 _) (by simp)) (some A) 0 cap [] (by rfl) ⟨rfl,.inl rfl⟩ (by simp) (by unfold maxLen;omega) (by omega) (by simp) ?_;intro v' w1 hown hgrow hat)
   go_ret
   refine⟨_,rfl,?_,?_⟩
   ·exact((Below.refl _ _).alloc (Ya4 _) _).grown hgrow (by simp) (by intro k hk;simp[Value.ownBlock]at hk;omega)
   ·rcases hown.2 with⟨rfl,_⟩|⟨g,cap,cur,rfl,_,_,_,hc,_⟩
    ·exact .sl0 _ _ (by unfold maxLen;omega)
    ·exact .sl0 _ _ hc
set_option maxRecDepth 20000 in
theorem ZC0(p:List Int)(hp:p.length≤64):Zaa Tryz.prog 123 [Zab p] (Zab p):=by
 have hresC:=Tryz.results123
 match p,hp with
 | [],_=>exact Zx3
 | y ::p,hp =>
   simp only[List.length_cons]at hp
   show Zaa _ _ [.sl ([dI y] ::p.map fun x=>[dI x])] (.sl ([dI y] ::p.map fun x=>[dI x]))
   obtain⟨c0,ec0⟩:∃ c0,[dI y]=c0:=⟨_,rfl⟩
   obtain⟨cs,ecs⟩:∃ cs,(p.map fun x=>[dI x])=cs:=⟨_,rfl⟩
   rw[ec0,ecs]
   have lT:cs.length=p.length:=by rw[← ecs];simp
   have hb:((p.length:Nat):Int)≤64:=by omega
   have hcell:∀ x∈c0 ::cs,x.length=1∧x.all D.isCell=true:=by
    intro x hx
    rw[← ec0,← ecs]at hx
    rcases List.mem_cons.1 hx with rfl|hx
    ·exact⟨rfl,rfl⟩
    ·obtain⟨u,_,rfl⟩:=List.mem_map.1 hx
     exact⟨rfl,rfl⟩
   have hfz:∀ (m:Mem)(n:Nat),List.map (List.map (fzT true m (n+1))) (c0 ::cs)=c0 ::cs:=by
    intro m n
    rw[← ec0,← ecs]
    simp[fzT,dI]
   refine inN Tryz.func123 rfl Tryz.ntmps123 fun I=>?_
   refine aGo (cj2 hresC lT) ?_
   repeat with_reducible intro K hK
   refine⟨⟨⟨hcell c0 (by simp),fun x hx=>hcell x (by simp[hx])⟩,by push_cast;omega,by push_cast;omega⟩,?_⟩
   refine aGo hresC ?_
   repeat with_reducible intro K hK
   exact congrArg D.sl (hfz _ _)
theorem ZDo:tyOf Tryz.prog 172=some ⟨0,1,8,some [.v .nilFunc],0,none,[]⟩:=by kernel_rfl
theorem ZDn:tyOf Tryz.prog 223=some ⟨0,1,8,some [.v .nilFunc],0,none,[]⟩:=by kernel_rfl
attribute [local go_sem] ZDo ZDn ZBp Zoc
def outs:List Int→Nat→List Int→List (List Int)
 | _,0,p=>[p]
 | [],_+1,_=>[]
 | x ::t,r+1,p=>outs t r (p++[x])++outs t (r+1) p
theorem Zlq(t:List Int)(p:List Int):outs t 0 p=[p]:=by cases t<;>rfl
theorem Zwr{l:List Int}{i:Nat}{x:Int}(h:l[i]? =some x)(p:List Int)(r:Nat):outs (l.drop i) (r+1) p=outs (l.drop (i+1)) r (p++[x])++outs (l.drop (i+1)) (r+1) p:=by
 obtain⟨hi,rfl⟩:=Ya3.1 h
 rw[List.drop_eq_getElem_cons hi]
 rfl
theorem Zzh(l:List Int)(p:List Int)(r:Nat):outs (l.drop l.length) (r+1) p=[]:=by rw[List.drop_length];rfl
def Zeg(n:Nat):D:=.ep [[dI n]] 0 0
def ZfH(yl:Nat):D:=.ep [[.v (.func (.yield yl) #[] #[])]] 0 0
def Zeh(l:List Int):D:=.ep [[Zab l]] 0 0
def dd(yl:Nat)(l:List Int)(n:Nat):Nat→D
 | 0=>.junk
 | k+1=>.ep [[.clo 156 [Zeg n,ZfH yl,Zeh l,dd yl l n k]]] 0 0
theorem ZER{yl n:Nat}{l:List Int}{xs:List (List Int)}{J:(Nat→Nat→Prop)→List (List Int)→World→Prop}(hJ:∀ S L A B,J S L A→Below A.heap.size A B→J S L B)(hl:l.length≤64)(hn64:n≤64)
 (hY:∀ S L x t v W,L++x ::t=xs→J S L W→ZfM S W→Rep noB noM S W v (Zab x)→YieldAt Fence.wide 0 Tryz.prog yl #[v] W fun e W'=>e = .returned (.bool true)∧∃ S',J S' (L++[x]) W'∧ZfM S' W'∧Zaz S W S' W') :
 ∀ (r k i:Nat)(p:List Int) (L T:List (List Int)),r≤k→p.length+r=n→i≤l.length→L++outs (l.drop i) r p++T=xs →
  ZuY Tryz.prog 156 [dI i,Zab p,Zeg n,ZfH yl,Zeh l,dd yl l n k] (fun S=>J S L) (fun S=>J S (L++outs (l.drop i) r p)) (dB true):=by
 have hst:∀ L S0 W0,Stab fun S w=>J S L w∧Zaz S0 W0 S w:=fun L S0 W0 S A B h hb=>⟨hJ S L A B h.1 hb,h.2.trans fun b o u h1 h2=>⟨h1,(hb.cell (p:=⟨b,o,none⟩) (Zic h2)).trans h2⟩⟩
 have hres:=Tryz.results156
 intro r
 induction r with
 | zero =>
   intro k i p L T hk hn hi hpre
   have hp:p.length≤64:=by omega
   rw[Zlq]at hpre ⊢
   have e1:((p.length:Nat):Int)=n:=by omega
   refine ZuY.inline Tryz.func156 rfl (by kernel_rfl) (by kernel_rfl) (by kernel_rfl) fun S0 W0 hI=>?_
   rw[Tryz.ntmps156]
   repeat(first
    | (refine hK _ ?_;clear hK;clear K)
    | (refine jSeq fun K hK=>?_)
    | (refine ZpM ?_)
    | (refine Zxc ?_)
    | (refine ZzP ?_)
    | (refine jRet ?_)
    | (refine ZjL (hst _ _ _) fun I KR hR=>?_;refine aOps _ rfl (by kernel_rfl) ?_;simp only[go_sem,↓reduceIte,Zeg,ZfH,Zeh];refine ZdW _ ?_;refine hR _ ?_;clear hR;clear KR)
    | (refine ZsW rfl ?hc ?_;case hc=>simp only[go_sem,↓reduceIte,e1]))
   refine ZAZ (k:=3) rfl rfl rfl _ rfl Zeb (by kernel_rfl) (by kernel_rfl) (by kernel_rfl) (by kernel_rfl) (by kernel_rfl) (by kernel_rfl) (hst _ _ _) fun I KE hE=>?_
   have kc:=ZC0 p hp
   repeat(first
    | (simp only[go_sem,↓reduceIte])
    | ((with_reducible apply ZbR);(first|with_reducible assumption|assumption);rfl))
   refine hE _ _ _ _ (by kernel_rfl) (Zay rfl) (StLe.refl _) ?_
   refine ZEm (l:=yl) (I':=fun S w=>J S (L++[p]) w∧Zaz S0 W0 S w) rfl rfl rfl rfl ?_ ?_
   ·intro S w v hw hI hv
    obtain⟨fn,tmps,assign,body,h1,h2⟩:=hY S L p T v w (by simpa using hpre) hI.1 hw hv
    refine⟨fn,tmps,assign,body,h1,RoundIn.mono h2 ?_⟩
    rintro e w' ⟨rfl,S',g1,g2,g3⟩
    exact⟨rfl,S',⟨g1,hI.2.trans g3⟩,g2,g3⟩
   refine jOpL (hst _ _ _) (by kernel_rfl) rfl fun I KR hR=>?_
   simp only[go_sem,↓reduceIte]
   refine hR _ (ZdW _ ?_)
   clear hE;clear KE;clear hR;clear KR
   refine hK _ ?_;clear hK;clear K
   refine jRet ?_
   refine⟨.inr rfl,[dB true],?_,rfl,fun S w h=>h⟩
   simp only[go_sem,↓reduceIte,hres]
 | succ r ih =>
   intro k i p L T hk hn hi hpre
   have hp:p.length≤64:=by omega
   obtain⟨k,rfl⟩:∃ k',k=k'+1:=⟨k-1,by omega⟩
   have e1:(((p.length:Nat):Int)==(n:Int))=false:=by simp;omega
   have kp:=ZEU p hp
   refine ZuY.inline Tryz.func156 rfl (by kernel_rfl) (by kernel_rfl) (by kernel_rfl) fun S0 W0 hI=>?_
   rw[Tryz.ntmps156]
   repeat(first
    | (refine hK _ ?_;clear hK;clear K)
    | (refine jSeq fun K hK=>?_)
    | (refine ZpM ?_)
    | (refine Zxc ?_)
    | (refine ZzP ?_)
    | (refine jRet ?_)
    | (refine ZjL (hst _ _ _) fun I KR hR=>?_;refine aOps _ rfl (by kernel_rfl) ?_;simp only[go_sem,↓reduceIte,Zeg,ZfH,Zeh];refine ZdW _ ?_;refine hR _ ?_;clear hR;clear KR)
    | (refine ZsW rfl ?hc ?_;case hc=>simp only[go_sem,↓reduceIte,e1])
    | (refine ZsX rfl ?hc ?_;case hc=>simp only[go_sem,↓reduceIte,e1]))
   refine jLoop (fun(x:Nat×List (List Int))=>⟨tabT [(1,Zab p),(2,Zeg n),(3,ZfH yl),(4,Zeh l),(5,dd yl l n (k+1)),(9,dI x.1)],fun S w=>J S (L++x.2) w∧Zaz S0 W0 S w⟩) (fun x=>i≤x.1∧x.1≤l.length∧x.2++outs (l.drop x.1) (r+1) p=outs (l.drop i) (r+1) p) (fun x=>l.length-x.1) (i,[]) ⟨Ya4 _,hi,rfl⟩ (Zw9 _ (fun S w h=>by simpa using h) (by simp[go_sem,Zeg,ZfH,Zeh,dI])) ?_
   rintro⟨j,E⟩ ⟨hj1,hj2,hE0⟩
   simp only at hj1 hj2 hE0
   by_cases h1:(j:Int)<l.length
   rotate_left
   ·obtain rfl:j=l.length:=by omega
    rw[Zzh,List.append_nil]at hE0
    subst hE0
    repeat(first
     | (refine hK _ ?_;clear hK;clear K)
     | (refine jSeq fun K hK=>?_)
     | (refine ZpM ?_)
     | (refine Zxc ?_)
     | (refine ZzP ?_)
     | (refine jRet ?_)
     | (refine ZjL (hst _ _ _) fun I KR hR=>?_;refine aOps _ rfl (by kernel_rfl) ?_;simp only[go_sem,↓reduceIte,Zeg,ZfH,Zeh];refine ZdW _ ?_;refine hR _ ?_;clear hR;clear KR)
     | (refine ZsW rfl ?hc ?_;case hc=>simp only[go_sem,↓reduceIte,h1])
     | (refine ZsX rfl ?hc ?_;case hc=>simp only[go_sem,↓reduceIte,h1]))
    simp only[go_sem,↓reduceIte]
    repeat(first
     | (refine hK _ ?_;clear hK;clear K)
     | (refine jSeq fun K hK=>?_)
     | (refine jRet ?_)
     | (refine ZjL (hst _ _ _) fun I KR hR=>?_;refine aOps _ rfl (by kernel_rfl) ?_;simp only[go_sem,↓reduceIte,Zeg,ZfH,Zeh];refine ZdW _ ?_;refine hR _ ?_;clear hR;clear KR)
     | (clear hK;clear K))
    refine⟨.inr rfl,[dB true],?_,rfl,fun S w h=>h⟩
    simp only[go_sem,↓reduceIte,hres]
   repeat(first
    | (refine hK _ ?_;clear hK;clear K)
    | (refine jSeq fun K hK=>?_)
    | (refine ZpM ?_)
    | (refine Zxc ?_)
    | (refine ZzP ?_)
    | (refine jRet ?_)
    | (refine ZjL (hst _ _ _) fun I KR hR=>?_;refine aOps _ rfl (by kernel_rfl) ?_;simp only[go_sem,↓reduceIte,Zeg,ZfH,Zeh];refine ZdW _ ?_;refine hR _ ?_;clear hR;clear KR)
    | (refine ZsW rfl ?hc ?_;case hc=>simp only[go_sem,↓reduceIte,h1])
    | (refine ZsX rfl ?hc ?_;case hc=>simp only[go_sem,↓reduceIte,h1]))
   obtain⟨x,hx⟩:=getE (l:=l) (k:=j) (by omega)
   have hstep:=Zwr hx p r
   have hx2:(l.map fun x=>[dI x])[j]? =some [dI x]:=by rw[List.getElem?_map,hx];rfl
   obtain⟨hw,hj0⟩:=ZaM j
   refine ZAZ (k:=11) rfl rfl rfl _ rfl Zeb (by kernel_rfl) (by kernel_rfl) (by kernel_rfl) (by kernel_rfl) (by kernel_rfl) (by kernel_rfl) (hst _ _ _) fun I KE hE=>?_
   repeat(first
    | (simp only[go_sem,↓reduceIte,dd,hw,hx,h1,hj0])
    | ((with_reducible apply ZbR);(first|with_reducible assumption|assumption);rfl))
   refine⟨⟨by omega,by omega⟩,?_⟩
   have e2:(p.map fun x=>[dI x])++[[D.v (Value.int IntKind.i64 x)]]=(p++[x]).map fun x=>[dI x]:=by simp
   simp only[e2]
   refine hE _ _ (tabT [(1,Zab p),(2,Zeg n),(3,ZfH yl),(4,Zeh l),(5,dd yl l n (k+1)),(9,dI j),(25,.clo 156 [Zeg n,ZfH yl,Zeh l,dd yl l n k]),(27,dI ((j+1:Nat):Int)),(35,Zab (p++[x]))]) 0 (by kernel_rfl) (Zay rfl) ?hle ?_
   case hle =>
    refine StLe.trans (ZcM 1 rfl) (StLe.trans (Zn6 35 4) ?_)
    show StLe _ ⟨tabT _,tabM [],0,0⟩
    refine Zag _ _ _ ?_ ?_ ?_ ?_ ?_ (.inl rfl)
    ·simp[go_sem,dd,Zeg,ZfH,Zeh,Function.comp_def]
    all_goals simp[okD,okDs,dd,Zeg,ZfH,Zeh]
    cases k<;>rfl
   have hc:=ih k (j+1) (p++[x]) (L++E) (outs (l.drop (j+1)) (r+1) p++T) (by omega) (by simp;omega) (by omega) (by rw[← hpre,← hE0,hstep];simp)
   refine jCall (f:=156) (ds:=[dI ((j+1:Nat):Int),Zab (p++[x]),Zeg n,ZfH yl,Zeh l,dd yl l n k]) (d:=dB true) (I':=fun S w=>J S (L++(E++outs (l.drop (j+1)) r (p++[x]))) w∧Zaz S0 W0 S w) (by kernel_rfl) (by simp only[go_sem,↓reduceIte]) ⟨hc.1,fun S W vs q1 q2 q3=>CallsIn.mono (hc.2 S W vs q1 q2.1 q3) ?_⟩ ?_
   ·rintro e w' ⟨v,S',rfl,g1,g2,g3,g4⟩
    exact⟨v,S',rfl,g1,⟨by rw[← List.append_assoc];exact g2,q2.2.trans g4⟩,g3,g4⟩
   refine jOpL (hst _ _ _) (by kernel_rfl) rfl fun I KR hR=>?_
   simp only[go_sem,↓reduceIte]
   refine hR _ (ZdW _ ?_)
   clear hR;clear KR;clear hE;clear KE
   repeat(first
    | (refine hK _ ?_;clear hK;clear K)
    | (refine jSeq fun K hK=>?_)
    | (refine ZpM ?_)
    | (refine Zxc ?_)
    | (refine ZjL (hst _ _ _) fun I KR hR=>?_;refine aOps _ rfl (by kernel_rfl) ?_;simp only[go_sem,↓reduceIte,hw];refine ZdW _ ?_;refine hR _ ?_;clear hR;clear KR)
    | (refine ZsX rfl ?hc ?_;case hc=>simp only[go_sem,↓reduceIte,h1]))
   refine⟨(j+1,E++outs (l.drop (j+1)) r (p++[x])),⟨by show i≤j+1;omega,by show j+1≤l.length;omega,?_⟩,by show l.length-(j+1)<l.length-j;omega,Zw9 _ (fun S w h=>h) ?_⟩
   ·rw[← hE0,hstep];simp
   ·simp[ZaC,dI]
set_option maxRecDepth 20000 in
theorem ZDO(l:List Int)(n:Nat):Zaa Tryz.prog 100 [Zab l,dI n] (.clo 155 [Zeg n,Zeh l]):=by
 have hres:=Tryz.results100
 refine inN Tryz.func100 rfl Tryz.ntmps100 fun I=>?_
 refine aGo hres ?_
 repeat with_reducible intro K hK
 rfl
theorem ZBc{S:Nat→Nat→Prop}{W:World}{b yl n:Nat}{l:List Int}{x y z:Value}(hS:S b 0)(hc:W.cell? ⟨b,0,none⟩=some (.func (.func 156) #[] #[x,y,z,.pointer (some ⟨b,0,none⟩)]))
 (hx:Rep noB noM S W x (Zeg n)) (hy:Rep noB noM S W y (ZfH yl)) (hz:Rep noB noM S W z (Zeh l)):∀ k,Rep noB noM S W (.pointer (some ⟨b,0,none⟩)) (dd yl l n k)
 | 0=>.junk _
 | k+1=>by
   have ih:=ZBc hS hc hx hy hz k
   have hr:Reps noB noM S W [x,y,z,.pointer (some ⟨b,0,none⟩)] [Zeg n,ZfH yl,Zeh l,dd yl l n k]:=Reps.cons hx (Reps.cons hy (Reps.cons hz (Reps.cons ih Reps.nil)))
   have hclo:Rep noB noM S W (.func (.func 156) #[] #[x,y,z,.pointer (some ⟨b,0,none⟩)]) (.clo 156 [Zeg n,ZfH yl,Zeh l,dd yl l n k]):=.clo _ _ _ hr.1 hr.2
   have hrow:ZrL S W b 0 1 [[.clo 156 [Zeg n,ZfH yl,Zeh l,dd yl l n k]]]:=by
    refine⟨fun i e he=>?_,fun i j d hd=>?_⟩
    ·cases i with
     | zero=>simp at he;subst he;rfl
     | succ i=>simp at he
    ·obtain⟨e,he,hj⟩:=Zak.1 hd
     cases i with
     | zero =>
       simp at he
       subst he
       cases j with
       | zero=>simp at hj;subst hj;exact⟨_,hS,hc,hclo⟩
       | succ j=>simp at hj
     | succ i=>simp at he
   have:=Zmz (β:=noB) (m:=noM) hrow 0 0
   simpa[dd]using this
set_option maxRecDepth 20000
theorem ZvO(l:List Int)(n:Nat)(hl:l.length≤64)(hn:n≤64):ZBl Tryz.prog 155 [Zeg n,Zeh l] Zab (outs l n []):=by
 refine⟨⟨_,_,Tryz.func155,rfl,by kernel_rfl⟩,fun yl S W vs J hfr hvs hJ hY h0=>?_⟩
 obtain⟨x,z,rfl⟩:∃ x z,vs=[x,z]:=by
  match vs,hvs.1 with
  | [x,z],_=>exact⟨x,z,rfl⟩
 have hx:Rep noB noM S W x (Zeg n):=hvs.2 0 _ _ rfl rfl
 have hz:Rep noB noM S W z (Zeh l):=hvs.2 1 _ _ rfl rfl
 refine callsIn_wide.2 ?_
 go_enter Tryz.func155,Tryz.ntmps155
 go_wp2_with fail
 obtain⟨W1,e1⟩:∃ W1,W.alloc (.cells #[Value.func (Fn.yield yl) #[] #[]] 172)=W1:=⟨_,rfl⟩
 obtain⟨W2,e2⟩:∃ W2,W1.alloc (.cells #[Value.nilFunc] 223)=W2:=⟨_,rfl⟩
 have s1:W1.heap.size=W.heap.size+1:=by rw[← e1];simp
 have h1:W2.heap[W.heap.size+1]? =some (.cells #[Value.nilFunc] 223):=by rw[← e2,← s1];exact World.alloc_heap_new _ _
 have h2:W2.heap[W.heap.size]? =some (.cells #[Value.func (Fn.yield yl) #[] #[]] 172):=by
  rw[← e2,Below.heap_alloc _ _ _ (by omega),← e1];exact World.alloc_heap_new _ _
 have hf:W2.frozen? ⟨W.heap.size+1,0,none⟩=false:=by simp[World.frozen?,h1]
 rw[e1,e2,run_store _ _ _ _ _ rfl,Zcz h1]
 simp only[List.getElem?_toArray,List.getElem?_cons_zero,hf]
 obtain⟨vd,ed⟩:∃ vd,Value.func (Fn.func 156) #[] #[x,Value.pointer (some ⟨W.heap.size,0,none⟩),z,Value.pointer (some ⟨W.heap.size+1,0,none⟩)]=vd:=⟨_,rfl⟩
 obtain⟨W3,e3⟩:∃ W3,W2.setCell ⟨W.heap.size+1,0,none⟩ vd=W3:=⟨_,rfl⟩
 have c3:W3.cell? ⟨W.heap.size+1,0,none⟩=some vd:=by
  rw[← e3];exact World.cell?_setCell_same W2 _ _ (by rw[Zcz h1];rfl)
 have c4:W3.cell? ⟨W.heap.size,0,none⟩=some (Value.func (Fn.yield yl) #[] #[]):=by
  rw[← e3,World.cell?_setCell_other,Zcz h2];rfl
  intro e;simp only[Addr.mk.injEq]at e;omega
 have hb3:Below W.heap.size W W3:=by
  rw[← e3,← e2,← e1];exact(((Below.refl _ W).alloc (Ya4 _) _).alloc (by simp) _).setCell (Nat.le_succ _) _
 have s3:W3.heap.size=W.heap.size+2:=by rw[← e3,← e2];simp[World.setCell,s1]
 rw[ed,e3]
 simp only[Bool.false_eq_true,if_false,Result.andThen_ok,Oper.upon_skip]
 have sS:∀ b o,W.heap.size≤b→S b o:=hfr
 have hm3:Zaz S W S W3:=fun b o u q1 q2=>⟨q1,(hb3.cell (p:=⟨b,o,none⟩) (Zic q2)).trans q2⟩
 have hx3:Rep noB noM S W3 x (Zeg n):=hx.monoS (fun _=>rfl) hm3
 have hz3:Rep noB noM S W3 z (Zeh l):=hz.monoS (fun _=>rfl) hm3
 have hy3:Rep noB noM S W3 (.pointer (some ⟨W.heap.size,0,none⟩)) (ZfH yl):=by
  have hrow:ZrL S W3 W.heap.size 0 1 [[.v (.func (.yield yl) #[] #[])]]:=by
   refine⟨fun i e he=>?_,fun i j d hd=>?_⟩
   ·cases i with
    | zero=>simp at he;subst he;rfl
    | succ i=>simp at he
   ·obtain⟨e,he,hj⟩:=Zak.1 hd
    cases i with
    | zero =>
      simp at he
      subst he
      cases j with
      | zero=>simp at hj;subst hj;exact⟨_,hfr _ _ (Ya4 _),c4,.v _⟩
      | succ j=>simp at hj
    | succ i=>simp at he
  have:=Zmz (β:=noB) (m:=noM) hrow 0 0
  simpa[ZfH]using this
 have hd3:=ZBc (k:=n) (hfr _ _ (Nat.le_succ _)) (by rw[c3,← ed]) hx3 hy3 hz3
 have hdn:=ZER (yl:=yl) (n:=n) (l:=l) (xs:=outs l n []) (J:=J) hJ hl hn hY n n 0 [] [] [] (Ya4 _) (by simp) (Yb0 _) (by simp)
 have hcall:=hdn.2 S W3 [goInt 0,.slice none 0 0,x,.pointer (some ⟨W.heap.size,0,none⟩),z,.pointer (some ⟨W.heap.size+1,0,none⟩)] (fun b o hb=>hfr b o (Nat.le_trans hb3.size hb)) (hJ _ _ _ _ h0 hb3) (Reps.cons (.v _) (Reps.cons (.sl0 _ _ (Yb0 _)) (Reps.cons hx3 (Reps.cons hy3 (Reps.cons hz3 (Reps.cons hd3 Reps.nil))))))
 subst ed
 go_wp2_with fail
 refine(callsIn_wide.1 hcall).mono ?_
 rintro e w' ⟨v,S',rfl,g1,g2,g3,g4⟩
 go_wp2_with fail
 exact bodyPost_end (results_none Tryz.results155 _ _ _) rfl ⟨⟨_,rfl⟩,S',by simpa using g2⟩
end Go.Proofs.YtjeaacindikplaaGreat
