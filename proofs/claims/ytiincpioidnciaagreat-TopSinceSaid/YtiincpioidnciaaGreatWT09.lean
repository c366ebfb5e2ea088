/-
  suspect.Used.
-/
import Derived.Test.YtiincpioidnciaaGreatWLib
import Derived.Test.YtiincpioidnciaaGreatWT03
import Derived.Test.YtiincpioidnciaaGreatWT08
import Derived.Test.YtiincpioidnciaaGreatWT06
import Derived.Test.YtiincpioidnciaaGreatWT07
import Derived.Test.YtiincpioidnciaaGreatWT00
import Derived.Test.YtiincpioidnciaaGreatWT01
namespace Go.Proofs.YtiincpioidnciaaGreat
set_option linter.unusedVariables false
set_option linter.unusedSimpArgs false
set_option linter.unusedSectionVars false
open Go Go.RowKit
set_option maxRecDepth 100000
set_option maxHeartbeats 16000000
theorem ZAj(e:EvD)(hf:Zcd e=0)(hn:e.mv.length≤12)(L:LenE e):Zae Tryz.prog 31 [Zb2 e] (Zad (Zgq e)):=by
 have Zr:=Tryz.results31
 have k0:=ZgC e L
 rw[hf]at k0
 obtain⟨F,hF⟩:∃ F:Nat→List Int,F=fun k=>((e.mv.take k).map (·.s)).filter (· != -1):=⟨_,rfl⟩
 have F0:F 0=[]:=by rw[hF];rfl
 have Fz:∀ k x,e.mv[k]? =some x→(x.s != -1)=false→F (k+1)=F k:=fun k x hx h=>by
  rw[hF];simp only;rw[Yb4,hx,List.map_append,List.filter_append];simp[h]
 have Fs:∀ k x,e.mv[k]? =some x→(x.s != -1)=true→F (k+1)=F k++[x.s]:=fun k x hx h=>by
  rw[hF];simp only;rw[Yb4,hx,List.map_append,List.filter_append];simp[h]
 have Fl:∀ k,(F k).length≤k:=fun k=>by
  rw[hF];simp only
  exact Yc7 (Yb1 _ _) (by rw[Yc0,Yc1];omega)
 have Fe:F e.mv.length=Zei e:=by rw[hF];simp only;rw[Ya8 (Ya4 _)];rfl
 refine inC Tryz.func31 rfl Tryz.ntmps31 ?_
 refine aGo Zr ?_
 repeat with_reducible intro K hK
 refine aLe (Zd9 3 3 1 rfl) ?_
 refine ZaH (fun(k:Nat)=>[(1,.lp 0 0 0 0),(3,.ls 1 (F k).length),(10,ZdY e.mv),(11,dI e.mv.length),(12,dI k)]) (fun k=>[(0,Zfe e),(1,⟨3,(F k).length,1,ZbG (F k),0,false⟩)]) 2 0 (fun k=>k≤e.mv.length) (fun k=>e.mv.length-k) 0 (Yb0 _) ?_ ?_
 ·exact leGo F0
 rintro k hk
 obtain⟨hw,h0⟩:=ZaS k
 have hfl:=Fl k
 by_cases h1:(k:Int)<e.mv.length
 ·obtain⟨x,hx⟩:∃ x,e.mv[k]? =some x:=⟨_,Ya0 (by omega)⟩
  cases h2:(x.s != -1)
  ·have F1:=Fz k x hx h2
   refine aGo (cj4 Zr h0 h1 (cj3 hx hw h2)) ?_
   repeat with_reducible intro K hK
   exact Zah (k+1) (by omega) (by omega) (by exact leGo F1)
  ·have F1:=Fs k x hx h2
   refine aGo (cj4 Zr h0 h1 (cj3 hx hw h2)) ?_
   repeat with_reducible intro K hK
   exact Zah (k+1) (by omega) (by omega) (by exact leGo F1)
 ·obtain rfl:k=e.mv.length:=by omega
  refine aGo (cj2 Zr h1) ?_
  repeat with_reducible intro K hK
  rw[Fe]at hfl ⊢
  refine ZaD (ZxQ ZAF rfl (l:=Zei e) rfl (by omega)) ?_
  rintro d m' nx' ⟨rfl,rfl,rfl⟩
  refine aGo Zr ?_
  repeat with_reducible intro K hK
  refine ZaD (Zu1 Zxt rfl (l:=ZiS (Zei e)) rfl (by rw[List.length_mergeSort];omega) (Zkq _)) ?_
  rintro d m' nx' ⟨rfl,rfl,rfl⟩
  refine aGo Zr ?_
  repeat with_reducible intro K hK
  rw[ZaF (fun _=>rfl)];rfl
abbrev Zxh(l:List (List Int)):D:=.sl (l.map fun x=>[Zad x])
theorem pl_I(l:List Int):Pl 1 (ZbG l):=⟨fun e he=>by obtain⟨u,_,rfl⟩:=Yc6.1 he;exact⟨rfl,rfl⟩,fun e he d hd=>by obtain⟨u,_,rfl⟩:=Yc6.1 he;rw[List.mem_singleton]at hd;exact⟨_,hd⟩⟩
theorem Zxv[Ifl](l:List Int)(hl:(l.length:Int)≤4096)(m:Mem)(nx:Nat)(hm:m nx=none):EffC Tryz.prog 65 [Zad l] m nx ⟨.ls nx 1,[nx],[(nx,⟨3,1,1,ZbG l,0,false⟩)],false⟩ (nx+1):=by
 have hb:Zb8 (fun _=>false) ⟨3,1,1,ZbG l,0,false⟩:=by intro x hx;obtain⟨u,_,rfl⟩:=Yc6.1 hx;rfl
 exact EffC.made hm hb fun m1 NX=>Zar.made hb (Zxx _ (pl_I l) (by simpa using hl) m1 NX)
theorem Zf5(P:List Int→Bool):∀ (l:List Int)(k:Nat)(c:List Int),(ZbB P l k c).length≤2^l.length
 | l,0,c=>by rw[ZfD];split<;>simp[Nat.one_le_two_pow]
 | [],k+1,c=>by simp[ZbB]
 | s ::l,k+1,c=>by
   rw[ZbB,Yb9,List.length_cons,Nat.pow_succ]
   have:=Zf5 P l k (c++[s])
   have:=Zf5 P l (k+1) c
   omega
structure SusE (e:EvD):Prop where
 f:Zcd e=0
 L:LenE e
 n:e.mv.length≤4
 m:e.m≤2
 p:e.pu.length≤2
section
variable {e:EvD} (h:SusE e)
include h
theorem SusE.without(S:List Int):SusE (Zan e S):=⟨ZnL S h.f,⟨h.L.pl,by simpa[Zan]using h.L.mv,h.L.ce,h.L.re,h.L.pu⟩,by simpa[Zan]using h.n,h.m,h.p⟩
theorem SusE.conf:Conf (sysE e):=ZzQ (Zfc h.f) h.n h.m h.p
theorem SusE.poss:Zaa Tryz.prog 10 [Zb2 e] (dB (posB e)):=Zae.toN (ZAW e h.L (by have:=h.n;omega) (by have:=h.p;omega) fun _=>h.conf.fit0) rfl
theorem Zp0:∀ (k:Nat)(l c:List Int),l.length≤12→c.length+k≤24→Zaa Tryz.prog 32 [Zb2 e,Zad c,Zad l,dI k] (Zxh (ZbB (fun S=>posB (Zan e S)) l k c))
 | 0,l,c,hl,hc=>by
   have Zr:=Tryz.results32
   have k1:=ZmA e h.f h.L c (by omega)
   have k2:=(h.without c).poss
   have k3:=Zxw _ (pl_I c) (by rw[Yc0];omega)
   rw[ZfD]
   refine inN Tryz.func32 rfl Tryz.ntmps32 fun I=>?_
   cases hp:posB (Zan e c)
   ·rw[hp]at k2
    refine aGo Zr ?_
    repeat with_reducible intro K hK
    rfl
   ·rw[hp]at k2
    refine aGo Zr ?_
    repeat with_reducible intro K hK
    rfl
 | k+1,l,c,hl,hc=>by
   have Zr:=Tryz.results32
   obtain⟨P,eP⟩:∃ P:List Int→Bool,(fun S=>posB (Zan e S))=P:=⟨_,rfl⟩
   have IH:∀ (l c:List Int),l.length≤12→c.length+k≤24→Zaa Tryz.prog 32 [Zb2 e,Zad c,Zad l,dI k] (Zxh (ZbB P l k c)):=by rw[← eP];exact Zp0 k
   rw[eP]
   have hkk:(((k+1:Nat):Int)==0)=false:=beq_eq_false_iff_ne.2 (by omega)
   refine inN Tryz.func32 rfl Tryz.ntmps32 fun I=>?_
   refine aGo (cj2 Zr hkk) ?_
   repeat with_reducible intro K hK
   refine aLe (Zd9 9 31 1 rfl) ?_
   refine ZaH (fun(x:Nat×List (List Int))=>[(1,Zad c),(2,Zad l),(3,dI ((k+1:Nat):Int)),(4,.lp 0 0 0 0),(9,.ls 1 x.1),(21,Zad l),(22,dI l.length),(23,dI x.1)]) (fun x=>[(0,Zfe e),(1,⟨31,x.1,1,x.2.map fun y=>[Zad y],0,false⟩)]) 2 0 (fun x=>x.1≤l.length∧x.2++ZbB P (l.drop x.1) (k+1) c=ZbB P l (k+1) c) (fun x=>l.length-x.1) (0,[]) ⟨Yb0 _,rfl⟩ ?_ ?_
   ·exact leGo trivial
   rintro⟨i,A⟩ ⟨hi,hA⟩
   simp only at hi hA
   have hw:=ZsK i
   have hw2:IntKind.i64.wrap (((k+1:Nat):Int)-1)=(k:Int):=(ZaQ (by omega) (by omega)).trans (by omega)
   have h0:(0:Int)≤i:=by omega
   by_cases h1:(i:Int)<l.length
   ·obtain⟨x,hx⟩:∃ x,l[i]? =some x:=⟨_,Ya0 (by omega)⟩
    have q:=IH (l.drop (i+1)) (c++[x]) (by rw[List.length_drop];omega) (by rw[Yb9];simp;omega)
    obtain⟨C0,eC0⟩:∃ C0,ZbG c=C0:=⟨_,rfl⟩
    obtain⟨C,eC⟩:∃ C,C0++[[dI x]]=C:=⟨_,rfl⟩
    have eCc:C=ZbG (c++[x]):=by rw[← eC,← eC0];simp
    have lC0:C0.length=c.length:=by rw[← eC0];simp
    have hdat:List.map (List.map datJ) C=C:=by rw[eCc];exact ZaF (fun _=>rfl) _
    have hsl:List.drop ((i:Int)+1).toNat (List.take l.length (List.map (fun x=>[dI x]) l))=List.map (fun x=>[dI x]) (l.drop (i+1)):=by
     rw[Ya8 (by simp),show((i:Int)+1).toNat=i+1 by omega,List.map_drop]
    rw[show Zad (c++[x]) = .sl C by rw[eCc]]at q
    have hce:EffC Tryz.prog 65 [Zad c] (tabM [(0,Zfe e),(1,⟨31,i,1,A.map fun y=>[Zad y],0,false⟩)]) 2 ⟨.ls 2 1,[2],[(2,⟨3,1,1,C0,0,false⟩)],false⟩ 3:=by rw[← eC0];exact Zxv c (by omega) _ _ rfl
    have hsz:=Zf5 P (l.drop (i+1)) k (c++[x])
    have hp1:(2:Nat)^(l.drop (i+1)).length≤2^12:=Nat.pow_le_pow_right (by decide) (by rw[List.length_drop];omega)
    have hA1:A.length≤4096:=by
     have h1:=Zf5 P l (k+1) c
     have h2:(2:Nat)^l.length≤2^12:=Nat.pow_le_pow_right (by decide) hl
     have h3:=congrArg List.length hA
     rw[Yb9]at h3
     omega
    have hdr:l.drop i=x ::l.drop (i+1):=by
     obtain⟨h,e⟩:=Ya3.1 hx
     rw[Yd7 h,e]
    rw[hdr,ZbB,← Yd3]at hA
    generalize ZbB P (l.drop (i+1)) k (c++[x])=B at q hA hsz
    refine aGo (cj4 Zr h0 h1 (cj3 hx hw hw2)) ?_
    repeat(guard_target =~ ∀ _:St→Prop,_;intro K hK)
    intro KX hX
    refine Za3 hce ?_
    refine aGo (cj4 Zr h0 h1 (cj4 hx hw hw2 (cj4 eC hdat hsl lC0))) ?_
    repeat with_reducible intro K hK
    refine hX _ _ (by kernel_rfl) (Zaz rfl) ?_
    clear hX
    clear KX
    obtain⟨Z,eZ⟩:∃ Z,A++B=Z:=⟨_,rfl⟩
    have hAB:(A.map fun y=>[Zad y])++(B.map fun y=>[Zad y])=Z.map fun y=>[Zad y]:=by rw[← eZ];exact List.map_append.symm
    rw[eZ]at hA
    refine aGo (cj3 Zr hw hAB) ?_
    repeat with_reducible intro K hK
    exact Zah (i+1,Z) ⟨by show i+1≤l.length;omega,hA⟩ (by show l.length-(i+1)<l.length-i;omega) (by exact leGo trivial)
   ·obtain rfl:i=l.length:=by omega
    rw[List.drop_length]at hA
    have hA2:A=ZbB P l (k+1) c:=by rw[← hA];simp[ZbB]
    subst hA2
    refine aGo (cj2 Zr h1) ?_
    repeat with_reducible intro K hK
    rw[ZaF (fun _=>rfl)]
end
section
variable {e:EvD} (h:SusE e)
include h
noncomputable def ZvR (e:EvD):List (List Int):=if posB e then []else ZiH (fun S=>posB (Zan e S)) (Zgq e) 1 (Zgq e).length
theorem Zrp:Zae Tryz.prog 8 [Zb2 e] (.tup [Zxh (ZvR e),dI 0]):=by
 have Zr:=Tryz.results8
 have k0:=ZgC e h.L
 rw[h.f]at k0
 have k1:=ZAj e h.f (by have:=h.n;omega) h.L
 have k2:=h.poss
 have hul:(Zgq e).length≤4:=by have:=ZvK e;have:=h.n;omega
 have hu8:¬ ((Zgq e).length:Int)>8:=by omega
 unfold ZvR
 cases hp:posB e
 rotate_left
 ·rw[hp]at k2
  refine inC Tryz.func8 rfl Tryz.ntmps8 ?_
  refine aGo Zr ?_
  repeat with_reducible intro K hK
  rfl
 rw[hp]at k2
 rw[if_neg Yc5]
 obtain⟨P,eP⟩:∃ P:List Int→Bool,(fun S=>posB (Zan e S))=P:=⟨_,rfl⟩
 have ks:∀ j:Nat,j≤4→Zaa Tryz.prog 32 [Zb2 e,.sl [],Zad (Zgq e),dI j] (Zxh (ZbB P (Zgq e) j [])):=fun j hj=>by rw[← eP];exact Zp0 h j (Zgq e) [] (by omega) (by simp;omega)
 rw[eP]
 generalize Zgq e=u at *
 refine inC Tryz.func8 rfl Tryz.ntmps8 ?_
 refine aGo (cj2 Zr hu8) ?_
 repeat with_reducible intro K hK
 refine ZaH (fun(j:Nat)=>[(1,.lp 0 0 0 0),(4,Zad u),(5,dI ((j:Int)+1))]) (fun _=>[(0,Zfe e)]) 1 0 (fun j=>j≤u.length∧ZiH P u 1 u.length=ZiH P u (j+1) (u.length-j)) (fun j=>u.length-j) 0 ⟨Yb0 _,rfl⟩ ?_ ?_
 ·exact leGo trivial
 rintro j ⟨hj,hF⟩
 have hw:IntKind.i64.wrap ((j:Int)+1+1)=(j:Int)+1+1:=ZaQ (by omega) (by omega)
 by_cases h1:(j:Int)+1≤u.length
 ·have q:=ks (j+1) (by omega)
  rw[show((j+1:Nat):Int)=(j:Int)+1 by omega]at q
  rw[show u.length-j=(u.length-(j+1))+1 by omega,ZiH]at hF
  generalize ZbB P u (j+1) []=A at q hF
  by_cases h2:A.length=0
  ·rw[if_pos h2]at hF
   have h3:¬ (A.length:Int)>0:=by omega
   refine aGo (cj4 Zr h1 h3 hw) ?_
   repeat with_reducible intro K hK
   exact Zah (j+1) ⟨by omega,hF⟩ (by omega) (by exact leGo trivial)
  ·rw[if_neg h2]at hF
   have h3:(A.length:Int)>0:=by omega
   refine aGo (cj4 Zr h1 h3 hw) ?_
   repeat with_reducible intro K hK
   rw[hF]
 ·obtain rfl:j=u.length:=by omega
  have hF2:ZiH P u 1 u.length=[]:=by rw[hF,Nat.sub_self];rfl
  refine aGo (cj2 Zr h1) ?_
  repeat with_reducible intro K hK
  rw[hF2];rfl
end
theorem ZBa:(sgnD (ofQ ((1:Int):Rat)) !=0)=true:=by decide +kernel
theorem ZA8:szF (ofQ ((1:Int):Rat))≤3:=by decide +kernel
theorem Zuy{n:Int}:∀ (S:List Int)(last:Int),(∀ v∈S,last<v)→(S.Pairwise fun a b=>a<b)→(∀ v∈S,v<n)→goR n last (S.map oneT)=true
 | [],_,_,_,_=>rfl
 | v ::S,last,h1,h2,h3=>by
   rw[List.pairwise_cons]at h2
   have ih:=Zuy S v h2.1 h2.2 fun u hu=>h3 u (by simp[hu])
   show(decide (last<v)&&decide (v<n)&&(sgnD (ofQ ((1:Int):Rat)) !=0)&&goR n v (S.map oneT))=true
   rw[decide_eq_true (h1 v (by simp)),decide_eq_true (h3 v (by simp)),ZBa,ih];rfl
theorem Zya{n:Int}:∀ (l:List Zag)(last:Int),-1≤last→goR n last l=true→(l.length:Int)+last+1≤max n (last+1)
 | [],last,_,_=>by simp only[List.length_nil];omega
 | u ::l,last,hl,h=>by
   have h':=ZaN.1 h
   have:=Zya l u.v (by omega) h'.2.2.2
   simp only[List.length_cons];omega
theorem Zto{n:Int}{l:List Zag}(h:Zai l n=true):(l.length:Int)≤n:=by
 simp only[Zai,Ya2,decide_eq_true_eq]at h
 have:=Zya l (-1) (by decide) h.2
 omega
theorem Zyw{e:EvD}{p:PkD}(h:okPk e p=true):0≤varP e p∧varP e p<e.mv.length*e.m:=by
 simp only[okPk,Ya2,decide_eq_true_eq]at h
 obtain⟨h1,h2,h3,h4⟩:=h
 have m0:0≤p.v*e.m:=Int.mul_nonneg h1 (by omega)
 have m1:p.v*e.m≤((e.mv.length:Int)-1)*e.m:=Int.mul_le_mul_of_nonneg_right (by omega) (by omega)
 rw[Int.sub_mul,Int.one_mul]at m1
 unfold varP
 omega
theorem Zgf{e:EvD}{ps:List PkD}(hm:0≤e.m):Zai (ZbW e ps).1 (sysE e).n=true:=by
 have hn:(0:Int)≤(sysE e).n:=Int.mul_nonneg (by omega) hm
 unfold ZbW
 by_cases h:(ps.all (okPk e) && !dupI (Zc7 e ps))=true
 ·rw[if_pos h]
  simp only[Ya2,Bool.not_eq_true',Ya6]at h
  have hv:∀ v∈Zc7 e ps,0≤v∧v<(sysE e).n:=fun v hv=>by
   rw[List.mem_mergeSort]at hv
   obtain⟨p,hp,rfl⟩:=Yc6.1 hv
   exact Zyw (h.1 p hp)
  simp only[Zai,Ya2,decide_eq_true_eq]
  exact⟨hn,Zuy _ _ (fun v hv'=>by have:=(hv v hv').1;omega) (Zyi (Zs6 _) h.2) fun v hv'=>(hv v hv').2⟩
 ·rw[if_neg h]
  simp only[Zai,Ya2,decide_eq_true_eq]
  exact⟨hn,rfl⟩
theorem ZzF{e:EvD}{ps:List PkD}:∀ t∈(ZbW e ps).1,szF t.f≤3:=by
 unfold ZbW
 split
 ·intro t ht
  obtain⟨v,_,rfl⟩:=Yc6.1 ht
  exact ZA8
 ·intro t ht;cases ht
noncomputable def rngP (e:EvD) (ps:List PkD):(OptD×OptD)×Int:=if (ZbW e ps).2=true then Zbl (sysE e) (ZbW e ps).1 else((zO,zO),1)
noncomputable def bdP (e:EvD) (ps:List PkD):BdD:=ZcW (rngP e ps).1.1 (rngP e ps).1.2
section
variable {e:EvD} (h:SusE e)
include h
theorem SusE.fit(ps:List PkD):Fit (sysE e) (ZbW e ps).1 3 8:=by
 have f0:=h.conf.fit0
 have hr:=Zgf (e:=e) (ps:=ps) (by have:=(Zfc h.f).m;omega)
 have hl:=Zto hr
 have hn:=h.conf.n
 exact⟨f0.l,f0.n,f0.t,f0.w,⟨by omega,ZzF⟩,f0.b,f0.gl⟩
theorem Zhf(ps:List PkD)(hl:ps.length≤100):Zae Tryz.prog 13 [Zb2 e,Zco ps] (.tup [encR (rngP e ps).1.1 (rngP e ps).1.2,dI (rngP e ps).2]):=by
 have Zr:=Tryz.results13
 have k0:=ZBp h.f h.L (by have:=h.n;omega) ps hl
 have k1:=ZpL e h.f (by have:=h.n;omega) (by have:=h.p;omega) h.L
 have k2:=Zx2 (sysE e) (ZbW e ps).1 (h.fit ps)
 unfold rngP
 generalize ZbW e ps=G at *
 obtain⟨g,b⟩:=G
 cases b
 ·rw[if_neg Yc5]
  refine inC Tryz.func13 rfl Tryz.ntmps13 ?_
  refine aGo Zr ?_
  repeat with_reducible intro K hK
  rfl
 ·rw[if_pos rfl]
  simp only at k0 k2 ⊢
  generalize Zbl (sysE e) g=r at k2 ⊢
  obtain⟨⟨a,b⟩,c⟩:=r
  refine inC Tryz.func13 rfl Tryz.ntmps13 ?_
  refine aGo Zr ?_
  repeat with_reducible intro K hK
  rfl
theorem Ztm(ps:List PkD):szF (rngP e ps).1.1.v≤4456448∧szF (rngP e ps).1.2.v≤4456448:=by
 unfold rngP
 split
 ·obtain⟨z1,z2⟩:=Zwd (h.fit ps)
  exact⟨by omega,by omega⟩
 ·exact⟨by show szF zO.v≤_;decide +kernel,by show szF zO.v≤_;decide +kernel⟩
theorem Zob(ps:List PkD):Zae Tryz.prog 16 [encR (rngP e ps).1.1 (rngP e ps).1.2] (Zii (bdP e ps)):=by
 obtain⟨z1,z2⟩:=Ztm h ps
 exact Zsw _ _ (by omega) (by omega)
theorem Zvo(ps:List PkD)(hg:(ZbW e ps).2=true):((rngP e ps).2=15∧∀ x,ZaA (sysE e) x=false)∨((rngP e ps).2=0∧(∃ x,ZaA (sysE e) x=true)∧BdOk (sysE e) (ZbW e ps).1 (bdP e ps)):=by
 have hs:=h.conf.r
 have hr:=Zgf (e:=e) (ps:=ps) (by have:=(Zfc h.f).m;omega)
 have hb:=ZBK hs hr
 have e1:rngP e ps=Zbl (sysE e) (ZbW e ps).1:=by unfold rngP;rw[if_pos hg]
 have er:Zbl (sysE e) (ZbW e ps).1=if (Zax (sysE e) (ZbW e ps).1).k=1 then((zO,zO),15)else((Zax (sysE e) (ZbW e ps).1,Zax (sysE e) (oppT (ZbW e ps).1)),0):=by unfold Zbl;rw[hs,hr];rfl
 have e2:(rngP e ps).2=15∨(rngP e ps).2=0:=by rw[e1,er];split<;>simp
 unfold bdP
 unfold bdsD at hb
 rw[← e1]at hb
 rcases hb with⟨a,b⟩|⟨a,b,c⟩
 ·refine .inl ⟨?_,b⟩
  have:=beq_eq_false_iff_ne.1 a
  omega
 ·exact .inr ⟨by simpa using a,b,c⟩
end
def exW(r:Int):EvD:=⟨1,1,1,[⟨0,0,0⟩,⟨1,-1,-1⟩,⟨5,-1,-1⟩],[⟨3,0,1,0,20,false⟩,⟨5,1,2,0,r,true⟩],[⟨0,0,9,2,0,0⟩],[],[]⟩
def sW(lo hi:Rat):SysD:=⟨2,[⟨[⟨0,ofQ 1⟩],0,ofQ 18⟩,⟨[⟨0,ofQ 1⟩],1,ofQ 22⟩,⟨[⟨0,ofQ 1⟩,⟨1,ofQ (-1)⟩],2,ofQ 0⟩,⟨[⟨1,ofQ 1⟩],0,ofQ lo⟩,⟨[⟨1,ofQ 1⟩],1,ofQ hi⟩]⟩
theorem ZpM:sysE (exW 23)=sW 21 25:=by kernel_rfl
theorem ZxO:sysE (exW 25)=sW 23 27:=by kernel_rfl
theorem Zpk:Zcd (exW 23)=0:=by decide +kernel
theorem ZuH:Zcd (exW 25)=0:=by decide +kernel
theorem Ztn:Zao (sW 21 25)=true:=by decide +kernel
theorem ZoL:Zao (sW 23 27)=true:=by decide +kernel
theorem ZBw:Zcd (Zan (exW 25) [0])=0:=by decide +kernel
section
variable {lo hi:Rat} {x:List Zaf}
theorem dot1(i:Int):dotD [⟨i,ofQ 1⟩] x=atP x i:=by
 rw[Zdr];simp only[dotS,ZaM];grind
theorem dot2:dotD [⟨0,ofQ 1⟩,⟨1,ofQ (-1)⟩] x=atP x 0-atP x 1:=by
 rw[Zdr];simp only[dotS,ZaM];grind
theorem rowL{i:Int}{v:Rat}{s:SysD}(h:Zct s.n ⟨[⟨i,ofQ 1⟩],0,ofQ v⟩=true):Zcc ⟨[⟨i,ofQ 1⟩],0,ofQ v⟩ x=true↔v≤atP x i:=by
 rw[Zif h,dot1,ZaM];simp
theorem rowM{i:Int}{v:Rat}{s:SysD}(h:Zct s.n ⟨[⟨i,ofQ 1⟩],1,ofQ v⟩=true):Zcc ⟨[⟨i,ofQ 1⟩],1,ofQ v⟩ x=true↔atP x i≤v:=by
 rw[Zif h,dot1,ZaM];simp
theorem rowE{s:SysD}(h:Zct s.n ⟨[⟨0,ofQ 1⟩,⟨1,ofQ (-1)⟩],2,ofQ 0⟩=true):Zcc ⟨[⟨0,ofQ 1⟩,⟨1,ofQ (-1)⟩],2,ofQ 0⟩ x=true↔atP x 0=atP x 1:=by
 rw[Zif h,dot2,ZaM]
 constructor
 ·rintro⟨a,b⟩
  have:=a (by decide)
  have:=b (by decide)
  grind
 ·intro h
  exact⟨fun _=>by grind,fun _=>by grind⟩
end
structure Zvx (lo hi:Rat) (x:List Zaf) (L:List Nat):Prop where
 r0:0∈L→18≤atP x 0
 r1:1∈L→atP x 0≤22
 r2:2∈L→atP x 0=atP x 1
 r3:3∈L→lo≤atP x 1
 r4:4∈L→atP x 1≤hi
theorem ZlH{lo hi:Rat}(hs:Zao (sW lo hi)=true){x:List Zaf}{L:List Nat}:(∀ i∈L,∀ w,(sW lo hi).r[i]? =some w→Zcc w x=true)↔Zvx lo hi x L:=by
 have R:∀ w∈(sW lo hi).r,Zct (sW lo hi).n w=true:=fun w hw=>ZeA hs hw
 have h0:=rowL (x:=x) (R _ (Ya7 (i:=0) rfl))
 have h1:=rowM (x:=x) (R _ (Ya7 (i:=1) rfl))
 have h2:=rowE (x:=x) (R _ (Ya7 (i:=2) rfl))
 have h3:=rowL (x:=x) (R _ (Ya7 (i:=3) rfl))
 have h4:=rowM (x:=x) (R _ (Ya7 (i:=4) rfl))
 constructor
 ·intro h
  exact⟨fun m=>h0.1 (h 0 m _ rfl),fun m=>h1.1 (h 1 m _ rfl),fun m=>h2.1 (h 2 m _ rfl),fun m=>h3.1 (h 3 m _ rfl),fun m=>h4.1 (h 4 m _ rfl)⟩
 ·rintro⟨a0,a1,a2,a3,a4⟩ i hi w hw
  match i,hi,hw with
  | 0,m,hw=>cases hw;exact h0.2 (a0 m)
  | 1,m,hw=>cases hw;exact h1.2 (a1 m)
  | 2,m,hw=>cases hw;exact h2.2 (a2 m)
  | 3,m,hw=>cases hw;exact h3.2 (a3 m)
  | 4,m,hw=>cases hw;exact h4.2 (a4 m)
  | _+5,_,hw=>cases hw
theorem Zge{lo hi:Rat}(hs:Zao (sW lo hi)=true){x:List Zaf}:ZaA (sW lo hi) x=true↔ZvG (sW lo hi) x∧Zvx lo hi x [0,1,2,3,4]:=by
 rw[← ZlH hs,ZcH]
 constructor
 ·rintro⟨_,a,b,c,d⟩
  exact⟨⟨a,b,c⟩,fun i _ w hw=>Ya6.1 d w (Ya7 hw)⟩
 ·rintro⟨⟨a,b,c⟩,d⟩
  refine⟨hs,a,b,c,Ya6.2 fun w hw=>?_⟩
  obtain⟨i,hi⟩:=List.getElem?_of_mem hw
  refine d i ?_ w hi
  have:=(Ya3.1 hi).1
  have:i<5:=this
  simp;omega
theorem Zvp{lo hi:Rat}(a b:Rat)(ha:0≤a)(hb:0≤b):ZvG (sW lo hi) [ofQ a,ofQ b]:=by
 have sg:∀ q:Rat,0≤q→decide (0≤sgnD (ofQ q))=true:=fun q hq=>by
  rw[Zcw,decide_eq_true_eq]
  rcases Zev q with⟨h1,_⟩|⟨_,h1⟩|⟨_,h1⟩
  ·grind
  ·omega
  ·omega
 refine⟨rfl,?_,?_⟩
 ·unfold okP;simp only[List.all_cons,Zbm,List.all_nil,Bool.and_self]
 ·unfold ZeH;simp only[List.all_cons,sg a ha,sg b hb,List.all_nil,Bool.and_self]
theorem at2(a b:Rat):atP [ofQ a,ofQ b] 0=a∧atP [ofQ a,ofQ b] 1=b:=by
 constructor
 ·show qOf (ofQ a)=a;exact ZaM a
 ·show qOf (ofQ b)=b;exact ZaM b
theorem ZtZ{lo hi:Rat}(hs:Zao (sW lo hi)=true){L:List Nat}(a b:Rat)(ha:0≤a)(hb:0≤b)(h:Zvx lo hi [ofQ a,ofQ b] L):nsC (sW lo hi) L=false:=by
 cases hn:nsC (sW lo hi) L
 ·rfl
 obtain⟨i,hi,w,hw,hf⟩:=Zh7.1 hn _ (Zvp a b ha hb)
 rw[(ZlH hs).2 h i hi w hw]at hf
 cases hf
theorem ZtY{lo hi:Rat}(hs:Zao (sW lo hi)=true){L:List Nat}(h:∀ x,¬ Zvx lo hi x L):nsC (sW lo hi) L=true:=by
 refine Zh7.2 fun x _=>?_
 apply Classical.byContradiction
 intro hx
 refine h x ((ZlH hs).1 fun i hi w hw=>?_)
 cases hf:Zcc w x
 ·exact absurd ⟨i,hi,w,hw,hf⟩ hx
 ·rfl
theorem ZxX:PosE (exW 23):=by
 unfold PosE
 rw[ZpM]
 exact⟨[ofQ 21,ofQ 21],(Zge Ztn).2 ⟨Zvp _ _ (by decide) (by decide),by
  obtain⟨e0,e1⟩:=at2 21 21
  exact⟨fun _=>by rw[e0];decide,fun _=>by rw[e0];decide,fun _=>by rw[e0,e1],fun _=>by rw[e1];decide,fun _=>by rw[e1];decide⟩⟩⟩
theorem noW(x:List Zaf){L:List Nat}(h1:1∈L)(h2:2∈L)(h3:3∈L):¬ Zvx 23 27 x L:=fun h=>by
 have a:=h.r1 h1
 have b:=h.r2 h2
 have c:=h.r3 h3
 grind
theorem ZAX:¬ PosE (exW 25):=by
 unfold PosE
 rw[ZxO]
 rintro⟨x,hx⟩
 exact noW x (by simp) (by simp) (by simp) ((Zge ZoL).1 hx).2
theorem confW:ZfX (nsC (sW 23 27)) 5=[1,2,3]:=by
 have R:=ZoL
 have e:List.range 5=[0,1,2,3,4]:=rfl
 have y:∀ L:List Nat,1∈L→2∈L→3∈L→nsC (sW 23 27) L=true:=fun L a b c=>ZtY R fun x=>noW x a b c
 have n1:nsC (sW 23 27) [2,3,4]=false:=ZtZ R 23 23 (by decide) (by decide) (by
  obtain⟨e0,e1⟩:=at2 23 23
  exact⟨fun h=>by simp at h,fun h=>by simp at h,fun _=>by rw[e0,e1],fun _=>by rw[e1];decide,fun _=>by rw[e1];decide⟩)
 have n2:nsC (sW 23 27) [1,3,4]=false:=ZtZ R 0 23 (by decide) (by decide) (by
  obtain⟨e0,e1⟩:=at2 0 23
  exact⟨fun h=>by simp at h,fun _=>by rw[e0];decide,fun h=>by simp at h,fun _=>by rw[e1];decide,fun _=>by rw[e1];decide⟩)
 have n3:nsC (sW 23 27) [1,2,4]=false:=ZtZ R 0 0 (by decide) (by decide) (by
  obtain⟨e0,e1⟩:=at2 0 0
  exact⟨fun h=>by simp at h,fun _=>by rw[e0];decide,fun _=>by rw[e0,e1],fun h=>by simp at h,fun _=>by rw[e1];decide⟩)
 have l1:Zcz (nsC (sW 23 27)) 5 1=[1,2,3,4]:=by
  rcases Zch (ns:=nsC (sW 23 27)) (m:=5) 0 with⟨_,h⟩|⟨h,_⟩
  ·rw[h];rfl
  ·rw[y _ (by decide) (by decide) (by decide)]at h;cases h
 have l2:Zcz (nsC (sW 23 27)) 5 2=[1,2,3,4]:=by
  rcases Zch (ns:=nsC (sW 23 27)) (m:=5) 1 with⟨h,_⟩|⟨_,h⟩
  ·rw[ZiU,l1]at h;have h:nsC (sW 23 27) [2,3,4]=true:=h;rw[n1]at h;cases h
  ·rw[h,l1]
 have l3:Zcz (nsC (sW 23 27)) 5 3=[1,2,3,4]:=by
  rcases Zch (ns:=nsC (sW 23 27)) (m:=5) 2 with⟨h,_⟩|⟨_,h⟩
  ·rw[ZiU,l2]at h;have h:nsC (sW 23 27) [1,3,4]=true:=h;rw[n2]at h;cases h
  ·rw[h,l2]
 have l4:Zcz (nsC (sW 23 27)) 5 4=[1,2,3,4]:=by
  rcases Zch (ns:=nsC (sW 23 27)) (m:=5) 3 with⟨h,_⟩|⟨_,h⟩
  ·rw[ZiU,l3]at h;have h:nsC (sW 23 27) [1,2,4]=true:=h;rw[n3]at h;cases h
  ·rw[h,l3]
 rcases Zch (ns:=nsC (sW 23 27)) (m:=5) 4 with⟨_,h⟩|⟨h,_⟩
 ·show Zcz _ 5 5=_
  rw[h,ZiU,l4];rfl
 ·rw[ZiU,l4]at h
  rw[y _ (by decide) (by decide) (by decide)]at h;cases h
theorem posWo:PosE (Zan (exW 25) [0]):=by
 have hs:sysE (Zan (exW 25) [0])=⟨2,[⟨[⟨0,ofQ 1⟩,⟨1,ofQ (-1)⟩],2,ofQ 0⟩]⟩:=by kernel_rfl
 unfold PosE
 rw[hs]
 exact⟨[ofQ 0,ofQ 0],by decide +kernel⟩
theorem bdW{b:BdD}(h:BdOk (sW 21 25) [⟨0,ofQ 1⟩] b):b=⟨ofQ 21,ofQ 22,true,true⟩:=by
 have R:=Ztn
 have hv:∀ v:Rat,21≤v→v≤22→ZaA (sW 21 25) [ofQ v,ofQ v]=true∧dotD [⟨0,ofQ 1⟩] [ofQ v,ofQ v]=v:=fun v h1 h2=>by
  obtain⟨e0,e1⟩:=at2 v v
  refine⟨(Zge R).2 ⟨Zvp _ _ (by grind) (by grind),⟨fun _=>by rw[e0];grind,fun _=>by rw[e0];exact h2,fun _=>by rw[e0,e1],fun _=>by rw[e1];exact h1,fun _=>by rw[e1];grind⟩⟩,by rw[dot1,e0]⟩
 have hb:∀ x,ZaA (sW 21 25) x=true→21≤dotD [⟨0,ofQ 1⟩] x∧dotD [⟨0,ofQ 1⟩] x≤22:=fun x hx=>by
  have g:=((Zge R).1 hx).2
  have g1:=g.r1 (by simp)
  have g2:=g.r2 (by simp)
  have g3:=g.r3 (by simp)
  rw[dot1]
  constructor<;>grind
 refine Zz2 h (c:=⟨ofQ 21,ofQ 22,true,true⟩) ⟨fun _=>⟨21,_,rfl,(hv 21 (by decide) (by decide)).1,(hv 21 (by decide) (by decide)).2,fun z hz=>(hb z hz).1⟩,fun h=>(by cases h),fun _=>⟨22,_,rfl,(hv 22 (by decide) (by decide)).1,(hv 22 (by decide) (by decide)).2,fun z hz=>(hb z hz).2⟩,fun h=>(by cases h)⟩ (fun x hx=>⟨x,hx,rfl⟩) (fun x hx=>⟨x,hx,rfl⟩)
set_option maxHeartbeats 32000000
theorem lo3:∀ id,id<3→([0,1,2]:List Nat).contains id=true:=by
 intro id h
 have:id=0∨id=1∨id=2:=by omega
 rcases this with rfl|rfl|rfl<;>rfl
theorem ZwV{F X:Prop}(f:F)(h:F→X:=by
 intro hf
 refine Zb1 _ _ _ ?_ ?_ ?_ ?_ ?_ (.inr lo3)<;>simp[go_sem,okD,okDs,Zb8,hf] <;>
 (first|(intros;subst_vars;simp[okD,okDs];done)|(intro _ h;rcases h with⟨_,_,rfl⟩|rfl<;>simp[okD,okDs];done)|(intros;rename_i h;rcases h with⟨_,_,rfl⟩|rfl<;>simp[okD,okDs]))):X:=h f
theorem Zra{L:List Nat}{m:Nat}(hp:L.Pairwise (·<·))(hl:∀ i∈L,i<m):ascR (ints L) m=true:=by
 refine Ya6.2 fun k hk=>?_
 have hk':k<L.length:=by simpa[ints]using Yd2.1 hk
 have e:(ints L)[k]? =some ((L[k]:Nat):Int):=by rw[Yb8,Ya0 hk'];rfl
 have h2:=hl _ (List.getElem_mem hk')
 simp only[Zoe,e,Option.getD_some,Ya2,decide_eq_true_eq]
 refine⟨?_,by omega⟩
 match k,hk',e with
 | 0,_,_=>simp only[ZkC];omega
 | j+1,hj,_ =>
   have e2:(ints L)[j]? =some ((L[j]:Nat):Int):=by rw[Yb8,Ya0 (by omega)];rfl
   simp only[ZkC,e2,Option.getD_some]
   have:=List.pairwise_iff_getElem.1 hp j (j+1) (by omega) hj (by omega)
   omega
theorem Zhu(ns:List Nat→Bool)(m:Nat):∀ i,(Zcz ns m i).Pairwise (·<·)
 | 0=>List.pairwise_lt_range
 | i+1=>by
   rcases Zch (ns:=ns) (m:=m) i with⟨_,h⟩|⟨_,h⟩
   ·rw[h];exact(Zhu ns m i).filter _
   ·rw[h];exact Zhu ns m i
theorem Zvb(k i:Int):Zaa Tryz.prog 70 [dI k,.ep [[dI i]] 0 0] (dB (k==i)):=by
 refine Zae.toN ?_ rfl
 refine inC Tryz.func70 rfl Tryz.ntmps70 ?_
 have Zr:=Tryz.results70
 exact aGo Zr trivial
theorem Zp8{s:SysD}{L:List Nat}:(refU s L).length≤L.length:=by
 unfold refU
 split
 ·unfold Zky
  exact Yc7 (List.length_filterMap_le _ _) (by rw[List.length_zip];omega)
 ·exact Yb0 _
theorem Ztw{s:SysD}(c:Conf s){L:List Nat}(ha:ascR (ints L) s.r.length=true)(hn:nsC s L=true):nsC s (refU s L)=true∧∀ k∈refU s L,k∈L:=by
 obtain⟨hl,hlt⟩:=Zmv ha
 have h8:=c.l
 have hp:=ZeG c.r (rows:=L) (by omega)
 have hk:=(ZjT c.r (by omega)).1 hn
 have e:refU s L=Zky L (Zax (Zbq s L) []).y:=by unfold refU;rw[hn];rfl
 rw[e]
 refine⟨Zyz hlt ?_,fun k h=>ZvJ h⟩
 rcases ZgY (Zca hp (Zez hp))with⟨h,_⟩|⟨_,h,_⟩|⟨h,_⟩
 ·rw[hk]at h;exact absurd h (by decide)
 ·exact h
 ·rw[hk]at h;exact absurd h (by decide)
noncomputable def ZhJ (s:SysD):List Nat:=if nsC s (List.range s.r.length)then ZfX (nsC s) s.r.length else []
theorem ZnT{L:List Nat}(hp:L.Pairwise (·<·)){i p:Nat}(h:L[p]? =some i):L.eraseIdx p=L.filter fun k=>k !=i:=by
 have hn:L.Nodup:=hp.imp fun h=>Nat.ne_of_lt h
 obtain⟨hlt,he⟩:=Ya3.1 h
 have hi:L.idxOf i=p:=by rw[← he];exact hn.idxOf_getElem p hlt
 rw[← List.erase_eq_eraseIdx_of_idxOf hi,List.Nodup.erase_eq_filter hn]
section
variable {α:Type} {L:List α} {p:Nat}
def Zcs(L:List α)(p q:Nat):List α:=(L.eraseIdx p).take q++L.drop q
theorem ZoH(hp:p<L.length):Zcs L p p=L:=by
 unfold Zcs
 rw[List.eraseIdx_eq_take_drop_succ,List.take_append_of_le_length (by rw[Yc1];omega),List.take_take,Nat.min_self,List.take_append_drop]
theorem ZmX(hp:p<L.length){q:Nat}(hq:q<L.length):(Zcs L p q).length=L.length:=by
 unfold Zcs
 rw[Yb9,Yc1,List.length_drop,List.length_eraseIdx_of_lt hp];omega
theorem ZvX(hp:p<L.length){q:Nat}(hq:q<L.length):(Zcs L p q)[q+1]? =L[q+1]?:=by
 unfold Zcs
 have hl:((L.eraseIdx p).take q).length=q:=by rw[Yc1,List.length_eraseIdx_of_lt hp];omega
 rw[Yc4 (by omega),hl,List.getElem?_drop]
 congr 1;omega
theorem Ztb(hp:p<L.length){q:Nat}(hpq:p≤q){y:α}(hy:L[q+1]? =some y):(Zcs L p q).set q y=Zcs L p (q+1):=by
 have hq:=(Ya3.1 hy).1
 unfold Zcs
 have hl:((L.eraseIdx p).take q).length=q:=by rw[Yc1,List.length_eraseIdx_of_lt hp];omega
 have he:(L.eraseIdx p)[q]? =some y:=by rw[List.getElem?_eraseIdx_of_ge hpq,hy]
 rw[List.set_append_right _ _ (by omega),hl,Nat.sub_self,Yb4,he]
 rw[show(L.drop q).set 0 y=y ::L.drop (q+1) by rw[Yd7 (show q<L.length by omega)];rfl]
 simp
theorem Ztc(hp:p<L.length){n:Nat}(hn:L.length=n+1)(z:α):((Zcs L p n).set n z).take n=L.eraseIdx p:=by
 unfold Zcs
 have hl:(L.eraseIdx p).length=n:=by rw[List.length_eraseIdx_of_lt hp];omega
 rw[Ya8 (l:=L.eraseIdx p) (by omega),List.set_append_right _ _ (by omega),List.take_append_of_le_length (by omega),Ya8 (by omega)]
end
theorem Zn1(s:SysD)(c:Conf s):Zae Tryz.prog 34 [encS s] (.tup [Zad (ints (ZhJ s)),dI 0]):=by
 have Zr:=Tryz.results34
 have hresC:=Tryz.results65
 have hresD:=Tryz.results69
 have hresI:=Tryz.results105
 have h8:=c.l
 have q1:=ZdR s (c.sm).sm
 rw[c.r]at q1
 obtain⟨m,em⟩:∃ m,s.r.length=m:=⟨_,rfl⟩
 have hm:(s.r.length:Int)=m:=by rw[em]
 have hm0:(0:Int)≤m:=by omega
 have hm8:(m:Int)≤32:=by omega
 have ar:ascR (ints (List.range m)) s.r.length=true:=by rw[em];exact Zra List.pairwise_lt_range fun i h=>Yd2.1 h
 have q2:=ZjH s c (List.range m) ar
 obtain⟨F,hF⟩:∃ F:Nat→List Int,F=fun k=>ints (List.range k)++List.replicate (m-k) 0:=⟨_,rfl⟩
 have F0:F 0=List.replicate m 0:=by rw[hF];rfl
 have F0':(F 0).map (fun x=>[dI x])=List.replicate m [D.v (.int .i64 0)]:=by rw[F0,List.map_replicate]
 have Fl:∀ k,k≤m→(F k).length=m:=fun k hk=>by rw[hF];simp[ints];omega
 have Fm:F m=ints (List.range m):=by rw[hF];simp
 have Fs:∀ k,k<m→((F k).map fun x=>[dI x]).set k [dI k]=(F (k+1)).map fun x=>[dI x]:=fun k hk=>by
  rw[← List.map_set,hF]
  simp only
  congr 1
  rw[List.set_append_right _ _ (by simp[ints])]
  simp only[ints,Yc0,List.length_range,Nat.sub_self]
  rw[List.range_succ,List.map_append,Yd3,show m-k=(m-(k+1))+1 by omega,List.replicate_succ]
  rfl
 refine inC Tryz.func34 rfl Tryz.ntmps34 ?_
 refine aGo (cj4 Zr hm hm0 hm8) ?_
 repeat with_reducible intro K hK
 refine ZaH (fun(k:Nat)=>[(1,.lp 0 0 0 0),(4,.ls 1 1),(20,dI m),(21,dI k)]) (fun k=>[(0,⟨88,0,2,[cS s],0,false⟩),(1,⟨3,1,1,(F k).map fun x=>[dI x],0,false⟩)]) 2 0 (fun k=>k≤m) (fun k=>m-k) 0 (by omega) ?_ ?_
 ·exact leGo F0'
 rintro k hk
 obtain⟨hw,h0⟩:=ZaS k
 have kz:(0:Nat)≤k:=Yb0 _
 by_cases h1:(k:Int)<m
 ·obtain⟨y,hy⟩:∃ e,(F k)[k]? =some e:=⟨_,Ya0 (by rw[Fl k hk];omega)⟩
  have F1:=Fs k (by omega)
  have F2:=Fl k hk
  refine aGo (cj4 Zr h0 kz (cj4 h1 hw hy (cj2 F1 F2))) ?_
  repeat with_reducible intro K hK
  exact Zah (k+1) (by omega) (by omega) (by exact leGo F1)
 obtain rfl:k=m:=by omega
 clear hw h0 kz hk
 refine aLe ((ZgQ 1 rfl).trans (Zie 4 5)) ?_
 simp only[go_sem,fzT]
 have ez:∀ M,List.map (List.map (fzT false M 4)) ((F k).map fun x=>[dI x])=(ints (List.range k)).map fun x=>[dI x]:=fun M=>by rw[ZaF (fun _=>rfl),Fm]
 cases hn:nsC s (List.range k)
 ·rw[hn]at q2
  refine aGo (cj3 Zr h1 ez) ?_
  repeat with_reducible intro K hK
  rw[show ZhJ s=[] by unfold ZhJ;rw[em,hn];rfl]
  rfl
 rw[hn]at q2
 refine aGo (cj4 Zr h1 ez hm) ?_
 repeat with_reducible intro K hK
 obtain⟨u1,u2⟩:=Ztw c ar hn
 have u3:(refU s (List.range k)).length≤32:=Yc7 Zp8 (by rw[List.length_range];omega)
 generalize refU s (List.range k)=U0 at q2 u1 u2 u3
 clear q1 q2 ez F0 F0' Fl Fm Fs h1
 refine ZaH (fun(p:Nat×List Nat)=>[(1,.lp 0 0 0 0),(4,Zad (ints (Zcz (nsC s) k p.1))),(6,Zad (ints p.2)),(39,dI k),(40,dI p.1)]) (fun _=>[(0,⟨88,0,2,[cS s],0,false⟩)]) 1 0 (fun p=>p.1≤k∧nsC s p.2=true∧p.2.length≤32∧∀ j∈p.2,j∈Zcz (nsC s) k p.1) (fun p=>k-p.1) (0,U0) ⟨by omega,u1,u3,u2⟩ ?_ ?_
 ·have e0:Zcz (nsC s) k 0=List.range k:=rfl
  exact leGo e0
 rintro⟨i,U⟩ ⟨hi,hU,hU8,hsub⟩
 simp only at hi hU hU8 hsub
 obtain⟨hw,h0⟩:=ZaS i
 by_cases h1:(i:Int)<k
 rotate_left
 ·obtain rfl:i=k:=by omega
  refine aGo (cj2 Zr h1) ?_
  repeat with_reducible intro K hK
  rw[show ZhJ s=ZfX (nsC s) i by unfold ZhJ;rw[em,hn];rfl]
 obtain⟨L,eL⟩:∃ L,Zcz (nsC s) k i=L:=⟨_,rfl⟩
 have hLp:L.Pairwise (·<·):=by rw[← eL];exact Zhu _ _ _
 have hLlt:∀ j∈L,j<k:=fun j hj=>by rw[← eL]at hj;exact Zhv i j hj
 have hiL:i∈L:=by rw[← eL];exact Zla i i (Ya4 _) (by omega)
 have hstep:=Zch (ns:=nsC s) (m:=k) i
 simp only[ZiU,eL]at hstep
 rw[eL]at hsub
 have aL:ascR (ints L) s.r.length=true:=by rw[em];exact Zra hLp hLlt
 have aM:ascR (ints (L.filter fun k=>k !=i)) s.r.length=true:=by rw[em];exact Zra (hLp.filter _) fun j hj=>hLlt j (List.mem_filter.1 hj).1
 obtain⟨p,hp⟩:=List.getElem?_of_mem hiL
 have hpl:=(Ya3.1 hp).1
 have hLl:L.length≤32:=by have:=Zmu aL;simp[ints]at this;omega
 have her:=ZnT hLp hp
 obtain⟨n,en⟩:∃ n,L.length=n+1:=⟨L.length-1,by omega⟩
 obtain⟨c0,cs,ec⟩:∃ c0 cs,(ints L).map (fun x=>[dI x])=c0 ::cs:=by
  match L,en with
  | y ::L',_=>exact⟨_,_,rfl⟩
 have lT':cs.length+1=n+1:=by
  have:=congrArg List.length ec
  simp[ints]at this;omega
 have e1:Zad (ints L) = .sl (c0 ::cs):=by show D.sl ((ints L).map fun x=>[dI x])=_;rw[ec]
 have e2:List.map (List.map datJ) (c0 ::cs)=c0 ::cs:=by rw[← ec];exact ZaF (fun _=>rfl) _
 have hcell:∀ x∈c0 ::cs,x.length=1∧x.all D.isCell=true:=by
  rw[← ec]
  intro x hx
  obtain⟨u,_,rfl⟩:=Yc6.1 hx
  exact⟨rfl,rfl⟩
 have hb:((n:Nat):Int)≤32:=by omega
 refine aGo (cj4 Zr h0 h1 (cj3 eL e1 hw)) ?_
 repeat with_reducible intro K hK
 refine ZcV Tryz.func65 rfl (by kernel_rfl) (by kernel_rfl) (by kernel_rfl) ?_
 rw[Tryz.ntmps65]
 refine aGo (cj4 hresC hb e1 (cj2 e2 lT')) ?_
 repeat with_reducible intro K hK
 refine⟨⟨⟨hcell c0 (by simp),fun x hx=>hcell x (by simp[hx])⟩,by push_cast;omega,by push_cast;omega⟩,?_⟩
 have ec':=ec.symm
 refine aGo (cj3 Zr hresC ec') ?_
 repeat with_reducible intro K hK
 refine ZcV Tryz.func69 rfl (by kernel_rfl) (by kernel_rfl) (by kernel_rfl) ?_
 rw[Tryz.ntmps69]
 refine aGo hresD ?_
 repeat with_reducible intro K hK
 refine ZcV Tryz.func105 rfl (by kernel_rfl) (by kernel_rfl) (by kernel_rfl) ?_
 rw[Tryz.ntmps105]
 have hll:((ints L).length:Int)=(n:Int)+1:=by simp[ints];omega
 have hll2:(L.length:Int)=(n:Int)+1:=by omega
 refine aGo (cj3 hresI hll hll2) ?_
 repeat with_reducible intro K hK
 refine aLe (ZgQ 1 rfl) ?_
 refine ZaH (fun(q:Nat)=>[(0,.ls 2 1),(1,.clo 70 [.lp 1 0 0 0]),(6,.ls 2 1),(7,dI ((n:Int)+1)),(8,dI q)]) (fun _=>[(0,⟨88,0,2,[cS s],0,false⟩),(1,⟨3,0,1,[[dI i]],0,true⟩),(2,⟨3,1,1,(ints L).map fun x=>[dI x],0,false⟩)]) 3 3 (fun q=>q≤p) (fun q=>p-q) 0 (by omega) ?_ ?_
 ·exact ZwV trivial
 rintro q hq
 obtain⟨hwq,q0⟩:=ZaS q
 have hqn:(q:Int)<(n:Int)+1:=by omega
 obtain⟨y,hy⟩:=getE (l:=L) (k:=q) (by omega)
 have hyI:(ints L)[q]? =some (y:Int):=by rw[Yb8,hy];rfl
 have kc:=Zvb y i
 have hne:∀ (a b:Nat)(u v:Nat),L[a]? =some u→L[b]? =some v→a≠b→u≠v:=fun a b u v ha hb hab he=>by
  obtain⟨h1,h2⟩:=Ya3.1 ha
  obtain⟨h3,h4⟩:=Ya3.1 hb
  rcases Nat.lt_or_gt_of_ne hab with h|h
  ·have:=List.pairwise_iff_getElem.1 hLp a b h1 h3 h;omega
  ·have:=List.pairwise_iff_getElem.1 hLp b a h3 h1 h;omega
 by_cases h2:q=p
 rotate_left
 ·have:y≠i:=hne q p y i hy hp h2
  rw[show((y:Int)==i)=false from beq_eq_false_iff_ne.2 (fun h=>this (by exact_mod_cast h))]at kc
  refine aGo (cj4 hresI q0 hqn (cj2 hyI hwq)) ?_
  repeat with_reducible intro K hK
  exact Zah (q+1) (by omega) (by omega) (by exact ZwV trivial)
 subst h2
 rw[hp]at hy
 obtain rfl:=Option.some.inj hy
 rw[show((i:Int)==i)=true by simp]at kc
 have hpm:((q:Int) == -1)=false:=beq_eq_false_iff_ne.2 (by omega)
 refine aGo (cj4 hresI hresD q0 (cj4 hqn hyI hwq hpm)) ?_
 repeat with_reducible intro K hK
 clear kc hyI hwq hpm
 have g0:=ZoH (L:=L) hpl
 refine ZaH (fun(r:Nat)=>[(0,.ls 2 1),(1,.clo 70 [.lp 1 0 0 0]),(5,dI r),(6,dI ((r:Int)+1))]) (fun r=>[(0,⟨88,0,2,[cS s],0,false⟩),(1,⟨3,0,1,[[dI i]],0,true⟩),(2,⟨3,1,1,(ints (Zcs L q r)).map fun x=>[dI x],0,false⟩)]) 3 3 (fun r=>q≤r∧r≤n) (fun r=>n-r) q ⟨by omega,by omega⟩ ?_ ?_
 ·exact ZwV g0
 rintro r ⟨hr1,hr2⟩
 have hw1:=ZsK r
 have hw2:IntKind.i64.wrap ((r:Int)+1+1)=(r:Int)+1+1:=ZaQ (by omega) (by omega)
 have r0:(0:Int)≤r:=by omega
 have r1:(0:Int)≤(r:Int)+1:=by omega
 have rz:(0:Nat)≤r:=Yb0 _
 have rt:((r:Int)+1).toNat=r+1:=by omega
 have rn:(r:Int)<(n:Int)+1:=by omega
 have hsl:((Zcs L q r).length:Int)=(n:Int)+1:=by rw[ZmX hpl (by omega)];omega
 have hsn:(Zcs L q r).length=n+1:=by rw[ZmX hpl (by omega)];omega
 by_cases h3:(r:Int)+1<(n:Int)+1
 ·obtain⟨y,hy⟩:=getE (l:=L) (k:=r+1) (by omega)
  have hyS:(Zcs L q r)[r+1]? =some y:=by rw[ZvX hpl (by omega)];exact hy
  obtain⟨z,hz⟩:∃ e,(Zcs L q r)[r]? =some e:=⟨_,Ya0 (by omega)⟩
  have hset:((ints (Zcs L q r)).map fun x=>[dI x]).set r [dI y]=(ints (Zcs L q (r+1))).map fun x=>[dI x]:=by
   rw[← Ztb hpl hr1 hy,← List.map_set,ints,ints,← List.map_set]
  have hne2:y≠i:=hne (r+1) q y i hy hp (by omega)
  have kc:=Zvb y i
  rw[show((y:Int)==i)=false from beq_eq_false_iff_ne.2 (fun h=>hne2 (by exact_mod_cast h))]at kc
  refine aGo (cj4 hresD h3 r0 (cj4 r1 rz rt (cj4 rn hsl hyS (cj4 hz hset hw1 hw2)))) ?_
  repeat with_reducible intro K hK
  exact Zah (r+1) ⟨by omega,by omega⟩ (by omega) (by exact ZwV hset)
 obtain rfl:r=n:=by omega
 repeat ((fail_if_success (with_reducible refine Zvq 11 ?_)); first
     | (refine hK _ ?_;clear hK;clear K)
     | (refine aSeq fun K hK=>?_)
     | (refine Zee ?_)
     | (refine ZhQ ?_)
     | (refine ZhT ?_)
     | (refine aRet ?_)
     | (refine aOps _ rfl (by kernel_rfl) ?_)
     | (refine ZhR _ rfl mixed (by kernel_rfl) (by kernel_rfl) fun KE hE=>?_)
     | (refine hE _ _ (by kernel_rfl) (Zaz rfl) ?_;clear hE;clear KE)
     | (refine hE _ _ (by kernel_rfl) (Zb0 ?hi ?hj) ?_;(case hi=>(repeat(refine Zap rfl ?_));exact Zas);(case hj=>simp);clear hE;clear KE)
     | (refine Zec rfl ?hc ?_;case hc=>simp only[go_sem,↓reduceIte,hresD,h3,hsl])
     | (refine Zed rfl ?hc ?_;case hc=>simp only[go_sem,↓reduceIte,hresD,h3,hsl])
     | (simp only[go_sem,↓reduceIte,hresD,h3,hsl])
     | (refine And.intro ?ho ?_;(case ho=>omega))
     | (clear hK;clear K))
 rename_i hKx
 refine hKx _ ?_
 clear hKx
 refine aSeq fun KA hKA=>?_
 refine Zz8 (i:=r) (es:=(ints (Zcs L q r)).map fun x=>[dI x]) rfl rfl rfl rfl rfl rfl rfl rfl rfl rfl rfl rfl (by kernel_rfl) (by kernel_rfl) (by decide) rfl rfl rfl (by simp[ints];omega) ?_
 refine hKA _ ?_
 clear hKA
 obtain⟨M,eM⟩:∃ M,(L.filter fun k=>k !=i)=M:=⟨_,rfl⟩
 obtain⟨E,eE⟩:∃ E:List Int,(ints (Zcs L q r)).set r 0=E:=⟨_,rfl⟩
 have hes:((ints (Zcs L q r)).map fun x=>[dI x]).set r [dI 0]=E.map fun x=>[dI x]:=by rw[← eE,List.map_set]
 have hel:(E.length:Int)=(r:Int)+1:=by rw[← eE,List.length_set,Yc0];omega
 have hel2:(r:Int)≤(r:Int)+1:=by omega
 have hend:(E.map fun x=>[dI x]).take r=(ints M).map fun x=>[dI x]:=by
  rw[← eM,← her,← Ztc hpl en 0,← List.map_take,← eE]
  simp only[ints,← List.map_take]
  congr 1
  rw[show(0:Int)=(fun(i:Nat)=>(i:Int)) 0 from rfl,← List.map_set]
  exact List.map_take.symm
 have hfz:∀ m,List.map (List.map (fzT false m 4)) (E.map fun x=>[dI x])=E.map fun x=>[dI x]:=fun m=>ZaF (fun _=>rfl) _
 rw[eM]at hstep aM
 have hns:∀ j,j∈M↔j∈L∧j≠i:=fun j=>by rw[← eM];simp
 have kc2:=ZiK (ints U) i (by
  have hlU:(U.length:Int)≤1099511627776:=by omega
  simpa[ints]using hlU)
 simp only[hes]
 refine aLe ((ZgQ 2 rfl).trans (Zie 0 5)) ?_
 simp only[go_sem,fzT]
 clear hne her g0 hsl hsn
 cases hhas:hasI (ints U) i
 ·rw[hhas]at kc2
  have hni:i∉U:=fun h=>by rw[Zuv.2 h]at hhas;cases hhas
  have hMn:nsC s M=true:=ZwF s U M (fun j hj=>(hns j).2 ⟨hsub j hj,fun e=>hni (e▸hj)⟩) hU
  have hst:Zcz (nsC s) k (i+1)=M:=by
   rcases hstep with⟨_,h⟩|⟨h,_⟩
   ·exact h
   ·rw[hMn]at h;cases h
  have hsM:∀ j∈U,j∈Zcz (nsC s) k (i+1):=fun j hj=>by rw[hst];exact(hns j).2 ⟨hsub j hj,fun e=>hni (e▸hj)⟩
  refine aGo (cj4 Zr hresD r0 (cj4 hel hel2 hend (cj2 hfz hw))) ?_
  repeat with_reducible intro K hK
  exact Zah (i+1,U) ⟨by show i+1≤k;omega,hU,hU8,hsM⟩ (by show k-(i+1)<k-i;omega) (by exact leGo hst)
 rw[hhas]at kc2
 have kr:=ZjH s c M aM
 have hM8:M.length≤32:=by have:=Zmu aM;simp[ints]at this;omega
 have hU2:(refU s M).length≤32:=Yc7 Zp8 hM8
 cases hMn:nsC s M
 ·rw[hMn]at kr
  have hst:Zcz (nsC s) k (i+1)=L:=by
   rcases hstep with⟨h,_⟩|⟨_,h⟩
   ·rw[hMn]at h;cases h
   ·exact h
  have hsM:∀ j∈U,j∈Zcz (nsC s) k (i+1):=fun j hj=>by rw[hst];exact hsub j hj
  refine aGo (cj4 Zr hresD r0 (cj4 hel hel2 hend (cj2 hfz hw))) ?_
  repeat with_reducible intro K hK
  exact Zah (i+1,U) ⟨by show i+1≤k;omega,hU,hU8,hsM⟩ (by show k-(i+1)<k-i;omega) (by exact leGo hst)
 ·rw[hMn]at kr
  have hst:Zcz (nsC s) k (i+1)=M:=by
   rcases hstep with⟨_,h⟩|⟨h,_⟩
   ·exact h
   ·rw[hMn]at h;cases h
  obtain⟨v1,v2⟩:=Ztw c aM hMn
  have hsM:∀ j∈refU s M,j∈Zcz (nsC s) k (i+1):=fun j hj=>by rw[hst];exact v2 j hj
  refine aGo (cj4 Zr hresD r0 (cj4 hel hel2 hend (cj2 hfz hw))) ?_
  repeat with_reducible intro K hK
  exact Zah (i+1,refU s M) ⟨by show i+1≤k;omega,v1,hU2,hsM⟩ (by show k-(i+1)<k-i;omega) (by exact leGo hst)
theorem own_c(e:EvD)(hf:Zcd e=0):Zaa Tryz.prog 48 [Zb2 e] (Zb2 e):=by
 have Zr:=Tryz.results48
 have Ri:=Zfc hf
 have p1:=Zn4 _ (ZA1 e.pl) (by have:=Ri.lp;rw[Yc0];omega)
 have p2:=Zu9 _ (ZA2 e.mv) (by have:=Ri.lm;rw[Yc0];omega)
 have p3:=Zn5 _ (ZA3 e.ce) (by have:=Ri.lc;rw[Yc0];omega)
 have p4:=Zn2 _ (ZAZ e.re) (by have:=Ri.lr;rw[Yc0];omega)
 have p5:=Zn3 _ (ZA0 e.pu) (by have:=Ri.lu;rw[Yc0];omega)
 refine inN Tryz.func48 rfl Tryz.ntmps48 fun I=>?_
 exact aGo (Y:=True) Zr trivial
theorem ZuD(b:BdD)(zl:(szF b.l:Int)≤4456448)(zh:(szF b.h:Int)≤4456448):Zae Tryz.prog 52 [Zii b] (Zii ⟨negD (negD b.l),negD (negD b.h),b.lo,b.hi⟩):=by
 have Zr:=Tryz.results52
 have z1:=Zor b.l
 have z2:=Zor b.h
 have k1:=ZnK b.l (by omega)
 have k2:=ZnK (negD b.l) (by omega)
 have k3:=ZnK b.h (by omega)
 have k4:=ZnK (negD b.h) (by omega)
 obtain⟨l,h,lo,hi⟩:=b
 simp only at k1 k2 k3 k4 ⊢
 generalize negD l=l1 at *
 generalize negD h=h1 at *
 generalize negD l1=l2 at *
 generalize negD h1=h2 at *
 refine inC Tryz.func52 rfl Tryz.ntmps52 ?_
 exact aGo (Y:=True) Zr trivial
theorem lo35:∀ id,id<3→([0,1,2,3,4]:List Nat).contains id=true:=by
 intro id h
 have:id=0∨id=1∨id=2:=by omega
 rcases this with rfl|rfl|rfl<;>rfl
section
variable {e:EvD} (h:SusE e)
include h
theorem ZzY(ps:List PkD)(hl:ps.length≤100):Zae Tryz.prog 83 [Zb2 e,Zco ps] (Zii (bdP e ps)):=by
 have Zr:=Tryz.results83
 have k1:=Zhf h ps hl
 have k2:=Zob h ps
 generalize bdP e ps=b at *
 generalize rngP e ps=r at *
 obtain⟨⟨x,y⟩,c⟩:=r
 simp only at k1 k2
 refine inC Tryz.func83 rfl Tryz.ntmps83 ?_
 exact aGo (Y:=True) Zr trivial
abbrev cWt(e:EvD)(ps:List PkD)(b:BdD):List D:=cEv e++[.sl [[Zco ps]],.sl [cBd b],dB true]
theorem new_c(ps:List PkD)(hl:ps.length≤100)(hps:posB e=true)(kr:Zaa Tryz.prog 49 [Zb2 e,Zco ps] (dB true)) :
 Zae Tryz.prog 19 [Zb2 e,.sl [[Zco ps]]] (.tup [.ep [cWt e ps (bdP e ps)] 0 0,dI 0]):=by
 have Zr:=Tryz.results19
 have hresF:=Tryz.results51
 have k0:=ZgC e h.L
 rw[h.f]at k0
 have k1:=own_c e h.f
 have k2:=h.poss
 rw[hps]at k2
 have k3:=ZzY h ps hl
 have k4:=Zu7 (ps.map cPk) ⟨fun e he=>by obtain⟨u,_,rfl⟩:=Yc6.1 he;exact⟨rfl,rfl⟩,fun e he d hd=>by obtain⟨u,_,rfl⟩:=Yc6.1 he;simp only[cPk,List.mem_cons,List.not_mem_nil,or_false]at hd;rcases hd with rfl|rfl<;>exact⟨_,rfl⟩⟩ (by rw[Yc0];omega)
 generalize bdP e ps=b at *
 refine inC Tryz.func19 rfl Tryz.ntmps19 ?_
 refine aGo Zr ?_
 repeat with_reducible intro K hK
 refine aLe (Zdz 1 0 8 56 1 rfl rfl rfl) ?_
 simp only[go_sem]
 refine ZaH (fun(x:Nat)=>[(1,.sl [[Zco ps]]),(2,.lp 0 0 0 0),(6,.lp 1 0 0 0),(21,.sl [[Zco ps]]),(22,dI 1),(23,dI x)]) (fun x=>[(0,Zfe e),(1,⟨114,0,11,[[dI e.m,dI e.h,dI e.s,ZhG e.pl,ZdY e.mv,Zih e.ce,Zfr e.re,ZgE e.pu,.ls 2 x,.nil,dB false]],0,false⟩),(2,⟨56,x,1,[[Zco ps]].take x,0,false⟩)]) 3 0 (fun x=>x≤1) (fun x=>1-x) 0 (Yb0 _) ?_ ?_
 ·exact leGo trivial
 rintro x hx
 rcases(show x=0∨x=1 by omega)with rfl|rfl
 ·refine aGo Zr ?_
  repeat with_reducible intro K hK
  exact Zah 1 (by omega) (by omega) (by exact leGo trivial)
 ·refine aGo Zr ?_
  repeat with_reducible intro K hK
  refine ZcV Tryz.func51 rfl (by kernel_rfl) (by kernel_rfl) (by kernel_rfl) ?_
  rw[Tryz.ntmps51]
  refine aGo hresF ?_
  repeat with_reducible intro K hK
  refine aLe (Zd9 6 64 10 rfl) ?_
  refine ZaH (fun(x:Nat)=>[(3,.lp 3 0 0 0),(6,.ls 4 x),(15,.ls 2 1),(16,dI 1),(17,dI x)]) (fun x=>[(0,Zfe e),(1,⟨114,0,11,[[dI e.m,dI e.h,dI e.s,ZhG e.pl,ZdY e.mv,Zih e.ce,Zfr e.re,ZgE e.pu,.ls 2 1,.nil,dB false]],0,false⟩),(2,⟨56,1,1,[[Zco ps]],0,false⟩),(3,Zfe e),(4,⟨64,x,10,[cBd b].take x,0,false⟩)]) 5 3 (fun x=>x≤1) (fun x=>1-x) 0 (Yb0 _) ?_ ?_
  ·(refine Zb1 _ _ _ ?_ ?_ ?_ ?_ ?_ (.inr lo35)<;>simp[go_sem,okD,okDs,Zb8])
  rintro x hx2
  rcases(show x=0∨x=1 by omega)with rfl|rfl
  ·refine aGo hresF ?_
   repeat with_reducible intro K hK
   exact Zah 1 (by omega) (by omega) (by(refine Zb1 _ _ _ ?_ ?_ ?_ ?_ ?_ (.inr lo35)<;>simp[go_sem,okD,okDs,Zb8]))
  ·exact aGo (Y:=True) (cj2 hresF Zr) trivial
end
def oriE(e:EvD)(k:Nat):OriD:=(((Zia e)[k]?).map Prod.snd).getD ⟨0,0,0,0⟩
noncomputable def Zq9 (e:EvD):List OriD:=(ZhJ (sysE e)).map (oriE e)
theorem Zxr{s:SysD}:∀ k∈ZhJ s,k<s.r.length:=fun k hk=>by
 unfold ZhJ at hk
 split at hk
 ·exact Zhv _ _ hk
 ·cases hk
theorem Zu0{s:SysD}:(ZhJ s).length≤s.r.length:=by
 unfold ZhJ
 split
 ·have h:(ZfX (nsC s) s.r.length).Pairwise (·<·):=Zhu _ _ _
  have h2:∀ k∈ZfX (nsC s) s.r.length,k<s.r.length:=fun k hk=>Zhv _ _ hk
  exact(Zmv (Zra h h2)).1
 ·exact Yb0 _
section
variable {e:EvD} (h:SusE e)
include h
theorem ZzZ:Zae Tryz.prog 9 [Zb2 e] (.tup [.sl ((Zq9 e).map cOri),dI 0]):=by
 have Zr:=Tryz.results9
 have k1:=ZpL e h.f (by have:=h.n;omega) (by have:=h.p;omega) h.L
 have k2:=Zn1 _ h.conf
 have lt:=Zxr (s:=sysE e)
 have ln:=Zu0 (s:=sysE e)
 have l32:=h.conf.l
 have hsl:(sysE e).r.length=(Zia e).length:=by show((Zia e).map (·.1)).length=_;rw[Yc0]
 have ko:∀ k∈ZhJ (sysE e),Zae Tryz.prog 35 [Zb2 e,dI k] (.tup [.agg (cOri (oriE e k)),dB true]):=fun k hk=>by
  have hk2:=lt k hk
  rw[hsl]at hk2
  obtain⟨w,o,ho⟩:∃ w o,(Zia e)[k]? =some (w,o):=⟨_,_,Ya0 hk2⟩
  have:=Zws e h.f (by have:=h.n;omega) (by have:=h.p;omega) h.L ho
  rw[show oriE e k=o by unfold oriE;rw[ho];rfl]
  exact this
 unfold Zq9
 generalize sysE e=s at k1 k2 lt ln l32 hsl ko ⊢
 generalize ZhJ s=R at k2 lt ln ko ⊢
 have lR:(R.length:Int)≤32:=by omega
 refine inC Tryz.func9 rfl Tryz.ntmps9 ?_
 refine aGo Zr ?_
 repeat with_reducible intro K hK
 refine aLe (Zd9 7 52 4 rfl) ?_
 refine ZaH (fun(x:Nat×List OriD)=>[(1,.lp 0 0 0 0),(7,.ls 2 x.1),(27,Zad (ints R)),(28,dI R.length),(29,dI x.1)]) (fun x=>[(0,Zfe e),(2,⟨52,x.1,4,x.2.map cOri,0,false⟩)]) 3 0 (fun x=>x.1≤R.length∧x.2=(R.take x.1).map (oriE e)) (fun x=>R.length-x.1) (0,[]) ⟨Yb0 _,rfl⟩ ?_ ?_
 ·exact leGo trivial
 rintro⟨i,Q⟩ ⟨hi,hQ⟩
 simp only at hi hQ
 obtain⟨hw,h0⟩:=ZaS i
 have hlQ:Q.length≤32:=by rw[hQ,Yc0,Yc1];omega
 by_cases h1:(i:Int)<R.length
 ·obtain⟨k,hk⟩:∃ k,R[i]? =some k:=⟨_,Ya0 (by omega)⟩
  have hkI:(ints R)[i]? =some (k:Int):=by rw[Yb8,hk];rfl
  have q:=ko k (Ya7 hk)
  have hts:Q++[oriE e k]=(R.take (i+1)).map (oriE e):=by rw[Yb4,hk,hQ];simp
  have hl2:(ints R).length=R.length:=by rw[Yc0]
  generalize oriE e k=o at q hts
  obtain⟨Z,eZ⟩:∃ Z,Q++[o]=Z:=⟨_,rfl⟩
  have hZ:Q.map cOri++[cOri o]=Z.map cOri:=by rw[← eZ];simp
  rw[eZ]at hts
  refine aGo (cj4 Zr h0 h1 (cj4 hkI hw hZ hl2)) ?_
  repeat with_reducible intro K hK
  exact Zah (i+1,Z) ⟨by show i+1≤R.length;omega,hts⟩ (by show R.length-(i+1)<R.length-i;omega) (by exact leGo trivial)
 ·obtain rfl:i=R.length:=by omega
  refine aGo (cj2 Zr h1) ?_
  repeat with_reducible intro K hK
  rw[ZaF (fun _=>rfl),hQ,Ya8 (Ya4 _)]
end
set_option maxHeartbeats 8000000
theorem ZyS(a b:List Int)(ha:a.length≤4096)(hb:b.length≤4096):Zaa Tryz.prog 24 [Zad a,Zad b] (dB (a==b)):=by
 have Zr:=Tryz.results24
 refine inN Tryz.func24 rfl Tryz.ntmps24 fun I=>?_
 by_cases hl:a.length=b.length
 rotate_left
 ·have hl':((a.length:Int) !=(b.length:Int))=true:=by simp;omega
  refine aGo (cj2 Zr hl') ?_
  repeat with_reducible intro K hK
  exact Zaj (by simp;intro e;exact hl (by rw[e]))
 have hl':((a.length:Int) !=(b.length:Int))=false:=by simp;omega
 refine aGo (cj2 Zr hl') ?_
 repeat with_reducible intro K hK
 refine ZaH (fun(k:Nat)=>[(0,Zad a),(1,Zad b),(5,dI k)]) (fun _=>[]) 0 0 (fun k=>k≤a.length∧a.take k=b.take k) (fun k=>a.length-k) 0 ⟨by omega,rfl⟩ ?_ ?_
 ·exact leGo trivial
 rintro k ⟨hk,hn⟩
 obtain⟨hw,h0⟩:=ZaS k
 by_cases h1:(k:Int)<a.length
 ·obtain⟨x,hx⟩:=getE (l:=a) (k:=k) (by omega)
  obtain⟨y,hy⟩:=getE (l:=b) (k:=k) (by omega)
  by_cases h2:x=y
  ·have h2':(x !=y)=false:=by simp[h2]
   have hn2:a.take (k+1)=b.take (k+1):=by rw[Yb4,Yb4,hx,hy,hn,h2]
   refine aGo (cj4 Zr h0 h1 (cj4 hx hy hw h2')) ?_
   repeat with_reducible intro K hK
   exact Zah (k+1) ⟨by omega,hn2⟩ (by omega) (by exact leGo trivial)
  ·have h2':(x !=y)=true:=by simpa using h2
   have hf:(a==b)=false:=by
    simp
    intro e
    subst e
    rw[hx]at hy
    exact h2 (Option.some.inj hy)
   refine aGo (cj4 Zr h0 h1 (cj3 hx hy h2')) ?_
   repeat with_reducible intro K hK
   exact Zaj hf.symm
 ·have hf:(a==b)=true:=by
   rw[Ya8 (by omega),Ya8 (by omega)]at hn
   simpa using hn
  refine aGo (cj2 Zr h1) ?_
  repeat with_reducible intro K hK
  exact Zaj hf.symm
def Zc8(e:EvD)(mv m:Int):Bool :=
 !(decide (e.m>m)||(decide (e.h>6)||(decide (e.s>6)||decide ((e.pl.length:Int)>12))))&&(decide ((e.mv.length:Int)≤mv)&&(decide ((e.ce.length:Int)≤10)&&(decide ((e.re.length:Int)≤4)&&decide ((e.pu.length:Int)≤6))))
theorem Zs8(e:EvD)(mv m:Int):Zaa Tryz.prog 25 [Zb2 e,dI mv,dI m] (dB (Zc8 e mv m)):=by
 have Zr:=Tryz.results25
 refine inN Tryz.func25 rfl Tryz.ntmps25 fun I=>?_
 obtain⟨b,hb⟩:∃ b,Zc8 e mv m=b:=⟨_,rfl⟩
 rw[hb]
 by_cases h1:e.m>m
 ·refine aGo (cj2 Zr h1) ?_
  repeat with_reducible intro K hK
  exact Zaj (by rw[← hb];simp[Zc8,h1])
 by_cases h2:e.h>6
 ·refine aGo (cj3 Zr h1 h2) ?_
  repeat with_reducible intro K hK
  exact Zaj (by rw[← hb];simp[Zc8,h2])
 by_cases h3:e.s>6
 ·refine aGo (cj4 Zr h1 h2 h3) ?_
  repeat with_reducible intro K hK
  exact Zaj (by rw[← hb];simp[Zc8,h3])
 by_cases h4:(e.pl.length:Int)>12
 ·refine aGo (cj4 Zr h1 h2 (cj2 h3 h4)) ?_
  repeat with_reducible intro K hK
  exact Zaj (by rw[← hb];have:decide ((e.pl.length:Int)>12)=true:=decide_eq_true h4;simp only[Zc8,this,Bool.or_true,Bool.not_true,Bool.false_and])
 have g4:(decide (e.m>m)||(decide (e.h>6)||(decide (e.s>6)||decide ((e.pl.length:Int)>12))))=false:=by rw[decide_eq_false h1,decide_eq_false h2,decide_eq_false h3,decide_eq_false h4];rfl
 by_cases h5:(e.mv.length:Int)≤mv
 rotate_left
 ·refine aGo (cj4 Zr h1 h2 (cj3 h3 h4 h5)) ?_
  repeat with_reducible intro K hK
  exact Zaj (by rw[← hb];unfold Zc8;rw[g4,decide_eq_false h5];rfl)
 by_cases h6:(e.ce.length:Int)≤10
 rotate_left
 ·refine aGo (cj4 Zr h1 h2 (cj4 h3 h4 h5 h6)) ?_
  repeat with_reducible intro K hK
  exact Zaj (by rw[← hb];unfold Zc8;rw[g4,decide_eq_true h5,decide_eq_false h6];rfl)
 by_cases h7:(e.re.length:Int)≤4
 rotate_left
 ·refine aGo (cj4 Zr h1 h2 (cj4 h3 h4 h5 (cj2 h6 h7))) ?_
  repeat with_reducible intro K hK
  exact Zaj (by rw[← hb];unfold Zc8;rw[g4,decide_eq_true h5,decide_eq_true h6,decide_eq_false h7];rfl)
 refine aGo (cj4 Zr h1 h2 (cj4 h3 h4 h5 (cj2 h6 h7))) ?_
 repeat with_reducible intro K hK
 exact Zaj (by rw[← hb];unfold Zc8;rw[g4,decide_eq_true h5,decide_eq_true h6,decide_eq_true h7];rfl)
theorem ZAI:eqTy Tryz.prog 52=true:=by kernel_rfl
theorem ptrWt:ZrU Tryz.prog 70=true:=by kernel_rfl
theorem tyfWt:tyOf Tryz.prog 70=some ⟨0,1,8,some [.v (.pointer none)],0,none,[]⟩:=by kernel_rfl
attribute [local go_sem] ZAI ptrWt eqL tyfWt
def pk0:PkD:=⟨0,0⟩
theorem ZlC:SusE (exW 23):=⟨Zpk,⟨by decide,by decide,by decide,by decide,by decide⟩,by decide,by decide,by decide⟩
theorem ZvS:SusE (exW 25):=⟨ZuH,⟨by decide,by decide,by decide,by decide,by decide⟩,by decide,by decide,by decide⟩
theorem pos23:posB (exW 23)=true:=(ZlL Zpk ZlC.conf.r).2 ZxX
theorem pos25:posB (exW 25)=false:=by
 cases h:posB (exW 25)
 ·rfl
 ·exact absurd ((ZlL ZuH ZvS.conf.r).1 h) ZAX
theorem ZAk:Zgq (exW 25)=[0]:=by
 have U:=Zyy (exW 25)
 have hm:∀ s,s∈Zgq (exW 25)↔s=0:=fun s=>by
  rw[U.mem s]
  constructor
  ·rintro⟨_,x,hx,rfl⟩
   simp only[exW,List.mem_cons,List.not_mem_nil,or_false]at hx
   rcases hx with rfl|rfl<;>rfl
  ·rintro rfl
   exact⟨by decide,⟨3,0,1,0,20,false⟩,by simp[exW],rfl⟩
 have nd:=U.nd
 generalize Zgq (exW 25)=l at hm nd
 match l,hm,nd with
 | [],hm,_=>have:=(hm 0).2 rfl;cases this
 | [a],hm,_=>rw[(hm a).1 (by simp)]
 | a ::b ::l,hm,nd =>
   have ha:=(hm a).1 (by simp)
   have hb:=(hm b).1 (by simp)
   rw[ha,hb]at nd
   simp at nd
theorem ZAC:ZvR (exW 25)=[[0]]:=by
 have hw:posB (Zan (exW 25) [0])=true:=(ZlL ZBw (ZvS.without [0]).conf.r).2 posWo
 unfold ZvR
 rw[pos25,if_neg Yc5,ZAk]
 have:ZbB (fun S=>posB (Zan (exW 25) S)) [0] 1 []=[[0]]:=by
  rw[ZbB,ZfD]
  simp only[Yc8,hw,if_true]
  rfl
 show ZiH _ [0] 1 1=_
 rw[ZiH,this];rfl
theorem Zz0:∃ b c,Zq9 (exW 25)=[⟨2,0,-1,-1⟩,b,c]:=by
 have h1:ZhJ (sysE (exW 25))=[1,2,3]:=by
  unfold ZhJ
  rw[ZxO]
  have:nsC (sW 23 27) (List.range (sW 23 27).r.length)=true:=ZtY ZoL fun x=>noW x (by decide) (by decide) (by decide)
  rw[this,if_pos rfl]
  exact confW
 unfold Zq9
 rw[h1]
 have h2:oriE (exW 25) 1=⟨2,0,-1,-1⟩:=by kernel_rfl
 exact⟨_,_,by rw[List.map_cons,h2];rfl⟩
theorem Zlj:ZbW (exW 23) [pk0]=([oneT 0],true):=by
 have:Zc7 (exW 23) [pk0]=[0]:=by simp[Zc7,varP,pk0]
 unfold ZbW
 rw[this];rfl
theorem ZAK:(rngP (exW 23) [pk0]).2=0∧bdP (exW 23) [pk0]=⟨ofQ 21,ofQ 22,true,true⟩:=by
 rcases Zvo ZlC [pk0] (by rw[Zlj])with⟨_,h⟩|⟨h1,_,h2⟩
 ·obtain⟨x,hx⟩:=ZxX
  rw[h x]at hx;cases hx
 ·rw[Zlj,ZpM]at h2
  exact⟨h1,bdW h2⟩
theorem Zwl:Zek (exW 23) [pk0] (rngP (exW 23) [pk0]).1.1 (rngP (exW 23) [pk0]).1.2=true:=by
 obtain⟨h1,h2⟩:=ZAK
 have hs:=ZlC.conf.r
 have hg:Zai [oneT 0] (sysE (exW 23)).n=true:=by
  have:=Zgf (e:=exW 23) (ps:=[pk0]) (by decide)
  rwa [Zlj]at this
 have e1:rngP (exW 23) [pk0]=Zbl (sysE (exW 23)) [oneT 0]:=by unfold rngP;rw[Zlj,if_pos rfl]
 have hsort:Zc7 (exW 23) [pk0]=[0]:=by simp[Zc7,varP,pk0]
 unfold bdP at h2
 rw[e1]at h1 h2 ⊢
 have er:Zbl (sysE (exW 23)) [oneT 0]=if (Zax (sysE (exW 23)) [oneT 0]).k=1 then((zO,zO),15)else((Zax (sysE (exW 23)) [oneT 0],Zax (sysE (exW 23)) (oppT [oneT 0])),0):=by unfold Zbl;rw[hs,hg];rfl
 have hc1:=Zca hs hg
 have hc2:=Zca hs (ZfI hg)
 by_cases hk:(Zax (sysE (exW 23)) [oneT 0]).k=1
 ·rw[er,if_pos hk]at h1;cases h1
 ·rw[if_neg hk]at er
  rw[er]at h2 ⊢
  simp only at h2 ⊢
  have hlo:=congrArg BdD.lo h2
  have hhi:=congrArg BdD.hi h2
  have k1:(Zax (sysE (exW 23)) [oneT 0]).k=0:=by simpa[ZcW]using hlo
  have k2:(Zax (sysE (exW 23)) (oppT [oneT 0])).k=0:=by simpa[ZcW]using hhi
  unfold Zek
  rw[hsort]
  show(decide _&&(decide _&&(ZjQ (exW 23) [pk0] 1&&(Zcf _ [oneT 0] _&&Zcf _ (oppT [oneT 0]) _))))=true
  rw[hc1,hc2,k1,k2];rfl
theorem fit23(g:List Zag)(h1:g.length≤2)(h2:∀ t∈g,szF t.f≤1):Fit (sysE (exW 23)) g 1 2:=by
 rw[ZpM]
 refine⟨by decide,fun _=>by decide,fun _=>.inl (by decide),?_,⟨by omega,h2⟩,by decide,by decide⟩
 intro w hw
 simp only[sW,List.mem_cons,List.not_mem_nil,or_false]at hw
 have s1:szF (ofQ 1)≤1:=by decide +kernel
 have s2:szF (ofQ (-1))≤1:=by decide +kernel
 rcases hw with rfl|rfl|rfl|rfl|rfl
 ·exact⟨by decide,by decide +kernel,fun t ht=>by simp only[List.mem_cons,List.not_mem_nil,or_false]at ht;subst ht;exact s1⟩
 ·exact⟨by decide,by decide +kernel,fun t ht=>by simp only[List.mem_cons,List.not_mem_nil,or_false]at ht;subst ht;exact s1⟩
 ·exact⟨by decide,by decide +kernel,fun t ht=>by simp only[List.mem_cons,List.not_mem_nil,or_false]at ht;rcases ht with rfl|rfl;exact s1;exact s2⟩
 ·exact⟨by decide,by decide +kernel,fun t ht=>by simp only[List.mem_cons,List.not_mem_nil,or_false]at ht;subst ht;exact s1⟩
 ·exact⟨by decide,by decide +kernel,fun t ht=>by simp only[List.mem_cons,List.not_mem_nil,or_false]at ht;subst ht;exact s1⟩
theorem tn23:tnO (rngP (exW 23) [pk0]).1.1∧tnO (rngP (exW 23) [pk0]).1.2:=by
 have hs:=ZlC.conf.r
 have hg:Zai [oneT 0] (sysE (exW 23)).n=true:=by
  have:=Zgf (e:=exW 23) (ps:=[pk0]) (by decide)
  rwa [Zlj]at this
 have e1:rngP (exW 23) [pk0]=Zbl (sysE (exW 23)) [oneT 0]:=by unfold rngP;rw[Zlj,if_pos rfl]
 have f1:=fit23 [oneT 0] (by decide) (fun t ht=>by rw[List.mem_singleton]at ht;subst ht;decide +kernel)
 have hn2:(sysE (exW 23)).n=2:=by rw[ZpM];rfl
 have hN:((sysE (exW 23)).n.toNat+1)*(Dic.grow 1 2+1+1)≤262144:=by rw[hn2];decide
 have o1:(oppT [oneT 0]).length=1:=by decide +kernel
 have t1:=Znw f1 hN (by decide) hs hg
 have t2:=Znw f1.opp hN (by rw[o1];decide) hs (ZfI hg)
 have tz:tnO zO:=⟨by unfold tnF;decide,⟨by decide,fun f hf=>by cases hf⟩,⟨by decide,fun f hf=>by cases hf⟩,⟨by decide,fun f hf=>by cases hf⟩⟩
 rw[e1]
 unfold Zbl
 rw[hs,hg]
 simp only[Bool.and_self,if_true]
 split
 ·exact⟨tz,tz⟩
 ·exact⟨t1,t2⟩
noncomputable def fsX:List (FuncId×Func):=[(18,Tryz.f18)]
theorem Zyc:∀ p∈fsX,Tryz.prog.funcs[p.1]? =some p.2∧ZnF Tryz.prog p=true:=by
 unfold fsX
 simp only[List.forall_mem_cons,List.not_mem_nil,false_implies,implies_true,and_true]
 exact⟨Tryz.func18,by kernel_rfl⟩
theorem ZBE:Zaa Tryz.prog 18 [dI 23] (Zb2 (exW 23)) :=
 ZnR (ora:=Zr4) (inB:=fun _=>false) (L:=100) (k:=10) mixed Zyc Zho (by kernel_rfl)
theorem ZBD:Zaa Tryz.prog 18 [dI 25] (Zb2 (exW 25)) :=
 ZnR (ora:=Zr4) (inB:=fun _=>false) (L:=100) (k:=10) mixed Zyc Zho (by kernel_rfl)
noncomputable def fsR:List (FuncId×Func):=[(49,Tryz.f49),(55,Tryz.f55),(86,Tryz.f86)]
theorem ZBt:∀ p∈fsR,Tryz.prog.funcs[p.1]? =some p.2∧ZnF Tryz.prog p=true:=by
 unfold fsR
 simp only[List.forall_mem_cons,List.not_mem_nil,false_implies,implies_true,and_true]
 exact⟨⟨Tryz.func49,by kernel_rfl⟩,⟨Tryz.func55,by kernel_rfl⟩,⟨Tryz.func86,by kernel_rfl⟩⟩
theorem Ztp:Zaa Tryz.prog 49 [Zb2 (exW 23),Zco [pk0]] (dB true) :=
 ZnR (ora:=Zr4) (inB:=fun _=>false) (L:=100) (k:=10) mixed ZBt Zho (by kernel_rfl)
theorem Ztg(a:BdD)(zl:(szF a.l:Int)≤4456448)(zh:(szF a.h:Int)≤4456448):Zaa Tryz.prog 15 [Zii a,Zii a] (dB true):=by
 have Zr:=Tryz.results15
 have s1:=(Zp3 a.l a.l (by omega)).toN rfl
 have s2:=(Zp3 a.h a.h (by omega)).toN rfl
 rw[Zc9]at s1 s2
 obtain⟨l,h,lo,hi⟩:=a
 simp only at s1 s2
 refine inN Tryz.func15 rfl Tryz.ntmps15 fun I=>?_
 exact aGo Zr trivial
theorem neg2(q:Rat):negD (negD (ofQ q))=ofQ q:=by rw[ZlW,ZlW];congr 1;grind
theorem Zwc(e:EvD)(ps:List PkD)(a b:Rat)(za:(szQ a:Int)≤4456448)(zb:(szQ b:Int)≤4456448):Zae Tryz.prog 20 [.ep [cWt e ps ⟨ofQ a,ofQ b,true,true⟩] 0 0] (.tup [.sl [cBd ⟨ofQ a,ofQ b,true,true⟩],dI 0]):=by
 have Zr:=Tryz.results20
 have k1:=ZuD ⟨ofQ a,ofQ b,true,true⟩ za zb
 simp only[neg2]at k1
 refine inC Tryz.func20 rfl Tryz.ntmps20 ?_
 refine aGo Zr ?_
 repeat with_reducible intro K hK
 refine aLe (Zd9 4 64 10 rfl) ?_
 refine ZaH (fun(x:Nat)=>[(4,.ls 0 x),(15,.sl [cBd ⟨ofQ a,ofQ b,true,true⟩]),(16,dI 1),(17,dI x)]) (fun x=>[(0,⟨64,x,10,[cBd ⟨ofQ a,ofQ b,true,true⟩].take x,0,false⟩)]) 1 0 (fun x=>x≤1) (fun x=>1-x) 0 (Yb0 _) ?_ ?_
 ·exact leGo trivial
 rintro x hx
 rcases(show x=0∨x=1 by omega)with rfl|rfl
 ·refine aGo Zr ?_
  repeat with_reducible intro K hK
  exact Zah 1 (Ya4 1) (by omega) (by exact leGo trivial)
 ·exact aGo Zr trivial
theorem Zly:Zae Tryz.prog 5 [] (dB true):=by
 have Zr:=Tryz.results5
 obtain⟨r0,b0⟩:=ZAK
 have c1:=ZBE
 have c2:=ZBD
 have c3:=Zhf ZlC [pk0] (by decide)
 have c4:=Zob ZlC [pk0]
 have c5:=Zrp ZvS
 have c6:=ZzZ ZvS
 have c7:=new_c ZlC [pk0] (by decide) pos23 Ztp
 have sz1:(szQ 21:Int)≤4456448:=by decide +kernel
 have sz2:(szQ 22:Int)≤4456448:=by decide +kernel
 have c8:=Zwc (exW 23) [pk0] 21 22 sz1 sz2
 have c9:=Zmf (ofQ 21) (ofQ 21)
 have c10:=Zmf (ofQ 22) (ofQ 22)
 have c11:=ZfP 21 (by decide) (by decide)
 have c12:=ZfP 22 (by decide) (by decide)
 obtain⟨t1,t2⟩:=tn23
 have c13:=Zwk Zpk ZlC.L (by decide) (by decide) [pk0] (by decide) _ _ ZlC.conf.fit0.tn t1 t2
 have c14:=Ztg ⟨ofQ 21,ofQ 22,true,true⟩ sz1 sz2
 have c15:=ZyS [0] [0] (by decide) (by decide)
 rw[show(([0]:List Int)==[0])=true by decide]at c15
 rw[Zc9]at c9 c10
 rw[show(((21:Int):Int):Rat)=21 from rfl]at c11
 rw[show(((22:Int):Int):Rat)=22 from rfl]at c12
 rw[Zwl]at c13
 rw[b0]at c4 c7
 rw[r0]at c3
 rw[ZAC]at c5
 obtain⟨o1,o2,ob⟩:=Zz0
 rw[ob]at c6
 generalize (rngP (exW 23) [pk0]).1.1=A at c3 c4 c13
 generalize (rngP (exW 23) [pk0]).1.2=B at c3 c4 c13
 generalize exW 23=E at c1 c3 c7 c8 c13
 generalize exW 25=F at c2 c5 c6
 generalize ofQ 21=Q1 at *
 generalize ofQ 22=Q2 at *
 clear ob b0 r0 t1 t2
 refine inC Tryz.func5 rfl Tryz.ntmps5 ?_
 refine ZhS (n:=2) ⟨⟩ Zr ?_
 repeat with_reducible intro K hK
 refine aLe ((ZgQ 0 rfl).trans (Zie 1 5)) ?_
 simp only[go_sem,fzT]
 exact aGo Zr trivial
abbrev zRng:D:=.agg [dI 0,dI 0,.sl [],dI 0,.sl [],.sl [],.sl [],.sl [],dI 0,dI 0,.sl [],dI 0,.sl [],.sl [],.sl [],.sl []]
noncomputable def fsO:List (FuncId×Func):=[(26,Tryz.f26),(59,Tryz.f59),(60,Tryz.f60)]
theorem ZBu:∀ p∈fsO,Tryz.prog.funcs[p.1]? =some p.2∧ZnF Tryz.prog p=true:=by
 unfold fsO
 simp only[List.forall_mem_cons,List.not_mem_nil,false_implies,implies_true,and_true]
 exact⟨⟨Tryz.func26,by kernel_rfl⟩,⟨Tryz.func59,by kernel_rfl⟩,⟨Tryz.func60,by kernel_rfl⟩⟩
theorem ZBz:Zaa Tryz.prog 26 [.agg [dI 0,dI 0,.sl [],dI 0,.sl [],.sl [],.sl [],.sl []],dI 60,dI 40] (dB true) :=
 ZnR (ora:=Zr4) (inB:=fun _=>false) (L:=100) (k:=10) mixed ZBu Zho (by kernel_rfl)
def Zxe(e:EvD)(n:Nat):Bool:=Zc8 e 4 2&&(decide ((e.pu.length:Int)≤3)&&decide ((n:Int)≤20))
theorem ZzM(e:EvD)(ps:List PkD):Zaa Tryz.prog 6 [Zb2 e,Zco ps,zRng,dI 4,dI 2] (dB (Zxe e ps.length)):=by
 have Zr:=Tryz.results6
 have k1:=Zs8 e 4 2
 have k2:=ZBz
 unfold Zxe
 refine inN Tryz.func6 rfl Tryz.ntmps6 fun I=>?_
 cases h1:Zc8 e 4 2
 ·rw[h1]at k1
  exact aGo Zr trivial
 rw[h1]at k1
 by_cases h2:(e.pu.length:Int)≤3
 ·by_cases h3:(ps.length:Int)≤20
  ·exact aGo (cj3 Zr h2 h3) trivial
  ·exact aGo (cj3 Zr h2 h3) trivial
 ·exact aGo (cj2 Zr h2) trivial
section
variable {e:EvD} (h:SusE e)
include h
end
theorem ZqH(a b:BdD)(za:(szF a.l:Int)≤4456448)(zb:(szF a.h:Int)≤4456448)(zc:(szF b.l:Int)≤4456448)(zd:(szF b.h:Int)≤4456448)(hin:Zkc a b=true):Zaa Tryz.prog 17 [Zii a,Zii b] (dB true):=by
 have Zr:=Tryz.results17
 have k1:=ZcI b.l a.l (by omega) (by omega)
 have k2:=ZcI a.h b.h (by omega) (by omega)
 obtain⟨al,ah,alo,ahi⟩:=a
 obtain⟨bl,bh,blo,bhi⟩:=b
 simp only[Zkc,Ya2,Bool.or_eq_true,Bool.not_eq_true',decide_eq_true_eq]at hin k1 k2
 obtain⟨h1,h2⟩:=hin
 cases blo
 ·cases bhi
  ·refine inN Tryz.func17 rfl Tryz.ntmps17 fun I=>?_
   exact aGo Zr trivial
  ·obtain⟨rfl,h3⟩:=h2.resolve_left (by simp)
   refine inN Tryz.func17 rfl Tryz.ntmps17 fun I=>?_
   exact aGo (cj2 Zr h3) trivial
 ·obtain⟨rfl,h4⟩:=h1.resolve_left (by simp)
  cases bhi
  ·refine inN Tryz.func17 rfl Tryz.ntmps17 fun I=>?_
   exact aGo (cj2 Zr h4) trivial
  ·obtain⟨rfl,h3⟩:=h2.resolve_left (by simp)
   refine inN Tryz.func17 rfl Tryz.ntmps17 fun I=>?_
   exact aGo (cj3 Zr h4 h3) trivial
def Zfg(e:EvD)(x:RecD):Bool:=e.mv.all fun v=> !(v.s==x.s)||decide (v.d<x.d)
def Zj4(e:EvD)(x:RecD):Bool:=e.mv.all fun v=> !(v.s==x.s)||decide (v.d≥x.d)
theorem ZnG(e:EvD)(S:List Int)(ps:List PkD):ZbW (Zan e S) ps=ZbW e ps:=by
 have h1:okPk (Zan e S)=okPk e:=by funext p;unfold okPk;rw[show(Zan e S).mv.length=e.mv.length by simp[Zan]];rfl
 have h2:varP (Zan e S)=varP e:=rfl
 unfold ZbW Zc7
 rw[h1,h2]
section
variable {e:EvD} (h:SusE e) {x:RecD} (hw:SusE (Zb9 e x))
include h hw
theorem ZlF(he:Zfg e x=true):sysE e=sysE (Zb9 e x):=by
 refine(Zg6 e x).sys fun i hi=>?_
 have hx:=Ya6.1 he _ (ZlX hi)
 simp only[Bool.or_eq_true,Bool.not_eq_true',beq_eq_false_iff_ne,decide_eq_true_eq]at hx
 show ivE e (mvAt e i)=ivE (Zb9 e x) (mvAt e i)
 rw[Zl8,if_neg]
 rintro⟨_,hh⟩
 simp only[hitR,Ya2,beq_iff_eq,decide_eq_true_eq]at hh
 rcases hx with h1|h1
 ·exact h1 hh.1.symm
 ·omega
theorem ZoE(hl:Zj4 e x=true):sysE (Zb9 e x)=sysE (Zan e [x.s]):=by
 refine((Zg6 e x).symm.trans (Zis e [x.s])).sys fun i hi=>?_
 have hi:i<e.mv.length:=hi
 have hx:=Ya6.1 hl _ (ZlX hi)
 simp only[Bool.or_eq_true,Bool.not_eq_true',beq_eq_false_iff_ne,decide_eq_true_eq]at hx
 rw[Zj7 e [x.s] hi]
 show ivE (Zb9 e x) (mvAt e i)=_
 rw[Zl8]
 by_cases hc:(mvAt e i).s=x.s
 ·have h1:hitR (mvAt e i).s (mvAt e i).d x=true:=by
   simp only[hitR,Ya2,beq_iff_eq,decide_eq_true_eq]
   exact⟨hc.symm,by rcases hx with h|h;exact absurd hc h;omega⟩
  have h2:[x.s].contains (mvAt e i).s=true:=by simp[hc]
  rw[h1,h2]
 ·have h1:hitR (mvAt e i).s (mvAt e i).d x=false:=by
   unfold hitR
   rw[beq_eq_false_iff_ne.2 (fun h=>hc h.symm)];rfl
  have h2:[x.s].contains (mvAt e i).s=false:=by simp[hc]
  rw[h1,h2]
theorem Zlh{u v:EvD}(hu:SusE u)(hv:SusE v)(hs:Zdo u v)(hi:∀ i,i<u.mv.length→(ivF v i).ok=true→ivF v i=ivF u i){z:List Zaf}(hz:ZaA (sysE u) z=true):ZaA (sysE v) z=true:=by
 obtain⟨_,hl,ho,hn,hall⟩:=ZcH.1 hz
 have en:(sysE v).n=(sysE u).n:=by show(v.mv.length:Int)*v.m=u.mv.length*u.m;rw[hs.n,hs.m]
 refine ZcH.2 ⟨hv.conf.r,by rw[en];exact hl,ho,hn,Ya6.2 fun w hw=>?_⟩
 obtain⟨r,hr,rfl⟩:=Yc6.1 hw
 have hr':r∈Zdx v (ivF v) v.mv.length:=hr
 rw[← hs.n]at hr'
 exact Ya6.1 hall _ (Yc6.2 ⟨r,hs.symm.less u.mv.length hi r hr',rfl⟩)
theorem ZoC{z:List Zaf}(hz:ZaA (sysE e) z=true):ZaA (sysE (Zb9 e x)) z=true:=by
 refine Zlh h hw h hw (Zg6 e x) (fun i hi hok=>?_) hz
 change (ivE (Zb9 e x) (mvAt e i)).ok=true at hok
 change ivE (Zb9 e x) (mvAt e i)=ivE e (mvAt e i)
 rw[Zl8]at hok ⊢
 split at hok
 ·cases hok
 ·rename_i hc;rw[if_neg hc]
theorem ZoB{z:List Zaf}(hz:ZaA (sysE (Zb9 e x)) z=true):ZaA (sysE (Zan e [x.s])) z=true:=by
 refine Zlh h hw hw (h.without [x.s]) ((Zg6 e x).symm.trans (Zis e [x.s])) (fun i hi hok=>?_) hz
 have hi:i<e.mv.length:=hi
 rw[Zj7 e [x.s] hi]at hok ⊢
 change _=ivE (Zb9 e x) (mvAt e i)
 rw[Zl8]
 split at hok
 ·cases hok
 ·rename_i hc
  rw[if_neg hc,if_neg]
  rintro⟨h1,h2⟩
  simp only[hitR,Ya2,beq_iff_eq,decide_eq_true_eq]at h2
  exact hc ⟨h1,by simp[h2.1]⟩
theorem ZxU{u v:EvD}{ps:List PkD}(hg:ZbW u ps=ZbW v ps)(hs:sysE u=sysE v):rngP u ps=rngP v ps:=by
 unfold rngP;rw[hg,hs]
theorem ZxT{u v:EvD}(hu:SusE u)(hv:SusE v){ps:List PkD}(hg:ZbW u ps=ZbW v ps)(hs:∀ z,ZaA (sysE u) z=true→ZaA (sysE v) z=true)(h0:(rngP u ps).2=0):(rngP v ps).2=0∧Zkc (bdP u ps) (bdP v ps)=true:=by
 have g1:(ZbW u ps).2=true:=by
  cases hb:(ZbW u ps).2
  ·unfold rngP at h0
   rw[hb,if_neg Yc5]at h0
   cases h0
  ·rfl
 rcases Zvo hu ps g1 with⟨a,_⟩|⟨_,⟨y,hy⟩,hb⟩
 ·omega
 rcases Zvo hv ps (by rw[← hg];exact g1)with⟨_,b⟩|⟨b,_,hb2⟩
 ·exact absurd (hs y hy) (by rw[b y];exact Yc5)
 ·rw[← hg]at hb2
  exact⟨b,Zvm hs hb hb2⟩
end
set_option maxHeartbeats 64000000
theorem Zvn{e:EvD}(h:SusE e)(ps:List PkD):(szF (bdP e ps).l:Int)≤4456448∧(szF (bdP e ps).h:Int)≤4456448:=by
 obtain⟨z1,z2⟩:=Ztm h ps
 have z3:=Zor (rngP e ps).1.2.v
 have z4:szF zF≤4456448:=by decide +kernel
 unfold bdP ZcW
 simp only
 constructor
 ·split<;>omega
 ·split<;>omega
theorem ZoD(e:EvD)(ps:List PkD)(x:RecD):Zae Tryz.prog 4 [Zb2 e,Zco ps,.agg (cRe x)] (dB true):=by
 have Zr:=Tryz.results4
 have c0:=Zly
 have c1:=ZzM e ps
 refine inC Tryz.func4 rfl Tryz.ntmps4 ?_
 cases f1:Zxe e ps.length
 ·rw[f1]at c1
  exact aGo Zr trivial
 rw[f1]at c1
 by_cases f2:(e.pu.length:Int)>2
 ·exact aGo (cj2 Zr f2) trivial
 by_cases f2r:(e.re.length:Int)>3
 ·exact aGo (cj3 Zr f2 f2r) trivial
 have hsm:=f1
 simp only[Zxe,Zc8,Ya2,Bool.not_eq_true',Bool.or_eq_false_iff,decide_eq_true_eq,decide_eq_false_iff_not]at hsm
 obtain⟨⟨⟨m1,m2,m3,m4⟩,m5,m6,m7,m8⟩,_,hpl⟩:=hsm
 have L:LenE e:=⟨by omega,by omega,by omega,by omega,by omega⟩
 have c2:=ZgC e L
 by_cases f3:Zcd e=0
 rotate_left
 ·have f3b:(Zcd e !=0)=true:=by simpa using f3
  exact aGo (cj4 Zr f2 f2r f3b) trivial
 rw[f3]at c2
 have h:SusE e:=⟨f3,L,by omega,by omega,by omega⟩
 have L':LenE (Zb9 e x):=⟨L.pl,L.mv,L.ce,by show((e.re++[x]).length:Int)≤_;rw[Yb9];simp only[List.length_singleton];omega,L.pu⟩
 obtain⟨R,eR⟩:∃ R,e.re++[x]=R:=⟨_,rfl⟩
 have ec:Zb2 (Zb9 e x) = .agg [dI e.m,dI e.h,dI e.s,ZhG e.pl,ZdY e.mv,Zih e.ce,.sl (R.map cRe),ZgE e.pu]:=by rw[← eR];rfl
 have hR1:e.re.map cRe++[[dI x.s,dI x.d]]=R.map cRe:=by rw[← eR,List.map_append];rfl
 have hRd:List.map (List.map datJ) (R.map cRe)=R.map cRe:=ZaF (fun _=>rfl) R
 have hRf:∀ M:Mem,List.map (List.map (fzT false M 3)) (R.map cRe)=R.map cRe:=fun M=>ZaF (fun _=>rfl) R
 have hRl:R.length=e.re.length+1:=by rw[← eR];simp
 have c3:=ZgC (Zb9 e x) L'
 rw[ec]at c3
 by_cases f4:Zcd (Zb9 e x)=0
 rotate_left
 ·have f4b:(Zcd (Zb9 e x) !=0)=true:=by simpa using f4
  exact aGo (cj4 Zr f2 f2r (cj3 hR1 hRd f4b)) trivial
 rw[f4]at c3
 have hw:SusE (Zb9 e x):=⟨f4,L',h.n,h.m,h.p⟩
 refine ZhS (n:=8) ⟨⟩ (cj4 Zr f2 f2r (cj2 hR1 hRd)) ?_
 repeat with_reducible intro K hK
 refine aLe (ZqB 2 4 rfl) ?_
 simp only[go_sem,fzT,hRf]
 refine ZhS (n:=11) ⟨⟩ Zr ?_
 repeat with_reducible intro K hK
 clear c0 c1 c2 c3
 refine ZaH (fun(k:Nat)=>[(1,Zco ps),(3,.lp 0 0 0 0),(5,.lp 1 0 0 0),(7,dB true),(8,.lp 2 0 0 0),(9,dB ((e.mv.take k).all fun v=> !(v.s==x.s)||decide (v.d<x.d))),(10,dB ((e.mv.take k).all fun v=> !(v.s==x.s)||decide (v.d≥x.d))),(11,dI k)]) (fun _=>[(0,Zfe e),(1,⟨58,0,2,[cRe x],0,false⟩),(2,⟨28,0,8,[[dI e.m,dI e.h,dI e.s,ZhG e.pl,ZdY e.mv,Zih e.ce,.sl (R.map cRe),ZgE e.pu]],0,false⟩)]) 5 0 (fun k=>k≤e.mv.length) (fun k=>e.mv.length-k) 0 (Yb0 _) ?_ ?_
 ·exact leGo trivial
 rintro k hk
 obtain⟨hwk,k0⟩:=ZaS k
 by_cases g1:(k:Int)<e.mv.length
 ·obtain⟨v,hv⟩:∃ v,e.mv[k]? =some v:=⟨_,Ya0 (by omega)⟩
  have hA:(e.mv.take (k+1)).all (fun v=> !(v.s==x.s)||decide (v.d<x.d))=((e.mv.take k).all (fun v=> !(v.s==x.s)||decide (v.d<x.d))&&(!(v.s==x.s)||decide (v.d<x.d))):=by rw[Yb4,hv,List.all_append];simp
  have hB:(e.mv.take (k+1)).all (fun v=> !(v.s==x.s)||decide (v.d≥x.d))=((e.mv.take k).all (fun v=> !(v.s==x.s)||decide (v.d≥x.d))&&(!(v.s==x.s)||decide (v.d≥x.d))):=by rw[Yb4,hv,List.all_append];simp
  generalize (e.mv.take k).all (fun v=> !(v.s==x.s)||decide (v.d<x.d))=A at hA ⊢
  generalize (e.mv.take k).all (fun v=> !(v.s==x.s)||decide (v.d≥x.d))=B at hB ⊢
  cases g2:(v.s==x.s)
  ·rw[g2,Bool.not_false,Bool.true_or,Bool.and_true]at hA hB
   refine aGo (cj4 Zr g1 k0 (cj3 hv hwk g2)) ?_
   repeat with_reducible intro K hK
   exact Zah (k+1) (by omega) (by omega) (by exact leGo (cj2 hA hB))
  rw[g2,Bool.not_true,Bool.false_or]at hA hB
  by_cases g3:v.d<x.d
  ·have g4:¬ v.d≥x.d:=by omega
   rw[decide_eq_true g3,Bool.and_true]at hA
   rw[decide_eq_false g4,Bool.and_false]at hB
   cases A
   ·cases B
    ·refine aGo (cj4 Zr g1 k0 (cj4 hv hwk g2 (cj2 g3 g4))) ?_
     repeat with_reducible intro K hK
     exact Zah (k+1) (by omega) (by omega) (by exact leGo (cj2 hA hB))
    ·refine aGo (cj4 Zr g1 k0 (cj4 hv hwk g2 (cj2 g3 g4))) ?_
     repeat with_reducible intro K hK
     exact Zah (k+1) (by omega) (by omega) (by exact leGo (cj2 hA hB))
   ·cases B
    ·refine aGo (cj4 Zr g1 k0 (cj4 hv hwk g2 (cj2 g3 g4))) ?_
     repeat with_reducible intro K hK
     exact Zah (k+1) (by omega) (by omega) (by exact leGo (cj2 hA hB))
    ·refine aGo (cj4 Zr g1 k0 (cj4 hv hwk g2 (cj2 g3 g4))) ?_
     repeat with_reducible intro K hK
     exact Zah (k+1) (by omega) (by omega) (by exact leGo (cj2 hA hB))
  ·have g4:v.d≥x.d:=by omega
   rw[decide_eq_false g3,Bool.and_false]at hA
   rw[decide_eq_true g4,Bool.and_true]at hB
   cases A
   ·cases B
    ·refine aGo (cj4 Zr g1 k0 (cj4 hv hwk g2 (cj2 g3 g4))) ?_
     repeat with_reducible intro K hK
     exact Zah (k+1) (by omega) (by omega) (by exact leGo (cj2 hA hB))
    ·refine aGo (cj4 Zr g1 k0 (cj4 hv hwk g2 (cj2 g3 g4))) ?_
     repeat with_reducible intro K hK
     exact Zah (k+1) (by omega) (by omega) (by exact leGo (cj2 hA hB))
   ·cases B
    ·refine aGo (cj4 Zr g1 k0 (cj4 hv hwk g2 (cj2 g3 g4))) ?_
     repeat with_reducible intro K hK
     exact Zah (k+1) (by omega) (by omega) (by exact leGo (cj2 hA hB))
    ·refine aGo (cj4 Zr g1 k0 (cj4 hv hwk g2 (cj2 g3 g4))) ?_
     repeat with_reducible intro K hK
     exact Zah (k+1) (by omega) (by omega) (by exact leGo (cj2 hA hB))
 obtain rfl:k=e.mv.length:=by omega
 rw[Ya8 (Ya4 _)]
 have hu:=h.without [x.s]
 have hpl:ps.length≤100:=by omega
 have r1:=Zhf h ps hpl
 have r2:=Zhf hw ps hpl
 have r3:=Zhf hu ps hpl
 rw[ec]at r2
 have w1:=ZmA e f3 L [x.s] (by simp)
 have b1:=Zob h ps
 have b2:=Zob hw ps
 have b3:=Zob hu ps
 have gw:ZbW e ps=ZbW (Zb9 e x) ps:=rfl
 have gu:ZbW (Zb9 e x) ps=ZbW (Zan e [x.s]) ps:=(ZnG e [x.s] ps).symm
 have hE:Zfg e x=true→rngP e ps=rngP (Zb9 e x) ps:=fun he=>ZxU h hw gw (ZlF h hw he)
 have hL:Zj4 e x=true→rngP (Zb9 e x) ps=rngP (Zan e [x.s]) ps:=fun hl=>ZxU h hw gu (ZoE h hw hl)
 have hE2:Zfg e x=true→(rngP e ps).2=(rngP (Zb9 e x) ps).2∧bdP e ps=bdP (Zb9 e x) ps:=fun he=>⟨by rw[hE he],by unfold bdP;rw[hE he]⟩
 have hL2:Zj4 e x=true→(rngP (Zb9 e x) ps).2=(rngP (Zan e [x.s]) ps).2∧bdP (Zb9 e x) ps=bdP (Zan e [x.s]) ps:=fun hl=>⟨by rw[hL hl],by unfold bdP;rw[hL hl]⟩
 have i1:=ZxT h hw h hw gw fun z hz=>ZoC h hw hz
 have i2:=ZxT h hw hw hu gu fun z hz=>ZoB h hw hz
 obtain⟨za1,za2⟩:=Zvn h ps
 obtain⟨zb1,zb2⟩:=Zvn hw ps
 obtain⟨zc1,zc2⟩:=Zvn hu ps
 have s2:=Ztg (bdP (Zb9 e x) ps) zb1 zb2
 have n1:=fun hi=>ZqH (bdP e ps) (bdP (Zb9 e x) ps) za1 za2 zb1 zb2 hi
 have n2:=fun hi=>ZqH (bdP (Zb9 e x) ps) (bdP (Zan e [x.s]) ps) zb1 zb2 zc1 zc2 hi
 change AWP _ _ _ _ ⟨tabT [(1,Zco ps),(3,.lp 0 0 0 0),(5,.lp 1 0 0 0),(7,dB true),(8,.lp 2 0 0 0),(9,dB (Zfg e x)),(10,dB (Zj4 e x)),(11,dI e.mv.length)],_,_,_⟩
 clear hE hL gw gu za1 za2 zb1 zb2 zc1 zc2
 have s1:Zfg e x=true→Zaa Tryz.prog 15 [Zii (bdP e ps),Zii (bdP (Zb9 e x) ps)] (dB true):=fun hA=>by rw[(hE2 hA).2];exact s2
 have s3:Zj4 e x=true→Zaa Tryz.prog 15 [Zii (bdP (Zb9 e x) ps),Zii (bdP (Zan e [x.s]) ps)] (dB true):=fun hA=>by rw[← (hL2 hA).2];exact s2
 have q1:Zfg e x=true→((rngP e ps).2 !=(rngP (Zb9 e x) ps).2)=false:=fun hA=>by rw[(hE2 hA).1];exact bne_self_eq_false _
 have q2:Zj4 e x=true→((rngP (Zb9 e x) ps).2 !=(rngP (Zan e [x.s]) ps).2)=false:=fun hA=>by rw[(hL2 hA).1];exact bne_self_eq_false _
 clear hE2 hL2 s2
 generalize Zfg e x=A at s1 q1 ⊢
 generalize Zj4 e x=B at s3 q2 ⊢
 generalize bdP e ps=BA at b1 i1 n1 s1
 generalize bdP (Zb9 e x) ps=BB at b2 i1 i2 n1 n2 s1 s3
 generalize bdP (Zan e [x.s]) ps=BC at b3 i2 n2 s3
 generalize rngP e ps=RA at r1 b1 i1 q1
 generalize rngP (Zb9 e x) ps=RB at r2 b2 i1 i2 q1 q2
 generalize rngP (Zan e [x.s]) ps=RC at r3 b3 i2 q2
 generalize Zan e [x.s]=U at w1 r3
 obtain⟨⟨a1,a2⟩,f⟩:=RA
 obtain⟨⟨d1,d2⟩,g⟩:=RB
 obtain⟨⟨o1,o2⟩,u⟩:=RC
 simp only at r1 r2 r3 b1 b2 b3 i1 i2 q1 q2
 have hm1:=g1
 clear hk hwk k0 L L'
 cases A
 ·cases B
  ·by_cases hf:f=0
   ·obtain⟨g0,hi⟩:=i1 hf
    obtain⟨u0,hj⟩:=i2 g0
    have kA:=n1 hi
    have kB:=n2 hj
    have t1:(f !=0)=false:=by simp[hf]
    have t2:(g==0)=true:=by simp[g0]
    have t3:(g !=0)=false:=by simp[g0]
    have t4:(u==0)=true:=by simp[u0]
    exact aGo (cj4 Zr t1 t2 (cj3 t3 t4 hm1)) trivial
   have t1:(f !=0)=true:=by simp[hf]
   by_cases hg:g=0
   ·obtain⟨u0,hj⟩:=i2 hg
    have kB:=n2 hj
    have t3:(g !=0)=false:=by simp[hg]
    have t4:(u==0)=true:=by simp[u0]
    exact aGo (cj4 Zr t1 t3 (cj2 t4 hm1)) trivial
   have t3:(g !=0)=true:=by simp[hg]
   exact aGo (cj4 Zr t1 t3 hm1) trivial
  ·have qB:=q2 rfl
   have sB:=s3 rfl
   by_cases hf:f=0
   ·obtain⟨g0,hi⟩:=i1 hf
    obtain⟨u0,hj⟩:=i2 g0
    have kA:=n1 hi
    have kB:=n2 hj
    have t1:(f !=0)=false:=by simp[hf]
    have t2:(g==0)=true:=by simp[g0]
    have t3:(g !=0)=false:=by simp[g0]
    have t4:(u==0)=true:=by simp[u0]
    exact aGo (cj4 Zr qB t1 (cj4 t2 t3 t4 hm1)) trivial
   have t1:(f !=0)=true:=by simp[hf]
   by_cases hg:g=0
   ·obtain⟨u0,hj⟩:=i2 hg
    have kB:=n2 hj
    have t3:(g !=0)=false:=by simp[hg]
    have t4:(u==0)=true:=by simp[u0]
    exact aGo (cj4 Zr qB t1 (cj3 t3 t4 hm1)) trivial
   have t3:(g !=0)=true:=by simp[hg]
   exact aGo (cj4 Zr qB t1 (cj2 t3 hm1)) trivial
 ·cases B
  ·have qA:=q1 rfl
   have sA:=s1 rfl
   by_cases hf:f=0
   ·obtain⟨g0,hi⟩:=i1 hf
    obtain⟨u0,hj⟩:=i2 g0
    have kA:=n1 hi
    have kB:=n2 hj
    have t1:(f !=0)=false:=by simp[hf]
    have t2:(g==0)=true:=by simp[g0]
    have t3:(g !=0)=false:=by simp[g0]
    have t4:(u==0)=true:=by simp[u0]
    exact aGo (cj4 Zr qA t1 (cj4 t2 t3 t4 hm1)) trivial
   have t1:(f !=0)=true:=by simp[hf]
   by_cases hg:g=0
   ·obtain⟨u0,hj⟩:=i2 hg
    have kB:=n2 hj
    have t3:(g !=0)=false:=by simp[hg]
    have t4:(u==0)=true:=by simp[u0]
    exact aGo (cj4 Zr qA t1 (cj3 t3 t4 hm1)) trivial
   have t3:(g !=0)=true:=by simp[hg]
   exact aGo (cj4 Zr qA t1 (cj2 t3 hm1)) trivial
  ·have qA:=q1 rfl
   have sA:=s1 rfl
   have qB:=q2 rfl
   have sB:=s3 rfl
   by_cases hf:f=0
   ·obtain⟨g0,hi⟩:=i1 hf
    obtain⟨u0,hj⟩:=i2 g0
    have kA:=n1 hi
    have kB:=n2 hj
    have t1:(f !=0)=false:=by simp[hf]
    have t2:(g==0)=true:=by simp[g0]
    have t3:(g !=0)=false:=by simp[g0]
    have t4:(u==0)=true:=by simp[u0]
    exact aGo (cj4 Zr qA qB (cj4 t1 t2 t3 (cj2 t4 hm1))) trivial
   have t1:(f !=0)=true:=by simp[hf]
   by_cases hg:g=0
   ·obtain⟨u0,hj⟩:=i2 hg
    have kB:=n2 hj
    have t3:(g !=0)=false:=by simp[hg]
    have t4:(u==0)=true:=by simp[u0]
    exact aGo (cj4 Zr qA qB (cj4 t1 t3 t4 hm1)) trivial
   have t3:(g !=0)=true:=by simp[hg]
   exact aGo (cj4 Zr qA qB (cj3 t1 t3 hm1)) trivial
set_option linter.constructorNameAsVariable false
theorem Zy2{n:Nat}{x:List D}(h:ZcL Tryz.prog (n+2) 68 x):∃ p,x=cPk p:=by
 unfold ZcL at h
 simp only[Tryz.underlying68,List.foldr]at h
 obtain⟨_,_,rfl,h1,_,_,rfl,h2,rfl⟩:=h
 obtain⟨a,rfl⟩:=ZbV h1
 obtain⟨b,rfl⟩:=ZbV h2
 exact⟨⟨a,b⟩,rfl⟩
end Go.Proofs.YtiincpioidnciaaGreat
