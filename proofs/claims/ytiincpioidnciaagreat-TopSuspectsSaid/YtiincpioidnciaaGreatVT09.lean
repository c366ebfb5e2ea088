/-
  suspect.Used.
-/
import Derived.Test.YtiincpioidnciaaGreatVLib
import Derived.Test.YtiincpioidnciaaGreatVT03
import Derived.Test.YtiincpioidnciaaGreatVT08
import Derived.Test.YtiincpioidnciaaGreatVT06
import Derived.Test.YtiincpioidnciaaGreatVT07
import Derived.Test.YtiincpioidnciaaGreatVT00
import Derived.Test.YtiincpioidnciaaGreatVT01
namespace Go.Proofs.YtiincpioidnciaaGreat
set_option linter.unusedVariables false
set_option linter.unusedSimpArgs false
set_option linter.unusedSectionVars false
open Go Go.RowKit
set_option maxRecDepth 100000
set_option maxHeartbeats 16000000
theorem ZAq(e:EvD)(hf:Zb5 e=0)(hn:e.mv.length≤12)(L:LenE e):Zae Tryz.prog 31 [Zb3 e] (Zad (Zem e)):=by
 have Zr:=Tryz.results31
 have k0:=ZhK e L
 rw[hf]at k0
 obtain⟨F,hF⟩:∃ F:Nat→List Int,F=fun k=>((e.mv.take k).map (·.s)).filter (· != -1):=⟨_,rfl⟩
 have F0:F 0=[]:=by rw[hF];rfl
 have Fz:∀ k x,e.mv[k]? =some x→(x.s != -1)=false→F (k+1)=F k:=fun k x hx h=>by
  rw[hF];simp only;rw[Yb4,hx,List.map_append,List.filter_append];simp[h]
 have Fs:∀ k x,e.mv[k]? =some x→(x.s != -1)=true→F (k+1)=F k++[x.s]:=fun k x hx h=>by
  rw[hF];simp only;rw[Yb4,hx,List.map_append,List.filter_append];simp[h]
 have Fl:∀ k,(F k).length≤k:=fun k=>by
  rw[hF];simp only
  exact Yc7 (Yb1 _ _) (by rw[Yc0,Yc1];omega)
 have Fe:F e.mv.length=Zep e:=by rw[hF];simp only;rw[Ya8 (Ya4 _)];rfl
 refine inC Tryz.func31 rfl Tryz.ntmps31 ?_
 refine aGo Zr ?_
 repeat with_reducible intro K hK
 refine aLe (Zef 3 3 1 rfl) ?_
 refine ZaF (fun(k:Nat)=>[(1,.lp 0 0 0 0),(3,.ls 1 (F k).length),(10,Zeg e.mv),(11,dI e.mv.length),(12,dI k)]) (fun k=>[(0,Zex e),(1,⟨3,(F k).length,1,ZbG (F k),0,false⟩)]) 2 0 (fun k=>k≤e.mv.length) (fun k=>e.mv.length-k) 0 (Yb0 _) ?_ ?_
 ·exact leGo F0
 rintro k hk
 obtain⟨hw,h0⟩:=ZaR k
 have hfl:=Fl k
 by_cases h1:(k:Int)<e.mv.length
 ·obtain⟨x,hx⟩:∃ x,e.mv[k]? =some x:=⟨_,Ya0 (by omega)⟩
  cases h2:(x.s != -1)
  ·have F1:=Fz k x hx h2
   refine aGo (cj4 Zr h0 h1 (cj3 hx hw h2)) ?_
   repeat with_reducible intro K hK
   exact Zaf (k+1) (by omega) (by omega) (by exact leGo F1)
  ·have F1:=Fs k x hx h2
   refine aGo (cj4 Zr h0 h1 (cj3 hx hw h2)) ?_
   repeat with_reducible intro K hK
   exact Zaf (k+1) (by omega) (by omega) (by exact leGo F1)
 ·obtain rfl:k=e.mv.length:=by omega
  refine aGo (cj2 Zr h1) ?_
  repeat with_reducible intro K hK
  rw[Fe]at hfl ⊢
  refine ZaC (ZxS ZAM rfl (l:=Zep e) rfl (by omega)) ?_
  rintro d m' nx' ⟨rfl,rfl,rfl⟩
  refine aGo Zr ?_
  repeat with_reducible intro K hK
  refine ZaC (Zu1 Zxu rfl (l:=ZiW (Zep e)) rfl (by rw[List.length_mergeSort];omega) (Zkq _)) ?_
  rintro d m' nx' ⟨rfl,rfl,rfl⟩
  refine aGo Zr ?_
  repeat with_reducible intro K hK
  rw[ZaG (fun _=>rfl)];rfl
abbrev Zpl(l:List (List Int)):D:=.sl (l.map fun x=>[Zad x])
theorem pl_I(l:List Int):Pl 1 (ZbG l):=⟨fun e he=>by obtain⟨u,_,rfl⟩:=Yc6.1 he;exact⟨rfl,rfl⟩,fun e he d hd=>by obtain⟨u,_,rfl⟩:=Yc6.1 he;rw[List.mem_singleton]at hd;exact⟨_,hd⟩⟩
theorem Zxx[Ifl](l:List Int)(hl:(l.length:Int)≤4096)(m:Mem)(nx:Nat)(hm:m nx=none):EffC Tryz.prog 65 [Zad l] m nx ⟨.ls nx 1,[nx],[(nx,⟨3,1,1,ZbG l,0,false⟩)],false⟩ (nx+1):=by
 have hb:Zcc (fun _=>false) ⟨3,1,1,ZbG l,0,false⟩:=by intro x hx;obtain⟨u,_,rfl⟩:=Yc6.1 hx;rfl
 exact EffC.made hm hb fun m1 NX=>Zar.made hb (Zxz _ (pl_I l) (by simpa using hl) m1 NX)
theorem ZeF(P:List Int→Bool):∀ (l:List Int)(k:Nat)(c:List Int),(Zbd P l k c).length≤2^l.length
 | l,0,c=>by rw[Zea];split<;>simp[Nat.one_le_two_pow]
 | [],k+1,c=>by simp[Zbd]
 | s ::l,k+1,c=>by
   rw[Zbd,Yb9,List.length_cons,Nat.pow_succ]
   have:=ZeF P l k (c++[s])
   have:=ZeF P l (k+1) c
   omega
structure SusE (e:EvD):Prop where
 f:Zb5 e=0
 L:LenE e
 n:e.mv.length≤4
 m:e.m≤2
 p:e.pu.length≤2
section
variable {e:EvD} (h:SusE e)
include h
theorem SusE.without(S:List Int):SusE (Zam e S):=⟨ZnJ S h.f,⟨h.L.pl,by simpa[Zam]using h.L.mv,h.L.ce,h.L.re,h.L.pu⟩,by simpa[Zam]using h.n,h.m,h.p⟩
theorem SusE.conf:Conf (sysE e):=ZzX (Zc8 h.f) h.n h.m h.p
theorem SusE.poss:Zaa Tryz.prog 10 [Zb3 e] (dB (posB e)):=Zae.toN (ZA3 e h.L (by have:=h.n;omega) (by have:=h.p;omega) fun _=>h.conf.fit0) rfl
theorem ZpZ:∀ (k:Nat)(l c:List Int),l.length≤12→c.length+k≤24→Zaa Tryz.prog 32 [Zb3 e,Zad c,Zad l,dI k] (Zpl (Zbd (fun S=>posB (Zam e S)) l k c))
 | 0,l,c,hl,hc=>by
   have Zr:=Tryz.results32
   have k1:=ZsN e h.f h.L c (by omega)
   have k2:=(h.without c).poss
   have k3:=Zxy _ (pl_I c) (by rw[Yc0];omega)
   rw[Zea]
   refine inN Tryz.func32 rfl Tryz.ntmps32 fun I=>?_
   cases hp:posB (Zam e c)
   ·rw[hp]at k2
    refine aGo Zr ?_
    repeat with_reducible intro K hK
    rfl
   ·rw[hp]at k2
    refine aGo Zr ?_
    repeat with_reducible intro K hK
    rfl
 | k+1,l,c,hl,hc=>by
   have Zr:=Tryz.results32
   obtain⟨P,eP⟩:∃ P:List Int→Bool,(fun S=>posB (Zam e S))=P:=⟨_,rfl⟩
   have IH:∀ (l c:List Int),l.length≤12→c.length+k≤24→Zaa Tryz.prog 32 [Zb3 e,Zad c,Zad l,dI k] (Zpl (Zbd P l k c)):=by rw[← eP];exact ZpZ k
   rw[eP]
   have hkk:(((k+1:Nat):Int)==0)=false:=beq_eq_false_iff_ne.2 (by omega)
   refine inN Tryz.func32 rfl Tryz.ntmps32 fun I=>?_
   refine aGo (cj2 Zr hkk) ?_
   repeat with_reducible intro K hK
   refine aLe (Zef 9 31 1 rfl) ?_
   refine ZaF (fun(x:Nat×List (List Int))=>[(1,Zad c),(2,Zad l),(3,dI ((k+1:Nat):Int)),(4,.lp 0 0 0 0),(9,.ls 1 x.1),(21,Zad l),(22,dI l.length),(23,dI x.1)]) (fun x=>[(0,Zex e),(1,⟨31,x.1,1,x.2.map fun y=>[Zad y],0,false⟩)]) 2 0 (fun x=>x.1≤l.length∧x.2++Zbd P (l.drop x.1) (k+1) c=Zbd P l (k+1) c) (fun x=>l.length-x.1) (0,[]) ⟨Yb0 _,rfl⟩ ?_ ?_
   ·exact leGo trivial
   rintro⟨i,A⟩ ⟨hi,hA⟩
   simp only at hi hA
   have hw:=ZsL i
   have hw2:IntKind.i64.wrap (((k+1:Nat):Int)-1)=(k:Int):=(ZaO (by omega) (by omega)).trans (by omega)
   have h0:(0:Int)≤i:=by omega
   by_cases h1:(i:Int)<l.length
   ·obtain⟨x,hx⟩:∃ x,l[i]? =some x:=⟨_,Ya0 (by omega)⟩
    have q:=IH (l.drop (i+1)) (c++[x]) (by rw[List.length_drop];omega) (by rw[Yb9];simp;omega)
    obtain⟨C0,eC0⟩:∃ C0,ZbG c=C0:=⟨_,rfl⟩
    obtain⟨C,eC⟩:∃ C,C0++[[dI x]]=C:=⟨_,rfl⟩
    have eCc:C=ZbG (c++[x]):=by rw[← eC,← eC0];simp
    have lC0:C0.length=c.length:=by rw[← eC0];simp
    have hdat:List.map (List.map datJ) C=C:=by rw[eCc];exact ZaG (fun _=>rfl) _
    have hsl:List.drop ((i:Int)+1).toNat (List.take l.length (List.map (fun x=>[dI x]) l))=List.map (fun x=>[dI x]) (l.drop (i+1)):=by
     rw[Ya8 (by simp),show((i:Int)+1).toNat=i+1 by omega,List.map_drop]
    rw[show Zad (c++[x]) = .sl C by rw[eCc]]at q
    have hce:EffC Tryz.prog 65 [Zad c] (tabM [(0,Zex e),(1,⟨31,i,1,A.map fun y=>[Zad y],0,false⟩)]) 2 ⟨.ls 2 1,[2],[(2,⟨3,1,1,C0,0,false⟩)],false⟩ 3:=by rw[← eC0];exact Zxx c (by omega) _ _ rfl
    have hsz:=ZeF P (l.drop (i+1)) k (c++[x])
    have hp1:(2:Nat)^(l.drop (i+1)).length≤2^12:=Nat.pow_le_pow_right (by decide) (by rw[List.length_drop];omega)
    have hA1:A.length≤4096:=by
     have h1:=ZeF P l (k+1) c
     have h2:(2:Nat)^l.length≤2^12:=Nat.pow_le_pow_right (by decide) hl
     have h3:=congrArg List.length hA
     rw[Yb9]at h3
     omega
    have hdr:l.drop i=x ::l.drop (i+1):=by
     obtain⟨h,e⟩:=Ya3.1 hx
     rw[Yd7 h,e]
    rw[hdr,Zbd,← Yd3]at hA
    generalize Zbd P (l.drop (i+1)) k (c++[x])=B at q hA hsz
    refine aGo (cj4 Zr h0 h1 (cj3 hx hw hw2)) ?_
    repeat(guard_target =~ ∀ _:St→Prop,_;intro K hK)
    intro KX hX
    refine Za3 hce ?_
    refine aGo (cj4 Zr h0 h1 (cj4 hx hw hw2 (cj4 eC hdat hsl lC0))) ?_
    repeat with_reducible intro K hK
    refine hX _ _ (by kernel_rfl) (Zaz rfl) ?_
    clear hX
    clear KX
    obtain⟨Z,eZ⟩:∃ Z,A++B=Z:=⟨_,rfl⟩
    have hAB:(A.map fun y=>[Zad y])++(B.map fun y=>[Zad y])=Z.map fun y=>[Zad y]:=by rw[← eZ];exact List.map_append.symm
    rw[eZ]at hA
    refine aGo (cj3 Zr hw hAB) ?_
    repeat with_reducible intro K hK
    exact Zaf (i+1,Z) ⟨by show i+1≤l.length;omega,hA⟩ (by show l.length-(i+1)<l.length-i;omega) (by exact leGo trivial)
   ·obtain rfl:i=l.length:=by omega
    rw[List.drop_length]at hA
    have hA2:A=Zbd P l (k+1) c:=by rw[← hA];simp[Zbd]
    subst hA2
    refine aGo (cj2 Zr h1) ?_
    repeat with_reducible intro K hK
    rw[ZaG (fun _=>rfl)]
end
section
variable {e:EvD} (h:SusE e)
include h
noncomputable def Zhd (e:EvD):List (List Int):=if posB e then []else ZcW (fun S=>posB (Zam e S)) (Zem e) 1 (Zem e).length
theorem ZkQ:Zae Tryz.prog 8 [Zb3 e] (.tup [Zpl (Zhd e),dI 0]):=by
 have Zr:=Tryz.results8
 have k0:=ZhK e h.L
 rw[h.f]at k0
 have k1:=ZAq e h.f (by have:=h.n;omega) h.L
 have k2:=h.poss
 have hul:(Zem e).length≤4:=by have:=Zi4 e;have:=h.n;omega
 have hu8:¬ ((Zem e).length:Int)>8:=by omega
 unfold Zhd
 cases hp:posB e
 rotate_left
 ·rw[hp]at k2
  refine inC Tryz.func8 rfl Tryz.ntmps8 ?_
  refine aGo Zr ?_
  repeat with_reducible intro K hK
  rfl
 rw[hp]at k2
 rw[if_neg Yc5]
 obtain⟨P,eP⟩:∃ P:List Int→Bool,(fun S=>posB (Zam e S))=P:=⟨_,rfl⟩
 have ks:∀ j:Nat,j≤4→Zaa Tryz.prog 32 [Zb3 e,.sl [],Zad (Zem e),dI j] (Zpl (Zbd P (Zem e) j [])):=fun j hj=>by rw[← eP];exact ZpZ h j (Zem e) [] (by omega) (by simp;omega)
 rw[eP]
 generalize Zem e=u at *
 refine inC Tryz.func8 rfl Tryz.ntmps8 ?_
 refine aGo (cj2 Zr hu8) ?_
 repeat with_reducible intro K hK
 refine ZaF (fun(j:Nat)=>[(1,.lp 0 0 0 0),(4,Zad u),(5,dI ((j:Int)+1))]) (fun _=>[(0,Zex e)]) 1 0 (fun j=>j≤u.length∧ZcW P u 1 u.length=ZcW P u (j+1) (u.length-j)) (fun j=>u.length-j) 0 ⟨Yb0 _,rfl⟩ ?_ ?_
 ·exact leGo trivial
 rintro j ⟨hj,hF⟩
 have hw:IntKind.i64.wrap ((j:Int)+1+1)=(j:Int)+1+1:=ZaO (by omega) (by omega)
 by_cases h1:(j:Int)+1≤u.length
 ·have q:=ks (j+1) (by omega)
  rw[show((j+1:Nat):Int)=(j:Int)+1 by omega]at q
  rw[show u.length-j=(u.length-(j+1))+1 by omega,ZcW]at hF
  generalize Zbd P u (j+1) []=A at q hF
  by_cases h2:A.length=0
  ·rw[if_pos h2]at hF
   have h3:¬ (A.length:Int)>0:=by omega
   refine aGo (cj4 Zr h1 h3 hw) ?_
   repeat with_reducible intro K hK
   exact Zaf (j+1) ⟨by omega,hF⟩ (by omega) (by exact leGo trivial)
  ·rw[if_neg h2]at hF
   have h3:(A.length:Int)>0:=by omega
   refine aGo (cj4 Zr h1 h3 hw) ?_
   repeat with_reducible intro K hK
   rw[hF]
 ·obtain rfl:j=u.length:=by omega
  have hF2:ZcW P u 1 u.length=[]:=by rw[hF,Nat.sub_self];rfl
  refine aGo (cj2 Zr h1) ?_
  repeat with_reducible intro K hK
  rw[hF2];rfl
end
theorem ZBg:(sgnD (ofQ ((1:Int):Rat)) !=0)=true:=by decide +kernel
theorem ZBe:szF (ofQ ((1:Int):Rat))≤3:=by decide +kernel
theorem Zuy{n:Int}:∀ (S:List Int)(last:Int),(∀ v∈S,last<v)→(S.Pairwise fun a b=>a<b)→(∀ v∈S,v<n)→goR n last (S.map oneT)=true
 | [],_,_,_,_=>rfl
 | v ::S,last,h1,h2,h3=>by
   rw[List.pairwise_cons]at h2
   have ih:=Zuy S v h2.1 h2.2 fun u hu=>h3 u (by simp[hu])
   show(decide (last<v)&&decide (v<n)&&(sgnD (ofQ ((1:Int):Rat)) !=0)&&goR n v (S.map oneT))=true
   rw[decide_eq_true (h1 v (by simp)),decide_eq_true (h3 v (by simp)),ZBg,ih];rfl
theorem Zyb{n:Int}:∀ (l:List Zah)(last:Int),-1≤last→goR n last l=true→(l.length:Int)+last+1≤max n (last+1)
 | [],last,_,_=>by simp only[List.length_nil];omega
 | u ::l,last,hl,h=>by
   have h':=ZaN.1 h
   have:=Zyb l u.v (by omega) h'.2.2.2
   simp only[List.length_cons];omega
theorem Ztq{n:Int}{l:List Zah}(h:Zai l n=true):(l.length:Int)≤n:=by
 simp only[Zai,Ya2,decide_eq_true_eq]at h
 have:=Zyb l (-1) (by decide) h.2
 omega
theorem Zyy{e:EvD}{p:PkD}(h:okPk e p=true):0≤varP e p∧varP e p<e.mv.length*e.m:=by
 simp only[okPk,Ya2,decide_eq_true_eq]at h
 obtain⟨h1,h2,h3,h4⟩:=h
 have m0:0≤p.v*e.m:=Int.mul_nonneg h1 (by omega)
 have m1:p.v*e.m≤((e.mv.length:Int)-1)*e.m:=Int.mul_le_mul_of_nonneg_right (by omega) (by omega)
 rw[Int.sub_mul,Int.one_mul]at m1
 unfold varP
 omega
theorem Zgp{e:EvD}{ps:List PkD}(hm:0≤e.m):Zai (Zdq e ps).1 (sysE e).n=true:=by
 have hn:(0:Int)≤(sysE e).n:=Int.mul_nonneg (by omega) hm
 unfold Zdq
 by_cases h:(ps.all (okPk e) && !dupI (Zdg e ps))=true
 ·rw[if_pos h]
  simp only[Ya2,Bool.not_eq_true',Ya6]at h
  have hv:∀ v∈Zdg e ps,0≤v∧v<(sysE e).n:=fun v hv=>by
   rw[List.mem_mergeSort]at hv
   obtain⟨p,hp,rfl⟩:=Yc6.1 hv
   exact Zyy (h.1 p hp)
  simp only[Zai,Ya2,decide_eq_true_eq]
  exact⟨hn,Zuy _ _ (fun v hv'=>by have:=(hv v hv').1;omega) (Zyj (Zta _) h.2) fun v hv'=>(hv v hv').2⟩
 ·rw[if_neg h]
  simp only[Zai,Ya2,decide_eq_true_eq]
  exact⟨hn,rfl⟩
theorem ZzM{e:EvD}{ps:List PkD}:∀ t∈(Zdq e ps).1,szF t.f≤3:=by
 unfold Zdq
 split
 ·intro t ht
  obtain⟨v,_,rfl⟩:=Yc6.1 ht
  exact ZBe
 ·intro t ht;cases ht
noncomputable def rngP (e:EvD) (ps:List PkD):(OptD×OptD)×Int:=if (Zdq e ps).2=true then Zbn (sysE e) (Zdq e ps).1 else((zO,zO),1)
noncomputable def bdP (e:EvD) (ps:List PkD):BdD:=Zda (rngP e ps).1.1 (rngP e ps).1.2
section
variable {e:EvD} (h:SusE e)
include h
theorem SusE.fit(ps:List PkD):Fit (sysE e) (Zdq e ps).1 3 8:=by
 have f0:=h.conf.fit0
 have hr:=Zgp (e:=e) (ps:=ps) (by have:=(Zc8 h.f).m;omega)
 have hl:=Ztq hr
 have hn:=h.conf.n
 exact⟨f0.l,f0.n,f0.t,f0.w,⟨by omega,ZzM⟩,f0.b,f0.gl⟩
theorem Zqb(ps:List PkD)(hl:ps.length≤100):Zae Tryz.prog 13 [Zb3 e,ZcN ps] (.tup [encR (rngP e ps).1.1 (rngP e ps).1.2,dI (rngP e ps).2]):=by
 have Zr:=Tryz.results13
 have k0:=ZBw h.f h.L (by have:=h.n;omega) ps hl
 have k1:=ZpK e h.f (by have:=h.n;omega) (by have:=h.p;omega) h.L
 have k2:=Zx3 (sysE e) (Zdq e ps).1 (h.fit ps)
 unfold rngP
 generalize Zdq e ps=G at *
 obtain⟨g,b⟩:=G
 cases b
 ·rw[if_neg Yc5]
  refine inC Tryz.func13 rfl Tryz.ntmps13 ?_
  refine aGo Zr ?_
  repeat with_reducible intro K hK
  rfl
 ·rw[if_pos rfl]
  simp only at k0 k2 ⊢
  generalize Zbn (sysE e) g=r at k2 ⊢
  obtain⟨⟨a,b⟩,c⟩:=r
  refine inC Tryz.func13 rfl Tryz.ntmps13 ?_
  refine aGo Zr ?_
  repeat with_reducible intro K hK
  rfl
theorem Zy0(ps:List PkD):szF (rngP e ps).1.1.v≤4456448∧szF (rngP e ps).1.2.v≤4456448:=by
 unfold rngP
 split
 ·obtain⟨z1,z2⟩:=Zwc (h.fit ps)
  exact⟨by omega,by omega⟩
 ·exact⟨by show szF zO.v≤_;decide +kernel,by show szF zO.v≤_;decide +kernel⟩
theorem Zyp(ps:List PkD):Zae Tryz.prog 16 [encR (rngP e ps).1.1 (rngP e ps).1.2] (Zpm (bdP e ps)):=by
 obtain⟨z1,z2⟩:=Zy0 h ps
 exact Zsx _ _ (by omega) (by omega)
theorem ZBS(ps:List PkD)(hg:(Zdq e ps).2=true):((rngP e ps).2=15∧∀ x,ZaI (sysE e) x=false)∨((rngP e ps).2=0∧(∃ x,ZaI (sysE e) x=true)∧BdOk (sysE e) (Zdq e ps).1 (bdP e ps)):=by
 have hs:=h.conf.r
 have hr:=Zgp (e:=e) (ps:=ps) (by have:=(Zc8 h.f).m;omega)
 have hb:=ZBR hs hr
 have e1:rngP e ps=Zbn (sysE e) (Zdq e ps).1:=by unfold rngP;rw[if_pos hg]
 have er:Zbn (sysE e) (Zdq e ps).1=if (Zax (sysE e) (Zdq e ps).1).k=1 then((zO,zO),15)else((Zax (sysE e) (Zdq e ps).1,Zax (sysE e) (oppT (Zdq e ps).1)),0):=by unfold Zbn;rw[hs,hr];rfl
 have e2:(rngP e ps).2=15∨(rngP e ps).2=0:=by rw[e1,er];split<;>simp
 unfold bdP
 unfold bdsD at hb
 rw[← e1]at hb
 rcases hb with⟨a,b⟩|⟨a,b,c⟩
 ·refine .inl ⟨?_,b⟩
  have:=beq_eq_false_iff_ne.1 a
  omega
 ·exact .inr ⟨by simpa using a,b,c⟩
end
def exW(r:Int):EvD:=⟨1,1,1,[⟨0,0,0⟩,⟨1,-1,-1⟩,⟨5,-1,-1⟩],[⟨3,0,1,0,20,false⟩,⟨5,1,2,0,r,true⟩],[⟨0,0,9,2,0,0⟩],[],[]⟩
def sW(lo hi:Rat):SysD:=⟨2,[⟨[⟨0,ofQ 1⟩],0,ofQ 18⟩,⟨[⟨0,ofQ 1⟩],1,ofQ 22⟩,⟨[⟨0,ofQ 1⟩,⟨1,ofQ (-1)⟩],2,ofQ 0⟩,⟨[⟨1,ofQ 1⟩],0,ofQ lo⟩,⟨[⟨1,ofQ 1⟩],1,ofQ hi⟩]⟩
theorem ZpL:sysE (exW 23)=sW 21 25:=by kernel_rfl
theorem ZxQ:sysE (exW 25)=sW 23 27:=by kernel_rfl
theorem Zph:Zb5 (exW 23)=0:=by decide +kernel
theorem ZuH:Zb5 (exW 25)=0:=by decide +kernel
theorem Ztp:Zao (sW 21 25)=true:=by decide +kernel
theorem ZoH:Zao (sW 23 27)=true:=by decide +kernel
theorem ZBD:Zb5 (Zam (exW 25) [0])=0:=by decide +kernel
section
variable {lo hi:Rat} {x:List Zag}
theorem dot1(i:Int):dotD [⟨i,ofQ 1⟩] x=atP x i:=by
 rw[Zc9];simp only[dotS,ZaE];grind
theorem dot2:dotD [⟨0,ofQ 1⟩,⟨1,ofQ (-1)⟩] x=atP x 0-atP x 1:=by
 rw[Zc9];simp only[dotS,ZaE];grind
theorem rowL{i:Int}{v:Rat}{s:SysD}(h:Zcs s.n ⟨[⟨i,ofQ 1⟩],0,ofQ v⟩=true):Zb4 ⟨[⟨i,ofQ 1⟩],0,ofQ v⟩ x=true↔v≤atP x i:=by
 rw[Zgn h,dot1,ZaE];simp
theorem rowM{i:Int}{v:Rat}{s:SysD}(h:Zcs s.n ⟨[⟨i,ofQ 1⟩],1,ofQ v⟩=true):Zb4 ⟨[⟨i,ofQ 1⟩],1,ofQ v⟩ x=true↔atP x i≤v:=by
 rw[Zgn h,dot1,ZaE];simp
theorem rowE{s:SysD}(h:Zcs s.n ⟨[⟨0,ofQ 1⟩,⟨1,ofQ (-1)⟩],2,ofQ 0⟩=true):Zb4 ⟨[⟨0,ofQ 1⟩,⟨1,ofQ (-1)⟩],2,ofQ 0⟩ x=true↔atP x 0=atP x 1:=by
 rw[Zgn h,dot2,ZaE]
 constructor
 ·rintro⟨a,b⟩
  have:=a (by decide)
  have:=b (by decide)
  grind
 ·intro h
  exact⟨fun _=>by grind,fun _=>by grind⟩
end
structure Zvv (lo hi:Rat) (x:List Zag) (L:List Nat):Prop where
 r0:0∈L→18≤atP x 0
 r1:1∈L→atP x 0≤22
 r2:2∈L→atP x 0=atP x 1
 r3:3∈L→lo≤atP x 1
 r4:4∈L→atP x 1≤hi
theorem ZlK{lo hi:Rat}(hs:Zao (sW lo hi)=true){x:List Zag}{L:List Nat}:(∀ i∈L,∀ w,(sW lo hi).r[i]? =some w→Zb4 w x=true)↔Zvv lo hi x L:=by
 have R:∀ w∈(sW lo hi).r,Zcs (sW lo hi).n w=true:=fun w hw=>ZdE hs hw
 have h0:=rowL (x:=x) (R _ (Ya7 (i:=0) rfl))
 have h1:=rowM (x:=x) (R _ (Ya7 (i:=1) rfl))
 have h2:=rowE (x:=x) (R _ (Ya7 (i:=2) rfl))
 have h3:=rowL (x:=x) (R _ (Ya7 (i:=3) rfl))
 have h4:=rowM (x:=x) (R _ (Ya7 (i:=4) rfl))
 constructor
 ·intro h
  exact⟨fun m=>h0.1 (h 0 m _ rfl),fun m=>h1.1 (h 1 m _ rfl),fun m=>h2.1 (h 2 m _ rfl),fun m=>h3.1 (h 3 m _ rfl),fun m=>h4.1 (h 4 m _ rfl)⟩
 ·rintro⟨a0,a1,a2,a3,a4⟩ i hi w hw
  match i,hi,hw with
  | 0,m,hw=>cases hw;exact h0.2 (a0 m)
  | 1,m,hw=>cases hw;exact h1.2 (a1 m)
  | 2,m,hw=>cases hw;exact h2.2 (a2 m)
  | 3,m,hw=>cases hw;exact h3.2 (a3 m)
  | 4,m,hw=>cases hw;exact h4.2 (a4 m)
  | _+5,_,hw=>cases hw
theorem Zgo{lo hi:Rat}(hs:Zao (sW lo hi)=true){x:List Zag}:ZaI (sW lo hi) x=true↔ZvE (sW lo hi) x∧Zvv lo hi x [0,1,2,3,4]:=by
 rw[← ZlK hs,Zb1]
 constructor
 ·rintro⟨_,a,b,c,d⟩
  exact⟨⟨a,b,c⟩,fun i _ w hw=>Ya6.1 d w (Ya7 hw)⟩
 ·rintro⟨⟨a,b,c⟩,d⟩
  refine⟨hs,a,b,c,Ya6.2 fun w hw=>?_⟩
  obtain⟨i,hi⟩:=List.getElem?_of_mem hw
  refine d i ?_ w hi
  have:=(Ya3.1 hi).1
  have:i<5:=this
  simp;omega
theorem Zvn{lo hi:Rat}(a b:Rat)(ha:0≤a)(hb:0≤b):ZvE (sW lo hi) [ofQ a,ofQ b]:=by
 have sg:∀ q:Rat,0≤q→decide (0≤sgnD (ofQ q))=true:=fun q hq=>by
  rw[Zcw,decide_eq_true_eq]
  rcases ZeE q with⟨h1,_⟩|⟨_,h1⟩|⟨_,h1⟩
  ·grind
  ·omega
  ·omega
 refine⟨rfl,?_,?_⟩
 ·unfold okP;simp only[List.all_cons,Zbi,List.all_nil,Bool.and_self]
 ·unfold Zee;simp only[List.all_cons,sg a ha,sg b hb,List.all_nil,Bool.and_self]
theorem at2(a b:Rat):atP [ofQ a,ofQ b] 0=a∧atP [ofQ a,ofQ b] 1=b:=by
 constructor
 ·show qOf (ofQ a)=a;exact ZaE a
 ·show qOf (ofQ b)=b;exact ZaE b
theorem Zt0{lo hi:Rat}(hs:Zao (sW lo hi)=true){L:List Nat}(a b:Rat)(ha:0≤a)(hb:0≤b)(h:Zvv lo hi [ofQ a,ofQ b] L):nsC (sW lo hi) L=false:=by
 cases hn:nsC (sW lo hi) L
 ·rfl
 obtain⟨i,hi,w,hw,hf⟩:=Zfk.1 hn _ (Zvn a b ha hb)
 rw[(ZlK hs).2 h i hi w hw]at hf
 cases hf
theorem ZtZ{lo hi:Rat}(hs:Zao (sW lo hi)=true){L:List Nat}(h:∀ x,¬ Zvv lo hi x L):nsC (sW lo hi) L=true:=by
 refine Zfk.2 fun x _=>?_
 apply Classical.byContradiction
 intro hx
 refine h x ((ZlK hs).1 fun i hi w hw=>?_)
 cases hf:Zb4 w x
 ·exact absurd ⟨i,hi,w,hw,hf⟩ hx
 ·rfl
theorem ZxY:PosE (exW 23):=by
 unfold PosE
 rw[ZpL]
 exact⟨[ofQ 21,ofQ 21],(Zgo Ztp).2 ⟨Zvn _ _ (by decide) (by decide),by
  obtain⟨e0,e1⟩:=at2 21 21
  exact⟨fun _=>by rw[e0];decide,fun _=>by rw[e0];decide,fun _=>by rw[e0,e1],fun _=>by rw[e1];decide,fun _=>by rw[e1];decide⟩⟩⟩
theorem noW(x:List Zag){L:List Nat}(h1:1∈L)(h2:2∈L)(h3:3∈L):¬ Zvv 23 27 x L:=fun h=>by
 have a:=h.r1 h1
 have b:=h.r2 h2
 have c:=h.r3 h3
 grind
theorem ZA4:¬ PosE (exW 25):=by
 unfold PosE
 rw[ZxQ]
 rintro⟨x,hx⟩
 exact noW x (by simp) (by simp) (by simp) ((Zgo ZoH).1 hx).2
theorem confW:Zf6 (nsC (sW 23 27)) 5=[1,2,3]:=by
 have R:=ZoH
 have e:List.range 5=[0,1,2,3,4]:=rfl
 have y:∀ L:List Nat,1∈L→2∈L→3∈L→nsC (sW 23 27) L=true:=fun L a b c=>ZtZ R fun x=>noW x a b c
 have n1:nsC (sW 23 27) [2,3,4]=false:=Zt0 R 23 23 (by decide) (by decide) (by
  obtain⟨e0,e1⟩:=at2 23 23
  exact⟨fun h=>by simp at h,fun h=>by simp at h,fun _=>by rw[e0,e1],fun _=>by rw[e1];decide,fun _=>by rw[e1];decide⟩)
 have n2:nsC (sW 23 27) [1,3,4]=false:=Zt0 R 0 23 (by decide) (by decide) (by
  obtain⟨e0,e1⟩:=at2 0 23
  exact⟨fun h=>by simp at h,fun _=>by rw[e0];decide,fun h=>by simp at h,fun _=>by rw[e1];decide,fun _=>by rw[e1];decide⟩)
 have n3:nsC (sW 23 27) [1,2,4]=false:=Zt0 R 0 0 (by decide) (by decide) (by
  obtain⟨e0,e1⟩:=at2 0 0
  exact⟨fun h=>by simp at h,fun _=>by rw[e0];decide,fun _=>by rw[e0,e1],fun h=>by simp at h,fun _=>by rw[e1];decide⟩)
 have l1:Zcu (nsC (sW 23 27)) 5 1=[1,2,3,4]:=by
  rcases ZbZ (ns:=nsC (sW 23 27)) (m:=5) 0 with⟨_,h⟩|⟨h,_⟩
  ·rw[h];rfl
  ·rw[y _ (by decide) (by decide) (by decide)]at h;cases h
 have l2:Zcu (nsC (sW 23 27)) 5 2=[1,2,3,4]:=by
  rcases ZbZ (ns:=nsC (sW 23 27)) (m:=5) 1 with⟨h,_⟩|⟨_,h⟩
  ·rw[ZiX,l1]at h;have h:nsC (sW 23 27) [2,3,4]=true:=h;rw[n1]at h;cases h
  ·rw[h,l1]
 have l3:Zcu (nsC (sW 23 27)) 5 3=[1,2,3,4]:=by
  rcases ZbZ (ns:=nsC (sW 23 27)) (m:=5) 2 with⟨h,_⟩|⟨_,h⟩
  ·rw[ZiX,l2]at h;have h:nsC (sW 23 27) [1,3,4]=true:=h;rw[n2]at h;cases h
  ·rw[h,l2]
 have l4:Zcu (nsC (sW 23 27)) 5 4=[1,2,3,4]:=by
  rcases ZbZ (ns:=nsC (sW 23 27)) (m:=5) 3 with⟨h,_⟩|⟨_,h⟩
  ·rw[ZiX,l3]at h;have h:nsC (sW 23 27) [1,2,4]=true:=h;rw[n3]at h;cases h
  ·rw[h,l3]
 rcases ZbZ (ns:=nsC (sW 23 27)) (m:=5) 4 with⟨_,h⟩|⟨h,_⟩
 ·show Zcu _ 5 5=_
  rw[h,ZiX,l4];rfl
 ·rw[ZiX,l4]at h
  rw[y _ (by decide) (by decide) (by decide)]at h;cases h
theorem posWo:PosE (Zam (exW 25) [0]):=by
 have hs:sysE (Zam (exW 25) [0])=⟨2,[⟨[⟨0,ofQ 1⟩,⟨1,ofQ (-1)⟩],2,ofQ 0⟩]⟩:=by kernel_rfl
 unfold PosE
 rw[hs]
 exact⟨[ofQ 0,ofQ 0],by decide +kernel⟩
theorem bdW{b:BdD}(h:BdOk (sW 21 25) [⟨0,ofQ 1⟩] b):b=⟨ofQ 21,ofQ 22,true,true⟩:=by
 have R:=Ztp
 have hv:∀ v:Rat,21≤v→v≤22→ZaI (sW 21 25) [ofQ v,ofQ v]=true∧dotD [⟨0,ofQ 1⟩] [ofQ v,ofQ v]=v:=fun v h1 h2=>by
  obtain⟨e0,e1⟩:=at2 v v
  refine⟨(Zgo R).2 ⟨Zvn _ _ (by grind) (by grind),⟨fun _=>by rw[e0];grind,fun _=>by rw[e0];exact h2,fun _=>by rw[e0,e1],fun _=>by rw[e1];exact h1,fun _=>by rw[e1];grind⟩⟩,by rw[dot1,e0]⟩
 have hb:∀ x,ZaI (sW 21 25) x=true→21≤dotD [⟨0,ofQ 1⟩] x∧dotD [⟨0,ofQ 1⟩] x≤22:=fun x hx=>by
  have g:=((Zgo R).1 hx).2
  have g1:=g.r1 (by simp)
  have g2:=g.r2 (by simp)
  have g3:=g.r3 (by simp)
  rw[dot1]
  constructor<;>grind
 refine Zz9 h (c:=⟨ofQ 21,ofQ 22,true,true⟩) ⟨fun _=>⟨21,_,rfl,(hv 21 (by decide) (by decide)).1,(hv 21 (by decide) (by decide)).2,fun z hz=>(hb z hz).1⟩,fun h=>(by cases h),fun _=>⟨22,_,rfl,(hv 22 (by decide) (by decide)).1,(hv 22 (by decide) (by decide)).2,fun z hz=>(hb z hz).2⟩,fun h=>(by cases h)⟩ (fun x hx=>⟨x,hx,rfl⟩) (fun x hx=>⟨x,hx,rfl⟩)
set_option maxHeartbeats 32000000
theorem lo3:∀ id,id<3→([0,1,2]:List Nat).contains id=true:=by
 intro id h
 have:id=0∨id=1∨id=2:=by omega
 rcases this with rfl|rfl|rfl<;>rfl
theorem ZwV{F X:Prop}(f:F)(h:F→X:=by
 intro hf
 refine Zb2 _ _ _ ?_ ?_ ?_ ?_ ?_ (.inr lo3)<;>simp[go_sem,okD,okDs,Zcc,hf] <;>
 (first|(intros;subst_vars;simp[okD,okDs];done)|(intro _ h;rcases h with⟨_,_,rfl⟩|rfl<;>simp[okD,okDs];done)|(intros;rename_i h;rcases h with⟨_,_,rfl⟩|rfl<;>simp[okD,okDs]))):X:=h f
theorem Zra{L:List Nat}{m:Nat}(hp:L.Pairwise (·<·))(hl:∀ i∈L,i<m):ascR (ints L) m=true:=by
 refine Ya6.2 fun k hk=>?_
 have hk':k<L.length:=by simpa[ints]using Yd2.1 hk
 have e:(ints L)[k]? =some ((L[k]:Nat):Int):=by rw[Yb8,Ya0 hk'];rfl
 have h2:=hl _ (List.getElem_mem hk')
 simp only[Zof,e,Option.getD_some,Ya2,decide_eq_true_eq]
 refine⟨?_,by omega⟩
 match k,hk',e with
 | 0,_,_=>simp only[ZkE];omega
 | j+1,hj,_ =>
   have e2:(ints L)[j]? =some ((L[j]:Nat):Int):=by rw[Yb8,Ya0 (by omega)];rfl
   simp only[ZkE,e2,Option.getD_some]
   have:=List.pairwise_iff_getElem.1 hp j (j+1) (by omega) hj (by omega)
   omega
theorem ZhD(ns:List Nat→Bool)(m:Nat):∀ i,(Zcu ns m i).Pairwise (·<·)
 | 0=>List.pairwise_lt_range
 | i+1=>by
   rcases ZbZ (ns:=ns) (m:=m) i with⟨_,h⟩|⟨_,h⟩
   ·rw[h];exact(ZhD ns m i).filter _
   ·rw[h];exact ZhD ns m i
theorem Zvb(k i:Int):Zaa Tryz.prog 70 [dI k,.ep [[dI i]] 0 0] (dB (k==i)):=by
 refine Zae.toN ?_ rfl
 refine inC Tryz.func70 rfl Tryz.ntmps70 ?_
 have Zr:=Tryz.results70
 exact aGo Zr trivial
theorem Zp7{s:SysD}{L:List Nat}:(refU s L).length≤L.length:=by
 unfold refU
 split
 ·unfold Zkz
  exact Yc7 (List.length_filterMap_le _ _) (by rw[List.length_zip];omega)
 ·exact Yb0 _
theorem Zty{s:SysD}(c:Conf s){L:List Nat}(ha:ascR (ints L) s.r.length=true)(hn:nsC s L=true):nsC s (refU s L)=true∧∀ k∈refU s L,k∈L:=by
 obtain⟨hl,hlt⟩:=Zmw ha
 have h8:=c.l
 have hp:=ZeQ c.r (rows:=L) (by omega)
 have hk:=(ZjZ c.r (by omega)).1 hn
 have e:refU s L=Zkz L (Zax (Zbr s L) []).y:=by unfold refU;rw[hn];rfl
 rw[e]
 refine⟨ZyA hlt ?_,fun k h=>ZvH h⟩
 rcases Zg5 (Zcd hp (ZeK hp))with⟨h,_⟩|⟨_,h,_⟩|⟨h,_⟩
 ·rw[hk]at h;exact absurd h (by decide)
 ·exact h
 ·rw[hk]at h;exact absurd h (by decide)
noncomputable def Zf7 (s:SysD):List Nat:=if nsC s (List.range s.r.length)then Zf6 (nsC s) s.r.length else []
theorem ZnT{L:List Nat}(hp:L.Pairwise (·<·)){i p:Nat}(h:L[p]? =some i):L.eraseIdx p=L.filter fun k=>k !=i:=by
 have hn:L.Nodup:=hp.imp fun h=>Nat.ne_of_lt h
 obtain⟨hlt,he⟩:=Ya3.1 h
 have hi:L.idxOf i=p:=by rw[← he];exact hn.idxOf_getElem p hlt
 rw[← List.erase_eq_eraseIdx_of_idxOf hi,List.Nodup.erase_eq_filter hn]
section
variable {α:Type} {L:List α} {p:Nat}
def Zcr(L:List α)(p q:Nat):List α:=(L.eraseIdx p).take q++L.drop q
theorem ZoD(hp:p<L.length):Zcr L p p=L:=by
 unfold Zcr
 rw[List.eraseIdx_eq_take_drop_succ,List.take_append_of_le_length (by rw[Yc1];omega),List.take_take,Nat.min_self,List.take_append_drop]
theorem ZmW(hp:p<L.length){q:Nat}(hq:q<L.length):(Zcr L p q).length=L.length:=by
 unfold Zcr
 rw[Yb9,Yc1,List.length_drop,List.length_eraseIdx_of_lt hp];omega
theorem ZvV(hp:p<L.length){q:Nat}(hq:q<L.length):(Zcr L p q)[q+1]? =L[q+1]?:=by
 unfold Zcr
 have hl:((L.eraseIdx p).take q).length=q:=by rw[Yc1,List.length_eraseIdx_of_lt hp];omega
 rw[Yc4 (by omega),hl,List.getElem?_drop]
 congr 1;omega
theorem Ztf(hp:p<L.length){q:Nat}(hpq:p≤q){y:α}(hy:L[q+1]? =some y):(Zcr L p q).set q y=Zcr L p (q+1):=by
 have hq:=(Ya3.1 hy).1
 unfold Zcr
 have hl:((L.eraseIdx p).take q).length=q:=by rw[Yc1,List.length_eraseIdx_of_lt hp];omega
 have he:(L.eraseIdx p)[q]? =some y:=by rw[List.getElem?_eraseIdx_of_ge hpq,hy]
 rw[List.set_append_right _ _ (by omega),hl,Nat.sub_self,Yb4,he]
 rw[show(L.drop q).set 0 y=y ::L.drop (q+1) by rw[Yd7 (show q<L.length by omega)];rfl]
 simp
theorem Ztg(hp:p<L.length){n:Nat}(hn:L.length=n+1)(z:α):((Zcr L p n).set n z).take n=L.eraseIdx p:=by
 unfold Zcr
 have hl:(L.eraseIdx p).length=n:=by rw[List.length_eraseIdx_of_lt hp];omega
 rw[Ya8 (l:=L.eraseIdx p) (by omega),List.set_append_right _ _ (by omega),List.take_append_of_le_length (by omega),Ya8 (by omega)]
end
theorem Zn2(s:SysD)(c:Conf s):Zae Tryz.prog 34 [encS s] (.tup [Zad (ints (Zf7 s)),dI 0]):=by
 have Zr:=Tryz.results34
 have hresC:=Tryz.results65
 have hresD:=Tryz.results69
 have hresI:=Tryz.results105
 have h8:=c.l
 have q1:=ZdS s (c.sm).sm
 rw[c.r]at q1
 obtain⟨m,em⟩:∃ m,s.r.length=m:=⟨_,rfl⟩
 have hm:(s.r.length:Int)=m:=by rw[em]
 have hm0:(0:Int)≤m:=by omega
 have hm8:(m:Int)≤32:=by omega
 have ar:ascR (ints (List.range m)) s.r.length=true:=by rw[em];exact Zra List.pairwise_lt_range fun i h=>Yd2.1 h
 have q2:=ZjN s c (List.range m) ar
 obtain⟨F,hF⟩:∃ F:Nat→List Int,F=fun k=>ints (List.range k)++List.replicate (m-k) 0:=⟨_,rfl⟩
 have F0:F 0=List.replicate m 0:=by rw[hF];rfl
 have F0':(F 0).map (fun x=>[dI x])=List.replicate m [D.v (.int .i64 0)]:=by rw[F0,List.map_replicate]
 have Fl:∀ k,k≤m→(F k).length=m:=fun k hk=>by rw[hF];simp[ints];omega
 have Fm:F m=ints (List.range m):=by rw[hF];simp
 have Fs:∀ k,k<m→((F k).map fun x=>[dI x]).set k [dI k]=(F (k+1)).map fun x=>[dI x]:=fun k hk=>by
  rw[← List.map_set,hF]
  simp only
  congr 1
  rw[List.set_append_right _ _ (by simp[ints])]
  simp only[ints,Yc0,List.length_range,Nat.sub_self]
  rw[List.range_succ,List.map_append,Yd3,show m-k=(m-(k+1))+1 by omega,List.replicate_succ]
  rfl
 refine inC Tryz.func34 rfl Tryz.ntmps34 ?_
 refine aGo (cj4 Zr hm hm0 hm8) ?_
 repeat with_reducible intro K hK
 refine ZaF (fun(k:Nat)=>[(1,.lp 0 0 0 0),(4,.ls 1 1),(20,dI m),(21,dI k)]) (fun k=>[(0,⟨88,0,2,[cS s],0,false⟩),(1,⟨3,1,1,(F k).map fun x=>[dI x],0,false⟩)]) 2 0 (fun k=>k≤m) (fun k=>m-k) 0 (by omega) ?_ ?_
 ·exact leGo F0'
 rintro k hk
 obtain⟨hw,h0⟩:=ZaR k
 have kz:(0:Nat)≤k:=Yb0 _
 by_cases h1:(k:Int)<m
 ·obtain⟨y,hy⟩:∃ e,(F k)[k]? =some e:=⟨_,Ya0 (by rw[Fl k hk];omega)⟩
  have F1:=Fs k (by omega)
  have F2:=Fl k hk
  refine aGo (cj4 Zr h0 kz (cj4 h1 hw hy (cj2 F1 F2))) ?_
  repeat with_reducible intro K hK
  exact Zaf (k+1) (by omega) (by omega) (by exact leGo F1)
 obtain rfl:k=m:=by omega
 clear hw h0 kz hk
 refine aLe ((ZgY 1 rfl).trans (Zim 4 5)) ?_
 simp only[go_sem,fzT]
 have ez:∀ M,List.map (List.map (fzT false M 4)) ((F k).map fun x=>[dI x])=(ints (List.range k)).map fun x=>[dI x]:=fun M=>by rw[ZaG (fun _=>rfl),Fm]
 cases hn:nsC s (List.range k)
 ·rw[hn]at q2
  refine aGo (cj3 Zr h1 ez) ?_
  repeat with_reducible intro K hK
  rw[show Zf7 s=[] by unfold Zf7;rw[em,hn];rfl]
  rfl
 rw[hn]at q2
 refine aGo (cj4 Zr h1 ez hm) ?_
 repeat with_reducible intro K hK
 obtain⟨u1,u2⟩:=Zty c ar hn
 have u3:(refU s (List.range k)).length≤32:=Yc7 Zp7 (by rw[List.length_range];omega)
 generalize refU s (List.range k)=U0 at q2 u1 u2 u3
 clear q1 q2 ez F0 F0' Fl Fm Fs h1
 refine ZaF (fun(p:Nat×List Nat)=>[(1,.lp 0 0 0 0),(4,Zad (ints (Zcu (nsC s) k p.1))),(6,Zad (ints p.2)),(39,dI k),(40,dI p.1)]) (fun _=>[(0,⟨88,0,2,[cS s],0,false⟩)]) 1 0 (fun p=>p.1≤k∧nsC s p.2=true∧p.2.length≤32∧∀ j∈p.2,j∈Zcu (nsC s) k p.1) (fun p=>k-p.1) (0,U0) ⟨by omega,u1,u3,u2⟩ ?_ ?_
 ·have e0:Zcu (nsC s) k 0=List.range k:=rfl
  exact leGo e0
 rintro⟨i,U⟩ ⟨hi,hU,hU8,hsub⟩
 simp only at hi hU hU8 hsub
 obtain⟨hw,h0⟩:=ZaR i
 by_cases h1:(i:Int)<k
 rotate_left
 ·obtain rfl:i=k:=by omega
  refine aGo (cj2 Zr h1) ?_
  repeat with_reducible intro K hK
  rw[show Zf7 s=Zf6 (nsC s) i by unfold Zf7;rw[em,hn];rfl]
 obtain⟨L,eL⟩:∃ L,Zcu (nsC s) k i=L:=⟨_,rfl⟩
 have hLp:L.Pairwise (·<·):=by rw[← eL];exact ZhD _ _ _
 have hLlt:∀ j∈L,j<k:=fun j hj=>by rw[← eL]at hj;exact ZhE i j hj
 have hiL:i∈L:=by rw[← eL];exact Zle i i (Ya4 _) (by omega)
 have hstep:=ZbZ (ns:=nsC s) (m:=k) i
 simp only[ZiX,eL]at hstep
 rw[eL]at hsub
 have aL:ascR (ints L) s.r.length=true:=by rw[em];exact Zra hLp hLlt
 have aM:ascR (ints (L.filter fun k=>k !=i)) s.r.length=true:=by rw[em];exact Zra (hLp.filter _) fun j hj=>hLlt j (List.mem_filter.1 hj).1
 obtain⟨p,hp⟩:=List.getElem?_of_mem hiL
 have hpl:=(Ya3.1 hp).1
 have hLl:L.length≤32:=by have:=Zmv aL;simp[ints]at this;omega
 have her:=ZnT hLp hp
 obtain⟨n,en⟩:∃ n,L.length=n+1:=⟨L.length-1,by omega⟩
 obtain⟨c0,cs,ec⟩:∃ c0 cs,(ints L).map (fun x=>[dI x])=c0 ::cs:=by
  match L,en with
  | y ::L',_=>exact⟨_,_,rfl⟩
 have lT':cs.length+1=n+1:=by
  have:=congrArg List.length ec
  simp[ints]at this;omega
 have e1:Zad (ints L) = .sl (c0 ::cs):=by show D.sl ((ints L).map fun x=>[dI x])=_;rw[ec]
 have e2:List.map (List.map datJ) (c0 ::cs)=c0 ::cs:=by rw[← ec];exact ZaG (fun _=>rfl) _
 have hcell:∀ x∈c0 ::cs,x.length=1∧x.all D.isCell=true:=by
  rw[← ec]
  intro x hx
  obtain⟨u,_,rfl⟩:=Yc6.1 hx
  exact⟨rfl,rfl⟩
 have hb:((n:Nat):Int)≤32:=by omega
 refine aGo (cj4 Zr h0 h1 (cj3 eL e1 hw)) ?_
 repeat with_reducible intro K hK
 refine ZcS Tryz.func65 rfl (by kernel_rfl) (by kernel_rfl) (by kernel_rfl) ?_
 rw[Tryz.ntmps65]
 refine aGo (cj4 hresC hb e1 (cj2 e2 lT')) ?_
 repeat with_reducible intro K hK
 refine⟨⟨⟨hcell c0 (by simp),fun x hx=>hcell x (by simp[hx])⟩,by push_cast;omega,by push_cast;omega⟩,?_⟩
 have ec':=ec.symm
 refine aGo (cj3 Zr hresC ec') ?_
 repeat with_reducible intro K hK
 refine ZcS Tryz.func69 rfl (by kernel_rfl) (by kernel_rfl) (by kernel_rfl) ?_
 rw[Tryz.ntmps69]
 refine aGo hresD ?_
 repeat with_reducible intro K hK
 refine ZcS Tryz.func105 rfl (by kernel_rfl) (by kernel_rfl) (by kernel_rfl) ?_
 rw[Tryz.ntmps105]
 have hll:((ints L).length:Int)=(n:Int)+1:=by simp[ints];omega
 have hll2:(L.length:Int)=(n:Int)+1:=by omega
 refine aGo (cj3 hresI hll hll2) ?_
 repeat with_reducible intro K hK
 refine aLe (ZgY 1 rfl) ?_
 refine ZaF (fun(q:Nat)=>[(0,.ls 2 1),(1,.clo 70 [.lp 1 0 0 0]),(6,.ls 2 1),(7,dI ((n:Int)+1)),(8,dI q)]) (fun _=>[(0,⟨88,0,2,[cS s],0,false⟩),(1,⟨3,0,1,[[dI i]],0,true⟩),(2,⟨3,1,1,(ints L).map fun x=>[dI x],0,false⟩)]) 3 3 (fun q=>q≤p) (fun q=>p-q) 0 (by omega) ?_ ?_
 ·exact ZwV trivial
 rintro q hq
 obtain⟨hwq,q0⟩:=ZaR q
 have hqn:(q:Int)<(n:Int)+1:=by omega
 obtain⟨y,hy⟩:=getE (l:=L) (k:=q) (by omega)
 have hyI:(ints L)[q]? =some (y:Int):=by rw[Yb8,hy];rfl
 have kc:=Zvb y i
 have hne:∀ (a b:Nat)(u v:Nat),L[a]? =some u→L[b]? =some v→a≠b→u≠v:=fun a b u v ha hb hab he=>by
  obtain⟨h1,h2⟩:=Ya3.1 ha
  obtain⟨h3,h4⟩:=Ya3.1 hb
  rcases Nat.lt_or_gt_of_ne hab with h|h
  ·have:=List.pairwise_iff_getElem.1 hLp a b h1 h3 h;omega
  ·have:=List.pairwise_iff_getElem.1 hLp b a h3 h1 h;omega
 by_cases h2:q=p
 rotate_left
 ·have:y≠i:=hne q p y i hy hp h2
  rw[show((y:Int)==i)=false from beq_eq_false_iff_ne.2 (fun h=>this (by exact_mod_cast h))]at kc
  refine aGo (cj4 hresI q0 hqn (cj2 hyI hwq)) ?_
  repeat with_reducible intro K hK
  exact Zaf (q+1) (by omega) (by omega) (by exact ZwV trivial)
 subst h2
 rw[hp]at hy
 obtain rfl:=Option.some.inj hy
 rw[show((i:Int)==i)=true by simp]at kc
 have hpm:((q:Int) == -1)=false:=beq_eq_false_iff_ne.2 (by omega)
 refine aGo (cj4 hresI hresD q0 (cj4 hqn hyI hwq hpm)) ?_
 repeat with_reducible intro K hK
 clear kc hyI hwq hpm
 have g0:=ZoD (L:=L) hpl
 refine ZaF (fun(r:Nat)=>[(0,.ls 2 1),(1,.clo 70 [.lp 1 0 0 0]),(5,dI r),(6,dI ((r:Int)+1))]) (fun r=>[(0,⟨88,0,2,[cS s],0,false⟩),(1,⟨3,0,1,[[dI i]],0,true⟩),(2,⟨3,1,1,(ints (Zcr L q r)).map fun x=>[dI x],0,false⟩)]) 3 3 (fun r=>q≤r∧r≤n) (fun r=>n-r) q ⟨by omega,by omega⟩ ?_ ?_
 ·exact ZwV g0
 rintro r ⟨hr1,hr2⟩
 have hw1:=ZsL r
 have hw2:IntKind.i64.wrap ((r:Int)+1+1)=(r:Int)+1+1:=ZaO (by omega) (by omega)
 have r0:(0:Int)≤r:=by omega
 have r1:(0:Int)≤(r:Int)+1:=by omega
 have rz:(0:Nat)≤r:=Yb0 _
 have rt:((r:Int)+1).toNat=r+1:=by omega
 have rn:(r:Int)<(n:Int)+1:=by omega
 have hsl:((Zcr L q r).length:Int)=(n:Int)+1:=by rw[ZmW hpl (by omega)];omega
 have hsn:(Zcr L q r).length=n+1:=by rw[ZmW hpl (by omega)];omega
 by_cases h3:(r:Int)+1<(n:Int)+1
 ·obtain⟨y,hy⟩:=getE (l:=L) (k:=r+1) (by omega)
  have hyS:(Zcr L q r)[r+1]? =some y:=by rw[ZvV hpl (by omega)];exact hy
  obtain⟨z,hz⟩:∃ e,(Zcr L q r)[r]? =some e:=⟨_,Ya0 (by omega)⟩
  have hset:((ints (Zcr L q r)).map fun x=>[dI x]).set r [dI y]=(ints (Zcr L q (r+1))).map fun x=>[dI x]:=by
   rw[← Ztf hpl hr1 hy,← List.map_set,ints,ints,← List.map_set]
  have hne2:y≠i:=hne (r+1) q y i hy hp (by omega)
  have kc:=Zvb y i
  rw[show((y:Int)==i)=false from beq_eq_false_iff_ne.2 (fun h=>hne2 (by exact_mod_cast h))]at kc
  refine aGo (cj4 hresD h3 r0 (cj4 r1 rz rt (cj4 rn hsl hyS (cj4 hz hset hw1 hw2)))) ?_
  repeat with_reducible intro K hK
  exact Zaf (r+1) ⟨by omega,by omega⟩ (by omega) (by exact ZwV hset)
 obtain rfl:r=n:=by omega
 repeat ((fail_if_success (with_reducible refine Zvo 11 ?_)); first
     | (refine hK _ ?_;clear hK;clear K)
     | (refine aSeq fun K hK=>?_)
     | (refine Zel ?_)
     | (refine Zh0 ?_)
     | (refine Zh2 ?_)
     | (refine aRet ?_)
     | (refine aOps _ rfl (by kernel_rfl) ?_)
     | (refine Zh1 _ rfl mixed (by kernel_rfl) (by kernel_rfl) fun KE hE=>?_)
     | (refine hE _ _ (by kernel_rfl) (Zaz rfl) ?_;clear hE;clear KE)
     | (refine hE _ _ (by kernel_rfl) (Zb0 ?hi ?hj) ?_;(case hi=>(repeat(refine Zap rfl ?_));exact Zas);(case hj=>simp);clear hE;clear KE)
     | (refine Zej rfl ?hc ?_;case hc=>simp only[go_sem,↓reduceIte,hresD,h3,hsl])
     | (refine Zek rfl ?hc ?_;case hc=>simp only[go_sem,↓reduceIte,hresD,h3,hsl])
     | (simp only[go_sem,↓reduceIte,hresD,h3,hsl])
     | (refine And.intro ?ho ?_;(case ho=>omega))
     | (clear hK;clear K))
 rename_i hKx
 refine hKx _ ?_
 clear hKx
 refine aSeq fun KA hKA=>?_
 refine ZAf (i:=r) (es:=(ints (Zcr L q r)).map fun x=>[dI x]) rfl rfl rfl rfl rfl rfl rfl rfl rfl rfl rfl rfl (by kernel_rfl) (by kernel_rfl) (by decide) rfl rfl rfl (by simp[ints];omega) ?_
 refine hKA _ ?_
 clear hKA
 obtain⟨M,eM⟩:∃ M,(L.filter fun k=>k !=i)=M:=⟨_,rfl⟩
 obtain⟨E,eE⟩:∃ E:List Int,(ints (Zcr L q r)).set r 0=E:=⟨_,rfl⟩
 have hes:((ints (Zcr L q r)).map fun x=>[dI x]).set r [dI 0]=E.map fun x=>[dI x]:=by rw[← eE,List.map_set]
 have hel:(E.length:Int)=(r:Int)+1:=by rw[← eE,List.length_set,Yc0];omega
 have hel2:(r:Int)≤(r:Int)+1:=by omega
 have hend:(E.map fun x=>[dI x]).take r=(ints M).map fun x=>[dI x]:=by
  rw[← eM,← her,← Ztg hpl en 0,← List.map_take,← eE]
  simp only[ints,← List.map_take]
  congr 1
  rw[show(0:Int)=(fun(i:Nat)=>(i:Int)) 0 from rfl,← List.map_set]
  exact List.map_take.symm
 have hfz:∀ m,List.map (List.map (fzT false m 4)) (E.map fun x=>[dI x])=E.map fun x=>[dI x]:=fun m=>ZaG (fun _=>rfl) _
 rw[eM]at hstep aM
 have hns:∀ j,j∈M↔j∈L∧j≠i:=fun j=>by rw[← eM];simp
 have kc2:=ZiO (ints U) i (by
  have hlU:(U.length:Int)≤1099511627776:=by omega
  simpa[ints]using hlU)
 simp only[hes]
 refine aLe ((ZgY 2 rfl).trans (Zim 0 5)) ?_
 simp only[go_sem,fzT]
 clear hne her g0 hsl hsn
 cases hhas:hasI (ints U) i
 ·rw[hhas]at kc2
  have hni:i∉U:=fun h=>by rw[Zuv.2 h]at hhas;cases hhas
  have hMn:nsC s M=true:=ZwE s U M (fun j hj=>(hns j).2 ⟨hsub j hj,fun e=>hni (e▸hj)⟩) hU
  have hst:Zcu (nsC s) k (i+1)=M:=by
   rcases hstep with⟨_,h⟩|⟨h,_⟩
   ·exact h
   ·rw[hMn]at h;cases h
  have hsM:∀ j∈U,j∈Zcu (nsC s) k (i+1):=fun j hj=>by rw[hst];exact(hns j).2 ⟨hsub j hj,fun e=>hni (e▸hj)⟩
  refine aGo (cj4 Zr hresD r0 (cj4 hel hel2 hend (cj2 hfz hw))) ?_
  repeat with_reducible intro K hK
  exact Zaf (i+1,U) ⟨by show i+1≤k;omega,hU,hU8,hsM⟩ (by show k-(i+1)<k-i;omega) (by exact leGo hst)
 rw[hhas]at kc2
 have kr:=ZjN s c M aM
 have hM8:M.length≤32:=by have:=Zmv aM;simp[ints]at this;omega
 have hU2:(refU s M).length≤32:=Yc7 Zp7 hM8
 cases hMn:nsC s M
 ·rw[hMn]at kr
  have hst:Zcu (nsC s) k (i+1)=L:=by
   rcases hstep with⟨h,_⟩|⟨_,h⟩
   ·rw[hMn]at h;cases h
   ·exact h
  have hsM:∀ j∈U,j∈Zcu (nsC s) k (i+1):=fun j hj=>by rw[hst];exact hsub j hj
  refine aGo (cj4 Zr hresD r0 (cj4 hel hel2 hend (cj2 hfz hw))) ?_
  repeat with_reducible intro K hK
  exact Zaf (i+1,U) ⟨by show i+1≤k;omega,hU,hU8,hsM⟩ (by show k-(i+1)<k-i;omega) (by exact leGo hst)
 ·rw[hMn]at kr
  have hst:Zcu (nsC s) k (i+1)=M:=by
   rcases hstep with⟨_,h⟩|⟨h,_⟩
   ·exact h
   ·rw[hMn]at h;cases h
  obtain⟨v1,v2⟩:=Zty c aM hMn
  have hsM:∀ j∈refU s M,j∈Zcu (nsC s) k (i+1):=fun j hj=>by rw[hst];exact v2 j hj
  refine aGo (cj4 Zr hresD r0 (cj4 hel hel2 hend (cj2 hfz hw))) ?_
  repeat with_reducible intro K hK
  exact Zaf (i+1,refU s M) ⟨by show i+1≤k;omega,v1,hU2,hsM⟩ (by show k-(i+1)<k-i;omega) (by exact leGo hst)
theorem own_c(e:EvD)(hf:Zb5 e=0):Zaa Tryz.prog 48 [Zb3 e] (Zb3 e):=by
 have Zr:=Tryz.results48
 have Ri:=Zc8 hf
 have p1:=Zn6 _ (ZA7 e.pl) (by have:=Ri.lp;rw[Yc0];omega)
 have p2:=Zu9 _ (ZA8 e.mv) (by have:=Ri.lm;rw[Yc0];omega)
 have p3:=Zn7 _ (ZA9 e.ce) (by have:=Ri.lc;rw[Yc0];omega)
 have p4:=Zn4 _ (Zy9 e.re) (by have:=Ri.lr;rw[Yc0];omega)
 have p5:=Zn5 _ (ZA6 e.pu) (by have:=Ri.lu;rw[Yc0];omega)
 refine inN Tryz.func48 rfl Tryz.ntmps48 fun I=>?_
 exact aGo (Y:=True) Zr trivial
theorem ZuD(b:BdD)(zl:(szF b.l:Int)≤4456448)(zh:(szF b.h:Int)≤4456448):Zae Tryz.prog 52 [Zpm b] (Zpm ⟨negD (negD b.l),negD (negD b.h),b.lo,b.hi⟩):=by
 have Zr:=Tryz.results52
 have z1:=Zs1 b.l
 have z2:=Zs1 b.h
 have k1:=ZnI b.l (by omega)
 have k2:=ZnI (negD b.l) (by omega)
 have k3:=ZnI b.h (by omega)
 have k4:=ZnI (negD b.h) (by omega)
 obtain⟨l,h,lo,hi⟩:=b
 simp only at k1 k2 k3 k4 ⊢
 generalize negD l=l1 at *
 generalize negD h=h1 at *
 generalize negD l1=l2 at *
 generalize negD h1=h2 at *
 refine inC Tryz.func52 rfl Tryz.ntmps52 ?_
 exact aGo (Y:=True) Zr trivial
theorem lo35:∀ id,id<3→([0,1,2,3,4]:List Nat).contains id=true:=by
 intro id h
 have:id=0∨id=1∨id=2:=by omega
 rcases this with rfl|rfl|rfl<;>rfl
section
variable {e:EvD} (h:SusE e)
include h
theorem Zz6(ps:List PkD)(hl:ps.length≤100):Zae Tryz.prog 83 [Zb3 e,ZcN ps] (Zpm (bdP e ps)):=by
 have Zr:=Tryz.results83
 have k1:=Zqb h ps hl
 have k2:=Zyp h ps
 generalize bdP e ps=b at *
 generalize rngP e ps=r at *
 obtain⟨⟨x,y⟩,c⟩:=r
 simp only at k1 k2
 refine inC Tryz.func83 rfl Tryz.ntmps83 ?_
 exact aGo (Y:=True) Zr trivial
abbrev cWt(e:EvD)(ps:List PkD)(b:BdD):List D:=cEv e++[.sl [[ZcN ps]],.sl [cBd b],dB true]
theorem new_c(ps:List PkD)(hl:ps.length≤100)(hps:posB e=true)(kr:Zaa Tryz.prog 49 [Zb3 e,ZcN ps] (dB true)) :
 Zae Tryz.prog 19 [Zb3 e,.sl [[ZcN ps]]] (.tup [.ep [cWt e ps (bdP e ps)] 0 0,dI 0]):=by
 have Zr:=Tryz.results19
 have hresF:=Tryz.results51
 have k0:=ZhK e h.L
 rw[h.f]at k0
 have k1:=own_c e h.f
 have k2:=h.poss
 rw[hps]at k2
 have k3:=Zz6 h ps hl
 have k4:=Zu7 (ps.map cPk) ⟨fun e he=>by obtain⟨u,_,rfl⟩:=Yc6.1 he;exact⟨rfl,rfl⟩,fun e he d hd=>by obtain⟨u,_,rfl⟩:=Yc6.1 he;simp only[cPk,List.mem_cons,List.not_mem_nil,or_false]at hd;rcases hd with rfl|rfl<;>exact⟨_,rfl⟩⟩ (by rw[Yc0];omega)
 generalize bdP e ps=b at *
 refine inC Tryz.func19 rfl Tryz.ntmps19 ?_
 refine aGo Zr ?_
 repeat with_reducible intro K hK
 refine aLe (Zdx 1 0 8 56 1 rfl rfl rfl) ?_
 simp only[go_sem]
 refine ZaF (fun(x:Nat)=>[(1,.sl [[ZcN ps]]),(2,.lp 0 0 0 0),(6,.lp 1 0 0 0),(21,.sl [[ZcN ps]]),(22,dI 1),(23,dI x)]) (fun x=>[(0,Zex e),(1,⟨114,0,11,[[dI e.m,dI e.h,dI e.s,ZiN e.pl,Zeg e.mv,Zi0 e.ce,ZfB e.re,ZhQ e.pu,.ls 2 x,.nil,dB false]],0,false⟩),(2,⟨56,x,1,[[ZcN ps]].take x,0,false⟩)]) 3 0 (fun x=>x≤1) (fun x=>1-x) 0 (Yb0 _) ?_ ?_
 ·exact leGo trivial
 rintro x hx
 rcases(show x=0∨x=1 by omega)with rfl|rfl
 ·refine aGo Zr ?_
  repeat with_reducible intro K hK
  exact Zaf 1 (by omega) (by omega) (by exact leGo trivial)
 ·refine aGo Zr ?_
  repeat with_reducible intro K hK
  refine ZcS Tryz.func51 rfl (by kernel_rfl) (by kernel_rfl) (by kernel_rfl) ?_
  rw[Tryz.ntmps51]
  refine aGo hresF ?_
  repeat with_reducible intro K hK
  refine aLe (Zef 6 64 10 rfl) ?_
  refine ZaF (fun(x:Nat)=>[(3,.lp 3 0 0 0),(6,.ls 4 x),(15,.ls 2 1),(16,dI 1),(17,dI x)]) (fun x=>[(0,Zex e),(1,⟨114,0,11,[[dI e.m,dI e.h,dI e.s,ZiN e.pl,Zeg e.mv,Zi0 e.ce,ZfB e.re,ZhQ e.pu,.ls 2 1,.nil,dB false]],0,false⟩),(2,⟨56,1,1,[[ZcN ps]],0,false⟩),(3,Zex e),(4,⟨64,x,10,[cBd b].take x,0,false⟩)]) 5 3 (fun x=>x≤1) (fun x=>1-x) 0 (Yb0 _) ?_ ?_
  ·(refine Zb2 _ _ _ ?_ ?_ ?_ ?_ ?_ (.inr lo35)<;>simp[go_sem,okD,okDs,Zcc])
  rintro x hx2
  rcases(show x=0∨x=1 by omega)with rfl|rfl
  ·refine aGo hresF ?_
   repeat with_reducible intro K hK
   exact Zaf 1 (by omega) (by omega) (by(refine Zb2 _ _ _ ?_ ?_ ?_ ?_ ?_ (.inr lo35)<;>simp[go_sem,okD,okDs,Zcc]))
  ·exact aGo (Y:=True) (cj2 hresF Zr) trivial
end
def oriE(e:EvD)(k:Nat):OriD:=(((ZfU e)[k]?).map Prod.snd).getD ⟨0,0,0,0⟩
noncomputable def ZgM (e:EvD):List OriD:=(Zf7 (sysE e)).map (oriE e)
theorem Zxs{s:SysD}:∀ k∈Zf7 s,k<s.r.length:=fun k hk=>by
 unfold Zf7 at hk
 split at hk
 ·exact ZhE _ _ hk
 ·cases hk
theorem Zn3{s:SysD}:(Zf7 s).length≤s.r.length:=by
 unfold Zf7
 split
 ·have h:(Zf6 (nsC s) s.r.length).Pairwise (·<·):=ZhD _ _ _
  have h2:∀ k∈Zf6 (nsC s) s.r.length,k<s.r.length:=fun k hk=>ZhE _ _ hk
  exact(Zmw (Zra h h2)).1
 ·exact Yb0 _
section
variable {e:EvD} (h:SusE e)
include h
theorem Zvi:Zae Tryz.prog 9 [Zb3 e] (.tup [.sl ((ZgM e).map cOri),dI 0]):=by
 have Zr:=Tryz.results9
 have k1:=ZpK e h.f (by have:=h.n;omega) (by have:=h.p;omega) h.L
 have k2:=Zn2 _ h.conf
 have lt:=Zxs (s:=sysE e)
 have ln:=Zn3 (s:=sysE e)
 have l32:=h.conf.l
 have hsl:(sysE e).r.length=(ZfU e).length:=by show((ZfU e).map (·.1)).length=_;rw[Yc0]
 have ko:∀ k∈Zf7 (sysE e),Zae Tryz.prog 35 [Zb3 e,dI k] (.tup [.agg (cOri (oriE e k)),dB true]):=fun k hk=>by
  have hk2:=lt k hk
  rw[hsl]at hk2
  obtain⟨w,o,ho⟩:∃ w o,(ZfU e)[k]? =some (w,o):=⟨_,_,Ya0 hk2⟩
  have:=Zwr e h.f (by have:=h.n;omega) (by have:=h.p;omega) h.L ho
  rw[show oriE e k=o by unfold oriE;rw[ho];rfl]
  exact this
 unfold ZgM
 generalize sysE e=s at k1 k2 lt ln l32 hsl ko ⊢
 generalize Zf7 s=R at k2 lt ln ko ⊢
 have lR:(R.length:Int)≤32:=by omega
 refine inC Tryz.func9 rfl Tryz.ntmps9 ?_
 refine aGo Zr ?_
 repeat with_reducible intro K hK
 refine aLe (Zef 7 52 4 rfl) ?_
 refine ZaF (fun(x:Nat×List OriD)=>[(1,.lp 0 0 0 0),(7,.ls 2 x.1),(27,Zad (ints R)),(28,dI R.length),(29,dI x.1)]) (fun x=>[(0,Zex e),(2,⟨52,x.1,4,x.2.map cOri,0,false⟩)]) 3 0 (fun x=>x.1≤R.length∧x.2=(R.take x.1).map (oriE e)) (fun x=>R.length-x.1) (0,[]) ⟨Yb0 _,rfl⟩ ?_ ?_
 ·exact leGo trivial
 rintro⟨i,Q⟩ ⟨hi,hQ⟩
 simp only at hi hQ
 obtain⟨hw,h0⟩:=ZaR i
 have hlQ:Q.length≤32:=by rw[hQ,Yc0,Yc1];omega
 by_cases h1:(i:Int)<R.length
 ·obtain⟨k,hk⟩:∃ k,R[i]? =some k:=⟨_,Ya0 (by omega)⟩
  have hkI:(ints R)[i]? =some (k:Int):=by rw[Yb8,hk];rfl
  have q:=ko k (Ya7 hk)
  have hts:Q++[oriE e k]=(R.take (i+1)).map (oriE e):=by rw[Yb4,hk,hQ];simp
  have hl2:(ints R).length=R.length:=by rw[Yc0]
  generalize oriE e k=o at q hts
  obtain⟨Z,eZ⟩:∃ Z,Q++[o]=Z:=⟨_,rfl⟩
  have hZ:Q.map cOri++[cOri o]=Z.map cOri:=by rw[← eZ];simp
  rw[eZ]at hts
  refine aGo (cj4 Zr h0 h1 (cj4 hkI hw hZ hl2)) ?_
  repeat with_reducible intro K hK
  exact Zaf (i+1,Z) ⟨by show i+1≤R.length;omega,hts⟩ (by show R.length-(i+1)<R.length-i;omega) (by exact leGo trivial)
 ·obtain rfl:i=R.length:=by omega
  refine aGo (cj2 Zr h1) ?_
  repeat with_reducible intro K hK
  rw[ZaG (fun _=>rfl),hQ,Ya8 (Ya4 _)]
end
theorem ZxV(e:EvD)(S:List Int)(b:Int)(hr:(e.re.length:Int)≤1000)(hS:(S.length:Int)≤1000):Zaa Tryz.prog 11 [Zb3 e,Zad S,dI b] (Zb3 (recE e (S.filter fun x=>x !=b))):=by
 have Zr:=Tryz.results11
 obtain⟨F,hF⟩:∃ F:Nat→List RecD,F=fun k=>e.re++((S.take k).filter fun x=>x !=b).map fun s=>⟨s,0⟩:=⟨_,rfl⟩
 have F0:F 0=e.re:=by rw[hF];simp
 have Fz:∀ k x,S[k]? =some x→(x !=b)=false→F (k+1)=F k:=fun k x hx h=>by
  rw[hF];simp only;rw[Yb4,hx,List.filter_append];simp[h]
 have Fs:∀ k x,S[k]? =some x→(x !=b)=true→F (k+1)=F k++[⟨x,0⟩]:=fun k x hx h=>by
  rw[hF];simp only;rw[Yb4,hx,List.filter_append];simp[h]
 have Fl:∀ k,(F k).length≤e.re.length+k:=fun k=>by
  rw[hF];simp only[Yb9,Yc0]
  have:=Yb1 (fun x=>x !=b) (S.take k)
  rw[Yc1]at this;omega
 have Fe:F S.length=(recE e (S.filter fun x=>x !=b)).re:=by rw[hF];simp only;rw[Ya8 (Ya4 _)];rfl
 have hc:=(Zy9 e.re).c
 refine inN Tryz.func11 rfl Tryz.ntmps11 fun I=>?_
 refine aGo (cj2 Zr hc) ?_
 repeat with_reducible intro K hK
 refine ZaF (fun(x:Nat×Nat×List RecD)=>[(1,Zad S),(2,dI b),(6,.lp 1 0 0 0),(7,.lp 2 0 0 0),(8,dI x.1)]) (fun x=>[(1,⟨28,0,8,[[dI 0,dI 0,dI 0,.nil,.nil,.nil,.nil,.nil]],0,false⟩),(2,⟨28,0,8,[[dI e.m,dI e.h,dI e.s,ZiN e.pl,Zeg e.mv,Zi0 e.ce,.ls 3 x.2.1,ZhQ e.pu]],0,false⟩),(3,⟨58,x.2.1,2,x.2.2.map cRe,0,false⟩)]) 4 0 (fun x=>x.1≤S.length∧x.2.2=F x.1) (fun x=>S.length-x.1) (0,1,e.re) ⟨Yb0 _,F0.symm⟩ ?_ ?_
 ·exact leGo trivial
 rintro⟨k,V,Q⟩ ⟨hk,hQ⟩
 simp only at hk hQ
 obtain⟨hw,h0⟩:=ZaR k
 have hlQ:(Q.length:Int)≤2000:=by have:=Fl k;rw[hQ];omega
 by_cases h1:(k:Int)<S.length
 ·obtain⟨x,hx⟩:∃ x,S[k]? =some x:=⟨_,Ya0 (by omega)⟩
  cases h2:(x !=b)
  ·have F1:=Fz k x hx h2
   rw[← hQ]at F1
   refine aGo (cj4 Zr h0 h1 (cj3 hx h2 hw)) ?_
   repeat with_reducible intro K hK
   exact Zaf (k+1,V,Q) ⟨by show k+1≤S.length;omega,F1.symm⟩ (by show S.length-(k+1)<S.length-k;omega) (by exact leGo trivial)
  ·have F1:=Fs k x hx h2
   rw[← hQ]at F1
   obtain⟨Z,eZ⟩:∃ Z,Q++[(⟨x,0⟩:RecD)]=Z:=⟨_,rfl⟩
   have hZ:Q.map cRe++[[dI x,dI 0]]=Z.map cRe:=by rw[← eZ];simp
   rw[eZ]at F1
   refine aGo (cj4 Zr h0 h1 (cj4 hx h2 hw hZ)) ?_
   repeat with_reducible intro K hK
   exact Zaf (k+1,V+1,Z) ⟨by show k+1≤S.length;omega,F1.symm⟩ (by show S.length-(k+1)<S.length-k;omega) (by exact leGo trivial)
 ·obtain rfl:k=S.length:=by omega
  refine aGo (cj2 Zr h1) ?_
  repeat with_reducible intro K hK
  rw[ZaG (fun _=>rfl),hQ,Fe];rfl
set_option maxHeartbeats 8000000
theorem has_c(l:List Int)(x:Int)(hl:l.length≤4096):Zaa Tryz.prog 12 [Zad l,dI x] (dB (l.any fun y=>y==x)):=by
 have Zr:=Tryz.results12
 refine inN Tryz.func12 rfl Tryz.ntmps12 fun I=>?_
 refine aGo Zr ?_
 repeat with_reducible intro K hK
 refine ZaF (fun(k:Nat)=>[(0,Zad l),(1,dI x),(5,dI k)]) (fun _=>[]) 0 0 (fun k=>k≤l.length∧(l.take k).any (fun y=>y==x)=false) (fun k=>l.length-k) 0 ⟨by omega,rfl⟩ ?_ ?_
 ·exact leGo trivial
 rintro k ⟨hk,hn⟩
 obtain⟨hw,h0⟩:=ZaR k
 by_cases h1:(k:Int)<l.length
 ·obtain⟨y,hx⟩:=getE (l:=l) (k:=k) (by omega)
  cases h2:(y==x)
  ·refine aGo (cj4 Zr h0 h1 (cj3 hx hw h2)) ?_
   repeat with_reducible intro K hK
   exact Zaf (k+1) ⟨by omega,ZhY hx hn h2⟩ (by omega) (by exact leGo trivial)
  ·refine aGo (cj4 Zr h0 h1 (cj3 hx hw h2)) ?_
   repeat with_reducible intro K hK
   exact Zaj (Zyq (p:=fun y=>y==x) hx h2).symm
 ·rw[Ya8 (by omega)]at hn
  refine aGo (cj2 Zr h1) ?_
  repeat with_reducible intro K hK
  exact Zaj hn.symm
theorem ZyX(a b:List Int)(ha:a.length≤4096)(hb:b.length≤4096):Zaa Tryz.prog 24 [Zad a,Zad b] (dB (a==b)):=by
 have Zr:=Tryz.results24
 refine inN Tryz.func24 rfl Tryz.ntmps24 fun I=>?_
 by_cases hl:a.length=b.length
 rotate_left
 ·have hl':((a.length:Int) !=(b.length:Int))=true:=by simp;omega
  refine aGo (cj2 Zr hl') ?_
  repeat with_reducible intro K hK
  exact Zaj (by simp;intro e;exact hl (by rw[e]))
 have hl':((a.length:Int) !=(b.length:Int))=false:=by simp;omega
 refine aGo (cj2 Zr hl') ?_
 repeat with_reducible intro K hK
 refine ZaF (fun(k:Nat)=>[(0,Zad a),(1,Zad b),(5,dI k)]) (fun _=>[]) 0 0 (fun k=>k≤a.length∧a.take k=b.take k) (fun k=>a.length-k) 0 ⟨by omega,rfl⟩ ?_ ?_
 ·exact leGo trivial
 rintro k ⟨hk,hn⟩
 obtain⟨hw,h0⟩:=ZaR k
 by_cases h1:(k:Int)<a.length
 ·obtain⟨x,hx⟩:=getE (l:=a) (k:=k) (by omega)
  obtain⟨y,hy⟩:=getE (l:=b) (k:=k) (by omega)
  by_cases h2:x=y
  ·have h2':(x !=y)=false:=by simp[h2]
   have hn2:a.take (k+1)=b.take (k+1):=by rw[Yb4,Yb4,hx,hy,hn,h2]
   refine aGo (cj4 Zr h0 h1 (cj4 hx hy hw h2')) ?_
   repeat with_reducible intro K hK
   exact Zaf (k+1) ⟨by omega,hn2⟩ (by omega) (by exact leGo trivial)
  ·have h2':(x !=y)=true:=by simpa using h2
   have hf:(a==b)=false:=by
    simp
    intro e
    subst e
    rw[hx]at hy
    exact h2 (Option.some.inj hy)
   refine aGo (cj4 Zr h0 h1 (cj3 hx hy h2')) ?_
   repeat with_reducible intro K hK
   exact Zaj hf.symm
 ·have hf:(a==b)=true:=by
   rw[Ya8 (by omega),Ya8 (by omega)]at hn
   simpa using hn
  refine aGo (cj2 Zr h1) ?_
  repeat with_reducible intro K hK
  exact Zaj hf.symm
def Zc3(e:EvD)(mv m:Int):Bool :=
 !(decide (e.m>m)||(decide (e.h>6)||(decide (e.s>6)||decide ((e.pl.length:Int)>12))))&&(decide ((e.mv.length:Int)≤mv)&&(decide ((e.ce.length:Int)≤10)&&(decide ((e.re.length:Int)≤4)&&decide ((e.pu.length:Int)≤6))))
theorem Ztc(e:EvD)(mv m:Int):Zaa Tryz.prog 25 [Zb3 e,dI mv,dI m] (dB (Zc3 e mv m)):=by
 have Zr:=Tryz.results25
 refine inN Tryz.func25 rfl Tryz.ntmps25 fun I=>?_
 obtain⟨b,hb⟩:∃ b,Zc3 e mv m=b:=⟨_,rfl⟩
 rw[hb]
 by_cases h1:e.m>m
 ·refine aGo (cj2 Zr h1) ?_
  repeat with_reducible intro K hK
  exact Zaj (by rw[← hb];simp[Zc3,h1])
 by_cases h2:e.h>6
 ·refine aGo (cj3 Zr h1 h2) ?_
  repeat with_reducible intro K hK
  exact Zaj (by rw[← hb];simp[Zc3,h2])
 by_cases h3:e.s>6
 ·refine aGo (cj4 Zr h1 h2 h3) ?_
  repeat with_reducible intro K hK
  exact Zaj (by rw[← hb];simp[Zc3,h3])
 by_cases h4:(e.pl.length:Int)>12
 ·refine aGo (cj4 Zr h1 h2 (cj2 h3 h4)) ?_
  repeat with_reducible intro K hK
  exact Zaj (by rw[← hb];have:decide ((e.pl.length:Int)>12)=true:=decide_eq_true h4;simp only[Zc3,this,Bool.or_true,Bool.not_true,Bool.false_and])
 have g4:(decide (e.m>m)||(decide (e.h>6)||(decide (e.s>6)||decide ((e.pl.length:Int)>12))))=false:=by rw[decide_eq_false h1,decide_eq_false h2,decide_eq_false h3,decide_eq_false h4];rfl
 by_cases h5:(e.mv.length:Int)≤mv
 rotate_left
 ·refine aGo (cj4 Zr h1 h2 (cj3 h3 h4 h5)) ?_
  repeat with_reducible intro K hK
  exact Zaj (by rw[← hb];unfold Zc3;rw[g4,decide_eq_false h5];rfl)
 by_cases h6:(e.ce.length:Int)≤10
 rotate_left
 ·refine aGo (cj4 Zr h1 h2 (cj4 h3 h4 h5 h6)) ?_
  repeat with_reducible intro K hK
  exact Zaj (by rw[← hb];unfold Zc3;rw[g4,decide_eq_true h5,decide_eq_false h6];rfl)
 by_cases h7:(e.re.length:Int)≤4
 rotate_left
 ·refine aGo (cj4 Zr h1 h2 (cj4 h3 h4 h5 (cj2 h6 h7))) ?_
  repeat with_reducible intro K hK
  exact Zaj (by rw[← hb];unfold Zc3;rw[g4,decide_eq_true h5,decide_eq_true h6,decide_eq_false h7];rfl)
 refine aGo (cj4 Zr h1 h2 (cj4 h3 h4 h5 (cj2 h6 h7))) ?_
 repeat with_reducible intro K hK
 exact Zaj (by rw[← hb];unfold Zc3;rw[g4,decide_eq_true h5,decide_eq_true h6,decide_eq_true h7];rfl)
theorem ZAP:eqTy Tryz.prog 52=true:=by kernel_rfl
theorem ptrWt:ZrS Tryz.prog 70=true:=by kernel_rfl
theorem tyfWt:tyOf Tryz.prog 70=some ⟨0,1,8,some [.v (.pointer none)],0,none,[]⟩:=by kernel_rfl
attribute [local go_sem] ZAP ptrWt eqL tyfWt
def pk0:PkD:=⟨0,0⟩
theorem ZlG:SusE (exW 23):=⟨Zph,⟨by decide,by decide,by decide,by decide,by decide⟩,by decide,by decide,by decide⟩
theorem ZvQ:SusE (exW 25):=⟨ZuH,⟨by decide,by decide,by decide,by decide,by decide⟩,by decide,by decide,by decide⟩
theorem pos23:posB (exW 23)=true:=(Zed Zph ZlG.conf.r).2 ZxY
theorem pos25:posB (exW 25)=false:=by
 cases h:posB (exW 25)
 ·rfl
 ·exact absurd ((Zed ZuH ZvQ.conf.r).1 h) ZA4
theorem ZAr:Zem (exW 25)=[0]:=by
 have U:=Zjv (exW 25)
 have hm:∀ s,s∈Zem (exW 25)↔s=0:=fun s=>by
  rw[U.mem s]
  constructor
  ·rintro⟨_,x,hx,rfl⟩
   simp only[exW,List.mem_cons,List.not_mem_nil,or_false]at hx
   rcases hx with rfl|rfl<;>rfl
  ·rintro rfl
   exact⟨by decide,⟨3,0,1,0,20,false⟩,by simp[exW],rfl⟩
 have nd:=U.nd
 generalize Zem (exW 25)=l at hm nd
 match l,hm,nd with
 | [],hm,_=>have:=(hm 0).2 rfl;cases this
 | [a],hm,_=>rw[(hm a).1 (by simp)]
 | a ::b ::l,hm,nd =>
   have ha:=(hm a).1 (by simp)
   have hb:=(hm b).1 (by simp)
   rw[ha,hb]at nd
   simp at nd
theorem ZAJ:Zhd (exW 25)=[[0]]:=by
 have hw:posB (Zam (exW 25) [0])=true:=(Zed ZBD (ZvQ.without [0]).conf.r).2 posWo
 unfold Zhd
 rw[pos25,if_neg Yc5,ZAr]
 have:Zbd (fun S=>posB (Zam (exW 25) S)) [0] 1 []=[[0]]:=by
  rw[Zbd,Zea]
  simp only[Yc8,hw,if_true]
  rfl
 show ZcW _ [0] 1 1=_
 rw[ZcW,this];rfl
theorem Zz7:∃ b c,ZgM (exW 25)=[⟨2,0,-1,-1⟩,b,c]:=by
 have h1:Zf7 (sysE (exW 25))=[1,2,3]:=by
  unfold Zf7
  rw[ZxQ]
  have:nsC (sW 23 27) (List.range (sW 23 27).r.length)=true:=ZtZ ZoH fun x=>noW x (by decide) (by decide) (by decide)
  rw[this,if_pos rfl]
  exact confW
 unfold ZgM
 rw[h1]
 have h2:oriE (exW 25) 1=⟨2,0,-1,-1⟩:=by kernel_rfl
 exact⟨_,_,by rw[List.map_cons,h2];rfl⟩
theorem Zlm:Zdq (exW 23) [pk0]=([oneT 0],true):=by
 have:Zdg (exW 23) [pk0]=[0]:=by simp[Zdg,varP,pk0]
 unfold Zdq
 rw[this];rfl
theorem ZAR:(rngP (exW 23) [pk0]).2=0∧bdP (exW 23) [pk0]=⟨ofQ 21,ofQ 22,true,true⟩:=by
 rcases ZBS ZlG [pk0] (by rw[Zlm])with⟨_,h⟩|⟨h1,_,h2⟩
 ·obtain⟨x,hx⟩:=ZxY
  rw[h x]at hx;cases hx
 ·rw[Zlm,ZpL]at h2
  exact⟨h1,bdW h2⟩
theorem Zwk:Zes (exW 23) [pk0] (rngP (exW 23) [pk0]).1.1 (rngP (exW 23) [pk0]).1.2=true:=by
 obtain⟨h1,h2⟩:=ZAR
 have hs:=ZlG.conf.r
 have hg:Zai [oneT 0] (sysE (exW 23)).n=true:=by
  have:=Zgp (e:=exW 23) (ps:=[pk0]) (by decide)
  rwa [Zlm]at this
 have e1:rngP (exW 23) [pk0]=Zbn (sysE (exW 23)) [oneT 0]:=by unfold rngP;rw[Zlm,if_pos rfl]
 have hsort:Zdg (exW 23) [pk0]=[0]:=by simp[Zdg,varP,pk0]
 unfold bdP at h2
 rw[e1]at h1 h2 ⊢
 have er:Zbn (sysE (exW 23)) [oneT 0]=if (Zax (sysE (exW 23)) [oneT 0]).k=1 then((zO,zO),15)else((Zax (sysE (exW 23)) [oneT 0],Zax (sysE (exW 23)) (oppT [oneT 0])),0):=by unfold Zbn;rw[hs,hg];rfl
 have hc1:=Zcd hs hg
 have hc2:=Zcd hs (ZfQ hg)
 by_cases hk:(Zax (sysE (exW 23)) [oneT 0]).k=1
 ·rw[er,if_pos hk]at h1;cases h1
 ·rw[if_neg hk]at er
  rw[er]at h2 ⊢
  simp only at h2 ⊢
  have hlo:=congrArg BdD.lo h2
  have hhi:=congrArg BdD.hi h2
  have k1:(Zax (sysE (exW 23)) [oneT 0]).k=0:=by simpa[Zda]using hlo
  have k2:(Zax (sysE (exW 23)) (oppT [oneT 0])).k=0:=by simpa[Zda]using hhi
  unfold Zes
  rw[hsort]
  show(decide _&&(decide _&&(ZjW (exW 23) [pk0] 1&&(Zch _ [oneT 0] _&&Zch _ (oppT [oneT 0]) _))))=true
  rw[hc1,hc2,k1,k2];rfl
theorem fit23(g:List Zah)(h1:g.length≤2)(h2:∀ t∈g,szF t.f≤1):Fit (sysE (exW 23)) g 1 2:=by
 rw[ZpL]
 refine⟨by decide,fun _=>by decide,fun _=>.inl (by decide),?_,⟨by omega,h2⟩,by decide,by decide⟩
 intro w hw
 simp only[sW,List.mem_cons,List.not_mem_nil,or_false]at hw
 have s1:szF (ofQ 1)≤1:=by decide +kernel
 have s2:szF (ofQ (-1))≤1:=by decide +kernel
 rcases hw with rfl|rfl|rfl|rfl|rfl
 ·exact⟨by decide,by decide +kernel,fun t ht=>by simp only[List.mem_cons,List.not_mem_nil,or_false]at ht;subst ht;exact s1⟩
 ·exact⟨by decide,by decide +kernel,fun t ht=>by simp only[List.mem_cons,List.not_mem_nil,or_false]at ht;subst ht;exact s1⟩
 ·exact⟨by decide,by decide +kernel,fun t ht=>by simp only[List.mem_cons,List.not_mem_nil,or_false]at ht;rcases ht with rfl|rfl;exact s1;exact s2⟩
 ·exact⟨by decide,by decide +kernel,fun t ht=>by simp only[List.mem_cons,List.not_mem_nil,or_false]at ht;subst ht;exact s1⟩
 ·exact⟨by decide,by decide +kernel,fun t ht=>by simp only[List.mem_cons,List.not_mem_nil,or_false]at ht;subst ht;exact s1⟩
theorem tn23:tnO (rngP (exW 23) [pk0]).1.1∧tnO (rngP (exW 23) [pk0]).1.2:=by
 have hs:=ZlG.conf.r
 have hg:Zai [oneT 0] (sysE (exW 23)).n=true:=by
  have:=Zgp (e:=exW 23) (ps:=[pk0]) (by decide)
  rwa [Zlm]at this
 have e1:rngP (exW 23) [pk0]=Zbn (sysE (exW 23)) [oneT 0]:=by unfold rngP;rw[Zlm,if_pos rfl]
 have f1:=fit23 [oneT 0] (by decide) (fun t ht=>by rw[List.mem_singleton]at ht;subst ht;decide +kernel)
 have hn2:(sysE (exW 23)).n=2:=by rw[ZpL];rfl
 have hN:((sysE (exW 23)).n.toNat+1)*(Dic.grow 1 2+1+1)≤262144:=by rw[hn2];decide
 have o1:(oppT [oneT 0]).length=1:=by decide +kernel
 have t1:=Znv f1 hN (by decide) hs hg
 have t2:=Znv f1.opp hN (by rw[o1];decide) hs (ZfQ hg)
 have tz:tnO zO:=⟨by unfold tnF;decide,⟨by decide,fun f hf=>by cases hf⟩,⟨by decide,fun f hf=>by cases hf⟩,⟨by decide,fun f hf=>by cases hf⟩⟩
 rw[e1]
 unfold Zbn
 rw[hs,hg]
 simp only[Bool.and_self,if_true]
 split
 ·exact⟨tz,tz⟩
 ·exact⟨t1,t2⟩
noncomputable def fsX:List (FuncId×Func):=[(18,Tryz.f18)]
theorem Zyd:∀ p∈fsX,Tryz.prog.funcs[p.1]? =some p.2∧ZnE Tryz.prog p=true:=by
 unfold fsX
 simp only[List.forall_mem_cons,List.not_mem_nil,false_implies,implies_true,and_true]
 exact⟨Tryz.func18,by kernel_rfl⟩
theorem ZBL:Zaa Tryz.prog 18 [dI 23] (Zb3 (exW 23)) :=
 ZnR (ora:=Zr2) (inB:=fun _=>false) (L:=100) (k:=10) mixed Zyd Zhu (by kernel_rfl)
theorem ZBK:Zaa Tryz.prog 18 [dI 25] (Zb3 (exW 25)) :=
 ZnR (ora:=Zr2) (inB:=fun _=>false) (L:=100) (k:=10) mixed Zyd Zhu (by kernel_rfl)
noncomputable def fsR:List (FuncId×Func):=[(49,Tryz.f49),(55,Tryz.f55),(86,Tryz.f86)]
theorem ZBA:∀ p∈fsR,Tryz.prog.funcs[p.1]? =some p.2∧ZnE Tryz.prog p=true:=by
 unfold fsR
 simp only[List.forall_mem_cons,List.not_mem_nil,false_implies,implies_true,and_true]
 exact⟨⟨Tryz.func49,by kernel_rfl⟩,⟨Tryz.func55,by kernel_rfl⟩,⟨Tryz.func86,by kernel_rfl⟩⟩
theorem Ztr:Zaa Tryz.prog 49 [Zb3 (exW 23),ZcN [pk0]] (dB true) :=
 ZnR (ora:=Zr2) (inB:=fun _=>false) (L:=100) (k:=10) mixed ZBA Zhu (by kernel_rfl)
theorem ZyW(a:BdD)(zl:(szF a.l:Int)≤4456448)(zh:(szF a.h:Int)≤4456448):Zaa Tryz.prog 15 [Zpm a,Zpm a] (dB true):=by
 have Zr:=Tryz.results15
 have s1:=(Zp2 a.l a.l (by omega)).toN rfl
 have s2:=(Zp2 a.h a.h (by omega)).toN rfl
 rw[Zc4]at s1 s2
 obtain⟨l,h,lo,hi⟩:=a
 simp only at s1 s2
 refine inN Tryz.func15 rfl Tryz.ntmps15 fun I=>?_
 exact aGo Zr trivial
theorem neg2(q:Rat):negD (negD (ofQ q))=ofQ q:=by rw[ZlY,ZlY];congr 1;grind
theorem Zwb(e:EvD)(ps:List PkD)(a b:Rat)(za:(szQ a:Int)≤4456448)(zb:(szQ b:Int)≤4456448):Zae Tryz.prog 20 [.ep [cWt e ps ⟨ofQ a,ofQ b,true,true⟩] 0 0] (.tup [.sl [cBd ⟨ofQ a,ofQ b,true,true⟩],dI 0]):=by
 have Zr:=Tryz.results20
 have k1:=ZuD ⟨ofQ a,ofQ b,true,true⟩ za zb
 simp only[neg2]at k1
 refine inC Tryz.func20 rfl Tryz.ntmps20 ?_
 refine aGo Zr ?_
 repeat with_reducible intro K hK
 refine aLe (Zef 4 64 10 rfl) ?_
 refine ZaF (fun(x:Nat)=>[(4,.ls 0 x),(15,.sl [cBd ⟨ofQ a,ofQ b,true,true⟩]),(16,dI 1),(17,dI x)]) (fun x=>[(0,⟨64,x,10,[cBd ⟨ofQ a,ofQ b,true,true⟩].take x,0,false⟩)]) 1 0 (fun x=>x≤1) (fun x=>1-x) 0 (Yb0 _) ?_ ?_
 ·exact leGo trivial
 rintro x hx
 rcases(show x=0∨x=1 by omega)with rfl|rfl
 ·refine aGo Zr ?_
  repeat with_reducible intro K hK
  exact Zaf 1 (Ya4 1) (by omega) (by exact leGo trivial)
 ·exact aGo Zr trivial
theorem ZlC:Zae Tryz.prog 5 [] (dB true):=by
 have Zr:=Tryz.results5
 obtain⟨r0,b0⟩:=ZAR
 have c1:=ZBL
 have c2:=ZBK
 have c3:=Zqb ZlG [pk0] (by decide)
 have c4:=Zyp ZlG [pk0]
 have c5:=ZkQ ZvQ
 have c6:=Zvi ZvQ
 have c7:=new_c ZlG [pk0] (by decide) pos23 Ztr
 have sz1:(szQ 21:Int)≤4456448:=by decide +kernel
 have sz2:(szQ 22:Int)≤4456448:=by decide +kernel
 have c8:=Zwb (exW 23) [pk0] 21 22 sz1 sz2
 have c9:=Zmg (ofQ 21) (ofQ 21)
 have c10:=Zmg (ofQ 22) (ofQ 22)
 have c11:=ZfY 21 (by decide) (by decide)
 have c12:=ZfY 22 (by decide) (by decide)
 obtain⟨t1,t2⟩:=tn23
 have c13:=Zwj Zph ZlG.L (by decide) (by decide) [pk0] (by decide) _ _ ZlG.conf.fit0.tn t1 t2
 have c14:=ZyW ⟨ofQ 21,ofQ 22,true,true⟩ sz1 sz2
 have c15:=ZyX [0] [0] (by decide) (by decide)
 rw[show(([0]:List Int)==[0])=true by decide]at c15
 rw[Zc4]at c9 c10
 rw[show(((21:Int):Int):Rat)=21 from rfl]at c11
 rw[show(((22:Int):Int):Rat)=22 from rfl]at c12
 rw[Zwk]at c13
 rw[b0]at c4 c7
 rw[r0]at c3
 rw[ZAJ]at c5
 obtain⟨o1,o2,ob⟩:=Zz7
 rw[ob]at c6
 generalize (rngP (exW 23) [pk0]).1.1=A at c3 c4 c13
 generalize (rngP (exW 23) [pk0]).1.2=B at c3 c4 c13
 generalize exW 23=E at c1 c3 c7 c8 c13
 generalize exW 25=F at c2 c5 c6
 generalize ofQ 21=Q1 at *
 generalize ofQ 22=Q2 at *
 clear ob b0 r0 t1 t2
 refine inC Tryz.func5 rfl Tryz.ntmps5 ?_
 refine Zi2 (n:=2) ⟨⟩ Zr ?_
 repeat with_reducible intro K hK
 refine aLe ((ZgY 0 rfl).trans (Zim 1 5)) ?_
 simp only[go_sem,fzT]
 exact aGo Zr trivial
abbrev zRng:D:=.agg [dI 0,dI 0,.sl [],dI 0,.sl [],.sl [],.sl [],.sl [],dI 0,dI 0,.sl [],dI 0,.sl [],.sl [],.sl [],.sl []]
noncomputable def fsO:List (FuncId×Func):=[(26,Tryz.f26),(59,Tryz.f59),(60,Tryz.f60)]
theorem ZBB:∀ p∈fsO,Tryz.prog.funcs[p.1]? =some p.2∧ZnE Tryz.prog p=true:=by
 unfold fsO
 simp only[List.forall_mem_cons,List.not_mem_nil,false_implies,implies_true,and_true]
 exact⟨⟨Tryz.func26,by kernel_rfl⟩,⟨Tryz.func59,by kernel_rfl⟩,⟨Tryz.func60,by kernel_rfl⟩⟩
theorem ZBG:Zaa Tryz.prog 26 [.agg [dI 0,dI 0,.sl [],dI 0,.sl [],.sl [],.sl [],.sl []],dI 60,dI 40] (dB true) :=
 ZnR (ora:=Zr2) (inB:=fun _=>false) (L:=100) (k:=10) mixed ZBB Zhu (by kernel_rfl)
def Zxf(e:EvD)(n:Nat):Bool:=Zc3 e 4 2&&(decide ((e.pu.length:Int)≤3)&&decide ((n:Int)≤20))
theorem ZzT(e:EvD)(ps:List PkD):Zaa Tryz.prog 6 [Zb3 e,ZcN ps,zRng,dI 4,dI 2] (dB (Zxf e ps.length)):=by
 have Zr:=Tryz.results6
 have k1:=Ztc e 4 2
 have k2:=ZBG
 unfold Zxf
 refine inN Tryz.func6 rfl Tryz.ntmps6 fun I=>?_
 cases h1:Zc3 e 4 2
 ·rw[h1]at k1
  exact aGo Zr trivial
 rw[h1]at k1
 by_cases h2:(e.pu.length:Int)≤3
 ·by_cases h3:(ps.length:Int)≤20
  ·exact aGo (cj3 Zr h2 h3) trivial
  ·exact aGo (cj3 Zr h2 h3) trivial
 ·exact aGo (cj2 Zr h2) trivial
section
variable {e:EvD} (h:SusE e)
include h
theorem SusE.recs{S:List Int}(hr:e.re.length≤4)(hS:S.Sublist (Zem e)):SusE (recE e S):=by
 have Ri:=Zc8 h.f
 have hl:S.length≤4:=by have:=hS.length_le;have:=Zi4 e;have:=h.n;omega
 have hlr:(recE e S).re.length=e.re.length+S.length:=by simp[recE]
 refine⟨Zxc S h.f (by omega) fun s hs=>?_,⟨h.L.pl,h.L.mv,h.L.ce,by rw[hlr];omega,h.L.pu⟩,h.n,h.m,h.p⟩
 obtain⟨h1,x,hx,rfl⟩:=((Zjv e).mem s).1 (hS.mem hs)
 exact((Ri.mv x hx).s h1).1
theorem Zqf{S:List Int}(hr:e.re.length≤4)(hS:S.Sublist (Zem e)):posB (recE e S)=posB (Zam e S):=by
 have h1:=(h.recs hr hS).f
 have h2:=(h.without S).f
 have hs:=ZyJ (Zc8 h.f) S
 unfold posB
 rw[h1,h2,hs]
theorem posP(S:List Int):posB (Zam e S)=true↔PosE (Zam e S):=Zed (h.without S).f (h.without S).conf.r
theorem Zxr(hp:posB e=true):ZgM e=[]:=by
 obtain⟨x,hx⟩:=(Zed h.f h.conf.r).1 hp
 have hn:nsC (sysE e) (List.range (sysE e).r.length)=false:=by
  cases hc:nsC (sysE e) (List.range (sysE e).r.length)
  ·rfl
  ·obtain⟨_,hl,ho,hn,hall⟩:=Zb1.1 hx
   obtain⟨i,hi,w,hw,hf⟩:=Zfk.1 hc x ⟨hl,ho,hn⟩
   rw[Ya6.1 hall w (Ya7 hw)]at hf
   cases hf
 unfold ZgM Zf7
 rw[hn];rfl
theorem ZzY(hp:posB e=false):nsC (sysE e) (Zf7 (sysE e))=true:=by
 have hn:nsC (sysE e) (List.range (sysE e).r.length)=true:=by
  refine Zfk.2 fun x hx=>?_
  apply Classical.byContradiction
  intro hc
  have:ZaI (sysE e) x=true:=by
   refine Zb1.2 ⟨h.conf.r,hx.l,hx.o,hx.n,Ya6.2 fun w hw=>?_⟩
   obtain⟨i,hi⟩:=List.getElem?_of_mem hw
   cases hh:Zb4 w x
   ·exact absurd ⟨i,Yd2.2 (Ya3.1 hi).1,w,hi,hh⟩ hc
   ·rfl
  rw[(Zed h.f h.conf.r).2 ⟨x,this⟩]at hp
  cases hp
 unfold Zf7
 rw[hn,if_pos rfl]
 exact ZqE hn _
def Zhw(e:EvD)(S:List Int)(o:OriD):Bool:=(o.k==1||o.k==2)&&(decide (0≤o.v)&&(decide (o.v<e.mv.length)&&S.any fun y=>y==(mvAt e o.v.toNat).s))
theorem ZvP(hp:posB e=false){S:List Int}(hS:S∈Zhd e) :
 posB (Zam e S)=true∧S.Sublist (Zem e)∧1≤S.length∧(∀ s∈S,posB (Zam e (S.filter fun x=>x !=s))=false)∧(ZgM e).any (Zhw e S)=true:=by
 have Ri:=Zc8 h.f
 have U:=Zjv e
 have hno:¬ PosE e:=fun hc=>by rw[(Zed h.f h.conf.r).2 hc]at hp;cases hp
 unfold Zhd at hS
 rw[hp,if_neg Yc5]at hS
 obtain⟨h1,h2,h3,h4⟩:=ZvO Ri U (P:=fun S=>posB (Zam e S)) (fun S=>posP h S) hno hS
 refine⟨h1,h2,h3,h4,?_⟩
 obtain⟨k,hk,w,o,hm,hkk,i,hi,hin,hs⟩:=Zro Ri U (P:=fun S=>posB (Zam e S)) (fun S=>posP h S) hno h1 h.conf.r (ZzY h hp)
 refine List.any_eq_true.2 ⟨o,Yc6.2 ⟨k,hk,by unfold oriE;rw[hm];rfl⟩,?_⟩
 unfold Zhw
 have e1:(o.k==1||o.k==2)=true:=by rcases hkk with h|h<;>simp[h]
 rw[e1,hi,decide_eq_true (by omega),decide_eq_true (by omega),Int.toNat_natCast]
 simp only[Bool.true_and]
 exact List.any_eq_true.2 ⟨_,hs,by simp⟩
theorem ZyL(hp:posB e=false):Zhd e≠[]:=by
 have hno:¬ PosE e:=fun hc=>by rw[(Zed h.f h.conf.r).2 hc]at hp;cases hp
 unfold Zhd
 rw[hp,if_neg Yc5]
 exact Zs2 (Zc8 h.f) (Zjv e) (P:=fun S=>posB (Zam e S)) (fun S=>posP h S) hno (by have:=h.n;omega) (by have:=h.p;omega)
end
theorem Zsk{S:List Int}{b:Int}(h:b∉S):S.filter (fun x=>x !=b)=S:=by
 rw[List.filter_eq_self]
 intro a ha
 simp only[bne_iff_ne,ne_eq]
 rintro rfl;exact h ha
theorem ZkB(e:EvD):Zae Tryz.prog 3 [Zb3 e] (dB true):=by
 have Zr:=Tryz.results3
 have c0:=ZlC
 have c1:=ZzT e []
 refine inC Tryz.func3 rfl Tryz.ntmps3 ?_
 cases f1:Zxf e 0
 ·rw[show([]:List PkD).length=0 from rfl,f1]at c1
  exact aGo Zr trivial
 rw[show([]:List PkD).length=0 from rfl,f1]at c1
 by_cases f2:(e.pu.length:Int)>2
 ·exact aGo (cj2 Zr f2) trivial
 have hsm:=f1
 simp only[Zxf,Zc3,Ya2,Bool.not_eq_true',Bool.or_eq_false_iff,decide_eq_true_eq,decide_eq_false_iff_not]at hsm
 obtain⟨⟨⟨m1,m2,m3,m4⟩,m5,m6,m7,m8⟩,_,_⟩:=hsm
 have L:LenE e:=⟨by omega,by omega,by omega,by omega,by omega⟩
 have c2:=ZhK e L
 by_cases f3:Zb5 e=0
 rotate_left
 ·have f3b:(Zb5 e !=0)=true:=by simpa using f3
  exact aGo (cj3 Zr f2 f3b) trivial
 rw[f3]at c2
 have h:SusE e:=⟨f3,L,by omega,by omega,by omega⟩
 have c3:=ZkQ h
 have c4:=Zvi h
 have c5:=h.poss
 cases hp:posB e
 rotate_left
 ·have e1:Zhd e=[]:=by unfold Zhd;rw[hp,if_pos rfl]
  rw[e1]at c3
  rw[Zxr h hp]at c4
  rw[hp]at c5
  exact aGo (cj2 Zr f2) trivial
 rw[hp]at c5
 have hlaw:=fun S hS=>ZvP h hp (S:=S) hS
 have hne:=ZyL h hp
 have hbl:(ZgM e).length≤32:=by unfold ZgM;rw[Yc0];have:=Zn3 (s:=sysE e);have:=h.conf.l;omega
 have hsl:(Zhd e).length≤4096:=by
  have hex:∃ (P:List Int→Bool)(u:List Int),u.length≤12∧Zhd e=ZcW P u 1 u.length:=⟨_,Zem e,by have:=Zi4 e;have:=h.n;omega,by unfold Zhd;rw[hp,if_neg Yc5]⟩
  obtain⟨P,u,hu,eq⟩:=hex
  rw[eq]
  have:∀ n k,(ZcW P u k n).length≤2^u.length:=by
   intro n
   induction n with
   | zero=>intro k;simp[ZcW]
   | succ n ih=>intro k;unfold ZcW;split;exact ih _;exact ZeF P u k []
  have h2:(2:Nat)^u.length≤2^12:=Nat.pow_le_pow_right (by decide) hu
  have:=this u.length 1
  omega
 generalize ZgM e=B at c4 hlaw hbl
 generalize Zhd e=W at c3 hlaw hne hsl
 refine aGo (cj2 Zr f2) ?_
 repeat with_reducible intro K hK
 clear c0 c1 c2 c3 c4 c5
 refine ZaF (fun(i:Nat)=>[(1,.lp 0 0 0 0),(3,dB true),(4,Zpl W),(6,.sl (B.map cOri)),(8,dI i)]) (fun _=>[(0,Zex e)]) 1 0 (fun i=>i≤W.length) (fun i=>W.length-i) 0 (Yb0 _) ?_ ?_
 ·exact leGo trivial
 rintro i hi
 obtain⟨hw,i0⟩:=ZaR i
 by_cases h1:(i:Int)<W.length
 rotate_left
 ·have h2:(W.length:Int)>0:=by
   cases W with
   | nil=>exact absurd rfl hne
   | cons _ _=>simp only[List.length_cons];omega
  exact aGo (cj3 Zr h1 h2) trivial
 obtain⟨S,hS⟩:∃ S,W[i]? =some S:=⟨_,Ya0 (by omega)⟩
 obtain⟨p1,p2,p3,p4,p5⟩:=hlaw S (Ya7 hS)
 have hS4:S.length≤4:=by have:=p2.length_le;have:=Zi4 e;have:=h.n;omega
 have hno:(-1:Int)∉S:=fun hm=>(((Zjv e).mem _).1 (p2.mem hm)).1 rfl
 have q1:=ZxV e S (-1) (by omega) (by omega)
 rw[Zsk hno]at q1
 have hre:e.re.length≤4:=by omega
 have q2:=(h.recs hre p2).poss
 rw[Zqf h hre p2,p1]at q2
 have h2:((S.length:Int)==0)=false:=beq_eq_false_iff_ne.2 (by omega)
 refine aGo (cj4 Zr h1 i0 (cj2 hS h2)) ?_
 repeat with_reducible intro K hK
 clear q1 q2
 refine ZaF (fun(k:Nat)=>[(1,.lp 0 0 0 0),(3,dB true),(4,Zpl W),(6,.sl (B.map cOri)),(8,dI i),(9,dI k)]) (fun _=>[(0,Zex e)]) 1 0 (fun k=>k≤S.length) (fun k=>S.length-k) 0 (Yb0 _) ?_ ?_
 ·exact leGo trivial
 rintro k hk
 obtain⟨hwk,k0⟩:=ZaR k
 by_cases h3:(k:Int)<S.length
 ·obtain⟨s,hs⟩:∃ s,S[k]? =some s:=⟨_,Ya0 (by omega)⟩
  have q3:=ZxV e S s (by omega) (by omega)
  have psub:(S.filter fun x=>x !=s).Sublist (Zem e):=List.filter_sublist.trans p2
  have q4:=(h.recs hre psub).poss
  rw[Zqf h hre psub,p4 s (Ya7 hs)]at q4
  refine aGo (cj4 Zr h3 i0 (cj4 k0 hS hs hwk)) ?_
  repeat with_reducible intro K hK
  exact Zaf (k+1) (by omega) (by omega) (by exact leGo trivial)
 refine aGo (cj4 Zr h3 i0 hS) ?_
 repeat with_reducible intro K hK
 refine ZaF (fun(k:Nat)=>[(1,.lp 0 0 0 0),(3,dB true),(4,Zpl W),(6,.sl (B.map cOri)),(8,dI i),(10,dB ((B.take k).any (Zhw e S))),(11,dI k)]) (fun _=>[(0,Zex e)]) 1 0 (fun k=>k≤B.length) (fun k=>B.length-k) 0 (Yb0 _) ?_ ?_
 ·exact leGo trivial
 clear hk hwk k0 h3
 rintro j hj
 obtain⟨hwk,k0⟩:=ZaR j
 by_cases h3:(j:Int)<B.length
 rotate_left
 ·obtain rfl:j=B.length:=by omega
  rw[Ya8 (Ya4 _),p5]
  refine aGo (cj3 Zr h3 hw) ?_
  repeat with_reducible intro K hK
  exact Zaf (i+1) (by omega) (by omega) (by exact leGo trivial)
 obtain⟨o,ho⟩:∃ o,B[j]? =some o:=⟨_,Ya0 (by omega)⟩
 have hany:(B.take (j+1)).any (Zhw e S)=((B.take j).any (Zhw e S)||Zhw e S o):=by rw[Yb4,ho,List.any_append];simp
 have m1:(e.mv.length:Int)≤12:=by omega
 generalize (B.take j).any (Zhw e S)=A at hany ⊢
 cases A
 rotate_left
 ·rw[Bool.true_or]at hany
  cases e1:(o.k==1)
  ·cases e2:(o.k==2)
   ·refine aGo (cj4 Zr h3 i0 (cj4 k0 hS ho (cj3 hwk e1 e2))) ?_
    repeat with_reducible intro K hK
    exact Zaf (j+1) (by omega) (by omega) (by exact leGo hany)
   ·refine aGo (cj4 Zr h3 i0 (cj4 k0 hS ho (cj3 hwk e1 e2))) ?_
    repeat with_reducible intro K hK
    exact Zaf (j+1) (by omega) (by omega) (by exact leGo hany)
  ·refine aGo (cj4 Zr h3 i0 (cj4 k0 hS ho (cj2 hwk e1))) ?_
   repeat with_reducible intro K hK
   exact Zaf (j+1) (by omega) (by omega) (by exact leGo hany)
 rw[Bool.false_or]at hany
 have hv1:∀ b,(o.k==1||o.k==2)=b→Zhw e S o=(b&&(decide (0≤o.v)&&(decide (o.v<e.mv.length)&&S.any fun y=>y==(mvAt e o.v.toNat).s))):=fun b hb=>by unfold Zhw;rw[hb]
 by_cases h4:o.v≥0
 rotate_left
 ·have hn:Zhw e S o=false:=by unfold Zhw;rw[decide_eq_false (p:=0≤o.v) h4];simp
  rw[hn]at hany
  cases e1:(o.k==1)
  ·cases e2:(o.k==2)
   ·refine aGo (cj4 Zr h3 i0 (cj4 k0 hS ho (cj4 hwk e1 e2 h4))) ?_
    repeat with_reducible intro K hK
    exact Zaf (j+1) (by omega) (by omega) (by exact leGo hany)
   ·refine aGo (cj4 Zr h3 i0 (cj4 k0 hS ho (cj4 hwk e1 e2 h4))) ?_
    repeat with_reducible intro K hK
    exact Zaf (j+1) (by omega) (by omega) (by exact leGo hany)
  ·refine aGo (cj4 Zr h3 i0 (cj4 k0 hS ho (cj3 hwk e1 h4))) ?_
   repeat with_reducible intro K hK
   exact Zaf (j+1) (by omega) (by omega) (by exact leGo hany)
 by_cases h5:o.v<e.mv.length
 rotate_left
 ·have hn:Zhw e S o=false:=by unfold Zhw;rw[decide_eq_false h5];simp
  rw[hn]at hany
  cases e1:(o.k==1)
  ·cases e2:(o.k==2)
   ·refine aGo (cj4 Zr h3 i0 (cj4 k0 hS ho (cj4 hwk e1 e2 (cj2 h4 h5)))) ?_
    repeat with_reducible intro K hK
    exact Zaf (j+1) (by omega) (by omega) (by exact leGo hany)
   ·refine aGo (cj4 Zr h3 i0 (cj4 k0 hS ho (cj4 hwk e1 e2 (cj2 h4 h5)))) ?_
    repeat with_reducible intro K hK
    exact Zaf (j+1) (by omega) (by omega) (by exact leGo hany)
  ·refine aGo (cj4 Zr h3 i0 (cj4 k0 hS ho (cj4 hwk e1 h4 h5))) ?_
   repeat with_reducible intro K hK
   exact Zaf (j+1) (by omega) (by omega) (by exact leGo hany)
 have hmn:¬ ((e.mv.length:Int)-1<o.v):=by omega
 have hwl:IntKind.i64.wrap ((e.mv.length:Int)-1)=(e.mv.length:Int)-1:=ZaO (by omega) (by omega)
 have hmx:(if o.v>0 then o.v else 0)=o.v:=by split<;>omega
 have hmv:e.mv[o.v.toNat]? =some (mvAt e o.v.toNat):=Zhx (by omega)
 have q5:=has_c S (mvAt e o.v.toNat).s (by omega)
 have hn:∀ b,(o.k==1||o.k==2)=b→Zhw e S o=(b&&S.any fun y=>y==(mvAt e o.v.toNat).s):=fun b hb=>by
  rw[hv1 b hb,decide_eq_true h4,decide_eq_true h5,Bool.true_and,Bool.true_and]
 generalize S.any (fun y=>y==(mvAt e o.v.toNat).s)=N at q5 hn
 cases e1:(o.k==1)
 ·cases e2:(o.k==2)
  ·rw[hn false (by rw[e1,e2];rfl),Bool.false_and]at hany
   refine aGo (cj4 Zr h3 i0 (cj4 k0 hS ho (cj4 hwk e1 e2 (cj2 h4 h5)))) ?_
   repeat with_reducible intro K hK
   exact Zaf (j+1) (by omega) (by omega) (by exact leGo hany)
  ·rw[hn true (by rw[e1,e2];rfl),Bool.true_and]at hany
   refine aGo (cj4 Zr h3 i0 (cj4 k0 hS ho (cj4 hwk e1 e2 (cj4 h4 h5 hmn (cj3 hwl hmx hmv))))) ?_
   repeat with_reducible intro K hK
   exact Zaf (j+1) (by omega) (by omega) (by exact leGo hany)
 ·rw[hn true (by rw[e1];rfl),Bool.true_and]at hany
  refine aGo (cj4 Zr h3 i0 (cj4 k0 hS ho (cj4 hwk e1 h4 (cj4 h5 hmn hwl (cj2 hmx hmv))))) ?_
  repeat with_reducible intro K hK
  exact Zaf (j+1) (by omega) (by omega) (by exact leGo hany)
end Go.Proofs.YtiincpioidnciaaGreat
