/-
  The reference's digits, walked over data: trim, digit, less, plus, minus, times, over.
-/
import Derived.Test.YtjeaacindikplaaGreatXLib
import Derived.Test.YtjeaacindikplaaGreatXConv
namespace Go.Proofs.YtjeaacindikplaaGreat
set_option linter.unusedVariables false
set_option linter.unusedSimpArgs false
set_option linter.unusedSectionVars false
open Go Go.RowKit
set_option maxRecDepth 100000
set_option maxHeartbeats 8000000
theorem ZkB(l:List Int)(k:Nat):Zaa Tryz.prog 194 [Zab l,dI k] (dI (dg l k)):=by
 have Zr:=Tryz.results194
 refine inN Tryz.func194 rfl Tryz.ntmps194 fun I=>?_
 have h0:(0:Int)≤k:=by omega
 by_cases h1:(k:Int)<l.length
 ·obtain⟨x,hx⟩:=getE (l:=l) (k:=k) (by omega)
  rw[ZgZ hx]
  exact aGo (cj4 Zr h0 h1 hx) trivial
 ·rw[Zg0 (by omega)]
  exact aGo (cj2 Zr h1) trivial
theorem Zjy(l:List Int)(hl:(l.length:Int)≤8796093022208):Zaa Tryz.prog 193 [Zab l] (Zab (Zbe l)):=by
 have Zr:=Tryz.results193
 refine inN Tryz.func193 rfl Tryz.ntmps193 fun I=>?_
 refine aGo Zr ?_
 repeat with_reducible intro K hK
 refine Zas (fun(m:Nat)=>[(0,Zab l),(3,dI m)]) (fun _=>[]) 0 0 (fun m=>m≤l.length∧Zbe (l.take m)=Zbe l) (fun m=>m) l.length ⟨by omega,by rw[Yc2]⟩ ?_ ?_
 ·exact leGo Zr
 rintro m ⟨hm,ht⟩
 have j1:∀ l:List Int,(l.map fun x=>[dI x]).map (List.map datJ)=l.map fun x=>[dI x]:=fun l=>by rw[List.map_map];exact List.map_congr_left fun x _=>rfl
 have m0:(0:Int)≤m:=by omega
 have m1:(m:Int)≤l.length:=by omega
 cases m with
 | zero =>
   have hc:¬ ((0:Nat):Int)>0:=by decide
   refine aGo (cj4 Zr hc m0 m1) ?_
   rw[show Zbe l=[] by rw[← ht];rfl]
   rfl
 | succ j =>
   obtain⟨x,hx⟩:=getE (l:=l) (k:=j) (by omega)
   have hc:((j+1:Nat):Int)>0:=by omega
   have hw:IntKind.i64.wrap (((j+1:Nat):Int)-1)=(j:Int):=(Zax (by omega) (by omega)).trans (by omega)
   have j0:(0:Int)≤j:=by omega
   have jl:(j:Int)<l.length:=by omega
   by_cases h0:x=0
   ·subst h0
    have hz:((0:Int)==0)=true:=rfl
    refine aGo (cj4 Zr hc hw (cj4 j0 jl hx hz)) ?_
    repeat with_reducible intro K hK
    exact Zad j ⟨by omega,by rw[← ht,Zgq hx]⟩ (by omega) (leGo Zr)
   ·have hz:(x==0)=false:=by simpa using h0
    have e:Zbe l=l.take (j+1):=by
     have h2:=Zgp (l.take (j+1))
     rw[Zgr hx h0,List.take_take,Nat.min_self]at h2
     exact ht.symm.trans h2
    refine aGo (cj4 Zr hc hw (cj4 j0 jl hx (cj3 hz m0 m1))) ?_
    intro KI hKI KI2 hKI2
    refine⟨⟨fun e he=>?_,?_,?_⟩,hKI2 _ ?_⟩
    ·obtain⟨y,_,rfl⟩:=Yc6.1 (List.mem_of_mem_take he)
     exact⟨rfl,rfl⟩
    ·rw[Yc1,Yc0];omega
    ·rw[Yc1,Yc0];omega
    ·rw[← List.map_take]
     refine aGo (cj2 Zr (j1 (l.take (j+1)))) ?_
     rw[e]
     refine congrArg D.sl ?_
     rw[List.map_map]
     exact List.map_congr_left fun x _=>rfl
theorem Zv6(a b:List Int)(da:Dig a)(db:Dig b)(la:(a.length:Int)≤9007199254740992)(lb:(b.length:Int)≤9007199254740992):Zaa Tryz.prog 153 [Zab a,Zab b] (dB (decide (val a<val b))):=by
 have Zr:=Tryz.results153
 refine inN Tryz.func153 rfl Tryz.ntmps153 fun I=>?_
 obtain⟨M,hM⟩:∃ M,M=max a.length b.length:=⟨_,rfl⟩
 have hmx:(if (b.length:Int)>a.length then(b.length:Int)else(a.length:Int))=(M:Int):=by split<;>omega
 have hw0:IntKind.i64.wrap ((M:Int)-1)=(M:Int)-1:=Zax (by omega) (by omega)
 refine aGo (cj3 Zr hmx hw0) ?_
 repeat with_reducible intro K hK
 refine Zas (fun(m:Nat)=>[(0,Zab a),(1,Zab b),(5,dI ((m:Int)-1))]) (fun _=>[]) 0 0 (fun m=>m≤M∧∀ j,m≤j→dg a j=dg b j) (fun m=>m) M ⟨by omega,fun j hj=>by rw[Zg0 (by omega),Zg0 (by omega)]⟩ ?_ ?_
 ·exact leGo (cj3 Zr hmx hw0)
 rintro m ⟨hm,hd⟩
 cases m with
 | zero =>
   rw[show((0:Nat):Int)-1 = -1 by rfl]
   have hc:¬ (-1:Int)≥0:=by decide
   refine aGo (cj2 Zr hc) ?_
   exact Zaj (decide_eq_false (by rw[ZoD M a b (by omega) (by omega) fun j=>hd j (Yb0 _)];omega)).symm
 | succ j =>
   rw[show((j+1:Nat):Int)-1=j by omega]
   have hc:(j:Int)≥0:=by omega
   have k1:=ZkB a j
   have k2:=ZkB b j
   have hw:IntKind.i64.wrap ((j:Int)-1)=(j:Int)-1:=Zax (by omega) (by omega)
   by_cases he:dg a j=dg b j
   ·rw[he]at k1
    have hne:(dg b j !=dg b j)=false:=by simp
    refine aGo (cj4 Zr hc hne hw) ?_
    repeat with_reducible intro K hK
    exact Zad j ⟨by omega,fun i hi=>by rcases Nat.eq_or_lt_of_le hi with rfl|h;exact he;exact hd i h⟩ (by omega) (leGo Zr)
   ·have hne:(dg a j !=dg b j)=true:=by simpa using he
    refine aGo (cj3 Zr hc hne) ?_
    refine Zaj ?_
    by_cases hl:dg a j<dg b j
    ·rw[decide_eq_true hl,decide_eq_true (ZsZ j a b da db (fun i hi=>hd i hi) hl)]
    ·have:=ZsZ j b a db da (fun i hi=>(hd i hi).symm) (by omega)
     rw[decide_eq_false hl,decide_eq_false (by omega)]
theorem Zsd(a b:List Int)(da:Dig a)(db:Dig b)(la:(a.length:Int)≤2199023255552)(lb:(b.length:Int)≤2199023255552):Zaa Tryz.prog 151 [Zab a,Zab b] (Zab (digs (val a*val b).toNat)):=by
 have Zr:=Tryz.results151
 have z0:(0:Int)≤(a.length:Int)+b.length:=by omega
 have zw:IntKind.i64.wrap ((a.length:Int)+b.length)=(a.length:Int)+b.length:=Zax (by omega) (by omega)
 refine inN Tryz.func151 rfl Tryz.ntmps151 fun I=>?_
 refine aGo (cj3 Zr z0 zw) ?_
 repeat with_reducible intro K hK
 refine Zas (fun(p:Nat×List Int)=>[(0,Zab a),(1,Zab b),(5,.ls 0 1),(6,dI p.1)]) (fun p=>[(0,⟨3,1,1,p.2.map (fun x=>[dI x]),0,false⟩)]) 1 0 (fun p=>p.1≤a.length∧Zkl a b p.1 p.2) (fun p=>a.length-p.1) (0,List.replicate (a.length+b.length) 0) ⟨by omega,Zpq a b⟩ ?_ ?_
 ·refine leGo (cj2 Zr (?_:((a.length:Int)+b.length).toNat=a.length+b.length))
  omega
 rintro⟨j,o⟩ ⟨hj,hA⟩
 simp only at hj hA ⊢
 have hol:o.length=a.length+b.length:=hA.1
 have j1:∀ o:List Int,(o.map fun x=>[dI x]).map (List.map datJ)=o.map fun x=>[dI x]:=fun o=>by rw[List.map_map];exact List.map_congr_left fun x _=>rfl
 obtain⟨hw,i0⟩:=ZaO j
 by_cases h1:(j:Int)<a.length
 rotate_left
 ·obtain rfl:j=a.length:=by omega
  obtain⟨d1,d2⟩:=ZwZ hA
  have k4:=Zjy o (by omega)
  rw[ZcM d1,d2]at k4
  exact aGo (cj3 Zr h1 (j1 o)) trivial
 obtain⟨x,hx⟩:=getE (l:=a) (k:=j) (by omega)
 have hxb:=ZaE da hx
 refine aGo (cj3 Zr h1 hw) ?_
 repeat(guard_target =~ ∀ _:St→Prop,_;intro K' hK')
 refine Zas (fun(p:Nat×List Int×Int)=>[(0,Zab a),(1,Zab b),(5,.ls 0 1),(6,dI j),(7,dI p.2.2),(8,dI p.1)]) (fun p=>[(0,⟨3,1,1,p.2.1.map (fun x=>[dI x]),0,false⟩)]) 1 0 (fun p=>p.1≤b.length+1∧Zox a b j x p.1 p.2.1 p.2.2) (fun p=>b.length+1-p.1) (0,o,0) ⟨by omega,ZBg x hA⟩ ?_ ?_
 ·exact leGo Zr
 clear hA hol
 rintro⟨k,o,c⟩ ⟨hk,hA⟩
 simp only at hk hA ⊢
 have hol:o.length=a.length+b.length:=hA.1
 obtain⟨_,hod,hc0,hc1,_⟩:=id hA
 obtain⟨hwk,k0⟩:=ZaO k
 have done:¬ (k:Int)<b.length→¬ c>0→Zkl a b (j+1) o:=fun h2 h3=>by
  obtain rfl:c=0:=by omega
  exact Zq2 hx hA (by omega)
 have body:((k:Int)<b.length∨c>0)→k≤b.length:=fun h=>by
  rcases h with h|h
  ·omega
  ·exact Nat.le_of_not_lt fun hh=>by have:=ZzP da db hx hA (by omega) h;omega
 have go:k≤b.length→∃ z,o[j+k]? =some z∧∃ v w:Int,(0≤dg b k∧dg b k<1048576)∧v=(z+x*dg b k+c)%1048576∧w=(z+x*dg b k+c) / 1048576∧IntKind.i64.wrap (x*dg b k)=x*dg b k∧IntKind.i64.wrap (z+x*dg b k)=z+x*dg b k∧IntKind.i64.wrap (z+x*dg b k+c)=z+x*dg b k+c∧(z+x*dg b k+c).tmod 1048576=v∧IntKind.i64.wrap ((z+x*dg b k+c).tdiv 1048576)=w∧Zox a b j x (k+1) (o.set (j+k) v) w:=fun h=>by
  obtain⟨z,hz⟩:=getE (l:=o) (k:=j+k) (by omega)
  have hpb:=ZaE hod hz
  have hyb:=Zcv db k
  obtain⟨m1,m2,m3,m4⟩:=ZjI hpb hxb hyb ⟨hc0,hc1⟩
  have hS:=ZsI db hxb hA rfl hz
  generalize hY:x*dg b k=Y at *
  refine⟨z,hz,_,_,hyb,rfl,rfl,Zax (by omega) (by omega),Zax (by omega) (by omega),Zax (by omega) (by omega),Int.tmod_eq_emod_of_nonneg m3,?_,hS⟩
  rw[Int.tdiv_eq_ediv_of_nonneg m3];exact Zax (by omega) (by omega)
 have kd:=ZkB b k
 by_cases hb:k≤b.length
 rotate_left
 ·have h2:¬ (k:Int)<b.length:=fun h=>hb (body (.inl h))
  have h3:¬ c>0:=fun h=>hb (body (.inr h))
  refine aGo (cj4 Zr h2 h3 hw) ?_
  repeat with_reducible intro K2 hK2
  exact Zad (j+1,o) ⟨by simp only;omega,done h2 h3⟩ (by simp only;omega) (leGo Zr)
 obtain⟨z,hz,v,w,hyb,_,_,s1,s2,s3,tm,td,hS⟩:=go hb
 generalize dg b k=y at *
 have s0:IntKind.i64.wrap ((j:Int)+k)=(j:Int)+k:=Zax (by omega) (by omega)
 have t0:(0:Int)≤(j:Int)+k:=by omega
 have t1:((j:Int)+k).toNat=j+k:=by omega
 have t2:(j:Int)+k<o.length:=by omega
 have n0:(0:Nat)≤j+k:=Yb0 _
 have hset:(o.map fun x=>[dI x]).set (j+k) [dI v]=(o.set (j+k) v).map fun x=>[dI x]:=by rw[List.map_set]
 by_cases h2:(k:Int)<b.length
 ·refine aGo (cj4 Zr h1 h2 (cj4 s0 s1 s2 (cj4 s3 tm td (cj4 t0 t1 t2 (cj4 hz hx i0 (cj3 hwk k0 n0)))))) ?_
  repeat with_reducible intro K2 hK2
  rw[hset]
  clear hset
  generalize o.set (j+k) v=o2 at hS ⊢
  exact Zad (k+1,o2,w) ⟨by simp only;omega,hS⟩ (by simp only;omega) (leGo Zr)
 by_cases h3:c>0
 ·refine aGo (cj4 Zr h1 h2 (cj4 s0 s1 s2 (cj4 s3 tm td (cj4 t0 t1 t2 (cj4 hz hx i0 (cj4 hwk k0 h3 n0)))))) ?_
  repeat with_reducible intro K2 hK2
  rw[hset]
  clear hset
  generalize o.set (j+k) v=o2 at hS ⊢
  exact Zad (k+1,o2,w) ⟨by simp only;omega,hS⟩ (by simp only;omega) (leGo Zr)
 ·refine aGo (cj4 Zr h2 h3 hw) ?_
  repeat with_reducible intro K2 hK2
  exact Zad (j+1,o) ⟨by simp only;omega,done h2 h3⟩ (by simp only;omega) (leGo Zr)
theorem Zzh(a b:List Int)(da:Dig a)(db:Dig b)(la:(a.length:Int)≤4398046511104)(hl:b.length≤a.length)(hle:val b≤val a):Zaa Tryz.prog 208 [Zab a,Zab b] (Zab (digs (val a-val b).toNat)):=by
 have Zr:=Tryz.results208
 refine inN Tryz.func208 rfl Tryz.ntmps208 fun I=>?_
 refine aGo Zr ?_
 repeat with_reducible intro K hK
 refine aLe (Zcs 5 3 1 rfl) ?_
 refine Zas (fun(p:Nat×List Int×Int)=>[(0,Zab a),(1,Zab b),(5,.ls 0 p.1),(6,dI p.2.2),(7,dI p.1)]) (fun p=>[(0,⟨3,p.1,1,p.2.1.map (fun x=>[dI x]),0,false⟩)]) 1 0 (fun p=>p.1≤a.length∧Zjm a b p.1 p.2.1 p.2.2) (fun p=>a.length-p.1) (0,[],0) ⟨by omega,Zq4 a b⟩ ?_ ?_
 ·exact leGo Zr
 rintro⟨i,o,c⟩ ⟨hi,hA⟩
 simp only at hi hA ⊢
 obtain⟨hol,hod,hc0,hc1,_⟩:=id hA
 have j1:(o.map fun x=>[dI x]).map (List.map datJ)=o.map fun x=>[dI x]:=by rw[List.map_map];exact List.map_congr_left fun x _=>rfl
 obtain⟨hw,i0⟩:=ZaO i
 by_cases h1:(i:Int)<a.length
 rotate_left
 ·obtain rfl:i=a.length:=by omega
  obtain⟨d1,d2⟩:=Zw3 hA hl hle
  have k4:=Zjy o (by omega)
  rw[ZcM d1,d2]at k4
  exact aGo (cj3 Zr h1 j1) trivial
 obtain⟨x,hx⟩:=getE (l:=a) (k:=i) (by omega)
 have k2:=ZkB b i
 have b1:=ZaE da hx
 have b2:=Zcv db i
 have hS:=fun z c' hz=>ZuA (c':=c') (z:=z) da db hA (ZgZ hx) rfl hz
 generalize dg b i=y at *
 have s1:IntKind.i64.wrap (x-y)=x-y:=Zax (by omega) (by omega)
 have s2:IntKind.i64.wrap (x-y-c)=x-y-c:=Zax (by omega) (by omega)
 by_cases h2:x-y-c<0
 ·have s3:IntKind.i64.wrap (x-y-c+1048576)=x-y-c+1048576:=Zax (by omega) (by omega)
  refine aGo (cj4 Zr h1 hw (cj4 s1 s2 s3 (cj4 h2 i0 hx hol))) ?_
  repeat with_reducible intro K hK
  exact Zad (i+1,o++[x-y-c+1048576],1) ⟨by simp only;omega,hS _ _ (.inr ⟨h2,rfl,rfl⟩)⟩ (by simp only;omega) (leGo (cj3 Zr s3 hol))
 ·refine aGo (cj4 Zr h1 hw (cj4 s1 s2 h2 (cj3 i0 hx hol))) ?_
  repeat with_reducible intro K hK
  exact Zad (i+1,o++[x-y-c],0) ⟨by simp only;omega,hS _ _ (.inl ⟨by omega,rfl,rfl⟩)⟩ (by simp only;omega) (leGo (cj2 Zr hol))
theorem ZCh(n D:Nat)(la:((digs n).length:Int)≤1099511627776)(lb:((digs D).length:Int)≤1099511627776)(hD:0<D):Zaa Tryz.prog 192 [Zab (digs n),Zab (digs D)] (.tup [Zab (digs (n / D)),Zab (digs (n%D))]):=by
 have Zr:=Tryz.results192
 refine inN Tryz.func192 rfl Tryz.ntmps192 fun I=>?_
 have hdn:=(Zar n).1
 have hend:=fun(R:Nat) (q:List Int) (h:ZjZ (digs n) D 0 q R)=>Zzx h
 have hstart:=Zut (digs n) hD
 obtain⟨ad,ea⟩:∃ l,digs n=l:=⟨_,rfl⟩
 rw[ea]at hdn hend la hstart ⊢
 have hw0:IntKind.i64.wrap ((ad.length:Int)-1)=(ad.length:Int)-1:=Zax (by omega) (by omega)
 refine aGo (cj2 Zr hw0) ?_
 repeat with_reducible intro K hK
 refine aLe (Zcs 7 3 1 rfl) (aLe (Zdz 1 rfl) (aLe (ZlF 7 4) ?_))
 simp only[go_sem,fzT]
 refine Zas (fun(p:Nat×List Int×Nat)=>[(0,Zab ad),(1,Zab (digs D)),(6,.ls 0 1),(7,Zab (digs p.2.2)),(8,dI ((p.1:Int)-1))]) (fun p=>[(0,⟨3,1,1,p.2.1.map (fun x=>[dI x]),0,false⟩)]) 1 0 (fun p=>p.1≤ad.length∧ZjZ ad D p.1 p.2.1 p.2.2) (fun p=>p.1) (ad.length,List.replicate ad.length 0,0) ⟨by omega,hstart⟩ ?_ ?_
 ·rw[Za1]
  exact leGo (cj2 Zr hw0)
 rintro⟨m,o,R⟩ ⟨hm,hA⟩
 simp only at hm hA ⊢
 have hol:o.length=ad.length:=hA.1
 have hRD:R<D:=hA.2.2.1
 have j1:∀ o:List Int,(o.map fun x=>[dI x]).map (List.map datJ)=o.map fun x=>[dI x]:=fun o=>by rw[List.map_map];exact List.map_congr_left fun x _=>rfl
 cases m with
 | zero =>
   rw[show((0:Nat):Int)-1 = -1 by rfl]
   have hc:¬ (-1:Int)≥0:=by decide
   obtain⟨d1,d2,d3⟩:=hend _ _ hA
   have k4:=Zjy o (by omega)
   rw[ZcM d1,d2]at k4
   refine aGo (cj3 Zr hc (j1 o)) ?_
   rw[← d3]
 | succ j =>
   rw[show((j+1:Nat):Int)-1=j by omega]
   obtain⟨x,hx⟩:=getE (l:=ad) (k:=j) (by omega)
   have hxb:=ZaE hdn hx
   have hc:(j:Int)≥0:=by omega
   have jl:(j:Int)<ad.length:=by omega
   have j0:(0:Int)≤j:=by omega
   have hwj:IntKind.i64.wrap ((j:Int)-1)=(j:Int)-1:=Zax (by omega) (by omega)
   obtain⟨S,hS⟩:∃ S,S=1048576*R+x.toNat:=⟨_,rfl⟩
   have hSD:S<D*1048576:=by omega
   have hlR:((digs R).length:Int)≤1099511627776:=by have:=Ziq (a:=R) (b:=D) (by omega);omega
   have hlS:((digs S).length:Int)≤1099511627777:=by
    have h1:(digs S).length≤(digs D).length+1:=Za8 (by
     have:=Zbp D
     rw[bp];omega)
    omega
   have k1:=Zjy (x ::digs R) (by simp only[List.length_cons];omega)
   rw[show Zbe (x ::digs R)=digs S by
    rw[hS]
    refine Zg5 (ZcC.2 ⟨hxb,(Zar R).1⟩) ?_
    simp only[val,Zau]
    omega]at k1
   rw[show Zab (x ::digs R) = .sl ([dI x] ::(digs R).map fun x=>[dI x])from rfl]at k1
   refine aGo (cj4 Zr hc jl (cj3 j0 hx (j1 (digs R)))) ?_
   repeat with_reducible intro K hK
   refine Zas (fun(p:Nat×Nat)=>[(0,Zab ad),(1,Zab (digs D)),(6,.ls 0 1),(7,Zab (digs S)),(8,dI j),(9,dI p.1),(10,dI p.2)]) (fun _=>[(0,⟨3,1,1,o.map (fun x=>[dI x]),0,false⟩)]) 1 0 (fun p=>p.1<p.2∧p.2≤1048576∧D*p.1≤S∧S<D*p.2) (fun p=>p.2-p.1) (0,1048576) ⟨by decide,by decide,by simp only;omega,by simp only;omega⟩ ?_ ?_
   ·exact leGo Zr
   rintro⟨lo,hi⟩ ⟨q1,q2,q3,q4⟩
   simp only at q1 q2 q3 q4 ⊢
   have w1:IntKind.i64.wrap ((hi:Int)-lo)=(hi:Int)-lo:=Zax (by omega) (by omega)
   by_cases hg:(hi:Int)-lo>1
   ·obtain⟨mid,hmid⟩:∃ mid:Nat,(mid:Int)=((lo:Int)+hi) / 2:=⟨(lo+hi) / 2,by omega⟩
    have w2:IntKind.i64.wrap ((lo:Int)+hi)=(lo:Int)+hi:=Zax (by omega) (by omega)
    have w3:IntKind.i64.wrap (((lo:Int)+hi).tdiv 2)=mid:=by
     rw[Int.tdiv_eq_ediv_of_nonneg (by omega),← hmid];exact Zax (by omega) (by omega)
    have k2:=Zsd (digs D) [(mid:Int)] (Zar D).1 (ZcC.2 ⟨by omega,Zff⟩) (by omega) (by simp)
    rw[show(val (digs D)*val [(mid:Int)]).toNat=D*mid by simp[val,Zau];rw[← Int.natCast_mul];rfl]at k2
    have hlm:((digs (D*mid)).length:Int)≤9007199254740992:=by
     have h1:(digs (D*mid)).length≤(digs D).length+1:=Za8 (by
      have:=Zbp D
      have h2:D*mid≤D*1048576:=Nat.mul_le_mul_left _ (by omega)
      rw[bp];omega)
     omega
    have k3:=Zv6 (digs S) (digs (D*mid)) (Zar _).1 (Zar _).1 (by omega) hlm
    rw[Zau,Zau]at k3
    by_cases hlt:S<D*mid
    ·rw[decide_eq_true (show(S:Int)<(D*mid:Nat) by omega)]at k3
     refine aGo (cj4 Zr w1 hg (cj2 w2 w3)) ?_
     repeat with_reducible intro K hK
     exact Zad (lo,mid) ⟨by simp only;omega,by simp only;omega,q3,hlt⟩ (by simp only;omega) (leGo Zr)
    ·rw[decide_eq_false (show ¬ (S:Int)<(D*mid:Nat) by omega)]at k3
     refine aGo (cj4 Zr w1 hg (cj2 w2 w3)) ?_
     repeat with_reducible intro K hK
     exact Zad (mid,hi) ⟨by simp only;omega,by simp only;omega,by simp only;omega,q4⟩ (by simp only;omega) (leGo Zr)
   ·obtain rfl:hi=lo+1:=by omega
    obtain⟨z,hp⟩:∃ z,o[j]? =some z:=⟨_,Ya0 (by omega)⟩
    have E1:=Zww hdn hA hx (by rw[← hS];exact q3) (by rw[← hS];exact q4) (by omega)
    rw[← hS]at E1
    have k2:=Zjy [(lo:Int)] (by simp)
    rw[show Zbe [(lo:Int)]=digs lo from Zg5 (ZcC.2 ⟨by omega,Zff⟩) (by simp[val])]at k2
    have hl1:(digs lo).length≤1:=Za8 (by simp only[bp];omega)
    have k3:=Zsd (digs D) (digs lo) (Zar D).1 (Zar lo).1 (by omega) (by omega)
    rw[Zau,Zau,show((D:Int)*lo).toNat=D*lo by rw[← Int.natCast_mul];rfl]at k3
    have k4:=Zzh (digs S) (digs (D*lo)) (Zar _).1 (Zar _).1 (by omega) (Ziq q3) (by rw[Zau,Zau];omega)
    rw[Zau,Zau,show((S:Int)-(D*lo:Nat)).toNat=S-D*lo by omega]at k4
    have jo:(j:Int)<o.length:=by omega
    have n0:(0:Nat)≤j:=Yb0 _
    have hset:(o.map fun x=>[dI x]).set j [dI (lo:Int)]=(o.set j (lo:Int)).map fun x=>[dI x]:=by rw[List.map_set]
    have hm':j≤ad.length:=by omega
    refine aGo (cj4 Zr w1 hg (cj4 jo n0 hp (cj2 j0 hwj))) ?_
    repeat with_reducible intro K hK
    rw[hset]
    clear hset
    generalize o.set j (lo:Int)=o2 at E1 ⊢
    exact Zad (j,o2,S-D*lo) ⟨by simp only;omega,E1⟩ (by simp only;omega) (leGo Zr)
end Go.Proofs.YtjeaacindikplaaGreat
