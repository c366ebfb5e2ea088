/-
  container/heap's Push and Pop over the queue of stops.
-/
import Derived.Test.YtblamlnjbjaokaaGreatVT07
import Derived.Test.YtblamlnjbjaokaaGreatVLib
import Derived.Test.YtblamlnjbjaokaaGreatRows
import Derived.Deep.DeepCutAuto
import Derived.Deep.CutBlock
import Derived.Test.YtblamlnjbjaokaaGreatVConv
import Derived.Test.YtblamlnjbjaokaaGreatVT00
import Derived.Test.YtblamlnjbjaokaaGreatVT01
import Derived.Test.YtblamlnjbjaokaaGreatVT06
namespace Go.Proofs.YtblamlnjbjaokaaGreat.Rn
set_option linter.unusedVariables false
set_option linter.unusedSimpArgs false
set_option linter.unusedSectionVars false
set_option maxRecDepth 100000
open Go.RowKit
structure Only (q g:Nat) (w w':World):Prop where
 os:w'.os=w.os
 tape:w'.tape=w.tape
 output:w'.output=w.output
 size:w.heap.size≤w'.heap.size
 block:∀ k,k<w.heap.size→k≠q→k≠g→w'.heap[k]? =w.heap[k]?
theorem But.only{q g:Nat}{w w':World}(h:But g w w'):Only q g w w':=⟨h.os,h.tape,h.output,h.size,fun k hk _ hg=>h.block k hk hg⟩
theorem But.onlyq{q g:Nat}{w w':World}(h:But q w w'):Only q g w w':=⟨h.os,h.tape,h.output,h.size,fun k hk hq _=>h.block k hk hq⟩
theorem Only.trans{q g:Nat}{a b c:World}(h:Only q g a b)(k:Only q g b c):Only q g a c :=
 ⟨k.os.trans h.os,k.tape.trans h.tape,k.output.trans h.output,Yc7 h.size k.size,fun i hi hq hg=>(k.block i (Nat.lt_of_lt_of_le hi h.size) hq hg).trans (h.block i hi hq hg)⟩
theorem Zl4(q g cap:Nat)(l:List Stop)(x:Stop)(w:World)(h:QAt w q g cap l)(hh:Zfp l l.length)(hn:l.length≤1000000000000) :
 Calls Tryz.prog 219 #[.iface 334 (.pointer (some ⟨q,0,none⟩)),.iface 333 (.agg #[I x.1,I x.2])] w fun e w'=>e = .returned (.tuple #[]) ∧
  ∃ g' cap' l',QAt w' q g' cap' l'∧l'.Perm (l++[x])∧Zfp l' l'.length∧(g'=g∨w.heap.size≤g')∧Only q g w w':=by
 have hmp:=Zr2 q
 go_enter Tryz.func219,Tryz.ntmps219
 go_wp2_with (go_at_call 240;refine(Zt4 _ _ _ _ _ _ h (by omega)).mono ?_;rintro e w1 ⟨rfl,g',cap',hQ,hg,b1,b2,b3,b4,b5⟩;have hml:=Zox hQ.cell)
 go_wp2_with (go_at_call 217;refine(Zks _ _ _ _).mono ?_;rintro e w' ⟨rfl,rfl⟩)
 go_wp2_with (go_at_call 221;refine(Zyi _ _ _ (l++[x]) l.length _ hQ (by simp) (by simpa using ZtK x hh) (by simp;omega)).mono ?_;rintro e w' ⟨rfl,l',hQ',hp,hh',hb⟩)
 go_end0
 refine⟨rfl,g',cap',l',hQ',hp,hh',hg,⟨hb.os.trans b1,hb.tape.trans b2,hb.output.trans b3,Yc7 b4 hb.size,fun k hk hkq hkg=>?_⟩⟩
 rw[hb.block k (by omega) (by rcases hg with hg|hg<;>omega)]
 exact b5 k hk hkq hkg
theorem Zq1{l:List Stop}{n c:Nat}(hc:c<n):tm (l.take n) c=tm l c:=by simp[tm,List.getElem?_take,hc]
theorem Zqh{l:List Stop}{n:Nat}(h:Zfp l n):Zfp (l.take n) n:=fun c h0 hc=>by
 rw[Zq1 hc,Zq1 (by omega)];exact h c h0 hc
theorem Znv(q g cap:Nat)(l:List Stop)(w:World)(h:QAt w q g cap l)(hh:Zfp l l.length)(hne:0<l.length)(hn:l.length≤1000000000000) :
 Calls Tryz.prog 218 #[.iface 334 (.pointer (some ⟨q,0,none⟩))] w fun e w'=>∃ (x:Stop)(l':List Stop),e = .returned (.iface 333 (.agg #[I x.1,I x.2])) ∧
  QAt w' q g cap l'∧(x ::l').Perm l∧(∀ y∈l,x.1≤y.1)∧Zfp l' l'.length∧Only q g w w':=by
 have hmp:=ZuB q
 have hml:=Zox h.cell
 have hms:=Zil h.cell
 obtain⟨n,hnl⟩:∃ n,n+1=l.length:=⟨l.length-1,by omega⟩
 have e1:(l.length:Int)-1=(n:Int):=by omega
 have hl9:l.length≤9223372036854775807:=by omega
 have hn0:n<l.length:=by omega
 have Hnl:=Lib.hid hnl;clear hnl
 go_enter Tryz.func218,Tryz.ntmps218
 go_wp2_with (go_at_call 217;refine(Zks _ _ _ _).mono ?_;rintro e w' ⟨rfl,rfl⟩)
 go_wp2_with (go_at_call 241;refine(ZfY g cap l 0 n _ h.row hne hn0 hl9).mono ?_;rintro e w1 ⟨rfl,hr1,hb1⟩)
 have hQ1:=h.swapped (ZaN _ _ _) hr1 hb1
 go_wp2_with (go_at_call 220;refine(Zvc q g cap (Zew l 0 n) n w1 hQ1 (by rw[ZaN];exact Hnl.out) (Zqr (by rw[Hnl.out];exact hh) Hnl.out.symm) (by rw[ZaN];omega)).mono ?_;rintro e w2 ⟨⟨b,rfl⟩,l2,hQ2,hp2,hh2,hl2,hb2⟩)
 have hl2len:l2.length=l.length:=by rw[hp2.length_eq,ZaN]
 obtain⟨x,hx⟩:∃ x,l[0]? =some x:=⟨_,Ya0 hne⟩
 have hx2:l2[n]? =some x:=by rw[hl2,Zh2 hne hn0,if_pos rfl,hx]
 have Hx:=Lib.hid hx;clear hx
 have Hx2:=Lib.hid hx2;clear hx2
 have Hl2:=Lib.hid hl2;clear hl2
 have HL:=Lib.hid hl2len;clear hl2len
 go_wp2_with (go_at_call 239;refine(ZwH q g cap l2 n x w2 hQ2 (by rw[HL.out];exact Hnl.out) Hx2.out (by rw[HL.out];omega)).mono ?_;rintro e w3 ⟨rfl,hQ3,hb3⟩)
 go_ret
 have hlen:(l2.take n).length=n:=by have:=HL.out;have:=Hnl.out;simp;omega
 refine⟨x,l2.take n,rfl,hQ3,?_,fun y hy=>?_,?_,(hb1.only.trans hb2.only).trans hb3.onlyq⟩
 ·have e2:l2=l2.take n++[x]:=by
   have:=HL.out
   have:=Hnl.out
   apply List.ext_getElem?
   intro j
   by_cases hj:j<n
   ·rw[Yc3 (by omega),List.getElem?_take,if_pos hj]
   ·by_cases hjn:j=n
    ·subst hjn;rw[Hx2.out,Yc4 (by omega),hlen];simp
    ·rw[List.getElem?_eq_none (by omega),List.getElem?_eq_none (by simp;omega)]
  have p1:(x ::l2.take n).Perm (l2.take n++[x]):=(List.perm_append_singleton x (l2.take n)).symm
  rw[← e2]at p1
  exact p1.trans (hp2.trans (ZgJ _ _ _))
 ·obtain⟨c,hc,rfl⟩:=List.mem_iff_getElem.1 hy
  have:=Zsr hh c hc
  rw[ZfV Hx.out,ZfV (Ya0 hc)]at this
  exact this
 ·rw[hlen];exact Zqh hh2
structure Rd where
 fr:Int
 tu:Int
 mi:Int
 li:Int
 deriving DecidableEq
def Zk1(_:World)(cs:List Value)(r:Rd):Prop:=cs=[I r.fr,I r.tu,I r.mi,I r.li]
theorem Zk1.mono:Zx8 Zk1:=fun _ _ _ _ _ h=>h
abbrev RoadsAt(w:World)(v:Value)(l:List Rd):Prop:=Zdn Zk1 4 w v l
theorem RoadsAt.get4{w:World}{a:Option Addr}{n cap:Nat}{l:List Rd}(h:RoadsAt w (.slice a n cap) l){i:Nat}(hi:i<l.length) :
 ∃ b off x,a=some ⟨b,off,none⟩∧b<w.heap.size∧Hid (l[i]? =some x)∧w.cell? ⟨b,off+i*4,none⟩=some (I x.fr)∧w.cell? ⟨b,off+i*4+1,none⟩=some (I x.tu)
  ∧w.cell? ⟨b,off+i*4+2,none⟩=some (I x.mi)∧w.cell? ⟨b,off+i*4+3,none⟩=some (I x.li):=by
 obtain⟨b,off,x,cs,ha,hb,hx,hr,hs,hj⟩:=Zdn.get h hi
 exact⟨b,off,x,ha,hb,hx,by simpa using hj 0 (I x.fr) (by rw[hr];rfl),hj 1 (I x.tu) (by rw[hr];rfl),hj 2 (I x.mi) (by rw[hr];rfl),hj 3 (I x.li) (by rw[hr];rfl)⟩
def inB(n lo hi:Int):Bool:=decide (lo≤n)&&decide (n≤hi)
theorem ZgT{n lo hi:Int}:inB n lo hi=true↔lo≤n∧n≤hi:=by simp[inB]
theorem Zxq{n lo hi:Int}:inB n lo hi=false↔n<lo∨hi<n:=by
 rw[← Bool.not_eq_true,ZgT];omega
def Zb6(n:Int)(r:Rd):Int :=
 if (!inB r.fr 0 (n-1))||(!inB r.tu 0 (n-1))||r.fr==r.tu then 1
 else if (!inB r.mi 1 1000000)||(r.li != -1 && !inB r.li 1 1000000)then 3 else 0
def ZaX(n:Int):List Rd→Int
 | []=>0
 | r ::l=>if Zb6 n r=0 then ZaX n l else Zb6 n r
def ZcK(n:Int)(l:List Rd):Int:=if inB n 0 100=false then 1 else if 600<l.length then 6 else ZaX n l
theorem Zgz(n:Int)(l:List Rd)(j:Nat)(r:Rd)(h:l[j]? =some r):ZaX n (l.drop j)=if Zb6 n r=0 then ZaX n (l.drop (j+1))else Zb6 n r:=by
 obtain⟨hj,hr⟩:=Ya3.1 h
 rw[Yd7 hj,hr]
 rfl
theorem Zmq(n:Int)(l:List Rd):ZaX n (l.drop l.length)=0:=by rw[List.drop_length];rfl
theorem ZxN{n:Int}{l:List Rd}{j:Nat}{r:Rd}(hd:ZaX n (l.drop j)=ZaX n l)(hx:l[j]? =some r)(h:Zb6 n r≠0):ZaX n l=Zb6 n r:=by
 rw[← hd,Zgz n l j r hx,if_neg h]
theorem Zvn{n:Int}{l:List Rd}{j:Nat}{r:Rd}(hd:ZaX n (l.drop j)=ZaX n l)(hx:l[j]? =some r)(h:Zb6 n r=0):ZaX n (l.drop (j+1))=ZaX n l:=by
 rw[← hd,Zgz n l j r hx,if_pos h]
theorem Zms{n:Int}{l:List Rd}(h:inB n 0 100=true)(hl:l.length≤600):ZcK n l=ZaX n l:=by
 unfold ZcK;rw[if_neg (by simp[h]),if_neg (by omega)]
theorem ZxM{n v:Int}{l:List Rd}{j:Nat}{r:Rd}(hin:inB n 0 100=true)(hlen:(l.length:Int)≤600)(hd:ZaX n (l.drop j)=ZaX n l)(hx:l[j]? =some r)(h:Zb6 n r=v)(hv:v≠0):v=ZcK n l:=by
 rw[Zms hin (by omega),ZxN hd hx (by rw[h];exact hv),h]
def carB(li kilos:Int):Bool:=decide (li = -1)||decide (kilos≤li)
theorem Ziv(n lo hi:Int)(w:World) :
 Calls Tryz.prog 170 #[I n,I lo,I hi] w fun e w'=>e = .returned (B (inB n lo hi))∧w=w':=by
 by_cases h1:lo≤n
 ·by_cases h2:n≤hi
  all_goals
   go_enter Tryz.func170,Tryz.ntmps170
   go_wp2
   go_ret
   exact⟨retB (by simp[inB,h1,h2]),rfl⟩
 ·go_enter Tryz.func170,Tryz.ntmps170
  go_wp2
  go_ret
  exact⟨retB (by simp[inB];omega),rfl⟩
theorem Zem(f t m li kilos:Int)(w:World) :
 Calls Tryz.prog 216 #[.agg #[I f,I t,I m,I li],I kilos] w fun e w'=>e = .returned (B (carB li kilos))∧w.alloc (.cells #[I f,I t,I m,I li] 121)=w':=by
 by_cases h1:li = -1
 ·subst h1
  go_enter Tryz.func216,Tryz.ntmps216
  go_wp2
  go_ret
  exact⟨retB (by simp[carB]),rfl⟩
 ·have h1':(li == -1)=false:=by simpa using h1
  go_enter Tryz.func216,Tryz.ntmps216
  go_wp2
  go_ret
  exact⟨retB (by simp[carB,h1]),rfl⟩
theorem ZiJ(n:Int)(v:Value)(l:List Rd)(w:World)(hl:RoadsAt w v l) :
 Calls Tryz.prog 138 #[.agg #[I n,v]] w fun e w'=>e = .returned (I (ZcK n l))∧Below w.heap.size w w':=by
 obtain⟨a,cap,rfl,hlc,hcap⟩:=hl.shape
 unfold maxLen at hcap
 by_cases hin:inB n 0 100=true
 ·by_cases hlen:(600:Int)<(l.length:Int)
  ·go_enter Tryz.func138,Tryz.ntmps138
   go_wp2_with (go_at_call 170;refine(Ziv _ _ _ _).mono ?_;rintro e w' ⟨rfl,rfl⟩)
   go_ret
   exact⟨retI (by unfold ZcK;rw[if_neg (by simp[hin]),if_pos (by omega)]),(Below.refl _ _).alloc (Ya4 _) _⟩
  ·have hn:0≤n∧n≤100:=by rwa [← ZgT]
   have h600:decide ((600:Int)<(l.length:Int))=false:=by simpa using hlen
   go_enter Tryz.func138,Tryz.ntmps138
   go_wp2_with (go_at_call 170;refine(Ziv _ _ _ _).mono ?_;rintro e w' ⟨rfl,rfl⟩)
   have Hin:=Lib.hid hin;clear hin
   go_loopw [18] (fun i wr=>∃ j:Nat,j≤l.length∧i=I j∧ZaX n (l.drop j)=ZaX n l∧Below (w.heap.size+1) (w.alloc (.cells #[I n,.slice a l.length cap] 57)) wr) (fun i _=>l.length-(intOf i).toNat)
   case atStart=>exact⟨0,by omega,rfl,rfl,Below.refl _ _⟩
   case round =>
    obtain⟨j,hj,rfl,hd,hB⟩:=hrel
    obtain⟨hb,hs,hc0,hc1⟩:=box2 hB
    have Hd:=Lib.hid hd;clear hd
    by_cases hlt:j<l.length
    ·obtain⟨b,off,x,rfl,hbl,hx,g0,g1,g2,g3⟩:=RoadsAt.get4 (hl.below Zk1.mono hb) hlt
     go_wp2_with (go_at_call 170;refine(Ziv _ _ _ _).mono ?_;rintro e w' ⟨rfl,rfl⟩)
     all_goals first
      | (go_ret
         refine⟨retI (ZxM Hin.out (by omega) Hd.out hx.out ?_ (by decide)),hb.alloc hb.size _⟩
         clear g0 g1 g2 g3 hc0 hc1 hb hB hl;grind[Zb6])
      | (go_roundw
         case rel =>
          refine⟨j+1,by omega,by go_num,Zvn Hd.out hx.out ?_,hB.alloc (by omega) _⟩
          clear g0 g1 g2 g3 hc0 hc1 hb hB hl;grind[Zb6]
         case measure=>simp[intOf];omega)
    ·have:j=l.length:=by omega
     subst this
     go_wp2_with (go_at_call 170;refine(Ziv _ _ _ _).mono ?_;rintro e w' ⟨rfl,rfl⟩)
     go_ret
     refine⟨retI ?_,hb⟩
     rw[Zms Hin.out (by omega),← Hd.out,Zmq]
 ·go_enter Tryz.func138,Tryz.ntmps138
  go_wp2_with (go_at_call 170;refine(Ziv _ _ _ _).mono ?_;rintro e w' ⟨rfl,rfl⟩)
  go_ret
  exact⟨retI (by unfold ZcK;rw[if_pos (by simpa using hin)]),(Below.refl _ _).alloc (Ya4 _) _⟩
structure Ed where
 a:Nat
 b:Nat
 m:Nat
 deriving DecidableEq
inductive Way (E:List Ed) (s:Nat):Nat→Nat→Prop
 | nil:Way E s s 0
 | snoc {t:Nat} (e:Ed):e∈E→Way E s e.a t→Way E s e.b (t+e.m)
theorem Zmf(P:Nat→Prop)(h:∃ t,P t):∃ m,P m∧∀ t,P t→m≤t:=by
 obtain⟨t,ht⟩:=h
 induction t using Nat.strongRecOn with
 | ind t ih =>
   by_cases hs:∃ u,u<t∧P u
   ·obtain⟨u,hu,hp⟩:=hs;exact ih u hu hp
   ·exact⟨t,ht,fun u hu=>Nat.le_of_not_lt fun hlt=>hs ⟨u,hlt,hu⟩⟩
def Zi3(E:List Ed)(s v:Nat):Option Nat→Prop
 | none=>∀ t,¬ Way E s v t
 | some d=>Way E s v d∧∀ t,Way E s v t→d≤t
theorem ZjN(E:List Ed)(s v:Nat):∃ d,Zi3 E s v d:=by
 by_cases h:∃ t,Way E s v t
 ·obtain⟨m,h1,h2⟩:=Zmf _ h
  exact⟨some m,h1,h2⟩
 ·exact⟨none,fun t ht=>h ⟨t,ht⟩⟩
noncomputable def dst (E:List Ed) (s v:Nat):Option Nat:=Classical.choose (ZjN E s v)
theorem ZhM(E:List Ed)(s v:Nat):Zi3 E s v (dst E s v):=Classical.choose_spec (ZjN E s v)
theorem Zi3.unique{E:List Ed}{s v:Nat}{d d':Option Nat}(h:Zi3 E s v d)(h':Zi3 E s v d'):d=d':=by
 cases d with
 | none =>
   cases d' with
   | none=>rfl
   | some x=>exact absurd h'.1 (h x)
 | some x =>
   cases d' with
   | none=>exact absurd h.1 (h' x)
   | some y=>have:=h.2 y h'.1;have:=h'.2 x h.1;congr 1;omega
theorem Zi3.eq{E:List Ed}{s v:Nat}{d:Option Nat}(h:Zi3 E s v d):dst E s v=d:=(ZhM E s v).unique h
theorem ZsT{E:List Ed}{s v d:Nat}(h:dst E s v=some d):Way E s v d:=by have:=ZhM E s v;rw[h]at this;exact this.1
theorem Zv2{E:List Ed}{s v d t:Nat}(h:dst E s v=some d)(w:Way E s v t):d≤t:=by have:=ZhM E s v;rw[h]at this;exact this.2 t w
theorem Zu7{E:List Ed}{s v:Nat}(h:dst E s v=none)(t:Nat):¬ Way E s v t:=by have:=ZhM E s v;rw[h]at this;exact this t
theorem ZjM{E:List Ed}{s v t:Nat}(w:Way E s v t):∃ d,dst E s v=some d∧d≤t:=by
 cases h:dst E s v with
 | none=>exact absurd w (Zu7 h t)
 | some d=>exact⟨d,rfl,Zv2 h w⟩
theorem Zu9{E:List Ed}{s:Nat}{e:Ed}(he:e∈E){t:Nat}(h:dst E s e.a=some t):∃ t',dst E s e.b=some t'∧t'≤t+e.m :=
 ZjM (Way.snoc e he (ZsT h))
theorem Zu8{E:List Ed}{s v t:Nat}(h:dst E s v=some t):(v=s∧t=0)∨∃ e∈E,e.b=v∧∃ u,dst E s e.a=some u∧t=u+e.m:=by
 have w:=ZsT h
 cases w with
 | nil=>exact .inl ⟨rfl,rfl⟩
 | snoc e he w' =>
   obtain⟨u,hu,hle⟩:=ZjM w'
   obtain⟨t',ht',hle'⟩:=Zu9 he hu
   rw[h]at ht'
   simp only[Ya1]at ht'
   exact .inr ⟨e,he,rfl,u,hu,by omega⟩
structure Cert (E:List Ed) (n s:Nat) (T:Nat→Option Nat):Prop where
 zero:T s=some 0
 edge:∀ e∈E,∀ t,T e.a=some t→∃ t',T e.b=some t'∧t'≤t+e.m
 last:∀ v,v<n→∀ t,T v=some t→v=s∨∃ e∈E,e.b=v∧∃ u,T e.a=some u∧t=u+e.m
def Posi(E:List Ed):Prop:=∀ e∈E,1≤e.m
def In(E:List Ed)(n:Nat):Prop:=∀ e∈E,e.a<n∧e.b<n
theorem Cert.below{E:List Ed}{n s:Nat}{T:Nat→Option Nat}(c:Cert E n s T){v t:Nat}(w:Way E s v t):∃ t',T v=some t'∧t'≤t:=by
 induction w with
 | nil=>exact⟨0,c.zero,Ya4 _⟩
 | snoc e he _ ih =>
   obtain⟨u,hu,hle⟩:=ih
   obtain⟨t',ht',hle'⟩:=c.edge e he u hu
   exact⟨t',ht',by omega⟩
theorem Cert.way{E:List Ed}{n s:Nat}{T:Nat→Option Nat}(c:Cert E n s T)(hp:Posi E)(hin:In E n):∀ (t v:Nat),v<n→T v=some t→Way E s v t:=by
 intro t
 induction t using Nat.strongRecOn with
 | ind t ih =>
   intro v hv h
   rcases c.last v hv t h with rfl|⟨e,he,rfl,u,hu,rfl⟩
   ·rw[c.zero]at h;simp only[Ya1]at h;subst h;exact .nil
   ·have:=hp e he
    exact .snoc e he (ih u (by omega) e.a (hin e he).1 hu)
theorem Cert.eq{E:List Ed}{n s:Nat}{T:Nat→Option Nat}(c:Cert E n s T)(hp:Posi E)(hin:In E n){v:Nat}(hv:v<n):T v=dst E s v:=by
 symm
 apply Zi3.eq
 cases h:T v with
 | none =>
   intro t w
   obtain⟨t',h',_⟩:=c.below w
   rw[h]at h';cases h'
 | some t =>
   refine⟨c.way hp hin t v hv h,fun t' w=>?_⟩
   obtain⟨t'',h',hle⟩:=c.below w
   rw[h]at h';simp only[Ya1]at h';omega
noncomputable def Zg4 (E:List Ed) (n s t:Nat):Nat:=(List.range n).countP fun u=>match dst E s u with|some d=>decide (d<t)|none=>false
theorem Zri(E:List Ed)(n s t:Nat):Zg4 E n s t≤n:=by
 have:=List.countP_le_length (p:=fun u=>match dst E s u with|some d=>decide (d<t)|none=>false) (l:=List.range n)
 simpa[Zg4]using this
theorem Zs7{α:Type}{p q:α→Bool}{l:List α}(h:∀ x∈l,p x=true→q x=true){y:α}(hy:y∈l)(hq:q y=true)(hp:p y=false):l.countP p<l.countP q:=by
 induction l with
 | nil=>cases hy
 | cons x r ih =>
   have hm:r.countP p≤r.countP q:=List.countP_mono_left fun z hz=>h z (Yb6 _ hz)
   simp only[List.countP_cons]
   rcases List.mem_cons.1 hy with rfl|hy'
   ·simp[hq,hp];omega
   ·have h1:=ih (fun z hz=>h z (Yb6 _ hz)) hy'
    have h2:=h x (Yb7 ..)
    by_cases hx:p x=true
    ·simp[hx,h2 hx];omega
    ·simp[hx];split<;>omega
theorem Zrh{E:List Ed}{n s u d t:Nat}(hu:u<n)(h:dst E s u=some d)(hdt:d<t):Zg4 E n s d<Zg4 E n s t:=by
 unfold Zg4
 refine Zs7 (fun x _ hx=>?_) (Yd2.2 hu) ?_ ?_
 ·revert hx;split
  ·intro hx;simp only[decide_eq_true_eq]at hx ⊢;omega
  ·intro hx;exact hx
 ·rw[h];simpa using hdt
 ·rw[h];simp
theorem ZkK{E:List Ed}{n s M:Nat}(hp:Posi E)(hin:In E n)(hM:∀ e∈E,e.m≤M):∀ (t v:Nat),dst E s v=some t→t≤Zg4 E n s t*M:=by
 intro t
 induction t using Nat.strongRecOn with
 | ind t ih =>
   intro v h
   rcases Zu8 h with⟨_,rfl⟩|⟨e,he,rfl,u,hu,rfl⟩
   ·omega
   ·have h1:=hp e he
    have h2:=ih u (by omega) e.a hu
    have h3:=Zrh (n:=n) (t:=u+e.m) (hin e he).1 hu (by omega)
    have h4:=hM e he
    have h5:=Nat.mul_le_mul_right M (show Zg4 E n s u+1≤Zg4 E n s (u+e.m)from h3)
    rw[Nat.add_mul]at h5
    omega
theorem ZsU{E:List Ed}{n s M:Nat}(hp:Posi E)(hin:In E n)(hM:∀ e∈E,e.m≤M){t v:Nat}(h:dst E s v=some t):t≤n*M:=by
 have h1:=ZkK hp hin hM t v h
 have h2:=Nat.mul_le_mul_right M (Zri E n s t)
 omega
def encT:Option Nat→Int
 | none=> -1
 | some d=>d
noncomputable def ZsZ (E:List Ed) (n s:Nat):List Int:=(List.range n).map fun v=>encT (dst E s v)
structure Sound (E:List Ed) (s:Nat) (T:Nat→Option Nat):Prop where
 zero:T s=some 0
 way:∀ v t,T v=some t→Way E s v t
def Zfi(T0 T:Nat→Option Nat):Prop:=∀ v t,T0 v=some t→∃ t',T v=some t'∧t'≤t
theorem Zfi.refl(T:Nat→Option Nat):Zfi T T:=fun _ t h=>⟨t,h,Ya4 _⟩
theorem Zfi.trans{A B C:Nat→Option Nat}(h:Zfi A B)(k:Zfi B C):Zfi A C:=fun v t ht=>by
 obtain⟨t',h',hl⟩:=h v t ht
 obtain⟨t'',h'',hl'⟩:=k v t' h'
 exact⟨t'',h'',by omega⟩
def setT(T:Nat→Option Nat)(v t:Nat):Nat→Option Nat:=fun x=>if x=v then some t else T x
structure Wave (E:List Ed) (s:Nat) (T:Nat→Option Nat) (H:List (Nat×Nat)):Prop where
 right:∀ v t,T v=some t→dst E s v=some t
 way:∀ x∈H,Way E s x.2 x.1
 front:∀ e∈E,∀ t,T e.a=some t→T e.b≠none∨(t+e.m,e.b)∈H
 start:T s≠none∨(0,s)∈H
theorem Wave.ahead{E:List Ed}{s:Nat}{T:Nat→Option Nat}{H:List (Nat×Nat)}(h:Wave E s T H){v t:Nat}(w:Way E s v t)(hv:T v=none):∃ x∈H,x.1≤t:=by
 induction w with
 | nil =>
   rcases h.start with h'|h'
   ·exact absurd hv h'
   ·exact⟨_,h',Ya4 _⟩
 | snoc e he w ih =>
   cases hu:T e.a with
   | none=>obtain⟨x,hx,hle⟩:=ih hu;exact⟨x,hx,by omega⟩
   | some d =>
     have:=Zv2 (h.right _ _ hu) w
     rcases h.front e he d hu with h'|h'
     ·exact absurd hv h'
     ·exact⟨_,h',by show d+e.m≤_;omega⟩
theorem Wave.least{E:List Ed}{s:Nat}{T:Nat→Option Nat}{H:List (Nat×Nat)}(h:Wave E s T H){t v:Nat}(hm:(t,v)∈H)(hmin:∀ x∈H,t≤x.1)(hv:T v=none):dst E s v=some t:=by
 apply Zi3.eq
 refine⟨h.way _ hm,fun t' w=>?_⟩
 obtain⟨x,hx,hle⟩:=h.ahead w hv
 have:=hmin x hx
 omega
theorem Wave.last{E:List Ed}{s:Nat}{T:Nat→Option Nat}(h:Wave E s T [])(v:Nat):T v=dst E s v:=by
 cases hT:T v with
 | some t=>exact(h.right _ _ hT).symm
 | none =>
   symm;apply Zi3.eq
   intro t w
   obtain⟨x,hx,_⟩:=h.ahead w hT
   cases hx
theorem Wave.skip{E:List Ed}{s:Nat}{T:Nat→Option Nat}{H H':List (Nat×Nat)}(h:Wave E s T H){t v:Nat}(hmem:∀ x,x∈H↔x=(t,v)∨x∈H')(hv:T v≠none):Wave E s T H' where
 right:=h.right
 way:=fun x hx=>h.way x ((hmem x).2 (.inr hx))
 front:=fun e he u hu=>by
  rcases h.front e he u hu with h'|h'
  ·exact .inl h'
  ·rcases(hmem _).1 h' with h''|h''
   ·simp only[Prod.mk.injEq]at h'';rw[h''.2];exact .inl hv
   ·exact .inr h''
 start:=by
  rcases h.start with h'|h'
  ·exact .inl h'
  ·rcases(hmem _).1 h' with h''|h''
   ·simp only[Prod.mk.injEq]at h'';rw[h''.2];exact .inl hv
   ·exact .inr h''
theorem Wave.step{E:List Ed}{s:Nat}{T:Nat→Option Nat}{H H' H'':List (Nat×Nat)}(h:Wave E s T H){t v:Nat}(hmem:∀ x,x∈H↔x=(t,v)∨x∈H')(hmin:∀ x∈H,t≤x.1)(hv:T v=none)
 (hnew:∀ x,x∈H''↔x∈H'∨∃ e∈E,e.a=v∧x=(t+e.m,e.b)):Wave E s (setT T v t) H'':=by
 have hd:=h.least ((hmem _).2 (.inl rfl)) hmin hv
 refine⟨fun x u hx=>?_,fun x hx=>?_,fun e he u hu=>?_,?_⟩
 ·unfold setT at hx
  split at hx
  ·rename_i hxv;subst hxv;simp only[Ya1]at hx;subst hx;exact hd
  ·exact h.right _ _ hx
 ·rcases(hnew x).1 hx with h'|⟨e,he,rfl,rfl⟩
  ·exact h.way x ((hmem x).2 (.inr h'))
  ·exact .snoc e he (h.way _ ((hmem _).2 (.inl rfl)))
 ·unfold setT at hu ⊢
  by_cases hb:e.b=v
  ·simp[hb]
  ·simp only[hb,if_false]
   split at hu
   ·rename_i ha
    simp only[Ya1]at hu;subst hu
    exact .inr ((hnew _).2 (.inr ⟨e,he,ha,rfl⟩))
   ·rcases h.front e he u hu with h'|h'
    ·exact .inl h'
    ·rcases(hmem _).1 h' with h''|h''
     ·simp only[Prod.mk.injEq]at h'';exact absurd h''.2 hb
     ·exact .inr ((hnew _).2 (.inl h''))
 ·unfold setT
  by_cases hs:s=v
  ·simp[hs]
  ·simp only[hs,if_false]
   rcases h.start with h'|h'
   ·exact .inl h'
   ·rcases(hmem _).1 h' with h''|h''
    ·simp only[Prod.mk.injEq]at h'';exact absurd h''.2 hs
    ·exact .inr ((hnew _).2 (.inl h''))
theorem Zpk(E:List Ed)(s:Nat):Wave E s (fun _=>none) [(0,s)] where
 right:=fun _ _ h=>by cases h
 way:=fun x hx=>by simp only[List.mem_singleton]at hx;subst hx;exact .nil
 front:=fun _ _ _ h=>by cases h
 start:=.inr (by simp)
theorem ZcZ{P:Program}(t e:TypeId)(z:Value)(bytes:Nat)(ht:P.underlying t=some (.slice e))(hz:(P.info? e).map (fun i=>(i.zero,i.size,i.bytes))=some (some z,1,bytes))(hz1:z.cells=#[z])(n:Nat)(hb:bytes*n≤281474976710656)(hn:n≤9223372036854775807)(u:World) :
 (Instr.makeSlice t (.int .i64 (n:Int)) (.int .i64 (n:Int))).run P u = .ok (.slice (some ⟨u.heap.size,0,none⟩) n n) (u.alloc (.cells (Array.replicate n z) e)):=by
 obtain⟨i0,hi,h0,h1,h2⟩:=info_parts hz
 have h:=run_make (P:=P) u t e i0 z ht hi h0 .i64 .i64 (n:Int) (n:Int) (by omega) (Int.le_refl _) (by rw[h2];rw[← Int.natCast_mul];omega) (by omega)
 rw[h1,hz1,Int.toNat_natCast,Nat.mul_one]at h
 rw[h]
 congr 3
 apply Array.ext'
 rw[toList_madeCells_one];simp
theorem ZuQ:(Tryz.prog.info? 331).map (fun i=>(i.zero,i.size,i.bytes))=some (some (.slice none 0 0),1,24):=by kernel_rfl
theorem Zeg:(Tryz.prog.info? 3).map (fun i=>(i.zero,i.size,i.bytes))=some (some (.int .i64 0),1,8):=by kernel_rfl
def Zgu(kilos:Int)(back:Bool)(r:Rd):List Ed:=if carB r.li kilos then [if back then⟨r.tu.toNat,r.fr.toNat,r.mi.toNat⟩else⟨r.fr.toNat,r.tu.toNat,r.mi.toNat⟩]else []
def edges(kilos:Int)(back:Bool)(l:List Rd):List Ed:=l.flatMap (Zgu kilos back)
theorem ZsS(kilos:Int)(back:Bool):edges kilos back []=[]:=rfl
theorem Zfa(kilos:Int)(back:Bool)(l:List Rd)(r:Rd):edges kilos back (l++[r])=edges kilos back l++Zgu kilos back r:=by simp[edges]
def adj(E:List Ed)(a:Nat):List Stop:=(E.filter fun e=>e.a==a).map fun e=>(e.m,e.b)
theorem Zpb(E:List Ed)(e:Ed)(a:Nat):adj (E++[e]) a=if e.a=a then adj E a++[(e.m,e.b)]else adj E a:=by
 unfold adj
 rw[List.filter_append,List.map_append]
 by_cases h:e.a=a<;>simp[h]
theorem ZqH(E:List Ed)(a:Nat):(adj E a).length≤E.length:=by
 unfold adj;rw[Yc0];exact Yb1 _ _
def ZjU(w:World)(G n:Nat)(E:List Ed):Prop :=
 ∃ vs:List Value,w.heap[G]? =some (.cells vs.toArray 331 (0,0))∧vs.length=n ∧
  (∀ i v,vs[i]? =some v→w.ownsRow 0 333 2 v (adj E i).length (flat (adj E i))∧v.ownBlock≠some G∧(∀ k,v.ownBlock=some k→G<k)) ∧
  ∀ (i j:Nat)(u v:Value)(k:Nat),vs[i]? =some u→vs[j]? =some v→u.ownBlock=some k→v.ownBlock=some k→i=j
theorem ZpZ(w:World)(n:Nat):ZjU (w.alloc (.cells (Array.replicate n (.slice none 0 0)) 331)) w.heap.size n []:=by
 refine⟨List.replicate n (.slice none 0 0),by rw[heap_alloc_new w _];simp,by simp,fun i v hv=>?_,fun i j u v k hu hv hk _=>?_⟩
 ·obtain rfl:v = .slice none 0 0:=by simp[List.getElem?_replicate]at hv;exact hv.2.symm
  exact⟨World.ownsRow_nil _ _ _ _,by simp[Value.ownBlock],by simp[Value.ownBlock]⟩
 ·obtain rfl:u = .slice none 0 0:=by simp[List.getElem?_replicate]at hu;exact hu.2.symm
  simp[Value.ownBlock]at hk
theorem Zjl{w W:World}{e:TypeId}{size:Nat}{v:Value}{n:Nat}{xs:List Value}(h:w.ownsRow 0 e size v n xs)(hb:∀ k,k<w.heap.size→W.heap[k]? =w.heap[k]?):W.ownsRow 0 e size v n xs:=by
 refine⟨h.1,?_⟩
 rcases h.2 with hn|⟨g,cap,cur,rfl,hb',hg,rest⟩
 ·exact .inl hn
 ·exact .inr ⟨g,cap,cur,rfl,hb',by rw[hb g (Ya5.1 hg).1];exact hg,rest⟩
theorem Zea{w W:World}{e:TypeId}{size:Nat}{v:Value}{n:Nat}{xs:List Value}(h:w.ownsRow 0 e size v n xs)(hb:∀ k,v.ownBlock=some k→k<w.heap.size→W.heap[k]? =w.heap[k]?):W.ownsRow 0 e size v n xs:=by
 refine⟨h.1,?_⟩
 rcases h.2 with hn|⟨g,cap,cur,rfl,hb',hg,rest⟩
 ·exact .inl hn
 ·exact .inr ⟨g,cap,cur,rfl,hb',by rw[hb g rfl (Ya5.1 hg).1];exact hg,rest⟩
theorem Zcd{w:World}{e:TypeId}{size:Nat}{v:Value}{n:Nat}{xs:List Value}(h:w.ownsRow 0 e size v n xs){G o:Nat}{x:Value}(hne:v.ownBlock≠some G):(w.setCell ⟨G,o,none⟩ x).ownsRow 0 e size v n xs :=
 Zea h fun k hk _=>Below.heap_setCell _ _ _ _ (fun hkG=>hne (by rw[hk,hkG]))
theorem Zi1(w:World)(o1 o2 o3:Obj)(k:Nat)(hk:k<w.heap.size):(((w.alloc o1).alloc o2).alloc o3).heap[k]? =w.heap[k]?:=by
 rw[Below.heap_alloc _ _ _ (by simp;omega),Below.heap_alloc _ _ _ (by simp;omega),Below.heap_alloc _ _ _ hk]
theorem ZvS(w:World)(o1 o2 o3:Obj):(((w.alloc o1).alloc o2).alloc o3).heap[w.heap.size+2]? =some o3:=by
 have:=heap_alloc_new ((w.alloc o1).alloc o2) o3
 simpa using this
theorem Zmk(kilos:Int)(back:Bool)(l:List Rd):(edges kilos back l).length≤l.length:=by
 induction l with
 | nil=>simp[edges]
 | cons r l ih =>
   have h1:(Zgu kilos back r).length≤1:=by unfold Zgu;split<;>simp
   simp only[edges,List.flatMap_cons,Yb9,List.length_cons]at ih ⊢
   omega
theorem ZiT(kilos:Int)(back:Bool)(l:List Rd)(j a:Nat)(h:l.length≤600):(adj (edges kilos back (l.take j)) a).length≤600:=by
 have h1:=ZqH (edges kilos back (l.take j)) a
 have h2:=Zmk kilos back (l.take j)
 have h3:(l.take j).length≤l.length:=by simp;omega
 omega
theorem ZlM{wr W w1:World}{G n na b m gg cap':Nat}{E:List Ed}{vs:List Value}{u:Value}(hvs:wr.heap[G]? =some (.cells vs.toArray 331 (0,0)))(hvl:vs.length=n)
 (hrow:∀ i v,vs[i]? =some v→wr.ownsRow 0 333 2 v (adj E i).length (flat (adj E i))∧v.ownBlock≠some G∧(∀ k,v.ownBlock=some k→G<k))
 (hdis:∀ (i j:Nat)(u v:Value)(k:Nat),vs[i]? =some u→vs[j]? =some v→u.ownBlock=some k→v.ownBlock=some k→i=j) (hu:vs[na]? =some u)
 (hWs:W.heap.size=wr.heap.size+3) (hWh:∀ k,k<wr.heap.size→W.heap[k]? =wr.heap[k]?)
 (hown1:w1.ownsRow 0 333 2 (.slice (some ⟨gg,0,none⟩) ((adj E na).length+1) cap') ((adj E na).length+1) (flat (adj E na)++[I m,I b])) (hgrow:W.grownBy w1 u.ownBlock) (hat:u.ownBlock=some gg∨gg=wr.heap.size+3) :
 ZjU (w1.setCell ⟨G,na,none⟩ (.slice (some ⟨gg,0,none⟩) ((adj E na).length+1) cap')) G n (E++[⟨na,b,m⟩]):=by
 have hGlt:G<wr.heap.size:=(Ya5.1 hvs).1
 obtain⟨ho,hoG,hok⟩:=hrow na u hu
 have hgG:G<gg:=by
  rcases hat with h|h
  ·exact hok gg h
  ·omega
 have hb:∀ k,k<wr.heap.size→some k≠u.ownBlock→w1.heap[k]? =wr.heap[k]?:=fun k hk hne=>by rw[hgrow.block k (by omega) hne,hWh k hk]
 have hnl:na<vs.length:=(Ya3.1 hu).1
 refine⟨vs.set na (.slice (some ⟨gg,0,none⟩) ((adj E na).length+1) cap'),?_,by simpa using hvl,fun i v hv=>?_,fun i j x y k hx hy hkx hky=>?_⟩
 ·rw[heap_setCell_same w1 G na _ _ _ ((hb G hGlt (Ne.symm hoG)).trans hvs)]
  simp
 ·rw[List.getElem?_set]at hv
  split at hv
  ·rename_i hi
   subst hi
   simp only[Ya1]at hv
   subst hv
   rw[Zpb,if_pos rfl,Yb9,List.length_singleton,Zei]
   refine⟨Zcd hown1 (by simp[Value.ownBlock];omega),by simp[Value.ownBlock];omega,fun k hk=>by simp[Value.ownBlock]at hk;omega⟩
  ·rename_i hi
   obtain⟨h1,h2,h3⟩:=hrow i v hv
   rw[Zpb,if_neg (by simpa using hi)]
   refine⟨Zcd (Zea h1 fun k hk hlt=>hb k hlt (fun e=>?_)) h2,h2,h3⟩
   exact hi (hdis na i u v k hu hv e.symm hk)
 ·rw[List.getElem?_set]at hx hy
  have key:∀ (i:Nat)(x:Value)(k:Nat),vs[i]? =some x→x.ownBlock=some k→k=gg→i=na:=fun p z c hz hc hcg=>by
   rcases hat with h|h
   ·exact hdis p na z u c hz hu hc (by rw[h,hcg])
   ·have:=((hrow p z hz).1.lt c hc).2
    omega
  split at hx
  ·rename_i hi
   subst hi
   split at hy
   ·assumption
   ·rename_i hj
    simp only[Ya1]at hx
    subst hx
    simp[Value.ownBlock]at hkx
    exact(key j y k hy hky hkx.symm).symm
  ·rename_i hi
   split at hy
   ·rename_i hj
    subst hj
    simp only[Ya1]at hy
    subst hy
    simp[Value.ownBlock]at hky
    exact key i x k hx hkx hky.symm
   ·exact hdis i j x y k hx hy hkx hky
theorem ZjL{ki:Int}{bk:Bool}{x:Rd}(h:carB x.li ki=true):Zgu ki bk x=[if bk then⟨x.tu.toNat,x.fr.toNat,x.mi.toNat⟩else⟨x.fr.toNat,x.tu.toNat,x.mi.toNat⟩]:=by unfold Zgu;rw[if_pos h]
theorem Zml{ki:Int}{bk:Bool}{x:Rd}(h:carB x.li ki=false):Zgu ki bk x=[]:=by unfold Zgu;rw[if_neg (by simp[h])]
theorem Zdx{α:Type}{l:List α}{j:Nat}{x:α}(h:l[j]? =some x):l.take (j+1)=l.take j++[x]:=by rw[Yb4,h];rfl
def ZeP(w:World)(S n:Nat)(T:Nat→Option Nat):Prop:=w.heap[S]? =some (.cells ((List.range n).map fun v=>I (encT (T v))).toArray 3 (0,0))
theorem ZeP.cell{w:World}{S n:Nat}{T:Nat→Option Nat}(h:ZeP w S n T){v:Nat}(hv:v<n):w.cell? ⟨S,v,none⟩=some (I (encT (T v))):=by
 rw[cell_of_row w S v _ _ (0,0) h];simp[hv]
theorem ZeP.free{w:World}{S n:Nat}{T:Nat→Option Nat}(h:ZeP w S n T)(v:Nat):w.frozen? ⟨S,v,none⟩=false:=frozen_of_row w S v _ _ h
theorem ZeP.set{w:World}{S n:Nat}{T:Nat→Option Nat}(h:ZeP w S n T)(v t:Nat):ZeP (w.setCell ⟨S,v,none⟩ (I t)) S n (setT T v t):=by
 unfold ZeP
 rw[heap_setCell_same w S v _ _ _ h]
 congr 2
 apply Array.ext'
 apply List.ext_getElem?
 intro i
 simp only[List.setIfInBounds_toArray,List.getElem?_set,Yb8,Yc0,List.length_range]
 by_cases hi:i<n
 ·by_cases hv:v=i
  ·subst hv;simp[hi,setT,encT]
  ·simp[hi,hv,setT,Ne.symm hv]
 ·by_cases hv:v=i
  ·subst hv;simp[hi]
  ·simp[hi,hv]
theorem ZeP.ints{w:World}{S n:Nat}{T:Nat→Option Nat}(h:ZeP w S n T)(hn:n≤100):Zau w (.slice (some ⟨S,0,none⟩) n n) ((List.range n).map fun v=>encT (T v)):=by
 have hS:S<w.heap.size:=(Ya5.1 h).1
 refine⟨some ⟨S,0,none⟩,n,by simp,by simp,by unfold maxLen;omega,.inr ⟨S,0,rfl,hS,fun i x hi=>?_⟩⟩
 have hlt:i<n:=by simpa using (Ya3.1 hi).1
 refine⟨[I x],rfl,rfl,fun j u hj=>?_⟩
 cases j with
 | zero =>
   simp only[List.getElem?_cons_zero,Ya1]at hj
   subst hj
   have:=h.cell hlt
   simp[hlt]at hi
   rw[hi]at this
   simpa using this
 | succ j=>simp at hj
structure St (wc wr:World) (S n:Nat) (T:Nat→Option Nat) (H:List Stop) (g cap:Nat):Prop where
 below:Below S wc wr
 out:ZeP wr S n T
 qat:QAt wr (S+1+1) g cap H
 gg:S<g
theorem St.only{wc wr w':World}{S n:Nat}{T:Nat→Option Nat}{H H':List Stop}{g cap g' cap':Nat}(h:St wc wr S n T H g cap)(hb:Only (S+1+1) g wr w')(hq:QAt w' (S+1+1) g' cap' H')(hg:g'=g∨wr.heap.size≤g'):St wc w' S n T H' g' cap':=by
 have hS:S<wr.heap.size:=(Ya5.1 h.out).1
 have:=h.gg
 refine⟨h.below.trans ⟨hb.os,hb.tape,hb.output,hb.size,fun k hk=>hb.block k (by omega) (by omega) (by omega)⟩,?_,hq,by omega⟩
 unfold ZeP
 rw[hb.block S hS (by omega) (by omega)]
 exact h.out
theorem St.alloc{wc wr:World}{S n:Nat}{T:Nat→Option Nat}{H:List Stop}{g cap:Nat}(h:St wc wr S n T H g cap)(o:Obj):St wc (wr.alloc o) S n T H g cap:=by
 have hS:S<wr.heap.size:=(Ya5.1 h.out).1
 have hq:S+1+1<wr.heap.size:=(Ya5.1 h.qat.head).1
 refine⟨h.below.alloc (by omega) o,?_,⟨?_,h.qat.ne,h.qat.row.of_block ?_⟩,h.gg⟩
 ·unfold ZeP;rw[Below.heap_alloc _ _ _ hS];exact h.out
 ·rw[Below.heap_alloc _ _ _ hq];exact h.qat.head
 ·rw[Below.heap_alloc _ _ _ h.qat.row.lt]
theorem St.settle{wc wr:World}{S n:Nat}{T:Nat→Option Nat}{H:List Stop}{g cap:Nat}(h:St wc wr S n T H g cap)(v t:Nat):St wc (wr.setCell ⟨S,v,none⟩ (I t)) S n (setT T v t) H g cap:=by
 have:=h.gg
 refine⟨h.below.setCell (p:=⟨S,v,none⟩) (Ya4 _) _,h.out.set v t,⟨?_,h.qat.ne,h.qat.row.of_block ?_⟩,h.gg⟩
 ·rw[Below.heap_setCell _ _ _ _ (by simp;omega)];exact h.qat.head
 ·rw[Below.heap_setCell _ _ _ _ (by simp;omega)]
def pend(E:List Ed)(n:Nat)(T:Nat→Option Nat):Nat:=((List.range n).map fun v=>if T v=none then(adj E v).length else 0).sum
theorem ZyF{l:List Nat}{f:Nat→Nat}{M:Nat}(h:∀ x∈l,f x≤M):(l.map f).sum≤l.length*M:=by
 induction l with
 | nil=>simp
 | cons x l ih =>
   have h1:=h x (Yb7 ..)
   have h2:=ih fun y hy=>h y (Yb6 _ hy)
   simp only[List.map_cons,List.sum_cons,List.length_cons,Nat.add_mul]
   omega
theorem ZwI(E:List Ed)(n:Nat)(T:Nat→Option Nat)(hE:∀ a,(adj E a).length≤600)(hn:n≤100):pend E n T≤60000:=by
 have:=ZyF (l:=List.range n) (f:=fun v=>if T v=none then(adj E v).length else 0) (M:=600) (fun x _=>by
  show(if T x=none then(adj E x).length else 0)≤600
  split
  ·exact hE x
  ·omega)
 simp only[List.length_range]at this
 unfold pend
 omega
theorem Zwq{l:List Nat}(hl:l.Nodup){f g:Nat→Nat}{v:Nat}(hv:v∈l)(h0:g v=0)(h:∀ x,x≠v→f x=g x):(l.map f).sum=(l.map g).sum+f v:=by
 induction l with
 | nil=>cases hv
 | cons x l ih =>
   simp only[List.map_cons,List.sum_cons]
   obtain⟨hx,hl⟩:=List.nodup_cons.1 hl
   rcases List.mem_cons.1 hv with rfl|hv
   ·have:l.map f=l.map g:=List.map_congr_left fun y hy=>h y (fun e=>hx (e▸hy))
    rw[this,h0];omega
   ·have:=ih hl hv
    rw[h x (fun e=>hx (e▸hv))]
    omega
theorem Zt9{E:List Ed}{n v t:Nat}{T:Nat→Option Nat}(hv:v<n)(hT:T v=none):pend E n T=pend E n (setT T v t)+(adj E v).length:=by
 unfold pend
 rw[Zwq (g:=fun x=>if setT T v t x=none then(adj E x).length else 0) List.nodup_range (Yd2.2 hv) (by simp[setT]) (fun x hx=>by simp[setT,hx])]
 simp[hT]
theorem Zye{E:List Ed}{n s v t:Nat}(hin:In E n)(hs:s<n)(h:Way E s v t):v<n:=by
 cases h with
 | nil=>exact hs
 | snoc e he _=>exact(hin e he).2
theorem Zr4{E:List Ed}{v t:Nat}(x:Stop):x∈(adj E v).map (fun y=>(t+y.1,y.2))↔∃ e∈E,e.a=v∧x=(t+e.m,e.b):=by
 simp only[adj,List.map_map,Yc6,List.mem_filter,Function.comp_apply]
 constructor
 ·rintro⟨e,⟨he,ha⟩,rfl⟩;exact⟨e,he,by simpa using ha,rfl⟩
 ·rintro⟨e,he,ha,rfl⟩;exact⟨e,⟨he,by simpa using ha⟩,rfl⟩
theorem Zrs{w:World}{u:Value}{l:List Stop}(h:w.ownsRow 0 333 2 u l.length (flat l)):∃ a c,u = .slice a l.length c∧∀ (i:Nat)(y:Stop),l[i]? =some y→∃ gg,a=some ⟨gg,0,none⟩∧gg<w.heap.size:=by
 rcases h.2 with⟨rfl,h0⟩|⟨g,cap,cur,rfl,_,hg,_⟩
 ·refine⟨none,0,by rw[h0],fun i y hi=>?_⟩
  have:=(Ya3.1 hi).1
  omega
 ·exact⟨_,cap,rfl,fun _ _ _=>⟨g,rfl,(Ya5.1 hg).1⟩⟩
theorem Zrt{w:World}{gg c:Nat}{l:List Stop}(h:w.ownsRow 0 333 2 (.slice (some ⟨gg,0,none⟩) l.length c) l.length (flat l)){i:Nat}{y:Stop}(hi:l[i]? =some y) :
 w.cell? ⟨gg,i*2,none⟩=some (I y.1)∧w.cell? ⟨gg,i*2+1,none⟩=some (I y.2):=QRow.get h hi
def Zx6(w:World)(l:List Int)(e:Ending)(w':World):Prop:=∃ v,e = .returned v∧Zau w' v l∧Below w.heap.size w w'
def Zpf(w:World)(l:List Int)(e:Ending)(w':World):Prop:=∃ v,e = .returned v∧Zau w' v l∧Below w.heap.size w w'∧∀ b,v.ownBlock=some b→w.heap.size≤b
theorem Zpf.ints{w:World}{l:List Int}{e:Ending}{w':World}(h:Zpf w l e w'):Zx6 w l e w':=by
 obtain⟨v,h1,h2,h3,_⟩:=h
 exact⟨v,h1,h2,h3⟩
structure Good (n:Nat) (l:List Rd):Prop where
 nodes:n≤100
 len:l.length≤600
 road:∀ r∈l,0≤r.fr∧r.fr<n∧0≤r.tu∧r.tu<n∧1≤r.mi∧r.mi≤1000000
theorem Zin{ki:Int}{bk:Bool}{l:List Rd}{e:Ed}(h:e∈edges ki bk l):∃ r∈l,carB r.li ki=true∧e=if bk then⟨r.tu.toNat,r.fr.toNat,r.mi.toNat⟩else⟨r.fr.toNat,r.tu.toNat,r.mi.toNat⟩:=by
 simp only[edges,List.mem_flatMap,Zgu]at h
 obtain⟨r,hr,he⟩:=h
 split at he
 ·simp only[List.mem_singleton]at he
  exact⟨r,hr,by assumption,he⟩
 ·cases he
theorem Good.inn{n:Nat}{l:List Rd}(h:Good n l)(ki:Int)(bk:Bool):In (edges ki bk l) n:=fun e he=>by
 obtain⟨r,hr,_,rfl⟩:=Zin he
 have:=h.road r hr
 cases bk<;>simp<;>omega
theorem Good.posi{n:Nat}{l:List Rd}(h:Good n l)(ki:Int)(bk:Bool):Posi (edges ki bk l):=fun e he=>by
 obtain⟨r,hr,_,rfl⟩:=Zin he
 have:=h.road r hr
 cases bk<;>simp<;>omega
theorem Good.most{n:Nat}{l:List Rd}(h:Good n l)(ki:Int)(bk:Bool):∀ e∈edges ki bk l,e.m≤1000000:=fun e he=>by
 obtain⟨r,hr,_,rfl⟩:=Zin he
 have:=h.road r hr
 cases bk<;>simp<;>omega
theorem Good.adj{n:Nat}{l:List Rd}(h:Good n l)(ki:Int)(bk:Bool)(a:Nat):(adj (edges ki bk l) a).length≤600:=by
 have:=ZiT ki bk l l.length a h.len
 rwa [Yc2]at this
theorem ZtQ{wc w2:World}{n s:Nat}(hO:ZeP w2 wc.heap.size n (fun _=>none))(hB:Below wc.heap.size wc w2)(hsz:w2.heap.size=wc.heap.size+1) :
 St wc ((w2.alloc (.cells #[I 0,I s] 333)).alloc (.cells #[.slice (some ⟨wc.heap.size+1,0,none⟩) 1 1] 335)) wc.heap.size n (fun _=>none) [(0,s)] (wc.heap.size+1) 1:=by
 refine⟨(hB.alloc (by omega) _).alloc (by simp;omega) _,?_,⟨?_,by omega,?_⟩,by omega⟩
 ·unfold ZeP
  rw[Below.heap_alloc _ _ _ (by simp;omega),Below.heap_alloc _ _ _ (by omega)]
  exact hO
 ·have:=heap_alloc_new (w2.alloc (.cells #[I 0,I s] 333)) (.cells #[.slice (some ⟨wc.heap.size+1,0,none⟩) 1 1] 335)
  simpa[hsz]using this
 ·have h:=World.ownsRow_lit (base:=0) (e:=333) (size:=2) w2 #[I 0,I s] 1 (Yb0 _) (by decide) rfl
  rw[hsz]at h
  refine QRow.of_block (w:=w2.alloc (.cells #[I 0,I s] 333)) (l:=[(0,s)]) ?_ (Below.heap_alloc _ _ _ (by simp;omega))
  simpa[QRow,flat]using h
theorem Zzl(w:World)(o1 o2:Obj)(k:Nat)(hk:k<w.heap.size):((w.alloc o1).alloc o2).heap[k]? =w.heap[k]?:=by
 rw[Below.heap_alloc _ _ _ (by simp;omega),Below.heap_alloc _ _ _ hk]
theorem ZlN{w W:World}{G n:Nat}{E:List Ed}(h:ZjU w G n E)(hb:∀ k,k<w.heap.size→W.heap[k]? =w.heap[k]?):ZjU W G n E:=by
 obtain⟨vs,h1,h2,h3,h4⟩:=h
 exact⟨vs,by rw[hb G (Ya5.1 h1).1];exact h1,h2,fun i v hv=>⟨Zea (h3 i v hv).1 fun k _ hk=>hb k hk,(h3 i v hv).2⟩,h4⟩
theorem Zjm{A wr W w1:World}{B na:Nat}{u x:Value}(hB:Below B A wr)(hG:B<wr.heap.size)(hok:∀ k,u.ownBlock=some k→B<k)(hW:∀ k,k<wr.heap.size→W.heap[k]? =wr.heap[k]?)
 (h1:W.os=wr.os) (h2:W.tape=wr.tape) (h3:W.output=wr.output) (h4:wr.heap.size≤W.heap.size) (hgrow:W.grownBy w1 u.ownBlock):Below B A (w1.setCell ⟨B,na,none⟩ x):=by
 refine hB.trans (Below.setCell (p:=⟨B,na,none⟩) ⟨hgrow.os.trans h1,hgrow.tape.trans h2,hgrow.output.trans h3,Yc7 h4 hgrow.size,fun k hk=>?_⟩ (Ya4 _) _)
 have hk:k<B:=hk
 rw[hgrow.block k (by omega) (fun e=>by have:=hok k e.symm;omega),hW k (by omega)]
set_option maxRecDepth 100000 in
set_option maxHeartbeats 40000000 in
theorem ZpE(n:Nat)(v:Value)(l:List Rd)(s:Nat)(ki:Int)(bk:Bool)(w:World)(hl:RoadsAt w v l)(hG:Good n l)(hsn:s<n) :
 Calls Tryz.prog 212 #[.agg #[I n,v],I s,I ki,B bk] w (Zpf w (ZsZ (edges ki bk l) n s)):=by
 have hn:=hG.nodes
 have hk:=hG.len
 have hR:=hG.road
 obtain⟨a,cap,rfl,hlc,hcap⟩:=hl.shape
 have hmk:=fun u=>ZcZ (P:=Tryz.prog) 329 331 _ _ Tryz.underlying329 ZuQ rfl n (by omega) (by omega) u
 have hmi:=fun u=>ZcZ (P:=Tryz.prog) 30 3 _ _ Tryz.underlying30 Zeg rfl n (by omega) (by omega) u
 obtain⟨i0,hi0,hz0,hz1,hz2⟩:=info_parts Zl1
 have HR:=Lib.hid hR;clear hR
 go_enter Tryz.func212,Tryz.ntmps212
 go_upto_block 0 with fail
 go_cut [27] (fun _ wx=>ZjU wx (w.heap.size+1) n (edges ki bk l)∧Below (w.heap.size+1) (w.alloc (.cells #[I n,.slice a l.length cap] 57)) wx)
 case first =>
  go_wp2_with fail
  go_loopw [27] (fun c wr=>∃ j:Nat,j≤l.length∧c=I j∧ZjU wr (w.heap.size+1) n (edges ki bk (l.take j))∧Below (w.heap.size+1) (w.alloc (.cells #[I n,.slice a l.length cap] 57)) wr) (fun c _=>l.length-(intOf c).toNat)
  case atStart=>exact⟨0,by omega,rfl,by simpa[ZsS]using ZpZ (w.alloc _) n,(Below.refl _ _).alloc (by simp) _⟩
  case round =>
   obtain⟨j,hj,rfl,hN,hB⟩:=hrel
   obtain⟨hb,hs,hc0,hc1⟩:=box2 hB
   by_cases hlt:j<l.length
   ·obtain⟨b,off,x,rfl,hbl,hx,g0,g1,g2,g3⟩:=RoadsAt.get4 (hl.below Zk1.mono hb) hlt
    obtain⟨r1,r2,r3,r4,r5,r6⟩:=HR.out x (Ya7 hx.out)
    cases bk with
    | false =>
      by_cases hcar:carB x.li ki=true
      ·obtain⟨vs,hvs,hvl,hrow,hdis⟩:=hN
       obtain⟨na,ha⟩:∃ na:Nat,x.fr=(na:Int):=⟨x.fr.toNat,by omega⟩
       obtain⟨nb,hto⟩:∃ nb:Nat,x.tu=(nb:Int):=⟨x.tu.toNat,by omega⟩
       obtain⟨nm,hm⟩:∃ nm:Nat,x.mi=(nm:Int):=⟨x.mi.toNat,by omega⟩
       obtain⟨u,hu⟩:∃ u,vs[na]? =some u:=⟨_,Ya0 (by omega)⟩
       obtain⟨ho,hog,hok⟩:=hrow na u hu
       have hcu:wr.cell? ⟨w.heap.size+1,na,none⟩=some u:=by rw[cell_of_row wr _ na _ _ (0,0) hvs];simpa using hu
       have hfu:wr.frozen? ⟨w.heap.size+1,na,none⟩=false:=frozen_of_row wr _ na _ _ hvs
       have hGlt:w.heap.size+1<wr.heap.size:=(Ya5.1 hvs).1
       have ha1:(na:Int)<(n:Int):=by omega
       have hab:=ZiT ki false l j na hk
       have Hrow:=Lib.hid hrow;clear hrow
       have Hdis:=Lib.hid hdis;clear hdis
       have HE:Hid (edges ki false (l.take (j+1))=edges ki false (l.take j)++[⟨na,nb,nm⟩]):=Lib.hid<|by
        rw[Zdx hx.out,Zfa,ZjL hcar];show _=_;simp[ha,hto,hm]
       go_wp2_with fail
       go_quiet (fail)
       go_wp2_with (go_at_call 216;refine(Zem _ _ _ _ _ _).mono ?_;rintro e w' ⟨rfl,rfl⟩)
       go_region_law ((refine step_append_lies _ (by rfl) _ _ _ (by rfl) 0 333 i0 _ 2 16 Tryz.underlying331 hi0 hz0 hz1 hz2 rfl (by omega) u _ _ (by rfl) (Zjl ho (fun k hk=>Zi1 wr _ _ _ k hk)) ⟨wr.heap.size+2,0,none⟩ 1 1 [I nm,I nb] (by rfl) (by rfl) (World.news_of_block (cs:=#[I nm,I nb]) (t:=333) (fr:=(0,0)) (ZvS wr _ _ _)) (by simp[Value.oneCell']) (by omega) (by unfold maxLen;omega) (by omega) (by simp) (wr.heap.size+3) (by simp) ?_;intro gg cap' w1 hown1 hgrow hat hlt2;have kc:=(hgrow.cell_far ⟨w.heap.size+1,na,none⟩ (by simp;omega) (Ne.symm hog)).trans ((World.cell?_of_block (Zi1 wr _ _ _ _ hGlt)).trans hcu);have kf:=(hgrow.frozen_far ⟨w.heap.size+1,na,none⟩ (by simp;omega) (Ne.symm hog)).trans ((World.frozen?_of_block (Zi1 wr _ _ _ _ hGlt)).trans hfu)))
       all_goals
        go_wp2
        go_roundw
        case rel =>
         refine⟨j+1,by omega,by go_num,?_,?_⟩
         ·rw[HE.out]
          exact ZlM hvs hvl Hrow.out Hdis.out hu (by simp) (by exact fun k hk=>Zi1 wr _ _ _ k hk) hown1 hgrow hat
         ·exact Zjm hB hGlt hok (by exact fun k hk=>Zi1 wr _ _ _ k hk) (by rfl) (by rfl) (by rfl) (by simp;omega) hgrow
        case measure=>simp[intOf];omega
      ·have hcar':carB x.li ki=false:=by simpa using hcar
       clear hcar
       have HE:Hid (edges ki false (l.take (j+1))=edges ki false (l.take j)):=Lib.hid<|by
        rw[Zdx hx.out,Zfa,Zml hcar'];simp
       go_wp2_with fail
       go_quiet (fail)
       go_wp2_with (go_at_call 216;refine(Zem _ _ _ _ _ _).mono ?_;rintro e w' ⟨rfl,rfl⟩)
       go_roundw
       case rel =>
        refine⟨j+1,by omega,by go_num,?_,?_⟩
        ·rw[HE.out]
         exact ZlN hN (fun k hk=>Zzl wr _ _ k hk)
        ·exact ZiP (ZaT (ZiP hB (by simp)) _) (by simp)
       case measure=>simp[intOf];omega
    | true =>
      by_cases hcar:carB x.li ki=true
      ·obtain⟨vs,hvs,hvl,hrow,hdis⟩:=hN
       obtain⟨na,ha⟩:∃ na:Nat,x.tu=(na:Int):=⟨x.tu.toNat,by omega⟩
       obtain⟨nb,hto⟩:∃ nb:Nat,x.fr=(nb:Int):=⟨x.fr.toNat,by omega⟩
       obtain⟨nm,hm⟩:∃ nm:Nat,x.mi=(nm:Int):=⟨x.mi.toNat,by omega⟩
       obtain⟨u,hu⟩:∃ u,vs[na]? =some u:=⟨_,Ya0 (by omega)⟩
       obtain⟨ho,hog,hok⟩:=hrow na u hu
       have hcu:wr.cell? ⟨w.heap.size+1,na,none⟩=some u:=by rw[cell_of_row wr _ na _ _ (0,0) hvs];simpa using hu
       have hfu:wr.frozen? ⟨w.heap.size+1,na,none⟩=false:=frozen_of_row wr _ na _ _ hvs
       have hGlt:w.heap.size+1<wr.heap.size:=(Ya5.1 hvs).1
       have ha1:(na:Int)<(n:Int):=by omega
       have hab:=ZiT ki true l j na hk
       have Hrow:=Lib.hid hrow;clear hrow
       have Hdis:=Lib.hid hdis;clear hdis
       have HE:Hid (edges ki true (l.take (j+1))=edges ki true (l.take j)++[⟨na,nb,nm⟩]):=Lib.hid<|by
        rw[Zdx hx.out,Zfa,ZjL hcar];show _=_;simp[ha,hto,hm]
       go_wp2_with fail
       go_quiet (fail)
       go_wp2_with (go_at_call 216;refine(Zem _ _ _ _ _ _).mono ?_;rintro e w' ⟨rfl,rfl⟩)
       go_region_law ((refine step_append_lies _ (by rfl) _ _ _ (by rfl) 0 333 i0 _ 2 16 Tryz.underlying331 hi0 hz0 hz1 hz2 rfl (by omega) u _ _ (by rfl) (Zjl ho (fun k hk=>Zi1 wr _ _ _ k hk)) ⟨wr.heap.size+2,0,none⟩ 1 1 [I nm,I nb] (by rfl) (by rfl) (World.news_of_block (cs:=#[I nm,I nb]) (t:=333) (fr:=(0,0)) (ZvS wr _ _ _)) (by simp[Value.oneCell']) (by omega) (by unfold maxLen;omega) (by omega) (by simp) (wr.heap.size+3) (by simp) ?_;intro gg cap' w1 hown1 hgrow hat hlt2;have kc:=(hgrow.cell_far ⟨w.heap.size+1,na,none⟩ (by simp;omega) (Ne.symm hog)).trans ((World.cell?_of_block (Zi1 wr _ _ _ _ hGlt)).trans hcu);have kf:=(hgrow.frozen_far ⟨w.heap.size+1,na,none⟩ (by simp;omega) (Ne.symm hog)).trans ((World.frozen?_of_block (Zi1 wr _ _ _ _ hGlt)).trans hfu)))
       all_goals
        go_wp2
        go_roundw
        case rel =>
         refine⟨j+1,by omega,by go_num,?_,?_⟩
         ·rw[HE.out]
          exact ZlM hvs hvl Hrow.out Hdis.out hu (by simp) (by exact fun k hk=>Zi1 wr _ _ _ k hk) hown1 hgrow hat
         ·exact Zjm hB hGlt hok (by exact fun k hk=>Zi1 wr _ _ _ k hk) (by rfl) (by rfl) (by rfl) (by simp;omega) hgrow
        case measure=>simp[intOf];omega
      ·have hcar':carB x.li ki=false:=by simpa using hcar
       clear hcar
       have HE:Hid (edges ki true (l.take (j+1))=edges ki true (l.take j)):=Lib.hid<|by
        rw[Zdx hx.out,Zfa,Zml hcar'];simp
       go_wp2_with fail
       go_quiet (fail)
       go_wp2_with (go_at_call 216;refine(Zem _ _ _ _ _ _).mono ?_;rintro e w' ⟨rfl,rfl⟩)
       go_roundw
       case rel =>
        refine⟨j+1,by omega,by go_num,?_,?_⟩
        ·rw[HE.out]
         exact ZlN hN (fun k hk=>Zzl wr _ _ k hk)
        ·exact ZiP (ZaT (ZiP hB (by simp)) _) (by simp)
       case measure=>simp[intOf];omega
   ·have e:j=l.length:=by omega
    subst e
    go_wp2_with fail
    go_meet
    case rel=>exact⟨by simpa using hN,hB⟩
 case rest =>
  obtain⟨hN,hB⟩:=hcut
  obtain⟨hb0,hs0,hc0,hc1⟩:=box2 hB
  obtain⟨wr0,hwr0⟩:∃ wr0:World,wr0=wc:=⟨_,rfl⟩
  subst hwr0
  go_upto_block 2 with fail
  go_cut [60] (fun _ wx=>ZeP wx wr0.heap.size n (fun _=>none)∧Below wr0.heap.size wr0 wx∧wx.heap.size=wr0.heap.size+1)
  case first =>
   go_wp2_with fail
   go_loopw [60] (fun c wr=>∃ j:Nat,j≤n∧c=I j∧wr.heap[wr0.heap.size]? =some (.cells ((List.range n).map fun v=>if v<j then I (-1)else I 0).toArray 3 (0,0))∧Below wr0.heap.size wr0 wr∧wr.heap.size=wr0.heap.size+1) (fun c _=>n-(intOf c).toNat)
   case atStart =>
    refine⟨0,by omega,rfl,?_,(Below.refl _ _).alloc (Ya4 _) _,by simp⟩
    rw[heap_alloc_new]
    congr 2
    apply Array.ext'
    apply List.ext_getElem?
    intro i
    simp[List.getElem?_replicate]
    split<;>simp_all
   case round =>
    obtain⟨j,hj,rfl,hh,hBb,hsz⟩:=hrel
    have Hsz:=Lib.hid hsz;clear hsz
    by_cases hlt:j<n
    ·have hcj:wr.cell? ⟨wr0.heap.size,j,none⟩=some (I 0):=by rw[cell_of_row wr _ j _ _ (0,0) hh];simp[hlt]
     have hfj:wr.frozen? ⟨wr0.heap.size,j,none⟩=false:=frozen_of_row wr _ j _ _ hh
     have hji:(j:Int)<(n:Int):=by omega
     go_wp2_with fail
     go_roundw
     case rel =>
      refine⟨j+1,by omega,by go_num,?_,hBb.setCell (p:=⟨_,j,none⟩) (Ya4 _) _,by simpa using Hsz.out⟩
      rw[heap_setCell_same wr _ j _ _ _ hh]
      congr 2
      apply Array.ext'
      apply List.ext_getElem?
      intro i
      simp only[List.setIfInBounds_toArray,List.getElem?_set,Yb8,Yc0,List.length_range]
      by_cases hi:i<n
      ·by_cases hv:j=i
       ·subst hv;simp[hi]
       ·simp only[hi,hv,List.getElem?_range,Yd0,if_false]
        have:(i<j)=(i<j+1):=by apply propext;omega
        simp[this]
      ·by_cases hv:j=i
       ·subst hv;simp[hi]
       ·simp[hi,hv]
     case measure=>simp[intOf];omega
    ·have e:j=n:=by omega
     subst e
     go_wp2_with fail
     go_meet
     case rel =>
      refine⟨?_,hBb,Hsz.out⟩
      unfold ZeP
      rw[hh]
      congr 3
      apply List.map_congr_left
      intro v hv
      simp[encT,Yd2.1 hv]
  case rest =>
   obtain⟨hO,hBc,hsz⟩:=hcut
   obtain⟨w2,hw2⟩:∃ w2:World,w2=wc:=⟨_,rfl⟩
   subst hw2
   go_wp2_with fail
   go_loopg [] (1+pend (edges ki bk l) n (fun _=>none)) (fun k wr=>∃ T H g cap,k=H.length+pend (edges ki bk l) n T∧k≤60001∧Wave (edges ki bk l) s T H∧Zfp H H.length∧(∀ x∈H,x.1≤200000000)∧St wr0 wr wr0.heap.size n T H g cap)
   case atStart =>
    refine⟨fun _=>none,[(0,s)],wr0.heap.size+1,1,by simp,?_,Zpk _ _,fun c h0 h1=>by simp at h1;omega,by simp,?_⟩
    ·have:=ZwI (edges ki bk l) n (fun _=>none) (hG.adj ki bk) hG.nodes
     omega
    ·exact ZtQ hO hBc hsz
   case round =>
    obtain⟨wo,hwo⟩:∃ wo:World,wo=wr:=⟨_,rfl⟩
    subst hwo
    obtain⟨T,H,g,cap,hk1,hk2,hW,hH,hbd,hSt⟩:=hrel
    by_cases hne:0<H.length
    ·have hpos:(0:Int)<(H.length:Int):=by omega
     have HW:=Lib.hid hW;clear hW
     have HB:=Lib.hid hbd;clear hbd
     have HK:=Lib.hid hk1;clear hk1
     have HK2:=Lib.hid hk2;clear hk2
     have HHe:=Lib.hid hH;clear hH
     have hqc:=hSt.qat.cell
     have hta:=ZiQ
     go_upto_region 20 with(first
      | (go_at_call 217;refine(Zks _ _ _ _).mono ?_;rintro e w' ⟨rfl,rfl⟩)
      | (go_at_call 218;refine(Znv _ _ _ H _ hSt.qat HHe.out hne (by have:=HK.out;have:=HK2.out;omega)).mono ?_;rintro e w3 ⟨x,H',rfl,hQ3,hp3,hmin,hH3,hOn⟩;have Hmin:=Lib.hid hmin;clear hmin;have HH3:=Lib.hid hH3;clear hH3))
     have hSt3:=hSt.only hOn hQ3 (.inl rfl)
     have hq3:wr0.heap.size+1+1<w3.heap.size:=(Ya5.1 hQ3.head).1
     have hS3:wr0.heap.size<w3.heap.size:=(Ya5.1 hSt3.out).1
     have hxH:x∈H:=hp3.mem_iff.1 (Yb7 ..)
     have hxn:x.2<n:=Zye (hG.inn ki bk) hsn (HW.out.way x hxH)
     have hxb:=HB.out x hxH
     have hlen3:H'.length+1=H.length:=by have:=hp3.length_eq;simpa using this
     have hcx:=hSt3.out.cell hxn
     have hfx:=hSt3.out.free x.2
     have hxi:(x.2:Int)<(n:Int):=by omega
     have Hp3:=Lib.hid hp3;clear hp3
     have Hl3:=Lib.hid hlen3;clear hlen3
     have HxH:=Lib.hid hxH;clear hxH
     cases hT:T x.2 with
     | some d =>
       rw[hT]at hcx
       have hd:((d:Int) != -1)=true:=by simp
       have HT:=Lib.hid hT;clear hT
       simp only[encT]at hcx
       go_wp2_with fail
       go_roundg (H'.length+pend (edges ki bk l) n T)
       case measure=>have:=HK.out;have:=Hl3.out;omega
       case rel =>
        refine⟨T,H',g,cap,rfl,by have:=HK.out;have:=Hl3.out;have:=HK2.out;omega,HW.out.skip (t:=x.1) (v:=x.2) (fun y=>by rw[← Hp3.out.mem_iff];exact List.mem_cons) (by rw[HT.out];simp),HH3.out,fun y hy=>HB.out y (Hp3.out.mem_iff.1 (Yb6 _ hy)),hSt3.alloc _⟩
     | none =>
       rw[hT]at hcx
       have HT:=Lib.hid hT;clear hT
       simp only[encT]at hcx
       have hdx:=(Wave.least HW.out (t:=x.1) (v:=x.2) HxH.out Hmin.out HT.out)
       have hx8:x.1≤100000000:=by
        have:=ZsU (hG.posi ki bk) (hG.inn ki bk) (hG.most ki bk) hdx
        have:=hG.nodes
        have:=Nat.mul_le_mul_right 1000000 hG.nodes
        omega
       have hSt4:=hSt3.settle x.2 x.1
       obtain⟨vs,hvs,hvl,hrow,_⟩:=hN
       obtain⟨u,hu⟩:∃ u,vs[x.2]? =some u:=⟨_,Ya0 (by omega)⟩
       obtain⟨hown,_,_⟩:=hrow x.2 u hu
       have hGS:w.heap.size+1<wr0.heap.size:=(Ya5.1 hvs).1
       have hG3:w.heap.size+1<w3.heap.size:=by omega
       have hcu:w3.cell? ⟨w.heap.size+1,x.2,none⟩=some u:=(hSt3.below.cell (p:=⟨w.heap.size+1,x.2,none⟩) hGS).trans ((cell_of_row _ _ x.2 _ _ (0,0) hvs).trans (by simpa using hu))
       obtain⟨ua,uc,rfl,hushape⟩:=Zrs hown
       obtain⟨A,hA⟩:∃ A,A=adj (edges ki bk l) x.2:=⟨_,rfl⟩
       rw[← hA]at hown hushape hcu
       have hab:A.length≤600:=by rw[hA];exact hG.adj ki bk x.2
       have HA:=Lib.hid hA;clear hA
       have Hush:=Lib.hid hushape;clear hushape hrow hvl
       have Hvs:=Lib.hid hvs;clear hvs hu
       go_wp2_with fail
       go_loopw [105] (fun c wr' => ∃ (j : Nat) (H2 : List Stop) (g2 cap2 : Nat), j ≤ A.length ∧ c = I j ∧ St wr0 wr' wr0.heap.size n (setT T x.2 x.1) H2 g2 cap2 ∧ H2.Perm (H' ++ (A.take j).map (fun y => (x.1 + y.1, y.2))) ∧ Zfp H2 H2.length ∧
           wr'.cell? ⟨w3.heap.size,0,none⟩=some (I x.1)∧wr'.cell? ⟨w3.heap.size,1,none⟩=some (I x.2)∧w3.heap.size<wr'.heap.size∧w3.heap.size≠g2) (fun c _=>A.length-(intOf c).toNat)
       case atStart =>
        refine⟨0,H',g,cap,by omega,rfl,hSt4.alloc _,by simp,HH3.out,?_,?_,by simp,?_⟩
        ·rw[World.cell?_alloc_at _ _ _ _ (by simp)];rfl
        ·rw[World.cell?_alloc_at _ _ _ _ (by simp)];rfl
        ·have:=hQ3.row.lt;omega
       case round =>
        obtain⟨j,H2,g2,cap2,hj,rfl,hS2,hp2,hh2,x0,x1,xlt,xg⟩:=hrel
        have HP2:=Lib.hid hp2;clear hp2
        have HH2:=Lib.hid hh2;clear hh2
        have hl2:H2.length≤100000:=by
         have h1:=HP2.out.length_eq
         have h2:=HK.out;have h3:=HK2.out;have h4:=Hl3.out
         simp at h1
         omega
        by_cases hlt:j<A.length
        ·obtain⟨y,hy⟩:∃ y,A[j]? =some y:=⟨_,Ya0 hlt⟩
         obtain⟨gg,hua,hgg⟩:=Hush.out j y hy
         subst hua
         obtain⟨c0,c1⟩:=Zrt hown hy
         have d0:=(hS2.below.cell (p:=⟨gg,j*2,none⟩) hgg).trans c0
         have d1:=(hS2.below.cell (p:=⟨gg,j*2+1,none⟩) hgg).trans c1
         have hSw:wr0.heap.size<wr.heap.size:=by omega
         have hym:y.1≤1000000:=by
          have hyA:=Ya7 hy
          rw[HA.out]at hyA
          simp only[adj,Yc6,List.mem_filter]at hyA
          obtain⟨e,⟨he,_⟩,rfl⟩:=hyA
          exact hG.most ki bk e he
         obtain⟨z,hz⟩:∃ z:Nat,(x.1:Int)+(y.1:Int)=(z:Int):=⟨x.1+y.1,by omega⟩
         have Hy:=Lib.hid hy;clear hy
         have hggw:gg<wr.heap.size:=by omega
         go_wp2_with (go_at_call 219;refine(Zl4 _ _ _ H2 (z,y.2) _ (hS2.alloc _).qat HH2.out (by omega)).mono ?_;rintro e w5 ⟨rfl,g5,cap5,H5,hQ5,hp5,hh5,hg5,hOn5⟩)
         go_roundw
         case rel =>
          have hXw:w3.heap.size<(wr.alloc (.cells #[I y.1,I y.2] 333)).heap.size:=by simp;omega
          have hb5:=hOn5.block w3.heap.size hXw (by omega) xg
          have hb6:(wr.alloc (.cells #[I y.1,I y.2] 333)).heap[w3.heap.size]? =wr.heap[w3.heap.size]?:=Below.heap_alloc _ _ _ xlt
          refine⟨j+1,H5,g5,cap5,by omega,by go_num,(hS2.alloc _).only hOn5 hQ5 hg5,?_,hh5,?_,?_,?_,?_⟩
          ·rw[Zdx Hy.out,List.map_append]
           have ez:z=x.1+y.1:=by omega
           subst ez
           exact(hp5.trans (HP2.out.append_right _)).trans (by rw[Yd3];exact .refl _)
          ·exact(World.cell?_of_block (hb5.trans hb6)).trans x0
          ·exact(World.cell?_of_block (hb5.trans hb6)).trans x1
          ·have:=hOn5.size;simp only[World.size_alloc]at this;omega
          ·rcases hg5 with hg5|hg5
           ·omega
           ·simp only[World.size_alloc]at hg5;omega
         case measure=>simp[intOf];omega
        ·have ej:j=A.length:=by omega
         subst ej
         go_wp2_with fail
         have hpe:H2.Perm (H'++A.map (fun y=>(x.1+y.1,y.2))):=by have:=HP2.out;rwa [Yc2]at this
         have hle:H2.length=H'.length+A.length:=by have:=hpe.length_eq;simpa using this
         have hpd:=Zt9 (E:=edges ki bk l) (t:=x.1) hxn HT.out
         rw[← HA.out]at hpd
         go_roundg (H2.length+pend (edges ki bk l) n (setT T x.2 x.1))
         case measure=>have:=HK.out;have:=Hl3.out;omega
         case rel =>
          refine⟨setT T x.2 x.1,H2,g2,cap2,rfl,by have:=HK.out;have:=Hl3.out;have:=HK2.out;omega,?_,HH2.out,?_,hS2⟩
          ·refine HW.out.step (t:=x.1) (v:=x.2) (H':=H') (fun y=>by rw[← Hp3.out.mem_iff];exact List.mem_cons) Hmin.out HT.out (fun y=>?_)
           rw[hpe.mem_iff,Yd5,HA.out,Zr4]
          ·intro y hy
           rw[hpe.mem_iff,Yd5]at hy
           rcases hy with hy|hy
           ·exact HB.out y (Hp3.out.mem_iff.1 (Yb6 _ hy))
           ·rw[HA.out,Zr4]at hy
            obtain⟨e,he,_,rfl⟩:=hy
            have:=hG.most ki bk e he
            show x.1+e.m≤_
            omega
    ·have hH0:H=[]:=Ya9 (by omega)
     subst hH0
     have hqc:=hSt.qat.cell
     go_wp2_with (go_at_call 217;refine(Zks _ _ _ _).mono ?_;rintro e w' ⟨rfl,rfl⟩)
     go_ret
     refine⟨_,rfl,?_,?_,fun b hb=>by simp[Value.ownBlock]at hb;omega⟩
     ·have:=hSt.out.ints hG.nodes
      have e:((List.range n).map fun v=>encT (T v))=ZsZ (edges ki bk l) n s:=List.map_congr_left fun v _=>by rw[hW.last v]
      rw[← e];exact this
     ·exact hb0.trans (hSt.below.mono (by omega))
theorem ZkS{n:Int}{l:List Rd}(h:ZaX n l=0):∀ r∈l,Zb6 n r=0:=by
 induction l with
 | nil=>intro r hr;cases hr
 | cons x l ih =>
   unfold ZaX at h
   split at h
   ·intro r hr
    rcases List.mem_cons.1 hr with rfl|hr
    ·assumption
    ·exact ih h r hr
   ·rename_i hx;exact absurd h hx
theorem Zmr{n:Int}{r:Rd}(h:Zb6 n r=0):0≤r.fr∧r.fr<n∧0≤r.tu∧r.tu<n∧r.fr≠r.tu∧1≤r.mi∧r.mi≤1000000∧(r.li = -1∨1≤r.li∧r.li≤1000000):=by
 grind[Zb6,inB]
theorem ZiH{n:Int}{l:List Rd}(h:ZcK n l=0):0≤n∧n≤100∧l.length≤600∧∀ r∈l,Zb6 n r=0:=by
 unfold ZcK at h
 split at h
 ·simp at h
 ·rename_i h1
  split at h
  ·simp at h
  ·have:inB n 0 100=true:=by simpa using h1
   rw[ZgT]at this
   exact⟨this.1,this.2,by omega,ZkS h⟩
theorem Zsu{N:Nat}{l:List Rd}(h:ZcK N l=0):Good N l:=by
 obtain⟨_,h1,h2,h3⟩:=ZiH h
 refine⟨by omega,h2,fun r hr=>?_⟩
 have:=Zmr (h3 r hr)
 omega
noncomputable def timesL (n:Int) (l:List Rd) (s ki:Int):List Int:=if ZcK n l=0∧0≤s∧s<n then ZsZ (edges ki false l) n.toNat s.toNat else []
theorem ZhX{N S:Nat}{l:List Rd}{ki:Int}(h:ZcK N l=0)(hs:S<N):timesL N l S ki=ZsZ (edges ki false l) N S:=by
 unfold timesL;rw[if_pos ⟨h,by omega,by omega⟩];simp
theorem ZmK{n s:Int}{l:List Rd}{ki:Int}(h:ZcK n l≠0):timesL n l s ki=[]:=by
 unfold timesL;rw[if_neg (fun x=>h x.1)]
theorem ZmJ{n s:Int}{l:List Rd}{ki:Int}(h:¬ (0≤s∧s<n)):timesL n l s ki=[]:=by
 unfold timesL;rw[if_neg (fun x=>h x.2)]
theorem ZoH(w:World):Zau w (.slice none 0 0) []:=⟨none,0,rfl,Ya4 _,by unfold maxLen;omega,.inl rfl⟩
theorem times_new(n s ki:Int)(v:Value)(l:List Rd)(w:World)(hl:RoadsAt w v l) :
 Calls Tryz.prog 205 #[.agg #[I n,v],I s,I ki] w (Zpf w (timesL n l s ki)):=by
 by_cases hc:ZcK n l=0
 ·have hcb:(ZcK n l !=0)=false:=by simp[hc]
  obtain⟨h0,h1,h2,h3⟩:=ZiH hc
  obtain⟨N,rfl⟩:∃ N:Nat,n=(N:Int):=⟨n.toNat,by omega⟩
  have hG:=Zsu hc
  have HC:=Lib.hid hc;clear hc h3
  by_cases hs:0≤s∧s<N
  ·obtain⟨S,rfl⟩:∃ S:Nat,s=(S:Int):=⟨s.toNat,by omega⟩
   have hin:inB (S:Int) 0 ((N:Int)-1)=true:=by rw[ZgT];omega
   have hS:S<N:=by omega
   rw[ZhX HC.out hS]
   obtain⟨a,cap,rfl,hlc,hcap⟩:=hl.shape
   go_enter Tryz.func205,Tryz.ntmps205
   go_wp2_with (first
    | (go_at_call 138;refine(ZiJ _ _ l _ (hl.below Zk1.mono ((Below.refl _ _).alloc (Ya4 _) _))).mono ?_;rintro e w1 ⟨rfl,hb1⟩;obtain⟨hz1,hc1,hf1⟩:=ZbZ hb1;have hb1':=(ZiP (o:=.cells #[I N,.slice a l.length cap] 57) (Below.refl w.heap.size w) (Ya4 _)).trans (hb1.mono (by simp)))
    | (go_at_call 170;refine(Ziv _ _ _ _).mono ?_;rintro e w' ⟨rfl,rfl⟩)
    | (go_at_call 212;refine(ZpE N _ l S _ _ _ (hl.below Zk1.mono hb1') hG hS).mono ?_;rintro e w2 ⟨v2,rfl,hi2,hb2,hn2⟩))
   go_ret
   exact⟨_,rfl,hi2,hb1'.trans (hb2.mono hb1'.size),fun b hb=>Yc7 hb1'.size (hn2 b hb)⟩
  ·have hin:inB s 0 ((N:Int)-1)=false:=by rw[Zxq];omega
   rw[ZmJ hs]
   obtain⟨a,cap,rfl,hlc,hcap⟩:=hl.shape
   go_enter Tryz.func205,Tryz.ntmps205
   go_wp2_with (first
    | (go_at_call 138;refine(ZiJ _ _ l _ (hl.below Zk1.mono ((Below.refl _ _).alloc (Ya4 _) _))).mono ?_;rintro e w1 ⟨rfl,hb1⟩;obtain⟨hz1,hc1,hf1⟩:=ZbZ hb1;have hb1':=(ZiP (o:=.cells #[I N,.slice a l.length cap] 57) (Below.refl w.heap.size w) (Ya4 _)).trans (hb1.mono (by simp)))
    | (go_at_call 170;refine(Ziv _ _ _ _).mono ?_;rintro e w' ⟨rfl,rfl⟩))
   go_ret
   exact⟨_,rfl,ZoH _,hb1',fun b hb=>by simp[Value.ownBlock]at hb⟩
 ·have hcb:(ZcK n l !=0)=true:=by simpa using hc
  rw[ZmK hc]
  obtain⟨a,cap,rfl,hlc,hcap⟩:=hl.shape
  have HC:=Lib.hid hc;clear hc
  go_enter Tryz.func205,Tryz.ntmps205
  go_wp2_with (first
   | (go_at_call 138;refine(ZiJ _ _ l _ (hl.below Zk1.mono ((Below.refl _ _).alloc (Ya4 _) _))).mono ?_;rintro e w1 ⟨rfl,hb1⟩;obtain⟨hz1,hc1,hf1⟩:=ZbZ hb1;have hb1':=(ZiP (o:=.cells #[I n,.slice a l.length cap] 57) (Below.refl w.heap.size w) (Ya4 _)).trans (hb1.mono (by simp))))
  go_ret
  exact⟨_,rfl,ZoH _,hb1',fun b hb=>by simp[Value.ownBlock]at hb⟩
def certB(E:List Ed)(n s:Nat)(T:List (Option Nat)):Bool :=
 T.getD s none==some 0
  && E.all (fun e=>match T.getD e.a none with|none=>true|some t=>match T.getD e.b none with|none=>false|some t'=>decide (t'≤t+e.m))
  && (List.range n).all (fun v=>match T.getD v none with|none=>true|some t=>v==s||E.any (fun e=>e.b==v&&match T.getD e.a none with|none=>false|some u=>t==u+e.m))
theorem Zqw{E:List Ed}{n s:Nat}{T:List (Option Nat)}(h:certB E n s T=true):Cert E n s (fun v=>T.getD v none):=by
 simp only[certB,Ya2,Ya6,Yd2,beq_iff_eq]at h
 obtain⟨⟨h1,h2⟩,h3⟩:=h
 refine⟨h1,fun e he t ht=>?_,fun v hv t ht=>?_⟩
 ·have:=h2 e he
  rw[ht]at this
  cases hb:T.getD e.b none with
  | none=>rw[hb]at this;simp at this
  | some t'=>rw[hb]at this;exact⟨t',rfl,by simpa using this⟩
 ·have:=h3 v hv
  rw[ht]at this
  simp only[Bool.or_eq_true,beq_iff_eq,List.any_eq_true,Ya2]at this
  rcases this with h|⟨e,he,hb,hm⟩
  ·exact .inl h
  ·refine .inr ⟨e,he,hb,?_⟩
   cases ha:T.getD e.a none with
   | none=>rw[ha]at hm;simp at hm
   | some u=>rw[ha]at hm;exact⟨u,rfl,by simpa using hm⟩
theorem Zqs{E:List Ed}{n s:Nat}{T:List (Option Nat)}(hp:Posi E)(hin:In E n)(h:certB E n s T=true):∀ v,v<n→dst E s v=T.getD v none:=fun v hv=>(((Zqw h).eq hp hin hv)).symm
def twoL:List Rd:=[⟨0,1,10,-1⟩,⟨1,0,10,-1⟩]
theorem Zn2:ZcK ((2:Nat):Int) twoL=0:=by decide
theorem Zk5:Good 2 twoL:=Zsu Zn2
theorem two_times(ki:Int)(s:Nat)(hs:s<2)(T:List (Option Nat))(h:certB (edges ki false twoL) 2 s T=true):timesL 2 twoL s ki=(List.range 2).map fun v=>encT (T.getD v none):=by
 refine(ZhX (N:=2) (S:=s) Zn2 hs).trans ?_
 unfold ZsZ
 apply List.map_congr_left
 intro v hv
 rw[Zqs (Zk5.posi ki false) (Zk5.inn ki false) h v (by simpa using hv)]
end Go.Proofs.YtblamlnjbjaokaaGreat.Rn
namespace Go.Proofs.YtblamlnjbjaokaaGreat
set_option linter.unusedVariables false
set_option linter.unusedSimpArgs false
set_option linter.unusedSectionVars false
open Go Go.RowKit
set_option maxRecDepth 100000
abbrev cRd(r:Rn.Rd):List D:=[dI r.fr,dI r.tu,dI r.mi,dI r.li]
abbrev Zv1(l:List Rn.Rd):D:=.sl (l.map cRd)
abbrev encN(n:Int)(l:List Rn.Rd):D:=.agg [dI n,Zv1 l]
section
variable {S:Nat→Nat→Prop} {w:World} {v:Value} {l:List Rn.Rd}
theorem Zlv(h:Rep noB noM S w v (Zv1 l)):Rn.RoadsAt w v l:=by
 obtain⟨a,cap,rfl,h1,h2,h3⟩:=h.inv_sl
 rw[Yc0]at h2 ⊢
 refine⟨a,cap,rfl,h2,h1,?_⟩
 rcases h3 with h3|⟨b,off,k,rfl,h4,h5⟩
 ·exact .inl (by simpa using congrArg List.length h3)
 ·by_cases h0:l.length=0
  ·exact .inl h0
  ·refine .inr ⟨b,off,rfl,?_,fun i x hi=>?_⟩
   ·obtain⟨x,hx⟩:∃ x,l[0]? =some x:=⟨_,Ya0 (by omega)⟩
    obtain⟨u,_,hc,_⟩:=h5 0 0 (dI x.fr) (Zaf.2 ⟨cRd x,by simp[hx],rfl⟩)
    exact Zdq hc
   ·have hk:k=4:=by rw[← h4 i (cRd x) (by simp[hi])];rfl
    subst hk
    refine⟨[I x.fr,I x.tu,I x.mi,I x.li],rfl,rfl,fun j u hu=>?_⟩
    have key:∀ (j:Nat)(n:Int),(cRd x)[j]? =some (dI n)→w.cell? ⟨b,off+i*4+j,none⟩=some (I n):=fun j n hj=>by
     obtain⟨u,_,hc,hr⟩:=h5 i j (dI n) (Zaf.2 ⟨cRd x,by simp[hi],hj⟩)
     rw[hc,hr.inv_v]
    match j,hu with
    | 0,hu=>cases hu;exact key 0 _ rfl
    | 1,hu=>cases hu;exact key 1 _ rfl
    | 2,hu=>cases hu;exact key 2 _ rfl
    | 3,hu=>cases hu;exact key 3 _ rfl
    | j+4,hu=>cases hu
end
theorem Zk7(n s ki:Int)(l:List Rn.Rd):Zaa Tryz.prog 205 [encN n l,dI s,dI ki] (Zah (Rn.timesL n l s ki)):=by
 refine⟨⟨_,_,Tryz.func205,rfl,by kernel_rfl⟩,fun S w vs hf hvs=>?_⟩
 match vs,hvs with
 | [x,y,z],hvs =>
   obtain⟨us,rfl,h2,h3⟩:=(hvs.2 0 x _ rfl rfl).inv_agg
   obtain⟨a,d,rfl,h4,h5⟩:=Zlx ⟨h2,h3⟩
   rw[h4.inv_v,(hvs.2 1 y _ rfl rfl).inv_v,(hvs.2 2 z _ rfl rfl).inv_v]
   refine(Rn.times_new n s ki d l w (Zlv h5)).mono ?_
   rintro e w' ⟨u,rfl,hi,hb,hn⟩
   exact⟨u,rfl,hb,ZfH hi fun b o hb=>hf b o (hn b hb)⟩
 | [],hvs=>exact absurd hvs.1 (by simp)
 | [_],hvs=>exact absurd hvs.1 (by simp)
 | [_,_],hvs=>exact absurd hvs.1 (by simp)
 | _ ::_ ::_ ::_ ::_,hvs=>exact absurd hvs.1 (by simp)
abbrev cQ:List D:=[dI 1,dI 0,dI 600,dI 5,dI 0,dI 9,.sl []]
abbrev shQ:D:=.agg [dI 5,dI 0,dI 0,dI 60,dI 8000,.sl [[dI 1000]]]
abbrev rds:D:=.sl [[dI 0,dI 1,dI 10,dI (-1)],[dI 1,dI 0,dI 10,dI (-1)]]
abbrev netQ:D:=.agg [dI 2,rds]
abbrev rq1:D:=.sl [cQ]
abbrev rq2:D:=.sl [cQ,cQ]
abbrev in0:D:=.sl [[dI 0]]
abbrev in1:D:=.sl [[dI 1]]
abbrev in2:D:=.sl [[dI 0],[dI 1]]
def noF(_:FuncId):Bool:=false
def noK(_:TypeId):Bool:=false
theorem evA{inB inX:FuncId→Bool}{kt:TypeId→Bool}{f:FuncId}{ds:List D}{d:D}{T:List (FuncId×List D×D)}(hT:∀ e∈T,Zaa Tryz.prog e.1 e.2.1 e.2.2)(h:evN (oraT T) (evF Tryz.prog fsL (oraT T) Zxa inB inX kt 20 12) f ds=some d):Zaa Tryz.prog f ds d :=
 Zv0 mixed Zzo (ZrF _ hT) Zuy h
theorem no_T:∀ e∈([]:List (FuncId×List D×D)),Zaa Tryz.prog e.1 e.2.1 e.2.2:=by simp
theorem Zxg:Zaa Tryz.prog 211 [shQ,rq1,in0] (.sl [[dI 600],[dI 0],[dI 0]]):=evA (inB:=noF) (inX:=noF) (kt:=noK) no_T (by kernel_rfl)
theorem Zxf:Zaa Tryz.prog 211 [shQ,rq2,in0] (.sl [[dI 600],[dI 0],[dI 0]]):=evA (inB:=noF) (inX:=noF) (kt:=noK) no_T (by kernel_rfl)
theorem Zxe:Zaa Tryz.prog 211 [shQ,rq2,in1] (.sl [[dI 600],[dI 0],[dI 0]]):=evA (inB:=noF) (inX:=noF) (kt:=noK) no_T (by kernel_rfl)
theorem Znn:∀ (i:Nat)(n:Int),([600,0,0]:List Int)[i]? =some n→n>0→∃ r,([1000]:List Int)[i]? =some r∧n≤r:=fun i n h hn=>by
 match i,h with
 | 0,h=>cases h;exact⟨1000,rfl,by decide⟩
 | 1,h=>cases h;omega
 | 2,h=>cases h;omega
 | i+3,h=>cases h
theorem Zzt:Zaa Tryz.prog 206 [shQ,rq1,in0] (dB true):=ZmL 5 0 0 60 8000 [1000] [cQ] [[dI 0]] 600 [0,0] (by decide) Zxg Znn
theorem Zzs:Zaa Tryz.prog 206 [shQ,rq2,in0] (dB true):=ZmL 5 0 0 60 8000 [1000] [cQ,cQ] [[dI 0]] 600 [0,0] (by decide) Zxf Znn
theorem Zzr:Zaa Tryz.prog 206 [shQ,rq2,in1] (dB true):=ZmL 5 0 0 60 8000 [1000] [cQ,cQ] [[dI 1]] 600 [0,0] (by decide) Zxe Znn
theorem Zzq:Zaa Tryz.prog 206 [shQ,rq2,in2] (dB false):=evA (inB:=noF) (inX:=noF) (kt:=noK) no_T (by kernel_rfl)
theorem ZtI:Zaa Tryz.prog 203 [shQ,rq1,.sl []] (dI 8000):=evA (inB:=noF) (inX:=noF) (kt:=noK) no_T (by kernel_rfl)
theorem ZtJ:Zaa Tryz.prog 203 [shQ,rq1,in0] (dI 8600):=evA (inB:=noF) (inX:=noF) (kt:=noK) no_T (by kernel_rfl)
theorem ZtF:Zaa Tryz.prog 203 [shQ,rq2,.sl []] (dI 8000):=evA (inB:=noF) (inX:=noF) (kt:=noK) no_T (by kernel_rfl)
theorem ZtH:Zaa Tryz.prog 203 [shQ,rq2,in0] (dI 8600):=evA (inB:=noF) (inX:=noF) (kt:=noK) no_T (by kernel_rfl)
theorem ZtG:Zaa Tryz.prog 203 [shQ,rq2,in1] (dI 8600):=evA (inB:=noF) (inX:=noF) (kt:=noK) no_T (by kernel_rfl)
theorem ZyC(ki:Int)(h:Rn.certB (Rn.edges ki false Rn.twoL) 2 0 [some 0,some 10]=true):Zaa Tryz.prog 205 [netQ,dI 0,dI ki] (.sl [[dI 0],[dI 10]]):=by
 have:=Zk7 2 0 ki Rn.twoL
 rw[show Rn.timesL 2 Rn.twoL 0 ki=[0,10]from Rn.two_times ki 0 (by decide) _ h]at this
 exact this
theorem ZvD(ki:Int)(h:Rn.certB (Rn.edges ki false Rn.twoL) 2 1 [some 10,some 0]=true):Zaa Tryz.prog 205 [netQ,dI 1,dI ki] (.sl [[dI 10],[dI 0]]):=by
 have:=Zk7 2 1 ki Rn.twoL
 rw[show Rn.timesL 2 Rn.twoL 1 ki=[10,0]from Rn.two_times ki 1 (by decide) _ h]at this
 exact this
def T1:List (FuncId×List D×D):=[
 (203,[shQ,rq1,.sl []],dI 8000),(203,[shQ,rq1,in0],dI 8600),(203,[shQ,rq2,.sl []],dI 8000),(203,[shQ,rq2,in0],dI 8600),(203,[shQ,rq2,in1],dI 8600),
 (206,[shQ,rq1,in0],dB true),(206,[shQ,rq2,in0],dB true),(206,[shQ,rq2,in1],dB true),(206,[shQ,rq2,in2],dB false),
 (205,[netQ,dI 0,dI 8000],.sl [[dI 0],[dI 10]]),(205,[netQ,dI 1,dI 8000],.sl [[dI 10],[dI 0]]),(205,[netQ,dI 1,dI 8600],.sl [[dI 10],[dI 0]]),
 (58,[.sl []],.cl []),(58,[in0],in0),(58,[in1],in1),(58,[in2],in2),(58,[.sl [[dI 10]]],.sl [[dI 10]]),(58,[.sl [[dI 1000]]],.sl [[dI 1000]]),
 (140,[.sl []],.cl []),(140,[in0],.cl [[dI 0]]),(144,[.sl []],.cl []),(56,[.sl []],.cl [])]
theorem ZkZ:∀ e∈T1,Zaa Tryz.prog e.1 e.2.1 e.2.2:=by
 unfold T1
 simp only[List.forall_mem_cons,List.not_mem_nil,false_implies,implies_true,and_true]
 exact⟨ZtI,ZtJ,ZtF,ZtH,ZtG,Zzt,Zzs,Zzr,Zzq,ZyC 8000 (by decide),ZvD 8000 (by decide),ZvD 8600 (by decide),
  ZxL,Zdg [0] (by decide),Zdg [1] (by decide),Zdg [0,1] (by decide),Zdg [10] (by decide),Zdg [1000] (by decide),Zv4 [] (by decide),Zv4 [0] (by decide),ZxK,Zvm⟩
def inR(f:FuncId):Bool:=Nat.beq f 149||(Nat.beq f 171||(Nat.beq f 192||(Nat.beq f 150||(Nat.beq f 177||Nat.beq f 197))))
def ktR(t:TypeId):Bool:=Nat.beq t 285
abbrev bq(s l t:Int):List D:=[dI s,dI l,dI t]
abbrev Zmu(st:D):List D:=[dI 0,st,.sl [[dI 10]],dI 25]
abbrev ZvN:D:=.agg [dI 0,.sl [],.sl [],dI 0]
abbrev lbQ:D:=.sl [bq 1 0 15,bq 2 1 15,bq 3 0 (-1),bq 3 1 (-1)]
theorem ZzI:Zaa Tryz.prog 141 [netQ,shQ,rq1,in0] (.tup [.agg (Zmu in0),dI 0]):=evA (inB:=inR) (inX:=inR) (kt:=ktR) ZkZ (by kernel_rfl)
theorem ZzH:Zaa Tryz.prog 141 [netQ,shQ,rq2,in0] (.tup [.agg (Zmu in0),dI 0]):=evA (inB:=inR) (inX:=inR) (kt:=ktR) ZkZ (by kernel_rfl)
theorem ZzG:Zaa Tryz.prog 141 [netQ,shQ,rq2,in1] (.tup [.agg (Zmu in1),dI 0]):=evA (inB:=inR) (inX:=inR) (kt:=ktR) ZkZ (by kernel_rfl)
theorem ZzF:Zaa Tryz.prog 141 [netQ,shQ,rq2,in2] (.tup [ZvN,dI 4]):=evA (inB:=inR) (inX:=inR) (kt:=ktR) ZkZ (by kernel_rfl)
theorem ZuM:Zaa Tryz.prog 108 [netQ,shQ,rq2,in2] lbQ:=evA (inB:=inR) (inX:=inR) (kt:=ktR) ZkZ (by kernel_rfl)
def T2h:List (FuncId×List D×D):=[(141,[netQ,shQ,rq1,in0],.tup [.agg (Zmu in0),dI 0]),(141,[netQ,shQ,rq2,in0],.tup [.agg (Zmu in0),dI 0]),(141,[netQ,shQ,rq2,in1],.tup [.agg (Zmu in1),dI 0]),(141,[netQ,shQ,rq2,in2],.tup [ZvN,dI 4]),(108,[netQ,shQ,rq2,in2],lbQ)]
theorem ZzO:∀ e∈T2h,Zaa Tryz.prog e.1 e.2.1 e.2.2:=by
 unfold T2h
 simp only[List.forall_mem_cons,List.not_mem_nil,false_implies,implies_true,and_true]
 exact⟨ZzI,ZzH,ZzG,ZzF,ZuM⟩
def T2:List (FuncId×List D×D):=T2h++T1
theorem Zvx:∀ e∈T2,Zaa Tryz.prog e.1 e.2.1 e.2.2:=fun e he=>(Yd5.1 he).elim (ZzO e) (ZkZ e)
def inP(f:FuncId):Bool:=Nat.beq f 96||(Nat.beq f 97||Nat.beq f 98)
abbrev shs:D:=.sl [[dI 5,dI 0,dI 0,dI 60,dI 8000,.sl [[dI 1000]]]]
abbrev ZvJ:D:=.sl [[dI 0,in2,lbQ]]
theorem plan0:Zaa Tryz.prog 45 [netQ,shs,.sl []] (.tup [.sl [],dI 0]):=evA (inB:=inP) (inX:=inP) (kt:=noK) Zvx (by kernel_rfl)
theorem plan1:Zaa Tryz.prog 45 [netQ,shs,rq1] (.tup [.sl [Zmu in0],dI 0]):=evA (inB:=inP) (inX:=inP) (kt:=noK) Zvx (by kernel_rfl)
theorem plan2:Zaa Tryz.prog 45 [netQ,shs,rq2] (.tup [.sl [],dI 4]):=evA (inB:=inP) (inX:=inP) (kt:=noK) Zvx (by kernel_rfl)
theorem ZwC:Zaa Tryz.prog 51 [netQ,shs,rq2] (.tup [ZvJ,dI 0]):=evA (inB:=inP) (inX:=inP) (kt:=noK) Zvx (by kernel_rfl)
def inS(f:FuncId):Bool:=Nat.beq f 102
abbrev ZzE:D:=.agg [dI 2,rds,shs,.sl []]
abbrev ZqA:D:=.agg [dI 2,rds,shs,rq1]
theorem bookA:Zaa Tryz.prog 49 [ZzE,rq1] ZqA:=evA (inB:=inS) (inX:=inS) (kt:=noK) ZkZ (by kernel_rfl)
theorem bookB:Zaa Tryz.prog 49 [ZqA,rq1] ZqA:=evA (inB:=inS) (inX:=inS) (kt:=noK) ZkZ (by kernel_rfl)
def T3h:List (FuncId×List D×D):=[(45,[netQ,shs,.sl []],.tup [.sl [],dI 0]),(45,[netQ,shs,rq1],.tup [.sl [Zmu in0],dI 0]),(45,[netQ,shs,rq2],.tup [.sl [],dI 4]),(51,[netQ,shs,rq2],.tup [ZvJ,dI 0]),(49,[ZzE,rq1],ZqA),(49,[ZqA,rq1],ZqA)]
theorem ZzN:∀ e∈T3h,Zaa Tryz.prog e.1 e.2.1 e.2.2:=by
 unfold T3h
 simp only[List.forall_mem_cons,List.not_mem_nil,false_implies,implies_true,and_true]
 exact⟨plan0,plan1,plan2,ZwC,bookA,bookB⟩
def T3:List (FuncId×List D×D):=T3h++T1
theorem T3_ok:∀ e∈T3,Zaa Tryz.prog e.1 e.2.1 e.2.2:=fun e he=>(Yd5.1 he).elim (ZzN e) (ZkZ e)
def inT(f:FuncId):Bool:=Nat.beq f 57
theorem ZmG:Zaa Tryz.prog 4 [] (dB true):=evA (inB:=inT) (inX:=inT) (kt:=noK) T3_ok (by kernel_rfl)
theorem Zwe(e:EvD)(ps:List PkD)(r:OptD×OptD)(y:List Zac)(h:List (List Zac)):Zag Tryz.prog 3 [Zej e,Zfu ps,encR r.1 r.2,ZaM y,encH h] (dB true):=ZtB ZmG.all e ps r.1 r.2 y h
set_option linter.constructorNameAsVariable false
theorem ZhI{n:Nat}{x:List D}(h:Zbh Tryz.prog (n+5) 35 x):∃ l,x=[ZaM l]:=by
 unfold Zbh at h
 simp only[Tryz.underlying35]at h
 obtain⟨es,rfl,_,h⟩:=h
 obtain⟨l,rfl⟩:=Zcj (f:=cF) (fun x hx=>ZnA (h x hx))
 exact⟨l,rfl⟩
theorem ZvK{n:Nat}{x:List D}(h:Zbh Tryz.prog (n+6) 37 x):∃ o,x=cO o:=by
 unfold Zbh at h
 simp only[Tryz.underlying37,List.foldr]at h
 obtain⟨_,_,rfl,h1,_,_,rfl,h2,_,_,rfl,h3,_,_,rfl,h4,_,_,rfl,h5,rfl⟩:=h
 obtain⟨a,rfl⟩:=Zbg h1
 obtain⟨b,rfl⟩:=ZnA h2
 obtain⟨c,rfl⟩:=ZhI h3
 obtain⟨d,rfl⟩:=ZhI h4
 obtain⟨e,rfl⟩:=ZhI h5
 exact⟨⟨a,b,c,d,e⟩,rfl⟩
theorem Zt8{n:Nat}{x:List D}(h:Zbh Tryz.prog (n+2) 107 x):∃ p,x=cPk p:=by
 unfold Zbh at h
 simp only[Tryz.underlying107,List.foldr]at h
 obtain⟨_,_,rfl,h1,_,_,rfl,h2,rfl⟩:=h
 obtain⟨a,rfl⟩:=Zbg h1
 obtain⟨b,rfl⟩:=Zbg h2
 exact⟨⟨a,b⟩,rfl⟩
theorem ZtZ{n:Nat}{x:List D}(h:Zbh Tryz.prog (n+7) 39 x):∃ r:OptD×OptD,x=cO r.1++cO r.2:=by
 unfold Zbh at h
 simp only[Tryz.underlying39,List.foldr]at h
 obtain⟨_,_,rfl,h1,_,_,rfl,h2,rfl⟩:=h
 obtain⟨a,rfl⟩:=ZvK h1
 obtain⟨b,rfl⟩:=ZvK h2
 exact⟨⟨a,b⟩,rfl⟩
end Go.Proofs.YtblamlnjbjaokaaGreat
