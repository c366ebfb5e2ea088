/-
  Digits to the base 2^20: plain mathematics.
-/
import Derived.Test.YtiincpioidnciaaGreatWLib
import Derived.Laws.Bits128
import Derived.IntWalk
namespace Go.Proofs.YtiincpioidnciaaGreat
set_option linter.unusedVariables false
set_option linter.unusedSimpArgs false
set_option linter.unusedSectionVars false
def val:List Int→Int
 | []=>0
 | d ::l=>d+1048576*val l
def bp:Nat→Int
 | 0=>1
 | k+1=>1048576*bp k
def Dig(l:List Int):Prop:=∀ d∈l,0≤d∧d<1048576
def Norm(l:List Int):Prop:=Dig l∧∀ d,l.getLast? =some d→d≠0
theorem Zbn:∀ k,0<bp k
 | 0=>by decide
 | k+1=>by have:=Zbn k;simp only[bp];omega
theorem Zlu(a b:Nat):bp (a+b)=bp a*bp b:=by
 induction a with
 | zero=>simp[bp]
 | succ a ih=>rw[Nat.succ_add];simp only[bp,ih,Int.mul_assoc]
theorem Zmt{a b:Nat}(h:a≤b):bp a≤bp b:=by
 induction h with
 | refl=>exact Int.le_refl _
 | step _ ih=>have:=Zbn;simp only[bp];have:=Zbn ‹Nat›;omega
def digs(n:Nat):List Int:=if h:n=0 then []else((n%1048576:Nat):Int) ::digs (n / 1048576)
termination_by n
decreasing_by omega
theorem ZaW:digs 0=[]:=by rw[digs];simp
theorem Zgl{n:Nat}(h:n≠0):digs n=((n%1048576:Nat):Int) ::digs (n / 1048576):=by rw[digs];simp[h]
theorem ZaB(n:Nat):val (digs n)=n:=by
 induction n using Nat.strongRecOn with
 | ind n ih =>
   by_cases h:n=0
   ·subst h;rw[ZaW];rfl
   ·rw[Zgl h,val,ih _ (by omega)];omega
theorem ZdB{d:Int}{l:List Int}:Dig (d ::l)↔(0≤d∧d<1048576)∧Dig l:=by simp[Dig]
theorem Zik:Dig []:=by simp[Dig]
theorem ZeU{a b:List Int}:Dig (a++b)↔Dig a∧Dig b:=by
 simp only[Dig,Yd5]
 constructor
 ·exact fun h=>⟨fun d hd=>h d (.inl hd),fun d hd=>h d (.inr hd)⟩
 ·rintro⟨h1,h2⟩ d (hd|hd)
  ·exact h1 d hd
  ·exact h2 d hd
theorem ZhI(k:Nat):Dig (List.replicate k 0):=by intro d hd;have:=Yd4 hd;omega
theorem Zfi{l:List Int}(h:Dig l)(i:Nat){x:Int}(h0:0≤x)(h1:x<1048576):Dig (l.set i x):=by
 intro d hd
 rcases List.mem_or_eq_of_mem_set hd with h2|rfl
 ·exact h d h2
 ·exact⟨h0,h1⟩
theorem Zat(n:Nat):Norm (digs n):=by
 induction n using Nat.strongRecOn with
 | ind n ih =>
   by_cases h:n=0
   ·subst h;rw[ZaW];exact⟨Zik,by simp⟩
   ·obtain⟨h1,h2⟩:=ih (n / 1048576) (by omega)
    rw[Zgl h]
    refine⟨ZdB.2 ⟨by omega,h1⟩,fun d hd=>?_⟩
    by_cases hq:n / 1048576=0
    ·rw[hq,ZaW]at hd
     simp at hd
     omega
    ·refine h2 d ?_
     rw[Zgl hq]at hd ⊢
     simpa[List.getLast?_cons_cons]using hd
theorem Zc3(a b:List Int):val (a++b)=val a+bp a.length*val b:=by
 induction a with
 | nil=>simp[val,bp]
 | cons d a ih=>simp only[Yc9,val,ih,List.length_cons,bp];grind
theorem ZhX{l:List Int}(h:∀ d∈l,0≤d):0≤val l:=by
 induction l with
 | nil=>simp[val]
 | cons d l ih =>
   have h1:=h d (by simp)
   have h2:=ih fun x hx=>h x (by simp[hx])
   simp only[val];omega
theorem Zbi{l:List Int}(h:Dig l):0≤val l:=ZhX fun d hd=>(h d hd).1
theorem Zes{l:List Int}(h:Dig l):val l<bp l.length:=by
 induction l with
 | nil=>simp[val,bp]
 | cons d l ih =>
   obtain⟨⟨h0,h1⟩,h2⟩:=ZdB.1 h
   have:=ih h2
   simp only[val,List.length_cons,bp]
   omega
theorem Zjn(k:Nat):val (List.replicate k 0)=0:=by
 induction k with
 | zero=>rfl
 | succ k ih=>simp[List.replicate_succ,val,ih]
theorem ZgS{l:List Int}(h:Norm l)(hl:l≠[]):bp (l.length-1)≤val l:=by
 obtain⟨hd,h2⟩:=h
 have e:=List.dropLast_concat_getLast hl
 have hlast:=h2 (l.getLast hl) (by rw[List.getLast?_eq_some_getLast hl])
 have hd1:=hd _ (List.getLast_mem hl)
 have hv:val l=val l.dropLast+bp (l.length-1)*l.getLast hl:=by
  have:=congrArg val e
  rw[Zc3]at this
  simp only[val,List.length_dropLast,Int.mul_zero,Int.add_zero]at this
  omega
 rw[hv]
 have h3:0≤val l.dropLast:=ZhX fun d hx=>(hd d (List.dropLast_subset _ hx)).1
 have:bp (l.length-1)*1≤bp (l.length-1)*l.getLast hl:=Yd1 (by omega) (Int.le_of_lt (Zbn _))
 omega
theorem Zt2{d:Int}{l:List Int}(h:Norm (d ::l)):Norm l:=by
 refine⟨(ZdB.1 h.1).2,fun x hx=>h.2 x ?_⟩
 cases l with
 | nil=>simp at hx
 | cons y l=>simpa[List.getLast?_cons_cons]using hx
theorem Zhn{l:List Int}(h:Norm l)(hv:val l=0):l=[]:=by
 cases hl:l with
 | nil=>rfl
 | cons d l' =>
   have h1:=ZgS h (by rw[hl];simp)
   have:=Zbn (l.length-1)
   omega
theorem Zo4{l:List Int}(h:Norm l):l=digs (val l).toNat:=by
 induction l with
 | nil=>rw[show val []=0 from rfl];exact ZaW.symm
 | cons d l ih =>
   have h1:=(ZdB.1 h.1).1
   have h0:=Zbi (ZdB.1 h.1).2
   have hv:(val (d ::l)).toNat≠0:=fun e=>by
    have:val (d ::l)=0:=by simp only[val]at e ⊢;omega
    have:=Zhn h this;cases this
   rw[Zgl hv]
   have e1:(((val (d ::l)).toNat%1048576:Nat):Int)=d:=by simp only[val];omega
   have e2:(val (d ::l)).toNat / 1048576=(val l).toNat:=by simp only[val];omega
   rw[e1,e2,← ih (Zt2 h)]
def Zbf(l:List Int):List Int:=(l.reverse.dropWhile (·==0)).reverse
theorem ZkL(l:List Int):Zbf (l++[0])=Zbf l:=by simp[Zbf]
theorem ZkM(l:List Int){d:Int}(h:d≠0):Zbf (l++[d])=l++[d]:=by simp[Zbf,h]
theorem ZrB(l:List Int):l=[]∨∃ a d,l=a++[d]:=by
 by_cases h:l=[]
 ·exact .inl h
 ·exact .inr ⟨_,_,(List.dropLast_concat_getLast h).symm⟩
theorem Zg3(n:Nat):∀ l:List Int,l.length=n→val (Zbf l)=val l∧(Zbf l).length≤l.length∧(Dig l→Norm (Zbf l))∧∃ k,Zbf l=l.take k:=by
 induction n with
 | zero =>
   intro l hl
   obtain rfl:l=[]:=Ya9 hl
   exact⟨rfl,Ya4 _,fun _=>⟨Zik,by simp[Zbf]⟩,0,rfl⟩
 | succ n ih =>
   intro l hl
   rcases ZrB l with rfl|⟨a,d,rfl⟩
   ·simp at hl
   ·by_cases hd:d=0
    ·subst hd
     have hla:a.length=n:=by simpa using hl
     obtain⟨h1,h2,h3,k,h4⟩:=ih a hla
     rw[ZkL]
     refine⟨by rw[h1,Zc3];simp[val],by simp;omega,fun h=>h3 (ZeU.1 h).1,min k a.length,?_⟩
     rw[h4,List.take_append_of_le_length (by omega)]
     by_cases hk:k≤a.length
     ·rw[Nat.min_eq_left hk]
     ·rw[Nat.min_eq_right (by omega),Ya8 (by omega),Ya8 (by omega)]
    ·rw[ZkM a hd]
     exact⟨rfl,Ya4 _,fun h=>⟨h,fun x hx=>by simp at hx;omega⟩,(a++[d]).length,(Yc2 ..).symm⟩
theorem ZpC(l:List Int):val (Zbf l)=val l:=(Zg3 _ l rfl).1
theorem Zc4(l:List Int):(Zbf l).length≤l.length:=(Zg3 _ l rfl).2.1
theorem Zno{l:List Int}(h:Dig l):Norm (Zbf l):=(Zg3 _ l rfl).2.2.1 h
theorem Zg2(l:List Int):Zbf l=l.take (Zbf l).length:=by
 obtain⟨k,h⟩:=(Zg3 _ l rfl).2.2.2
 rw[h,Yc1]
 by_cases hk:k≤l.length
 ·rw[Nat.min_eq_left hk]
 ·rw[Nat.min_eq_right (by omega),Ya8 (by omega),Ya8 (by omega)]
theorem ZdK{l:List Int}(h:Dig l):Zbf l=digs (val l).toNat:=by rw[Zo4 (Zno h),ZpC]
theorem ZkK{l:List Int}{n:Nat}(h:Dig l)(e:val l=n):Zbf l=digs n:=by rw[ZdK h,e];rfl
theorem ZsT{l:List Int}(h:Norm l):Zbf l=l:=by rw[ZdK h.1,← Zo4 h]
theorem Zbx{n k:Nat}(h:(n:Int)<bp k):(digs n).length≤k:=by
 by_cases hl:digs n=[]
 ·rw[hl];simp
 ·have h1:=ZgS (Zat n) hl
  rw[ZaB]at h1
  rcases Nat.lt_or_ge k (digs n).length with hk|hk
  ·have:=Zmt (a:=k) (b:=(digs n).length-1) (by omega)
   omega
  ·exact hk
theorem Zbw(n:Nat):(n:Int)<bp (digs n).length:=by
 have:=Zes (Zat n).1
 rwa [ZaB]at this
theorem Zea{n:Nat}:digs n=[]↔n=0:=by
 constructor
 ·intro h
  have:=ZaB n
  rw[h]at this
  have:(0:Int)=n:=this
  omega
 ·rintro rfl;exact ZaW
theorem Zht{a b:List Int}(ha:Dig a)(hb:Norm b)(h:a.length<b.length):val a<val b:=by
 have h1:=Zes ha
 have h2:=ZgS hb (by intro e;rw[e]at h;simp at h)
 have:=Zmt (a:=a.length) (b:=b.length-1) (by omega)
 omega
theorem Zbt(l:List Int){k:Nat}(hk:k≤l.length):val l=val (l.take k)+bp k*val (l.drop k):=by
 have:=congrArg val (List.take_append_drop k l)
 rw[Zc3]at this
 simp only[Yc1,Nat.min_eq_left hk]at this
 omega
theorem ZmC{l:List Int}{k:Nat}{d:Int}(h:l[k]? =some d):val (l.drop k)=d+1048576*val (l.drop (k+1)):=by
 obtain⟨hk,rfl⟩:=Ya3.1 h
 rw[Yd7 hk]
 rfl
theorem Za0{l:List Int}{k:Nat}{d:Int}(h:l[k]? =some d):val (l.take (k+1))=val (l.take k)+bp k*d:=by
 obtain⟨hk,rfl⟩:=Ya3.1 h
 rw[List.take_succ_eq_append_getElem hk,Zc3]
 simp[val,Nat.min_eq_left (Nat.le_of_lt hk)]
theorem ZaC{l:List Int}(h:Dig l){k:Nat}{d:Int}(hk:l[k]? =some d):0≤d∧d<1048576:=h d (Ya7 hk)
theorem ZcS{l:List Int}(h:Dig l)(k:Nat):Dig (l.take k):=fun d hd=>h d (List.mem_of_mem_take hd)
theorem Zje{l:List Int}(h:Dig l)(k:Nat):Dig (l.drop k):=fun d hd=>h d (List.mem_of_mem_drop hd)
theorem Zfx{l:List Int}{i:Nat}{d:Int}(h:l[i]? =some d)(x:Int):val (l.set i x)=val l+bp i*(x-d):=by
 induction l generalizing i with
 | nil=>simp at h
 | cons y l ih =>
   cases i with
   | zero =>
     simp at h
     subst h
     simp only[List.set_cons_zero,val,bp];omega
   | succ i =>
     have h':l[i]? =some d:=by simpa using h
     simp only[List.set_cons_succ,val,bp,ih h'];grind
theorem ZkI{l:List Int}(hp:∀ d∈l,0≤d){k:Nat}{d:Int}(h:l[k]? =some d):bp k*d≤val l:=by
 induction l generalizing k with
 | nil=>simp at h
 | cons y l ih =>
   have h0:=hp y (by simp)
   have h1:0≤val l:=ZhX fun x hx=>hp x (by simp[hx])
   cases k with
   | zero=>simp at h;subst h;simp only[bp,val];omega
   | succ k =>
     have:=ih (fun x hx=>hp x (by simp[hx])) (by simpa using h:l[k]? =some d)
     simp only[bp,val];grind
theorem Zbv{b x y:Int}(hb:0<b)(h:b*x<b*y):x<y:=by
 rcases Int.lt_or_le x y with h1|h1
 ·exact h1
 ·have:=Yd1 h1 (Int.le_of_lt hb);omega
theorem ZkJ{a b:List Int}(ha:Dig a)(hb:Dig b)(hl:a.length=b.length){k:Nat}{x y:Int}(hx:a[k]? =some x)(hy:b[k]? =some y)(hd:a.drop (k+1)=b.drop (k+1))(h:x<y):val a<val b:=by
 have ka:=(Ya3.1 hx).1
 have kb:=(Ya3.1 hy).1
 rw[Zbt a (k:=k+1) (by omega),Zbt b (k:=k+1) (by omega),hd,Za0 hx,Za0 hy]
 have h1:=Zes (ZcS ha k)
 rw[Yc1,Nat.min_eq_left (by omega)]at h1
 have h3:=Zbi (ZcS hb k)
 have h2:bp k*(x+1)≤bp k*y:=Yd1 h (Int.le_of_lt (Zbn k))
 rw[Int.mul_add,Int.mul_one]at h2
 omega
def Zer(o:List Int)(k:Nat):Prop:=∀ (j:Nat)(d:Int),k≤j→o[j]? =some d→d=0
theorem ZsG(n k:Nat):Zer (List.replicate n 0) k:=by
 intro j d _ h
 rw[List.getElem?_replicate]at h
 split at h<;>simp_all
theorem Zyv{o:List Int}{k:Nat}(h:Zer o k)(x:Int):Zer (o.set k x) (k+1):=by
 intro j d hj hd
 rw[List.getElem?_set_ne (by omega)]at hd
 exact h j d (by omega) hd
theorem Zlw{o:List Int}{k:Nat}(h:Zer o k)(hk:k<o.length):o[k]? =some 0:=by
 have:=h k o[k] (Ya4 _) (Ya0 hk)
 rw[Ya0 hk,this]
def dg(l:List Int)(i:Nat):Int:=(l[i]?).getD 0
theorem Zil{l:List Int}{i:Nat}{x:Int}(h:l[i]? =some x):dg l i=x:=by simp[dg,h]
theorem Zko{l:List Int}{i:Nat}(h:l.length≤i):dg l i=0:=by simp[dg,List.getElem?_eq_none h]
theorem ZfV{l:List Int}(h:Dig l)(i:Nat):0≤dg l i∧dg l i<1048576:=by
 unfold dg
 cases e:l[i]? with
 | none=>simp
 | some x=>exact ZaC h e
theorem ZdJ(l:List Int)(i:Nat):val (l.take (i+1))=val (l.take i)+bp i*dg l i:=by
 by_cases h:i<l.length
 ·have:=Ya0 h
  rw[Za0 this,Zil this]
 ·rw[Ya8 (by omega),Ya8 (by omega),Zko (by omega)];simp
def Zoj(a b:List Int)(i:Nat)(o:List Int)(c:Int):Prop :=
 o.length=a.length+1∧Dig o∧Zer o i∧0≤c∧c≤1∧val o+bp i*c=val (a.take i)+val (b.take i)
theorem Zvw(a b:List Int):Zoj a b 0 (List.replicate (a.length+1) 0) 0 :=
 ⟨by simp,ZhI _,ZsG _ _,by omega,by omega,by simp[Zjn,val]⟩
theorem Zrd{a b o:List Int}{i:Nat}{c x y:Int}(ha:Dig a)(hb:Dig b)(h:Zoj a b i o c)(hi:i<a.length)(hx:a[i]? =some x)(hy:dg b i=y) :
 Zoj a b (i+1) (o.set i ((c+x+y)%1048576)) ((c+x+y) / 1048576):=by
 obtain⟨h1,h2,h3,h4,h5,h6⟩:=h
 have b1:=ZaC ha hx
 have b2:=ZfV hb i
 rw[hy]at b2
 refine⟨by simpa using h1,Zfi h2 i (by omega) (by omega),Zyv h3 _,by omega,by omega,?_⟩
 rw[Zfx (Zlw h3 (by omega)),Za0 hx,ZdJ b,hy]
 simp only[bp]
 have e:=Int.emod_add_mul_ediv (c+x+y) 1048576
 grind
theorem Zz3{a b o:List Int}{c:Int}(h:Zoj a b a.length o c)(hl:b.length≤a.length):Dig (o.set a.length c)∧val (o.set a.length c)=val a+val b:=by
 obtain⟨h1,h2,h3,h4,h5,h6⟩:=h
 refine⟨Zfi h2 _ h4 (by omega),?_⟩
 rw[Zfx (Zlw h3 (by omega)),Int.sub_zero]
 rw[Ya8 (Ya4 _),Ya8 hl]at h6
 omega
def Zog(a b:List Int)(i:Nat)(o:List Int)(c:Int):Prop :=
 o.length=a.length∧Dig o∧o.drop i=a.drop i∧0≤c∧c≤1∧val o-bp i*c=val a-val (b.take i)
theorem Zs0{a:List Int}(ha:Dig a)(b:List Int):Zog a b 0 a 0:=⟨rfl,ha,rfl,by omega,by omega,by simp[val]⟩
theorem ZpR{a b o:List Int}{i:Nat}{c x y:Int}(ha:Dig a)(hb:Dig b)(h:Zog a b i o c)(hx:o[i]? =some x)(hy:dg b i=y) :
 Zog a b (i+1) (o.set i ((x-c-y)%1048576)) ((x-c-y) / 1048576%2):=by
 obtain⟨h1,h2,h3,h4,h5,h6⟩:=h
 have b1:=ZaC h2 hx
 have b2:=ZfV hb i
 rw[hy]at b2
 have hi:i<o.length:=(Ya3.1 hx).1
 refine⟨by simpa using h1,Zfi h2 i (by omega) (by omega),?_,by omega,by omega,?_⟩
 ·rw[List.drop_set_of_lt (by omega)]
  have:=congrArg List.tail h3
  simpa using this
 ·rw[Zfx hx,ZdJ b,hy]
  simp only[bp]
  have e:=Int.emod_add_mul_ediv (x-c-y) 1048576
  have e2:(x-c-y) / 1048576%2 = - ((x-c-y) / 1048576):=by omega
  rw[e2]
  grind
theorem ZyI{a b o:List Int}{c:Int}(h:Zog a b a.length o c)(hl:b.length≤a.length)(hle:val b≤val a):Dig o∧val o=val a-val b:=by
 obtain⟨h1,h2,h3,h4,h5,h6⟩:=h
 rw[Ya8 hl]at h6
 have:=Zes h2
 rw[h1]at this
 refine⟨h2,?_⟩
 have:c=0:=by
  rcases Int.lt_or_le c 1 with hc|hc
  ·omega
  ·obtain rfl:c=1:=by omega
   omega
 subst this
 omega
def Zoi(a b:List Int)(i:Nat)(o:List Int):Prop:=o.length=a.length+b.length∧Dig o∧val o=val (a.take i)*val b
def ZvC(a b:List Int)(i:Nat)(x:Int)(k:Nat)(o:List Int)(c:Int):Prop :=
 o.length=a.length+b.length∧Dig o∧0≤c∧c<1048576∧val o+bp (i+k)*c=val (a.take i)*val b+bp i*(x*val (b.take k))
theorem Zua(a b:List Int):Zoi a b 0 (List.replicate (a.length+b.length) 0):=⟨by simp,ZhI _,by simp[Zjn,val]⟩
theorem ZBh{a b o:List Int}{i:Nat}(x:Int)(h:Zoi a b i o):ZvC a b i x 0 o 0:=⟨h.1,h.2.1,by omega,by omega,by simp[h.2.2,val]⟩
theorem Zk4{p x y c:Int}(hp:0≤p∧p<1048576)(hx:0≤x∧x<1048576)(hy:0≤y∧y<1048576)(hc:0≤c∧c<1048576):0≤x*y∧x*y≤1099509530625∧0≤p+x*y+c∧p+x*y+c<1099511627776:=by
 have h0:0≤x*y:=Int.mul_nonneg hx.1 hy.1
 have h1:x*y≤1048575*1048575:=Int.mul_le_mul (by omega) (by omega) hy.1 (by omega)
 omega
theorem ZwK{a b o:List Int}{i k:Nat}{x y p c:Int}(hb:Dig b)(hx:0≤x∧x<1048576)(h:ZvC a b i x k o c)(hy:dg b k=y)(hp:o[i+k]? =some p) :
 ZvC a b i x (k+1) (o.set (i+k) ((p+x*y+c)%1048576)) ((p+x*y+c) / 1048576):=by
 obtain⟨h1,h2,h3,h4,h5⟩:=h
 have b2:=ZfV hb k
 rw[hy]at b2
 have b3:=ZaC h2 hp
 have b4:=Zk4 b3 hx b2 ⟨h3,h4⟩
 refine⟨by simpa using h1,Zfi h2 _ (by omega) (by omega),by omega,by omega,?_⟩
 rw[Zfx hp,ZdJ b,hy,show i+(k+1)=(i+k)+1 from rfl,bp,Zlu i k]
 rw[Zlu]at h5
 have e:=Int.emod_add_mul_ediv (p+x*y+c) 1048576
 grind
theorem Zzr{a b:List Int}{i:Nat}(ha:Dig a)(hb:Dig b)(hi:i<a.length):val (a.take (i+1))*val b<bp (i+1+b.length):=by
 have h1:=Zes (ZcS ha (i+1))
 rw[Yc1,Nat.min_eq_left (by omega)]at h1
 have h2:=Zes hb
 have h3:=Zbi (ZcS ha (i+1))
 have h4:=Zbi hb
 rw[Zlu]
 have h5:val (a.take (i+1))*val b≤val (a.take (i+1))*bp b.length:=Yd1 (by omega) h3
 have h6:val (a.take (i+1))*bp b.length<bp (i+1)*bp b.length:=Int.mul_lt_mul_of_pos_right h1 (Zbn _)
 omega
theorem Zzs{a b o:List Int}{i:Nat}{x c d:Int}(ha:Dig a)(hb:Dig b)(hx:a[i]? =some x)(h:ZvC a b i x b.length o c)(hd:o[i+b.length]? =some d) :
 Zoi a b (i+1) (o.set (i+b.length) (d+c))∧0≤d+c∧d+c<1048576:=by
 obtain⟨h1,h2,h3,h4,h5⟩:=h
 have hi:=(Ya3.1 hx).1
 have b3:=ZaC h2 hd
 have e:val (o.set (i+b.length) (d+c))=val (a.take (i+1))*val b:=by
  rw[Zfx hd,Za0 hx]
  rw[Ya8 (Ya4 _)]at h5
  grind
 have h0:∀ y∈o.set (i+b.length) (d+c),0≤y:=by
  intro y hy
  rcases List.mem_or_eq_of_mem_set hy with h6|rfl
  ·exact(h2 y h6).1
  ·omega
 have hl:i+b.length<o.length:=(Ya3.1 hd).1
 have h6:=ZkI h0 (k:=i+b.length) (d:=d+c) (by simp[hl])
 rw[e]at h6
 have h7:=Zzr ha hb hi
 have h8:d+c<1048576:=by
  refine Zbv (Zbn (i+b.length)) ?_
  rw[show i+1+b.length=(i+b.length)+1 by omega,bp]at h7
  omega
 exact⟨⟨by simpa using h1,Zfi h2 _ (by omega) h8,e⟩,by omega,h8⟩
theorem Zzt{a b o:List Int}(h:Zoi a b a.length o):Dig o∧val o=val a*val b:=⟨h.2.1,by rw[h.2.2,Ya8 (Ya4 _)]⟩
def ZhU(a:List Int)(d:Int)(m:Nat)(o:List Int)(r:Int):Prop :=
 o.length=a.length∧Dig o∧0≤r∧r<d∧val (a.drop m)=d*val (o.drop m)+r
theorem ZoG(a:List Int){d:Int}(hd:0<d):ZhU a d a.length (List.replicate a.length 0) 0 :=
 ⟨by simp,ZhI _,by omega,hd,by simp[val]⟩
theorem Zmn{o:List Int}{m:Nat}(h:m<o.length)(x:Int):(o.set m x).drop m=x ::o.drop (m+1):=by
 rw[Yd7 (by simpa using h)]
 simp[List.drop_set_of_lt]
theorem ZrC{a o:List Int}{d r x:Int}{m:Nat}(ha:Dig a)(hd:d<1048576)(h:ZhU a d (m+1) o r)(hx:a[m]? =some x) :
 ZhU a d m (o.set m ((r*1048576+x) / d)) ((r*1048576+x)%d)∧0≤(r*1048576+x)∧(r*1048576+x)<1099511627776∧0<d∧0≤(r*1048576+x) / d∧(r*1048576+x) / d<1048576:=by
 obtain⟨h1,h2,h3,h4,h5⟩:=h
 have b1:=ZaC ha hx
 have hm:=(Ya3.1 hx).1
 have hd0:0<d:=by omega
 have q1:(r*1048576+x) / d<1048576:=Int.ediv_lt_of_lt_mul hd0 (by omega)
 have q0:0≤(r*1048576+x) / d:=Int.ediv_nonneg (by omega) (by omega)
 refine⟨⟨by simpa using h1,Zfi h2 _ q0 q1,Int.emod_nonneg _ (by omega),Int.emod_lt_of_pos _ hd0,?_⟩,by omega,by omega,hd0,q0,q1⟩
 rw[Zmn (by omega),ZmC hx,h5]
 simp only[val]
 have e:=Int.emod_add_mul_ediv (r*1048576+x) d
 grind
theorem Zta{a o:List Int}{d r:Int}(ha:Dig a)(h:ZhU a d 0 o r):Dig o∧val o=val a / d∧r=val a%d:=by
 obtain⟨h1,h2,h3,h4,h5⟩:=h
 simp only[List.drop_zero]at h5
 have e1:val a / d=val o:=by
  rw[h5,Int.add_comm,Int.add_mul_ediv_left _ _ (by omega),Int.ediv_eq_zero_of_lt h3 h4];omega
 have e2:val a%d=r:=by
  rw[h5,Int.add_comm,Int.add_mul_emod_self_left,Int.emod_eq_of_lt h3 h4]
 exact⟨h2,e1.symm,e2.symm⟩
def Zoh(W v:List Int)(g:Int)(k:Nat)(o:List Int)(c:Int):Prop :=
 o.length=W.length∧Dig o∧o.drop k=W.drop k∧0≤c∧c<1048576∧val o-bp k*c=val W-g*val (v.take k)
theorem ZmY{W:List Int}(hW:Dig W)(v:List Int)(g:Int):Zoh W v g 0 W 0:=⟨rfl,hW,rfl,by omega,by omega,by simp[val]⟩
theorem Zjy{W v o:List Int}{g c x y:Int}{k:Nat}(hv:Dig v)(hg:0≤g∧g<1048576)(h:Zoh W v g k o c)(hx:o[k]? =some x)(hy:dg v k=y) :
 Zoh W v g (k+1) (o.set k ((x-c-g*y)%1048576)) (-((x-c-g*y) / 1048576)) ∧ -1099511627776<x-c-g*y∧x-c-g*y<1048576∧0≤g*y∧g*y≤1099509530625∧0≤x∧x<1048576:=by
 obtain⟨h1,h2,h3,h4,h5,h6⟩:=h
 have b1:=ZaC h2 hx
 have b2:=ZfV hv k
 rw[hy]at b2
 have g0:0≤g*y:=Int.mul_nonneg hg.1 b2.1
 have g1:g*y≤1048575*1048575:=Int.mul_le_mul (by omega) (by omega) b2.1 (by omega)
 refine⟨⟨by simpa using h1,Zfi h2 _ (by omega) (by omega),?_,by omega,by omega,?_⟩,by omega,by omega,by omega,by omega,b1⟩
 ·rw[List.drop_set_of_lt (by omega)]
  have:=congrArg List.tail h3
  simpa using this
 ·rw[Zfx hx,ZdJ v,hy]
  simp only[bp]
  have e:=Int.emod_add_mul_ediv (x-c-g*y) 1048576
  grind
def Zkx(W v:List Int)(k:Nat)(o:List Int)(c:Int):Prop :=
 o.length=W.length∧Dig o∧o.drop k=W.drop k∧0≤c∧c≤1∧val o+bp k*c=val W+val (v.take k)
theorem Zsy{W:List Int}(hW:Dig W)(v:List Int):Zkx W v 0 W 0:=⟨rfl,hW,rfl,by omega,by omega,by simp[val]⟩
theorem Zoc{W v o:List Int}{c x y:Int}{k:Nat}(hv:Dig v)(h:Zkx W v k o c)(hx:o[k]? =some x)(hy:dg v k=y) :
 Zkx W v (k+1) (o.set k ((c+x+y)%1048576)) ((c+x+y) / 1048576):=by
 obtain⟨h1,h2,h3,h4,h5,h6⟩:=h
 have b1:=ZaC h2 hx
 have b2:=ZfV hv k
 rw[hy]at b2
 refine⟨by simpa using h1,Zfi h2 _ (by omega) (by omega),?_,by omega,by omega,?_⟩
 ·rw[List.drop_set_of_lt (by omega)]
  have:=congrArg List.tail h3
  simpa using this
 ·rw[Zfx hx,ZdJ v,hy]
  simp only[bp]
  have e:=Int.emod_add_mul_ediv (c+x+y) 1048576
  grind
def qd(W v:List Int):Int:=val W / val v
theorem ZlG{W v o:List Int}{g c:Int}(h:Zoh W v g W.length o c)(hW:Dig W)(hl:v.length≤W.length)(hv:0<val v)(hV:val v<bp W.length)(h1:qd W v≤g)(h2:g≤qd W v+1) :
 (c=0∧g=qd W v∧val o=val W-qd W v*val v)∨(c=1∧g=qd W v+1∧val o-bp W.length=val W-qd W v*val v-val v):=by
 obtain⟨e1,e2,e3,e4,e5,e6⟩:=h
 rw[Ya8 hl]at e6
 have d0:0≤val W-qd W v*val v:=by have:=Int.ediv_mul_le (val W) (b:=val v) (by omega);unfold qd;omega
 have d1:val W-qd W v*val v<val v:=by
  have:=Int.emod_add_mul_ediv (val W) (val v)
  have:=Int.emod_lt_of_pos (val W) hv
  unfold qd;grind
 have o0:=Zbi e2
 have o1:=Zes e2
 rw[e1]at o1
 rcases Int.lt_or_le (qd W v) g with hg|hg
 ·obtain rfl:g=qd W v+1:=by omega
  have e7:val o-bp W.length*c=val W-qd W v*val v-val v:=by grind
  have c1:c=1:=by
   have:bp W.length*0<bp W.length*c:=by omega
   have:=Zbv (Zbn _) this
   have:bp W.length*c<bp W.length*2:=by omega
   have:=Zbv (Zbn _) this
   omega
  subst c1
  exact .inr ⟨rfl,rfl,by omega⟩
 ·obtain rfl:g=qd W v:=by omega
  have c0:c=0:=by
   have:bp W.length*c<bp W.length*1:=by omega
   have:=Zbv (Zbn _) this
   omega
  subst c0
  exact .inl ⟨rfl,rfl,by omega⟩
theorem ZxE{W v o o':List Int}{c:Int}(h:Zkx o v o.length o' c)(hl:v.length≤o.length)(ho:val o-bp o.length=val W-qd W v*val v-val v)(hd:0≤val W-qd W v*val v)(hv:val W-qd W v*val v<bp o.length) :
 Dig o'∧o'.length=o.length∧val o'=val W-qd W v*val v:=by
 obtain⟨e1,e2,e3,e4,e5,e6⟩:=h
 rw[Ya8 hl]at e6
 have o1:=Zes e2
 rw[e1]at o1
 refine⟨e2,e1,?_⟩
 rcases Int.lt_or_le c 1 with hc|hc
 ·obtain rfl:c=0:=by omega
  have:=Zbi e2
  omega
 ·obtain rfl:c=1:=by omega
  omega
structure Top (W v:List Int) (n:Nat) (u0 u1 u2 v1 v2:Int):Prop where
 len:v.length=n+2
 lenW:W.length=n+3
 w0:W[n+2]? =some u0
 w1:W[n+1]? =some u1
 w2:W[n]? =some u2
 hv1:v[n+1]? =some v1
 hv2:v[n]? =some v2
 dW:Dig W
 dv:Dig v
 big:524288≤v1
 small:val W<val v*1048576
theorem Top.valv{W v:List Int}{n:Nat}{u0 u1 u2 v1 v2:Int}(t:Top W v n u0 u1 u2 v1 v2):val v=val (v.take n)+bp n*(v1*1048576+v2):=by
 have e:val v=val (v.take (n+2)):=by rw[Ya8 (by rw[t.len];exact Ya4 _)]
 rw[e,Za0 t.hv1,Za0 t.hv2];simp only[bp];grind
theorem Top.valW{W v:List Int}{n:Nat}{u0 u1 u2 v1 v2:Int}(t:Top W v n u0 u1 u2 v1 v2):val W=val (W.take n)+bp n*((u0*1048576+u1)*1048576+u2):=by
 have e:val W=val (W.take (n+3)):=by rw[Ya8 (by rw[t.lenW];exact Ya4 _)]
 rw[e,Za0 t.w0,Za0 t.w1,Za0 t.w2];simp only[bp];grind
theorem ZbK{l:List Int}(h:Dig l)(n:Nat)(hn:n≤l.length):0≤val (l.take n)∧val (l.take n)<bp n:=by
 have:=Zes (ZcS h n)
 rw[Yc1,Nat.min_eq_left hn]at this
 exact⟨Zbi (ZcS h n),this⟩
theorem Top.pos{W v:List Int}{n:Nat}{u0 u1 u2 v1 v2:Int}(t:Top W v n u0 u1 u2 v1 v2):0<val v:=by
 have h1:=ZbK t.dv n (by rw[t.len];omega)
 have h2:=ZaC t.dv t.hv2
 have h3:=t.big
 have h4:0<bp n*(v1*1048576+v2):=Int.mul_pos (Zbn n) (by omega)
 rw[t.valv];omega
theorem Top.vlt{W v:List Int}{n:Nat}{u0 u1 u2 v1 v2:Int}(t:Top W v n u0 u1 u2 v1 v2):val v<bp W.length:=by
 have h1:=Zes t.dv
 have:=Zmt (a:=v.length) (b:=W.length) (by rw[t.len,t.lenW];omega)
 omega
theorem Top.le_qd{W v:List Int}{n:Nat}{u0 u1 u2 v1 v2 g:Int}(t:Top W v n u0 u1 u2 v1 v2)(hg:0≤g)(h:g*(v1*1048576+v2+1)≤(u0*1048576+u1)*1048576+u2):g≤qd W v:=by
 unfold qd
 rw[Int.le_ediv_iff_mul_le t.pos,t.valv,t.valW]
 have h1:=ZbK t.dv n (by rw[t.len];omega)
 have h2:=ZbK t.dW n (by rw[t.lenW];omega)
 have h3:bp n*(g*(v1*1048576+v2+1))≤bp n*((u0*1048576+u1)*1048576+u2):=Yd1 h (Int.le_of_lt (Zbn n))
 have h4:g*val (v.take n)≤g*bp n:=Yd1 (by omega) hg
 grind
theorem Top.qd_lt{W v:List Int}{n:Nat}{u0 u1 u2 v1 v2 g:Int}(t:Top W v n u0 u1 u2 v1 v2)(h:(u0*1048576+u1)*1048576+u2<g*(v1*1048576+v2)):qd W v<g:=by
 unfold qd
 rw[Int.ediv_lt_iff_lt_mul t.pos,t.valv,t.valW]
 have h1:=ZbK t.dv n (by rw[t.len];omega)
 have h2:=ZbK t.dW n (by rw[t.lenW];omega)
 have hb:=ZaC t.dv t.hv2
 have hu0:=ZaC t.dW t.w0
 have hu1:=ZaC t.dW t.w1
 have hu2:=ZaC t.dW t.w2
 have hbig:=t.big
 have hg:0≤g:=by
  rcases Int.lt_or_le g 0 with hg|hg
  ·have:g*(v1*1048576+v2)≤0:=Int.mul_nonpos_of_nonpos_of_nonneg (by omega) (by omega)
   omega
  ·exact hg
 have h3:bp n*((u0*1048576+u1)*1048576+u2+1)≤bp n*(g*(v1*1048576+v2)):=Yd1 (by omega) (Int.le_of_lt (Zbn n))
 have h4:0≤g*val (v.take n):=Int.mul_nonneg hg h1.1
 grind
def ZvD(W v:List Int)(u0 u1 v1 g r:Int):Prop:=g*v1+r=u0*1048576+u1∧qd W v≤g∧0≤r∧r<1048576+v1∧g≤2199023255552
theorem Top.qd_base{W v:List Int}{n:Nat}{u0 u1 u2 v1 v2:Int}(t:Top W v n u0 u1 u2 v1 v2):0≤qd W v∧qd W v<1048576:=by
 unfold qd
 refine⟨Int.ediv_nonneg (Zbi t.dW) (Int.le_of_lt t.pos),?_⟩
 rw[Int.ediv_lt_iff_lt_mul t.pos,Int.mul_comm];exact t.small
theorem Top.start{W v:List Int}{n:Nat}{u0 u1 u2 v1 v2:Int}(t:Top W v n u0 u1 u2 v1 v2):ZvD W v u0 u1 v1 ((u0*1048576+u1) / v1) ((u0*1048576+u1)%v1):=by
 have hu0:=ZaC t.dW t.w0
 have hu1:=ZaC t.dW t.w1
 have hu2:=ZaC t.dW t.w2
 have hv2:=ZaC t.dv t.hv2
 have hbig:=t.big
 have hv1:=ZaC t.dv t.hv1
 have e:=Int.emod_add_mul_ediv (u0*1048576+u1) v1
 have h1:=Int.emod_lt_of_pos (u0*1048576+u1) (b:=v1) (by omega)
 have h2:=Int.emod_nonneg (u0*1048576+u1) (b:=v1) (by omega)
 refine⟨by grind,?_,h2,by omega,?_⟩
 ·have:qd W v<(u0*1048576+u1) / v1+1:=by
   refine t.qd_lt ?_
   have h5:(u0*1048576+u1)+1≤((u0*1048576+u1) / v1+1)*v1:=by grind
   have h6:0≤(u0*1048576+u1) / v1:=Int.ediv_nonneg (by omega) (by omega)
   have h7:0≤((u0*1048576+u1) / v1+1)*v2:=Int.mul_nonneg (by omega) (by omega)
   grind
  omega
 ·have:(u0*1048576+u1) / v1≤u0*1048576+u1:=Int.ediv_le_self _ (by omega)
  omega
theorem Top.down{W v:List Int}{n:Nat}{u0 u1 u2 v1 v2 g r:Int}(t:Top W v n u0 u1 u2 v1 v2)(h:ZvD W v u0 u1 v1 g r)(hr:r<1048576∨1048576≤g)(hb:1048576≤g∨r*1048576+u2<g*v2):ZvD W v u0 u1 v1 (g-1) (r+v1)∧qd W v<g:=by
 obtain⟨h1,h2,h3,h4,h5⟩:=h
 have hq:=t.qd_base
 have hu0:=ZaC t.dW t.w0
 have hu1:=ZaC t.dW t.w1
 have hu2:=ZaC t.dW t.w2
 have hv1:=ZaC t.dv t.hv1
 have hlt:qd W v<g:=by
  rcases hb with hb|hb
  ·omega
  ·exact t.qd_lt (by grind)
 have hrb:r<1048576:=by
  rcases hr with hr|hr
  ·exact hr
  · -- g ≥ base: then g * v1 ≥ base * v1, and the top is less than base * (v1 + 1)
   have k1:1048576*v1≤g*v1:=Int.mul_le_mul_of_nonneg_right hr (by omega)
   have hw:u0*1048576+u1<1048576*(v1+1):=by
    -- from val W < val v * base
    have s:=t.small
    rw[t.valv,t.valW]at s
    have b1:=ZbK t.dv n (by rw[t.len];omega)
    have b2:=ZbK t.dW n (by rw[t.lenW];omega)
    have hv2:=ZaC t.dv t.hv2
    have:bp n*(((u0*1048576+u1)*1048576+u2))<bp n*(1048576*(v1*1048576+v2+1)):=by grind
    have:=Zbv (Zbn n) this
    omega
   omega
 exact⟨⟨by grind,by omega,by omega,by omega,by omega⟩,hlt⟩
theorem Top.done{W v:List Int}{n:Nat}{u0 u1 u2 v1 v2 g r:Int}(t:Top W v n u0 u1 u2 v1 v2)(h:ZvD W v u0 u1 v1 g r)(hg:g<1048576)(hb:1048576≤r∨g*v2≤r*1048576+u2):0≤g∧g≤qd W v+1:=by
 obtain⟨h1,h2,h3,h4,h5⟩:=h
 have hq:=t.qd_base
 have hu2:=ZaC t.dW t.w2
 have hv1:=ZaC t.dv t.hv1
 have hv2:=ZaC t.dv t.hv2
 have hbig:=t.big
 refine⟨by omega,?_⟩
 rcases Int.lt_or_le g 1 with hg0|hg0
 ·omega
 ·have:g-1≤qd W v:=by
   refine t.le_qd (by omega) ?_
   have key:g*v2≤r*1048576+u2:=by
    rcases hb with hb|hb
    ·have k1:g*v2≤1048575*1048575:=Int.mul_le_mul (by omega) (by omega) hv2.1 (by omega)
     omega
    ·exact hb
   grind
  omega
def Zfm(X V:Int)(n i:Nat)(u q:List Int):Prop:=Dig u∧Dig q∧Zer' q i∧val u+V*val q=X∧val u<V*bp i
where Zer' (q:List Int) (i:Nat):Prop:=∀ (j:Nat)(d:Int),j<i→q[j]? =some d→d=0
theorem Zkn{l:List Int}(h:Dig l){k:Nat}(hk:k≤l.length)(hv:val l<bp k):val (l.drop k)=0:=by
 have e:=Zbt l hk
 have h1:=Zbi (ZcS h k)
 have h2:=Zbi (Zje h k)
 rcases Int.lt_or_le 0 (val (l.drop k))with h3|h3
 ·have:bp k*1≤bp k*val (l.drop k):=Yd1 h3 (Int.le_of_lt (Zbn k))
  omega
 ·omega
theorem ZkH{u:List Int}{V:Int}{n i:Nat}(hu:Dig u)(hl:i+n+1≤u.length)(hV:V<bp n)(h:val u<V*bp (i+1)):val ((u.drop i).take (n+1))=val (u.drop i):=by
 have hk:i+(n+1)≤u.length:=by omega
 have h2:val u<bp (i+(n+1)):=by
  have:V*bp (i+1)≤bp n*bp (i+1):=Int.mul_le_mul_of_nonneg_right (by omega) (Int.le_of_lt (Zbn _))
  rw[← Zlu]at this
  rw[show i+(n+1)=n+(i+1) by omega];omega
 have h3:=Zkn hu hk h2
 have e:=Zbt (u.drop i) (k:=n+1) (by simp;omega)
 rw[List.drop_drop,h3]at e
 omega
theorem ZsM{u:List Int}{V:Int}{i:Nat}(hu:Dig u)(hi:i≤u.length)(h:val u<V*bp (i+1)):val (u.drop i)<V*1048576:=by
 have e:=Zbt u hi
 have h1:=Zbi (ZcS hu i)
 simp only[bp]at h
 have:bp i*val (u.drop i)<bp i*(V*1048576):=by grind
 exact Zbv (Zbn i) this
theorem Zrz{u W:List Int}{i:Nat}(hi:i+W.length≤u.length):val (u.take i++W++u.drop (i+W.length))=val u+bp i*(val W-val ((u.drop i).take W.length)):=by
 have e1:=Zbt u (k:=i) (by omega)
 have e2:=Zbt (u.drop i) (k:=W.length) (by simp;omega)
 rw[Yd3,Zc3,Zc3,Yc1,Nat.min_eq_left (by omega)]
 rw[List.drop_drop]at e2
 grind
theorem Zuh{X V:Int}{n i:Nat}{u q W v:List Int}(h:Zfm X V n (i+1) u q)(hV:V=val v)(hv:0<V)(hVn:V<bp n)(hl:i+n+1≤u.length)(hq:i<q.length)(hW:Dig W)(hWl:W.length=n+1)
 (e:val W=val ((u.drop i).take (n+1))-qd ((u.drop i).take (n+1)) v*V) (h0:0≤qd ((u.drop i).take (n+1)) v) (h1:qd ((u.drop i).take (n+1)) v<1048576) :
 Zfm X V n i (u.take i++W++u.drop (i+(n+1))) (q.set i (qd ((u.drop i).take (n+1)) v)):=by
 obtain⟨hu,hdq,hz,hX,hlt⟩:=h
 have hqi:q[i]? =some 0:=by
  have:=hz i q[i] (by omega) (Ya0 hq)
  rw[Ya0 hq,this]
 have wv:=ZkH hu hl hVn hlt
 have sv:=Zrz (u:=u) (W:=W) (i:=i) (by omega)
 rw[hWl]at sv
 refine⟨ZeU.2 ⟨ZeU.2 ⟨ZcS hu i,hW⟩,Zje hu _⟩,Zfi hdq i h0 h1,?_,?_,?_⟩
 ·intro j d hj hd
  rw[List.getElem?_set_ne (by omega)]at hd
  exact hz j d (by omega) hd
 ·rw[sv,Zfx hqi,e];grind
 ·rw[sv,e,wv]
  have e2:=Zbt u (k:=i) (by omega)
  have h3:=ZbK hu i (by omega)
  have h4:val (u.drop i)-qd ((u.drop i).take (n+1)) v*V<V:=by
   unfold qd
   rw[wv,← hV]
   have:=Int.emod_add_mul_ediv (val (u.drop i)) V
   have:=Int.emod_lt_of_pos (val (u.drop i)) hv
   grind
  have h5:bp i*(val (u.drop i)-qd ((u.drop i).take (n+1)) v*V+1)≤bp i*V:=Yd1 (by omega) (Int.le_of_lt (Zbn i))
  grind
theorem Zr8{X V:Int}{n k:Nat}{u:List Int}(hu:Dig u)(hX:val u=X)(h:X<V*bp k):Zfm X V n k u (List.replicate k 0) :=
 ⟨hu,ZhI _,by intro j d _ h;rw[List.getElem?_replicate]at h;split at h<;>simp_all,by rw[Zjn];omega,by omega⟩
theorem ZwO{X V s:Int}{A B:Nat}{n:Nat}{u q:List Int}(h:Zfm X V n 0 u q)(hX:X=A*s)(hV:V=B*s)(hs:0<s)(hB:0<B):Dig q∧val q=((A / B:Nat):Int)∧Dig u∧val u=((A%B:Nat):Int)*s:=by
 obtain⟨hu,hq,_,e,hlt⟩:=h
 have hu0:=Zbi hu
 have hB0:0<(B:Int):=by omega
 simp only[bp,Int.mul_one]at hlt
 subst hX hV
 -- val u = s * R with R = A - B q
 have e1:val u=((A:Int)-B*val q)*s:=by grind
 have r0:0≤(A:Int)-B*val q:=by
  rcases Int.lt_or_le ((A:Int)-B*val q) 0 with h1|h1
  ·have:((A:Int)-B*val q)*s<0:=Int.mul_neg_of_neg_of_pos h1 hs
   omega
  ·exact h1
 have r1:(A:Int)-B*val q<B:=by
  rw[e1]at hlt
  rcases Int.lt_or_le ((A:Int)-B*val q) B with h1|h1
  ·exact h1
  ·have:(B:Int)*s≤((A:Int)-B*val q)*s:=Int.mul_le_mul_of_nonneg_right h1 (by omega)
   omega
 have eA:(A:Int)=((A:Int)-B*val q)+B*val q:=by omega
 have q1:((A / B:Nat):Int)=val q:=by
  rw[Int.natCast_ediv,eA,Int.add_mul_ediv_left _ _ (by omega),Int.ediv_eq_zero_of_lt r0 r1];omega
 have q2:((A%B:Nat):Int)=(A:Int)-B*val q:=by
  rw[Int.natCast_emod]
  conv=>lhs;rw[eA]
  rw[Int.add_mul_emod_self_left,Int.emod_eq_of_lt r0 r1]
 exact⟨hq,q1.symm,hu,by rw[e1,q2]⟩
structure BigD where
 s:Int
 d:List Int
structure Zaf where
 p:BigD
 q:BigD
theorem BigD.eta{x:BigD}{s:Int}{d:List Int}(h1:x.s=s)(h2:x.d=d):x=⟨s,d⟩:=by cases x;simp_all
def digB(l:List Int):Bool:=l.all fun d=>decide (0≤d)&&decide (d<1048576)
theorem Zjf{l:List Int}:digB l=true↔Dig l:=by simp[digB,Dig]
def okB(x:BigD):Bool:=digB x.d&&(if x.d.isEmpty then x.s==0 else(x.s==1||x.s == -1)&&x.d.getLast? !=some 0)
def ofZ(z:Int):BigD:=⟨z.sign,digs z.natAbs⟩
def zOf(x:BigD):Int:=x.s*val x.d
theorem Zjl(z:Int):zOf (ofZ z)=z:=by
 simp only[zOf,ofZ,ZaB];exact Int.sign_mul_natAbs z
theorem Zzd{a b:Int}(h:ofZ a=ofZ b):a=b:=by rw[← Zjl a,h,Zjl]
theorem ZjR(z:Int):okB (ofZ z)=true:=by
 have hn:=Zat z.natAbs
 unfold okB
 rw[Ya2]
 refine⟨Zjf.2 hn.1,?_⟩
 by_cases h:z.natAbs=0
 ·have:z=0:=by omega
  subst this;simp[ofZ,ZaW]
 ·have h1:(ofZ z).d≠[]:=fun e=>h (Zea.1 e)
  rw[if_neg (by simpa using h1),Ya2]
  constructor
  ·simp only[ofZ,Bool.or_eq_true,beq_iff_eq]
   rcases Int.lt_or_le 0 z with hz|hz
   ·exact .inl (Yb2 hz)
   ·exact .inr (Yb3 (by omega))
  ·simp only[bne_iff_ne]
   intro e
   exact hn.2 0 e rfl
theorem ZwB{x:BigD}(h:okB x=true):Norm x.d:=by
 unfold okB at h
 rw[Ya2]at h
 refine⟨Zjf.1 h.1,fun d hd=>?_⟩
 have h2:=h.2
 split at h2
 ·rename_i he;rw[List.isEmpty_iff.1 he]at hd;simp at hd
 ·rw[Ya2]at h2
  have:=h2.2
  rw[hd]at this
  simpa using this
theorem ZtW{x:BigD}(h:okB x=true):x=ofZ (zOf x):=by
 have hn:=ZwB h
 have he:=Zo4 hn
 have h0:=Zbi hn.1
 unfold okB at h
 rw[Ya2]at h
 have h2:=h.2
 split at h2
 ·rename_i hx
  have hx:=List.isEmpty_iff.1 hx
  refine(BigD.eta (beq_iff_eq.1 h2) hx).trans ?_
  simp[zOf,hx,val,ofZ,ZaW]
 ·rename_i hx
  rw[Ya2,Bool.or_eq_true]at h2
  have hv:val x.d≠0:=fun e=>hx (by rw[Zhn hn e];rfl)
  have h3:=h2.1
  refine(BigD.eta rfl rfl:x=⟨x.s,x.d⟩).trans ?_
  unfold ofZ zOf
  rcases h3 with h3|h3<;>rw[beq_iff_eq]at h3<;>rw[h3]
  ·rw[Int.one_mul,Yb2 (by omega)]
   congr 1
   rw[show(val x.d).natAbs=(val x.d).toNat by omega];exact he
  ·rw[Yb3 (by omega)]
   congr 1
   rw[show(-1*val x.d).natAbs=(val x.d).toNat by omega];exact he
theorem ZlT{x:BigD}:okB x=true↔∃ z,x=ofZ z:=⟨fun h=>⟨_,ZtW h⟩,fun⟨z,h⟩=>by rw[h];exact ZjR z⟩
theorem ZwD:ofZ 0=⟨0,[]⟩:=by simp[ofZ,ZaW]
def zB:BigD:=⟨0,[]⟩
def zF:Zaf:=⟨zB,zB⟩
def ofQ(r:Rat):Zaf:=⟨ofZ r.num,ofZ r.den⟩
def okF(f:Zaf):Bool:=okB f.p&&okB f.q&&(f.q.s==1)&&(Nat.gcd (zOf f.p).natAbs (zOf f.q).natAbs==1)
def qOf(f:Zaf):Rat:=Rat.divInt (zOf f.p) (zOf f.q)
theorem ZaM(r:Rat):qOf (ofQ r)=r:=by
 simp only[qOf,ofQ,Zjl];exact Rat.num_divInt_den r
theorem Zzf{a b:Rat}(h:ofQ a=ofQ b):a=b:=by rw[← ZaM a,h,ZaM]
theorem Zbm(r:Rat):okF (ofQ r)=true:=by
 simp only[okF,ofQ,ZjR,Zjl,Bool.true_and,Ya2,beq_iff_eq]
 refine⟨?_,?_⟩
 ·exact Yb2 (by have:=r.den_pos;omega)
 ·exact r.reduced
theorem ZfK{f:Zaf}(h:okF f=true):f=ofQ (qOf f):=by
 simp only[okF,Ya2,beq_iff_eq]at h
 obtain⟨⟨⟨h1,h2⟩,h3⟩,h4⟩:=h
 have hp:=ZtW h1
 have hq:=ZtW h2
 have hpos:0<zOf f.q:=by
  rw[hq]at h3
  exact Int.sign_eq_one_iff_pos.1 h3
 have e:qOf f=⟨zOf f.p,(zOf f.q).natAbs,by omega,h4⟩:=by
  unfold qOf
  rw[Rat.mk_eq_divInt];congr 1;omega
 rw[e]
 unfold ofQ
 simp only
 rw[show(((zOf f.q).natAbs:Nat):Int)=zOf f.q by omega,← hp,← hq]
theorem ZfJ{f:Zaf}:okF f=true↔∃ r,f=ofQ r:=⟨fun h=>⟨_,ZfK h⟩,fun⟨z,h⟩=>by rw[h];exact Zbm z⟩
theorem Zo3(r:Rat):(ofQ r).p.s=r.num.sign:=rfl
def sgQ(r:Rat):Int:=r.num.sign
theorem ZyO{r:Rat}:sgQ r=1↔0<r:=by
 unfold sgQ
 rw[Int.sign_eq_one_iff_pos,Rat.lt_iff];simp
theorem ZyP{r:Rat}:sgQ r = -1↔r<0:=by
 unfold sgQ
 rw[Int.sign_eq_neg_one_iff_neg,Rat.lt_iff];simp
theorem Ze7{r:Rat}:sgQ r=0↔r=0:=by
 unfold sgQ
 rw[Int.sign_eq_zero_iff_zero];exact Rat.num_eq_zero
theorem Zev(r:Rat):(r<0∧sgQ r = -1)∨(r=0∧sgQ r=0)∨(0<r∧sgQ r=1):=by
 unfold sgQ
 rcases Int.lt_trichotomy r.num 0 with h|h|h
 ·have:=Yb3 h
  exact .inl ⟨ZyP.1 this,this⟩
 ·refine .inr (.inl ⟨Rat.num_eq_zero.1 h,by rw[h];rfl⟩)
 ·have:=Yb2 h
  exact .inr (.inr ⟨ZyO.1 this,this⟩)
theorem Zjx{r:Rat}:sgQ r<0↔r<0:=by rcases Zev r with⟨h,e⟩|⟨h,e⟩|⟨h,e⟩<;>rw[e]<;>constructor<;>intro h1<;>grind
theorem Zds{r:Rat}:0<sgQ r↔0<r:=by rcases Zev r with⟨h,e⟩|⟨h,e⟩|⟨h,e⟩<;>rw[e]<;>constructor<;>intro h1<;>grind
def addD(a b:Zaf):Zaf×Int:=if okF a&&okF b then(ofQ (qOf a+qOf b),0)else(zF,1)
def mulD(a b:Zaf):Zaf×Int:=if okF a&&okF b then(ofQ (qOf a*qOf b),0)else(zF,1)
def negD(a:Zaf):Zaf:=if okF a then ofQ (- qOf a)else zF
def sgnD(a:Zaf):Int:=if okF a then sgQ (qOf a)else 0
def cmpD(a b:Zaf):Int:=if okF a&&okF b then sgQ (qOf a-qOf b)else 0
def maxQ(a b:Rat):Rat:=if a≤b then b else a
theorem Zmy(a b:Rat):addD (ofQ a) (ofQ b)=(ofQ (a+b),0):=by simp[addD,Zbm,ZaM]
theorem Zqp(a b:Rat):mulD (ofQ a) (ofQ b)=(ofQ (a*b),0):=by simp[mulD,Zbm,ZaM]
theorem ZlW(a:Rat):negD (ofQ a)=ofQ (- a):=by simp[negD,Zbm,ZaM]
theorem Zcw(a:Rat):sgnD (ofQ a)=sgQ a:=by simp[sgnD,Zbm,ZaM]
theorem Zq8(a b:Rat):cmpD (ofQ a) (ofQ b)=sgQ (a-b):=by simp[cmpD,Zbm,ZaM]
theorem ZmU(b:Rat):((ofQ b).p.s==0)=true↔b=0:=by
 rw[Zo3,beq_iff_eq];exact Ze7
def szF(f:Zaf):Nat:=max f.p.d.length f.q.d.length
def szZ(z:Int):Nat:=(digs z.natAbs).length
def szQ(r:Rat):Nat:=szF (ofQ r)
theorem Zjv(z:Int):(ofZ z).d.length=szZ z:=rfl
theorem Zd6(r:Rat):szQ r=max (szZ r.num) (szZ r.den):=rfl
theorem Zet{z:Int}{k:Nat}(h:(z.natAbs:Int)<bp k):szZ z≤k:=Zbx h
theorem Znt(z:Int):(z.natAbs:Int)<bp (szZ z):=Zbw _
theorem Zb5(a b:Int):szZ (a*b)≤szZ a+szZ b:=by
 refine Zet ?_
 rw[Int.natAbs_mul,Zlu]
 have h1:=Znt a
 have h2:=Znt b
 push_cast
 by_cases h:(b.natAbs:Int)=0
 ·rw[h];simp only[Int.mul_zero];exact Int.mul_pos (Zbn _) (Zbn _)
 ·have h5:(a.natAbs:Int)*b.natAbs<bp (szZ a)*b.natAbs:=Int.mul_lt_mul_of_pos_right h1 (by omega)
  have h6:bp (szZ a)*(b.natAbs:Int)≤bp (szZ a)*bp (szZ b):=Yd1 (by omega) (Int.le_of_lt (Zbn _))
  omega
theorem Zoq(a b:Int):szZ (a+b)≤max (szZ a) (szZ b)+1:=by
 refine Zet ?_
 have h1:=Znt a
 have h2:=Znt b
 have h3:=Zmt (Nat.le_max_left (szZ a) (szZ b))
 have h4:=Zmt (Nat.le_max_right (szZ a) (szZ b))
 simp only[bp];omega
theorem Zop(a:Int):szZ (-a)=szZ a:=by simp[szZ]
theorem ZlB{a b:Int}(h:a.natAbs≤b.natAbs):szZ a≤szZ b:=by
 refine Zet ?_
 have:=Znt b
 omega
theorem ZuX(p q:Int)(hq:q≠0):(Rat.divInt p q).num.natAbs≤p.natAbs∧(Rat.divInt p q).den≤q.natAbs:=by
 constructor
 ·rw[Rat.num_divInt]
  have h1:=Int.natAbs_ediv_le_natAbs (q.sign*p) (q.gcd p)
  have h2:(q.sign*p).natAbs≤p.natAbs:=by
   rw[Int.natAbs_mul,Int.natAbs_sign_of_ne_zero hq];omega
  omega
 ·rw[Rat.den_divInt,if_neg hq];exact Nat.div_le_self _ _
theorem ZdF(p q:Int)(hq:q≠0):szQ (Rat.divInt p q)≤max (szZ p) (szZ q):=by
 obtain⟨h1,h2⟩:=ZuX p q hq
 rw[Zd6]
 have h3:=ZlB (a:=(Rat.divInt p q).num) (b:=p) h1
 have h4:=ZlB (a:=((Rat.divInt p q).den:Int)) (b:=q) (by simpa using h2)
 omega
theorem Zlv(a b:Rat):a+b=Rat.divInt (a.num*b.den+b.num*a.den) (a.den*b.den):=by
 rw[Rat.add_def',← Rat.divInt_ofNat];simp
theorem ZkO(a b:Rat):a-b=Rat.divInt (a.num*b.den-b.num*a.den) (a.den*b.den):=by
 rw[Rat.sub_def',← Rat.divInt_ofNat];simp
theorem Zk3(a b:Rat):a*b=Rat.divInt (a.num*b.num) (a.den*b.den):=by
 rw[Rat.mul_def',← Rat.divInt_ofNat];simp
theorem Zlp(a b:Rat):a / b=Rat.divInt (a.num*b.den) (a.den*b.num):=by
 rw[Rat.div_def,Rat.inv_def]
 conv=>lhs;rw[← Rat.num_divInt_den a]
 rw[Rat.divInt_mul_divInt]
theorem Zfs(a:Rat):(a.den:Int)≠0:=by have:=a.den_pos;omega
theorem ZhY(a b:Rat):szQ (a+b)≤szQ a+szQ b+1:=by
 rw[Zlv]
 refine Yc7 (ZdF _ _ (Int.mul_ne_zero (Zfs a) (Zfs b))) ?_
 have h1:=Zoq (a.num*b.den) (b.num*a.den)
 have h2:=Zb5 a.num b.den
 have h3:=Zb5 b.num a.den
 have h4:=Zb5 a.den b.den
 rw[Zd6,Zd6];omega
theorem ZsX(a b:Rat):szQ (a-b)≤szQ a+szQ b+1:=by
 rw[ZkO]
 refine Yc7 (ZdF _ _ (Int.mul_ne_zero (Zfs a) (Zfs b))) ?_
 have h1:=Zoq (a.num*b.den) (-(b.num*a.den))
 rw[Zop,← Int.sub_eq_add_neg]at h1
 have h2:=Zb5 a.num b.den
 have h3:=Zb5 b.num a.den
 have h4:=Zb5 a.den b.den
 rw[Zd6,Zd6];omega
theorem ZfA(a b:Rat):szQ (a*b)≤szQ a+szQ b:=by
 rw[Zk3]
 refine Yc7 (ZdF _ _ (Int.mul_ne_zero (Zfs a) (Zfs b))) ?_
 have h2:=Zb5 a.num b.num
 have h4:=Zb5 a.den b.den
 rw[Zd6,Zd6];omega
theorem ZyH{a b:Rat}(hb:b≠0):szQ (a / b)≤szQ a+szQ b:=by
 rw[Zlp]
 refine Yc7 (ZdF _ _ (Int.mul_ne_zero (Zfs a) (fun e=>hb (Rat.num_eq_zero.1 e)))) ?_
 have h2:=Zb5 a.num b.den
 have h4:=Zb5 a.den b.num
 rw[Zd6,Zd6];omega
theorem ZdL(a:Rat):szQ (-a)=szQ a:=by rw[Zd6,Zd6,Rat.neg_num,Rat.neg_den,Zop]
theorem Zef(n:Int)(h1 : -9223372036854775808≤n)(h2:n≤9223372036854775808):szQ (n:Rat)≤4:=by
 rw[Zd6]
 have e1:szZ (n:Rat).num≤4:=Zet (by simp only[Rat.num_intCast,bp];omega)
 have e2:szZ (((n:Rat).den:Nat):Int)≤4:=Zet (by simp only[Rat.den_intCast,bp];decide)
 omega
theorem Ze3(r:Rat):szF (ofQ r)=szQ r:=rfl
theorem ZcY{f:Zaf}(h:okF f=true):szQ (qOf f)=szF f:=by unfold szQ;rw[← ZfK h]
theorem ZfZ{b:List Int}{n:Nat}{t:Int}(hb:Norm b)(hl:b.length=n+1)(ht:b[n]? =some t):bp n*t≤val b∧val b<bp n*(t+1)∧1≤t∧t<1048576:=by
 have e:val b=val (b.take n)+bp n*t:=by
  rw[← Za0 ht,Ya8 (by omega)]
 have h1:=ZbK hb.1 n (by omega)
 have h2:=ZaC hb.1 ht
 have h3:t≠0:=hb.2 t (by rw[List.getLast?_eq_getElem?,hl];exact ht)
 refine⟨by omega,?_,by omega,h2.2⟩
 rw[Int.mul_add];omega
theorem ZyN{B n e:Nat}{t k:Int}(hl:(digs B).length=n+1)(ht:(digs B)[n]? =some t)(hk:k=2^e)(he:e≤20)(h1:t*k<1048576)(h2:524288≤t*k) :
 (digs ((B:Int)*k).toNat).length=n+1∧val (digs ((B:Int)*k).toNat)=B*k∧∃ v1,(digs ((B:Int)*k).toNat)[n]? =some v1∧524288≤v1:=by
 have hk0:0<k:=by rw[hk];exact Int.pow_pos (by decide)
 obtain⟨b1,b2,b3,b4⟩:=ZfZ (Zat B) hl ht
 rw[ZaB]at b1 b2
 have hB:0≤(B:Int)*k:=Int.mul_nonneg (by omega) (by omega)
 have hv:val (digs ((B:Int)*k).toNat)=B*k:=by rw[ZaB];omega
 have hp:k*2^(20-e)=1048576:=by
  rw[hk,← Int.pow_add,show e+(20-e)=20 by omega];decide
 have hq:(0:Int)<2^(20-e):=Int.pow_pos (by decide)
 have ht1:(t+1)*k≤1048576:=by
  have:t<2^(20-e):=by
   rw[← hp]at h1
   have:k*t<k*2^(20-e):=by rw[Int.mul_comm k t];exact h1
   exact Zbv hk0 this
  have:k*(t+1)≤k*2^(20-e):=Yd1 (by omega) (by omega)
  rw[hp,Int.mul_comm]at this
  exact this
 have hlo:bp n*524288≤B*k:=by
  have e1:bp n*t*k≤B*k:=Int.mul_le_mul_of_nonneg_right b1 (by omega)
  have e2:bp n*524288≤bp n*(t*k):=Yd1 h2 (Int.le_of_lt (Zbn n))
  rw[Int.mul_assoc]at e1;omega
 have hhi:B*k<bp (n+1):=by
  have e1:(B:Int)*k<bp n*(t+1)*k:=Int.mul_lt_mul_of_pos_right b2 hk0
  have e2:bp n*((t+1)*k)≤bp n*1048576:=Yd1 ht1 (Int.le_of_lt (Zbn n))
  rw[Int.mul_assoc]at e1
  simp only[bp];omega
 have hN:=Zat ((B:Int)*k).toNat
 have hlen:(digs ((B:Int)*k).toNat).length=n+1:=by
  have l1:(digs ((B:Int)*k).toNat).length≤n+1:=Zbx (by omega)
  rcases Nat.lt_or_ge (digs ((B:Int)*k).toNat).length (n+1)with l2|l2
  ·have l3:=Zes hN.1
   have l4:=Zmt (a:=(digs ((B:Int)*k).toNat).length) (b:=n) (by omega)
   have l5:=Zbn n
   omega
  ·omega
 refine⟨hlen,hv,_,Ya0 (by omega),?_⟩
 have l6:=ZfZ hN hlen (Ya0 (by omega))
 rw[hv]at l6
 have:bp n*524288<bp n*((digs ((B:Int)*k).toNat)[n]+1):=by omega
 have:=Zbv (Zbn n) this
 omega
theorem Zxl{A B n:Nat}{k:Int}(hk:1≤k)(hk1:k≤1048576)(hV:524288*bp n≤B*k)(hAB:B≤A)(hla:n+1≤(digs A).length) :
 (digs A).length≤(digs ((A:Int)*k).toNat).length∧(digs ((A:Int)*k).toNat).length≤(digs A).length+1∧val (digs ((A:Int)*k).toNat++[0])=A*k ∧
   (A:Int)*k<B*k*bp ((digs ((A:Int)*k).toNat).length+1-(n+1)):=by
 have hA:0≤(A:Int)*k:=Int.mul_nonneg (by omega) (by omega)
 have hv:val (digs ((A:Int)*k).toNat)=A*k:=by rw[ZaB];omega
 have hAk:(A:Int)≤A*k:=by
  have:(A:Int)*1≤A*k:=Yd1 hk (by omega)
  omega
 have l1:(digs A).length≤(digs ((A:Int)*k).toNat).length:=by
  refine Zbx ?_
  have:=Zbw ((A:Int)*k).toNat
  omega
 have l2:(digs ((A:Int)*k).toNat).length≤(digs A).length+1:=by
  refine Zbx ?_
  have h1:=Zbw A
  have h2:(A:Int)*k<bp (digs A).length*k:=Int.mul_lt_mul_of_pos_right h1 (by omega)
  have h3:bp (digs A).length*k≤bp (digs A).length*1048576:=Yd1 hk1 (Int.le_of_lt (Zbn _))
  simp only[bp];omega
 refine⟨l1,l2,by rw[Zc3,hv];simp[val],?_⟩
 have h1:=Zbw ((A:Int)*k).toNat
 have h2:524288*bp n*bp ((digs ((A:Int)*k).toNat).length+1-(n+1))≤B*k*bp ((digs ((A:Int)*k).toNat).length+1-(n+1)):=Int.mul_le_mul_of_nonneg_right hV (Int.le_of_lt (Zbn _))
 rw[Int.mul_assoc,← Zlu,show n+((digs ((A:Int)*k).toNat).length+1-(n+1))=(digs ((A:Int)*k).toNat).length by omega]at h2
 have:=Zbn (digs ((A:Int)*k).toNat).length
 omega
theorem ZhV{U:List Int}{i n j:Nat}{x:Int}(hx:U[i+j]? =some x)(hj:j<n):((U.drop i).take n)[j]? =some x:=by
 rw[List.getElem?_take_of_lt hj,List.getElem?_drop,hx]
theorem Ztl{U V:List Int}{i n:Nat}{u0 u1 u2 v1 v2 X:Int}{Q:List Int}(h:Zfm X (val V) (n+2) (i+1) U Q)(dV:Dig V)(hV:V.length=n+2)(hl:i+(n+2)+1≤U.length)
 (h0:U[i+(n+2)]? =some u0) (h1:U[i+(n+1)]? =some u1) (h2:U[i+n]? =some u2) (hv1:V[n+1]? =some v1) (hv2:V[n]? =some v2) (hb:524288≤v1) :
 Top ((U.drop i).take (n+3)) V n u0 u1 u2 v1 v2:=by
 refine⟨hV,by simp;omega,ZhV h0 (by omega),ZhV h1 (by omega),ZhV h2 (by omega),hv1,hv2,ZcS (Zje h.1 i) _,dV,hb,?_⟩
 have hVn:val V<bp (n+2):=by rw[← hV];exact Zes dV
 have e:=ZkH (n:=n+2) h.1 hl hVn h.2.2.2.2
 rw[show n+3=n+2+1 from rfl,e]
 exact ZsM h.1 (by omega) h.2.2.2.2
open Go.RowKit
theorem Zrc(n:Int):bits .and .i64 n 1048575=n%1048576:=by
 have h127:(BitVec.ofInt 64 1048575).toNat=2^20-1:=by decide
 have key:(BitVec.ofInt 64 n &&& BitVec.ofInt 64 1048575).toNat=(n%((2^64:Nat):Int)).toNat%2^20:=by
  rw[BitVec.toNat_and,BitVec.toNat_ofInt,h127,Nat.and_two_pow_sub_one_eq_mod]
 show IntKind.i64.wrap ((BitVec.ofInt 64 n &&& BitVec.ofInt 64 1048575).toNat:Nat)=n%1048576
 rw[key,IntKind.wrap_i64]
 omega
theorem Zvs(n:Int):bits .and .i64 n 1=n%2:=by
 have h127:(BitVec.ofInt 64 1).toNat=2^1-1:=by decide
 have key:(BitVec.ofInt 64 n &&& BitVec.ofInt 64 1).toNat=(n%((2^64:Nat):Int)).toNat%2^1:=by
  rw[BitVec.toNat_and,BitVec.toNat_ofInt,h127,Nat.and_two_pow_sub_one_eq_mod]
 show IntKind.i64.wrap ((BitVec.ofInt 64 n &&& BitVec.ofInt 64 1).toNat:Nat)=n%2
 rw[key,IntKind.wrap_i64]
 omega
theorem Zin(n:Int):bits .and .u64 n 1048575=n%1048576:=by
 have h127:(BitVec.ofInt 64 1048575).toNat=2^20-1:=by decide
 have key:(BitVec.ofInt 64 n &&& BitVec.ofInt 64 1048575).toNat=(n%((2^64:Nat):Int)).toNat%2^20:=by
  rw[BitVec.toNat_and,BitVec.toNat_ofInt,h127,Nat.and_two_pow_sub_one_eq_mod]
 show IntKind.u64.wrap ((BitVec.ofInt 64 n &&& BitVec.ofInt 64 1048575).toNat:Nat)=n%1048576
 rw[key]
 simp only[IntKind.wrap,IntKind.bits,IntKind.signed]
 simp;omega
theorem ZsJ(n:Int)(h0:0≤n)(h1:n<2^63):IntKind.i64.wrap n=n:=by rw[IntKind.wrap_i64];omega
theorem ZtO{x y:Int}(h0:0≤x)(h1:x≤1099511627776)(h2:0≤y)(h3:y<1048576):bits .or .i64 (x*1048576) y=x*1048576+y :=
 bits_join .i64 63 (by decide) ZsJ 20 _ _ (by omega) (by simp) (by omega) h2 h3 (by omega)
end Go.Proofs.YtiincpioidnciaaGreat
