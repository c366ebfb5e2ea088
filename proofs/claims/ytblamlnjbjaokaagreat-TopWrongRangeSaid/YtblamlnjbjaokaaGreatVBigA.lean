/-
  Digits: trim, add, sub, mul, short: the walks.
-/
import Derived.Test.YtblamlnjbjaokaaGreatRows
import Derived.Test.YtblamlnjbjaokaaGreatVDigits
import Derived.Test.YtblamlnjbjaokaaGreatVLib
import Derived.Deep.CutBlock
import Derived.Deep.DeepCutAuto
import Derived.WalkSpells
namespace Go.Proofs.YtblamlnjbjaokaaGreat
set_option linter.unusedVariables false
set_option linter.unusedSimpArgs false
set_option linter.unusedSectionVars false
open Go.RowKit
def IArr(w:World)(b:Nat)(o:List Int):Prop:=w.heap[b]? =some (.cells (o.map I).toArray 3 (0,0))
theorem IArr.lt{w:World}{b:Nat}{o:List Int}(h:IArr w b o):b<w.heap.size:=(Ya5.1 h).1
theorem IArr.cell{w:World}{b:Nat}{o:List Int}(h:IArr w b o){i:Nat}{x:Int}(hx:o[i]? =some x):w.cell? ⟨b,i,none⟩=some (I x):=by
 rw[cell_of_row w b i _ _ (0,0) h];simp[hx]
theorem IArr.free{w:World}{b:Nat}{o:List Int}(h:IArr w b o)(i:Nat):w.frozen? ⟨b,i,none⟩=false:=frozen_of_row w b i _ _ h
theorem IArr.set{w:World}{b:Nat}{o:List Int}(h:IArr w b o)(i:Nat)(x:Int):IArr (w.setCell ⟨b,i,none⟩ (I x)) b (o.set i x):=by
 unfold IArr
 rw[heap_setCell_same w b i _ _ _ h]
 congr 2
 apply Array.ext'
 simp[List.map_set]
theorem IArr.made(w:World)(n:Nat):IArr (w.alloc (.cells (Array.replicate n (I 0)) 3)) w.heap.size (List.replicate n 0):=by
 unfold IArr
 rw[heap_alloc_new]
 congr 2
 apply Array.ext'
 simp
theorem IArr.keep{w W:World}{b:Nat}{o:List Int}(h:IArr w b o)(hk:W.heap[b]? =w.heap[b]?):IArr W b o:=by unfold IArr;rw[hk];exact h
theorem IArr.alloc{w:World}{b:Nat}{o:List Int}(h:IArr w b o)(x:Obj):IArr (w.alloc x) b o:=h.keep (Below.heap_alloc _ _ _ h.lt)
theorem IArr.below{w W:World}{b B:Nat}{o:List Int}(h:IArr w b o)(hb:Below B w W)(hB:b<B):IArr W b o:=h.keep (hb.block b hB)
def Owns(w:World)(base:Nat)(v:Value)(l:List Int):Prop:=w.ownsRow base 3 1 v l.length (l.map I)
theorem Owns.ints{w:World}{base:Nat}{v:Value}{l:List Int}(h:Owns w base v l):Zau w v l:=by
 rcases h.2 with⟨rfl,h0⟩|⟨g,cap,cur,rfl,hb,hg,hn,hc,hs,ht⟩
 ·obtain rfl:l=[]:=Ya9 h0
  exact⟨none,0,rfl,Ya4 _,by unfold maxLen;omega,.inl rfl⟩
 ·refine⟨some ⟨g,0,none⟩,cap,rfl,hn,hc,.inr ⟨g,0,rfl,(Ya5.1 hg).1,fun i x hi=>⟨[I x],rfl,rfl,?_⟩⟩⟩
  intro j u hu
  cases j with
  | succ j=>simp at hu
  | zero =>
    simp at hu
    subst hu
    have hl:=(Ya3.1 hi).1
    have:(cur.toList.take (l.length*1))[i]? =some (I x):=by rw[ht];simp[hi]
    rw[List.getElem?_take_of_lt (by omega)]at this
    rw[show 0+i*1+0=i by omega,cell_of_row w g i _ _ (0,0) hg]
    simpa using this
theorem IArr.owns{w:World}{b base k:Nat}{o l:List Int}(h:IArr w b o)(hb:base≤b)(hl:l=o.take k)(hk:k≤o.length)(hm:o.length≤maxLen):Owns w base (.slice (some ⟨b,0,none⟩) l.length o.length) l:=by
 subst hl
 have e:(o.take k).length=k:=by simp;omega
 unfold Owns
 rw[e]
 refine⟨by simp;omega,.inr ⟨b,o.length,_,rfl,hb,h,hk,hm,by simp,?_⟩⟩
 simp[List.map_take]
theorem IArr.trim{w:World}{b base:Nat}{o:List Int}(h:IArr w b o)(hb:base≤b)(hm:o.length≤maxLen):Owns w base (.slice (some ⟨b,0,none⟩) (ZaU o).length o.length) (ZaU o) :=
 h.owns hb (ZfT o) (Zcg o) hm
theorem IArr.all{w:World}{b base:Nat}{o:List Int}(h:IArr w b o)(hb:base≤b)(hm:o.length≤maxLen):Zau w (.slice (some ⟨b,0,none⟩) o.length o.length) o :=
 (h.owns (base:=base) (l:=o) hb (Yc2).symm (Ya4 _) hm).ints
def Zg3(w:World)(l:List Int)(e:Ending)(w':World):Prop:=∃ v,e = .returned v∧Owns w' w.heap.size v l∧Below w.heap.size w w'
theorem ZcZ{P:Program}(t e:TypeId)(z:Value)(bytes:Nat)(ht:P.underlying t=some (.slice e))(hz:(P.info? e).map (fun i=>(i.zero,i.size,i.bytes))=some (some z,1,bytes))(hz1:z.cells=#[z])(n:Nat)(hb:bytes*n≤281474976710656)(hn:n≤9223372036854775807)(u:World) :
 (Instr.makeSlice t (.int .i64 (n:Int)) (.int .i64 (n:Int))).run P u = .ok (.slice (some ⟨u.heap.size,0,none⟩) n n) (u.alloc (.cells (Array.replicate n z) e)):=by
 obtain⟨i0,hi,h0,h1,h2⟩:=info_parts hz
 have h:=run_make (P:=P) u t e i0 z ht hi h0 .i64 .i64 (n:Int) (n:Int) (by omega) (Int.le_refl _) (by rw[h2];rw[← Int.natCast_mul];omega) (by omega)
 rw[h1,hz1,Int.toNat_natCast,Nat.mul_one]at h
 rw[h]
 congr 3
 apply Array.ext'
 rw[toList_madeCells_one];simp
theorem Zeg:(Tryz.prog.info? 3).map (fun i=>(i.zero,i.size,i.bytes))=some (some (.int .i64 0),1,8):=by kernel_rfl
attribute [local go_sem] Zpa Ztp
theorem ZhV{l:List Int}{k:Nat}(h:l[k]? =some 0):ZaU (l.take (k+1))=ZaU (l.take k):=by
 obtain⟨hk,h2⟩:=Ya3.1 h
 rw[List.take_succ_eq_append_getElem hk,h2,Zi9]
theorem ZhW{l:List Int}{k:Nat}{d:Int}(h:l[k]? =some d)(hd:d≠0):(ZaU (l.take (k+1))).length=k+1:=by
 obtain⟨hk,h2⟩:=Ya3.1 h
 rw[List.take_succ_eq_append_getElem hk,h2,Zja _ hd]
 simp;omega
theorem Zcp(a:Option Addr)(cap:Nat)(l:List Int)(w:World)(h:Zau w (.slice a l.length cap) l) :
 Calls Tryz.prog 137 #[.slice a l.length cap] w fun e w'=>e = .returned (.slice a (ZaU l).length cap)∧w=w':=by
 obtain⟨_,_,hv,hlc,hcap⟩:=h.shape
 simp only[Value.slice.injEq,true_and]at hv
 obtain⟨rfl,rfl⟩:=hv
 unfold maxLen at hcap
 go_enter Tryz.func137,Tryz.ntmps137
 go_wp2_with fail
 go_loop [3] (fun i=>∃ m:Nat,m≤l.length∧i=I m∧(ZaU (l.take m)).length=(ZaU l).length) (fun i=>(intOf i).toNat)
 case atStart=>exact⟨l.length,Ya4 _,rfl,by rw[Yc2]⟩
 case round =>
  obtain⟨m,hm,rfl,ht⟩:=hrel
  have Ht:=Lib.hid ht;clear ht
  cases m with
  | zero =>
    go_wp2_with fail
    go_ret
    have e:(ZaU l).length=0:=by rw[← Ht.out];rfl
    exact⟨by rw[e];rfl,rfl⟩
  | succ k =>
    obtain⟨b,off,x,rfl,hb,hx,hc⟩:=h.get1 (i:=k) (by omega)
    have hk0:decide ((0:Int)<(k:Int)+1)=true:=decide_eq_true (by omega)
    by_cases hx0:x=0
    ·subst hx0
     go_wp2_with fail
     go_round
     case rel=>exact⟨k,by omega,rfl,by rw[← ZhV hx.out];exact Ht.out⟩
     case measure=>simp[intOf]<;>omega
    ·have hx1:(x==0)=false:=by simpa using hx0
     go_wp2_with fail
     go_ret
     exact⟨by rw[← Ht.out,ZhW hx.out hx0];rfl,rfl⟩
set_option maxRecDepth 100000 in
set_option maxHeartbeats 4000000 in
theorem ZxY(va vb:Value)(a b:List Int)(w:World)(ha:Zau w va a)(hb:Zau w vb b)(da:Dig a)(db:Dig b)(la:(a.length:Int)≤4398046511104)(lb:(b.length:Int)≤4398046511104) :
 Calls Tryz.prog 132 #[va,vb] w (Zg3 w (digs (val a+val b).toNat)):=by
 obtain⟨A,ca,rfl,hla,hca⟩:=ha.shape
 obtain⟨B,cb,rfl,hlb,hcb⟩:=hb.shape
 unfold maxLen at hca hcb
 go_enter Tryz.func132,Tryz.ntmps132
 go_upto_if 13 with fail
 go_cut [0,1] (fun v0 v1 wx=>wx=w∧∃ (x y:List Int)(A B:Option Addr)(c d:Nat),v0 = .slice A x.length c∧v1 = .slice B y.length d∧Zau w v0 x∧Zau w v1 y∧y.length≤x.length∧Dig x∧Dig y∧val a+val b=val x+val y∧(x.length:Int)≤4398046511104)
 case first =>
  by_cases hlt:a.length<b.length
  ·go_wp2_with fail
   go_meet
   case rel=>exact⟨rfl,b,a,B,A,cb,ca,rfl,rfl,hb,ha,by omega,db,da,by omega,lb⟩
  ·go_wp2_with fail
   go_meet
   case rel=>exact⟨rfl,a,b,A,B,ca,cb,rfl,rfl,ha,hb,by omega,da,db,rfl,la⟩
 case rest =>
  obtain⟨rfl,x,y,A',B',c,d,rfl,rfl,hx,hy,hlen,dx,dy,hsum,hlx⟩:=hcut
  have hmk:=fun u=>ZcZ (P:=Tryz.prog) 30 3 _ _ Tryz.underlying30 Zeg rfl (x.length+1) (by omega) (by omega) u
  have Hsum:=Lib.hid hsum;clear hsum
  simp only[Int.natCast_add,Int.cast_ofNat_Int]at hmk
  obtain⟨w,rfl⟩:∃ w:World,w=wc:=⟨_,rfl⟩
  go_wp2_with fail
  go_loopw [22,6] (fun i c wr=>∃ (j:Nat)(o:List Int)(k:Int),j≤x.length∧i=I j∧c=I k∧IArr wr w.heap.size o∧ZmE x y j o k∧Below w.heap.size w wr) (fun i _ _=>x.length-(intOf i).toNat)
  case atStart=>exact⟨0,_,0,by omega,rfl,rfl,IArr.made w _,Zts x y,(Below.refl _ _).alloc (Ya4 _) _⟩
  case round =>
   obtain⟨j,o,k,hj,rfl,rfl,hI,hA,hB⟩:=hrel
   have HA:=Lib.hid hA
   have hk0:0≤k:=hA.2.2.2.1
   have hk1:k≤1:=hA.2.2.2.2.1
   have hol:o.length=x.length+1:=hA.1
   have hbl:=hI.lt
   by_cases hlt:j<x.length
   ·obtain⟨bx,ox,p,rfl,hbx,hp,hcx⟩:=Zau.get1 (hx.below RInt.mono hB) hlt
    have hcj:=hI.cell (ZjV hA.2.2.1 (by omega))
    have hfj:=hI.free j
    have hpb:=Zax dx hp.out
    clear hA
    have Hol:=Lib.hid hol;clear hol
    by_cases hjy:j<y.length
    ·obtain⟨by_,oy,q,rfl,hby,hq,hcy⟩:=Zau.get1 (hy.below RInt.mono hB) hjy
     have hqb:=Zax dy hq.out
     go_wp2_with fail
     go_roundw
     case rel =>
      have e1:=Zpc dx dy HA.out hlt hp.out (ZgY hq.out)
      exact⟨j+1,_,_,by omega,by go_num,rfl,hI.set j _,e1,hB.setCell (p:=⟨_,j,none⟩) (Ya4 _) _⟩
     case measure=>simp[intOf];omega
    ·go_wp2_with fail
     go_roundw
     case rel =>
      have e1:=Zpc dx dy HA.out hlt hp.out (ZiG (by omega:y.length≤j))
      rw[Int.add_zero]at e1
      exact⟨j+1,_,_,by omega,by go_num,rfl,hI.set j _,e1,hB.setCell (p:=⟨_,j,none⟩) (Ya4 _) _⟩
     case measure=>simp[intOf];omega
   ·have e:j=x.length:=by omega
    subst e
    have hcj:=hI.cell (ZjV hA.2.2.1 (by omega))
    have hfj:=hI.free x.length
    obtain⟨d1,d2⟩:=ZxX hA hlen
    have hI2:=hI.set x.length k
    have hol2:(o.set x.length k).length=x.length+1:=by simp[hol]
    have Hol2:=Lib.hid hol2;clear hol2
    have Hol:=Lib.hid hol;clear hol
    have hall:=hI2.all (base:=w.heap.size) (Ya4 _) (by rw[Hol2.out];unfold maxLen;omega)
    have hown:=hI2.trim (base:=w.heap.size) (Ya4 _) (by rw[Hol2.out];unfold maxLen;omega)
    have ht:=Zcp _ _ _ _ hall
    rw[Hol2.out]at ht hown
    rw[ZcV d1,d2]at ht hown
    rw[← Hsum.out]at ht hown
    clear hall hI2 d2
    go_wp2_with (go_at_call 137;refine ht.mono ?_;rintro e w1 ⟨rfl,rfl⟩)
    go_ret
    exact⟨_,rfl,hown,hB.setCell (p:=⟨_,_,none⟩) (Ya4 _) _⟩
attribute [local go_sem] Zpa Ztp
theorem Owns.row{w:World}{base:Nat}{v:Value}{l:List Int}(h:Owns w base v l):∀ k,v.ownBlock=some k→base≤k:=fun k hk=>(World.ownsRow.lt h k hk).1
theorem Owns.alloc{w:World}{base:Nat}{v:Value}{l:List Int}(h:Owns w base v l)(o:Obj):Owns (w.alloc o) base v l:=World.ownsRow.alloc h o
theorem Owns.nil(w:World)(base:Nat):Owns w base (.slice none 0 0) []:=World.ownsRow_nil w base _ _
theorem Owns.mono{w:World}{base b':Nat}{v:Value}{l:List Int}(h:Owns w base v l)(hb:b'≤base):Owns w b' v l:=by
 refine⟨h.1,?_⟩
 rcases h.2 with h2|⟨g,cap,cur,rfl,hb2,rest⟩
 ·exact .inl h2
 ·exact .inr ⟨g,cap,cur,rfl,Yc7 hb hb2,rest⟩
theorem Owns.keep{w W:World}{base B:Nat}{v:Value}{l:List Int}(h:Owns w base v l)(hb:Below B w W)(hk:∀ k,v.ownBlock=some k→k<B):Owns W base v l:=by
 refine⟨h.1,?_⟩
 rcases h.2 with h2|⟨g,cap,cur,rfl,hb2,hg,rest⟩
 ·exact .inl h2
 ·exact .inr ⟨g,cap,cur,rfl,hb2,by rw[hb.block g (hk g rfl)];exact hg,rest⟩
theorem Owns.below{w W:World}{base:Nat}{v:Value}{l:List Int}(h:Owns w base v l)(hb:Below w.heap.size w W):Owns W base v l:=h.keep hb fun k hk=>(World.ownsRow.lt h k hk).2
theorem Zl2:∃ i,Tryz.prog.info? 3=some i∧i.zero=some (.int .i64 0)∧i.size=1∧i.bytes=8:=info_parts Zeg
theorem ZmF(w:World){ops:Array Oper}{rest:List Oper}{o:Oper}{a:Act}{Q:Exit→Act→World→Prop}(hgd:o.guard=none)(s x:Operand)
 (ho:o.op = .call {callee:=.builtin .append,args:=#[s,x],argTypes:=#[30,30]})
 (base:Nat) (v:Value) (l:List Int) (y:Int) (hs:a.eval s=v) (hown:Owns w base v l) (hx:a.eval x = .slice (some ⟨w.heap.size,0,none⟩) 1 1)
 (hl:(l.length:Int)≤8796093022208) (hb:base≤w.heap.size)
 (h:∀ v' w',Owns w' base v' (l++[y])→Below base w w'→(v'.ownBlock=v.ownBlock∨v'.ownBlock=some (w.heap.size+1))→w.heap.size+1≤w'.heap.size→wpList Tryz.prog ops Q rest (a.put o.dst v') w') :
 wpList Tryz.prog ops Q (o ::rest) a (w.alloc (.cells #[.int .i64 y] 3)):=by
 obtain⟨i0,hi,hz0,hz1,hz2⟩:=Zl2
 refine Zdv _ hgd s x _ ho base 3 i0 _ 1 8 Tryz.underlying30 hi hz0 hz1 hz2 rfl (by omega) v l.length _ hs (hown.alloc _) _ 1 1 [I y] hx (Zrf (heap_alloc_new w _) rfl) (by simp[Value.oneCell']) (by unfold maxLen;omega) (by omega) (by simp;omega) ?_
 intro v' w' h1 h2 h3
 refine h v' w' ?_ ?_ (by simpa using h3) (by have:=h2.size;simpa using this)
 ·unfold Owns;simpa using h1
 ·exact((Below.refl _ _).alloc hb _).grown h2 (by simp;omega) (hown.row)
theorem ZuO{w:World}{A:Option Addr}{n cap:Nat}{l:List Int}(h:Zau w (.slice A n cap) l):Src w A n 1 (l.map I)∧n=l.length:=by
 have:=Zdn.src (R:=RInt) (fun x=>[I x]) (fun _ _ _ h=>h) h (fun _=>rfl)
 have e:∀ l:List Int,(l.flatMap fun x=>[I x])=l.map I:=by
  intro l
  induction l with
  | nil=>rfl
  | cons y l ih=>rw[List.flatMap_cons,ih];rfl
 rwa [e]at this
theorem Src.alloc{w:World}{A:Option Addr}{m size:Nat}{news:List Value}(h:Src w A m size news)(o:Obj):Src (w.alloc o) A m size news:=h.kept fun k hk=>Below.heap_alloc w o k hk
theorem ZrB(w:World):Owns (w.alloc (.cells #[] 3)) w.heap.size (.slice (some ⟨w.heap.size,0,none⟩) 0 0) [] :=
 ⟨by simp,.inr ⟨w.heap.size,0,#[],rfl,Ya4 _,heap_alloc_new w _,Ya4 _,by unfold maxLen;omega,rfl,rfl⟩⟩
theorem Zug(l:List Int):∀ u∈l.map I,u.oneCell'=true:=by
 intro u hu
 obtain⟨x,_,rfl⟩:=Yc6.1 hu
 rfl
set_option maxRecDepth 100000 in
theorem ZdS(v:Value)(l:List Int)(w:World)(h:Zau w v l)(hl:(l.length:Int)≤8796093022208) :
 Calls Tryz.prog 58 #[v] w (Zg3 w l):=by
 obtain⟨A,cap,rfl,hlc,hcap⟩:=h.shape
 obtain⟨i0,hi,hz0,hz1,hz2⟩:=Zl2
 have hnil:=fun(W:World) n c n' c'=>Lib.run_eql_slice_nil (P:=Tryz.prog) W 30 3 A n c n' c' Tryz.underlying30
 cases A with
 | none =>
   have e:l=[]:=by
    obtain⟨_,_,hv,_,_,h2⟩:=h
    simp only[Value.slice.injEq]at hv
    obtain⟨rfl,_,_⟩:=hv
    rcases h2 with h2|⟨_,_,h2,_⟩
    ·exact Ya9 h2
    ·cases h2
   subst e
   go_enter Tryz.func58,Tryz.ntmps58
   go_wp2_with fail
   go_ret
   exact⟨_,rfl,Owns.nil _ _,Below.refl _ _⟩
 | some A =>
   have hs:=(ZuO h).1
   go_enter Tryz.func58,Tryz.ntmps58
   go_wp2_with (at_builtin;refine Zdv _ (by rfl) _ _ _ (by rfl) w.heap.size 3 i0 _ 1 8 Tryz.underlying30 hi hz0 hz1 hz2 rfl (by omega) _ 0 [] (by rfl) (ZrB w) (some A) l.length cap (l.map I) (by rfl) (hs.alloc _) (Zug l) (by unfold maxLen;omega) (by omega) (by simp) ?_;intro v' w1 hown hgrow hat)
   go_ret
   refine⟨_,rfl,?_,?_⟩
   ·simpa[Owns]using hown
   ·exact((Below.refl _ _).alloc (Ya4 _) _).grown hgrow (by simp) (by intro k hk;simp[Value.ownBlock]at hk;omega)
theorem Owns.form{w:World}{base:Nat}{v:Value}{l:List Int}(h:Owns w base v l)(hl:l≠[]):∃ g cap,v = .slice (some ⟨g,0,none⟩) l.length cap∧base≤g∧g<w.heap.size∧l.length≤cap∧cap≤maxLen:=by
 rcases h.2 with⟨_,h2⟩|⟨g,cap,cur,rfl,hb2,hg,hn,hm,_⟩
 ·exact absurd (Ya9 h2) hl
 ·exact⟨g,cap,rfl,hb2,(Ya5.1 hg).1,hn,hm⟩
section
variable {w:World} {base g n cap:Nat} {l:List Int}
theorem Owns.len(h:Owns w base (.slice (some ⟨g,0,none⟩) n cap) l):l.length=n∧w.ownsRow base 3 1 (.slice (some ⟨g,0,none⟩) n cap) n (l.map I):=by
 have e:l.length=n:=by
  rcases h.2 with⟨h2,_⟩|⟨g',cap',cur,h2,_⟩
  ·cases h2
  ·simp only[Value.slice.injEq]at h2;exact h2.2.1.symm
 exact⟨e,e▸h⟩
theorem Owns.cell(h:Owns w base (.slice (some ⟨g,0,none⟩) n cap) l){j:Nat}{x:Int}(hx:l[j]? =some x):w.cell? ⟨g,j,none⟩=some (I x):=by
 obtain⟨e,h2⟩:=h.len
 rw[h2.cellAt j (by have:=(Ya3.1 hx).1;omega)];simp[hx]
theorem Owns.free(h:Owns w base (.slice (some ⟨g,0,none⟩) n cap) l)(j:Nat):w.frozen? ⟨g,j,none⟩=false:=h.len.2.frozenAt j
theorem Owns.ge(h:Owns w base (.slice (some ⟨g,0,none⟩) n cap) l):base≤g∧g<w.heap.size:=World.ownsRow.lt h g rfl
theorem Owns.set(h:Owns w base (.slice (some ⟨g,0,none⟩) n cap) l)(j:Nat)(x:Int):Owns (w.setCell ⟨g,j,none⟩ (I x)) base (.slice (some ⟨g,0,none⟩) n cap) (l.set j x):=by
 obtain⟨e,h2⟩:=h.len
 have:=(h2.stored j (I x)).1
 unfold Owns
 rw[List.length_set,e,List.map_set];exact this
theorem Owns.take(h:Owns w base (.slice (some ⟨g,0,none⟩) n cap) l){k:Nat}{m:List Int}(hm:m=l.take k)(hk:k≤l.length):Owns w base (.slice (some ⟨g,0,none⟩) m.length cap) m:=by
 subst hm
 obtain⟨e,h2⟩:=h.len
 have e2:(l.take k).length=k:=by simp;omega
 rcases h2.2 with⟨h3,_⟩|⟨g',cap',cur,h3,hb,hg,hn,hm,hs,ht⟩
 ·cases h3
 ·simp only[Value.slice.injEq,Ya1,Addr.mk.injEq,and_true,true_and]at h3
  obtain⟨rfl,rfl⟩:=h3
  refine⟨by simp,.inr ⟨g,cap,cur,by rw[e2],hb,hg,by omega,hm,hs,?_⟩⟩
  rw[e2,List.map_take,← ht,List.take_take,Nat.min_eq_left (by omega)];simp
theorem Owns.trim(h:Owns w base (.slice (some ⟨g,0,none⟩) n cap) l):Owns w base (.slice (some ⟨g,0,none⟩) (ZaU l).length cap) (ZaU l):=h.take (ZfT l) (Zcg l)
end
set_option maxRecDepth 100000 in
set_option maxHeartbeats 4000000 in
theorem Zws(va vb:Value)(a b:List Int)(w:World)(ha:Zau w va a)(hb:Zau w vb b)(da:Dig a)(db:Dig b)(hl:b.length≤a.length)(hle:val b≤val a)(la:(a.length:Int)≤4398046511104) :
 Calls Tryz.prog 133 #[va,vb] w (Zg3 w (digs (val a-val b).toNat)):=by
 obtain⟨A,ca,rfl,hla,hca⟩:=ha.shape
 obtain⟨B,cb,rfl,hlb,hcb⟩:=hb.shape
 unfold maxLen at hca hcb
 have hcl:=ZdS _ _ _ ha (by omega)
 by_cases ea:a=[]
 ·subst ea
  have eb:b=[]:=Ya9 (by simpa using hl)
  subst eb
  go_enter Tryz.func133,Tryz.ntmps133
  go_upto_region 2 with(go_at_call 58;refine hcl.mono ?_;rintro e w1 ⟨v1,rfl,hown,hb1⟩)
  obtain⟨A1,c1,rfl,_,hc1⟩:=hown.ints.shape
  unfold maxLen at hc1
  go_wp2_with fail
  go_loopw [13] (fun i wr=>i=I 0∧wr=w1) (fun _ _=>0)
  case atStart=>exact⟨rfl,rfl⟩
  case round =>
   obtain⟨rfl,rfl⟩:=hrel
   have ht:=Zcp _ _ _ _ hown.ints
   go_wp2_with (go_at_call 137;refine ht.mono ?_;rintro e w2 ⟨rfl,rfl⟩)
   go_ret
   refine⟨_,rfl,?_,hb1⟩
   have e0:digs (val []-val []).toNat=[]:=ZaI
   rw[e0];exact hown
 ·go_enter Tryz.func133,Tryz.ntmps133
  go_upto_region 2 with(go_at_call 58;refine hcl.mono ?_;rintro e w1 ⟨v1,rfl,hown,hb1⟩)
  obtain⟨g,cp,rfl,hg0,hg1,hlc,hmc⟩:=hown.form ea
  unfold maxLen at hmc
  have Hle:=Lib.hid hle
  have Hcl:=Lib.hid hcl;clear hcl
  go_wp2_with fail
  go_loopw [13,6] (fun i c wr=>∃ (j:Nat)(o:List Int)(k:Int),j≤a.length∧i=I j∧c=I k∧Owns wr w.heap.size (.slice (some ⟨g,0,none⟩) a.length cp) o∧ZmB a b j o k∧Below w.heap.size w wr) (fun i _ _=>a.length-(intOf i).toNat)
  case atStart=>exact⟨0,_,0,by omega,rfl,rfl,hown,Zra da b,hb1⟩
  case round =>
   obtain⟨j,o,k,hj,rfl,rfl,hI,hA,hB⟩:=hrel
   have HA:=Lib.hid hA
   have hk0:0≤k:=hA.2.2.2.1
   have hk1:k≤1:=hA.2.2.2.2.1
   have hol:o.length=a.length:=hA.1
   have hgl:=hI.ge.2
   by_cases hlt:j<a.length
   ·have hp:o[j]? =some o[j]:=Ya0 (by omega)
    generalize o[j]=p at hp
    have hcj:=hI.cell hp
    have hfj:=hI.free j
    have hpb:=Zax hA.2.1 hp
    have Hp:=Lib.hid hp;clear hp hA
    have Hol:=Lib.hid hol;clear hol
    by_cases hjy:j<b.length
    ·obtain⟨by_,oy,q,rfl,hby,hq,hcy⟩:=Zau.get1 (hb.below RInt.mono hB) hjy
     have hqb:=Zax db hq.out
     go_wp2_with fail
     go_roundw
     case rel =>
      have e1:=Zoc da db HA.out Hp.out (ZgY hq.out)
      exact⟨j+1,_,_,by omega,by go_num,rfl,hI.set j _,e1,hB.setCell (p:=⟨_,j,none⟩) hg0 _⟩
     case measure=>simp[intOf];omega
    ·go_wp2_with fail
     go_roundw
     case rel =>
      have e1:=Zoc da db HA.out Hp.out (ZiG (by omega:b.length≤j))
      rw[Int.sub_zero]at e1
      exact⟨j+1,_,_,by omega,by go_num,rfl,hI.set j _,e1,hB.setCell (p:=⟨_,j,none⟩) hg0 _⟩
     case measure=>simp[intOf];omega
   ·have e:j=a.length:=by omega
    subst e
    obtain⟨d1,d2⟩:=Zwr hA hl Hle.out
    have ht:=Zcp (some ⟨g,0,none⟩) cp o wr (by rw[hol];exact hI.ints)
    have hown2:=hI.trim
    rw[ZcV d1,d2]at ht hown2
    rw[hol]at ht
    clear d2 hol
    go_wp2_with (go_at_call 137;refine ht.mono ?_;rintro e w1 ⟨rfl,rfl⟩)
    go_ret
    exact⟨_,rfl,hown2,hB⟩
set_option maxRecDepth 100000 in
set_option maxHeartbeats 8000000 in
theorem Zkf(va vb:Value)(a b:List Int)(w:World)(ha:Zau w va a)(hb:Zau w vb b)(da:Dig a)(db:Dig b)(la:(a.length:Int)≤4398046511104)(lb:(b.length:Int)≤4398046511104) :
 Calls Tryz.prog 136 #[va,vb] w (Zg3 w (digs (val a*val b).toNat)):=by
 obtain⟨A,ca,rfl,hla,hca⟩:=ha.shape
 obtain⟨B,cb,rfl,hlb,hcb⟩:=hb.shape
 unfold maxLen at hca hcb
 have hmk:=fun u=>ZcZ (P:=Tryz.prog) 30 3 _ _ Tryz.underlying30 Zeg rfl (a.length+b.length) (by omega) (by omega) u
 simp only[Int.natCast_add]at hmk
 go_enter Tryz.func136,Tryz.ntmps136
 go_wp2_with fail
 go_loopw [20] (fun i wr=>∃ (j:Nat)(o:List Int),j≤a.length∧i=I j∧IArr wr w.heap.size o∧ZmD a b j o∧Below w.heap.size w wr) (fun i _=>a.length-(intOf i).toNat)
 case atStart=>exact⟨0,_,by omega,rfl,IArr.made w _,ZrY a b,(Below.refl _ _).alloc (Ya4 _) _⟩
 case round =>
  obtain⟨j,o,hj,rfl,hI,hA,hB⟩:=hrel
  have HA:=Lib.hid hA
  have hol:o.length=a.length+b.length:=hA.1
  have hbl:=hI.lt
  by_cases hlt:j<a.length
  ·obtain⟨bx,ox,x,rfl,hbx,hx,hcx⟩:=Zau.get1 (ha.below RInt.mono hB) hlt
   have hxb:=Zax da hx.out
   obtain⟨W,rfl⟩:∃ W:World,W=wr:=⟨_,rfl⟩
   clear hA
   have Hol:=Lib.hid hol;clear hol
   go_wp2_with fail
   go_loopw [27,8] (fun i c wi=>∃ (k:Nat)(p:List Int)(y:Int),k≤b.length∧i=I k∧c=I y∧IArr wi w.heap.size p∧Ztv a b j x k p y∧Below w.heap.size w wi) (fun i _ _=>b.length-(intOf i).toNat)
   case atStart=>exact⟨0,o,0,by omega,rfl,rfl,hI,Zza x HA.out,hB⟩
   case round =>
    obtain⟨k,p,y,hk,rfl,rfl,hI2,hA2,hB2⟩:=hrel
    have HA2:=Lib.hid hA2
    have hol2:p.length=a.length+b.length:=hA2.1
    have hy0:0≤y:=hA2.2.2.1
    have hy1:y<1048576:=hA2.2.2.2.1
    have hbl2:=hI2.lt
    by_cases hkb:k<b.length
    ·obtain⟨by_,oy,q,rfl,hby,hq,hcy⟩:=Zau.get1 (hb.below RInt.mono hB2) hkb
     have hqb:=Zax db hq.out
     have hp:p[j+k]? =some p[j+k]:=Ya0 (by omega)
     generalize p[j+k]=z at hp
     have hcj:=hI2.cell hp
     have hfj:=hI2.free (j+k)
     have hpb:=Zax hA2.2.1 hp
     have hm:=Zjr hpb hxb hqb ⟨hy0,hy1⟩
     have Hp:=Lib.hid hp
     clear hp hA2
     have Hol2:=Lib.hid hol2;clear hol2
     go_wp2_with fail
     go_roundw
     case rel =>
      have e1:=Zuw db hxb HA2.out (ZgY hq.out) Hp.out
      exact⟨k+1,_,_,by omega,by go_num,rfl,hI2.set (j+k) _,e1,hB2.setCell (p:=⟨_,j+k,none⟩) (Ya4 _) _⟩
     case measure=>simp[intOf];omega
    ·have e:k=b.length:=by omega
     subst e
     have hp:p[j+b.length]? =some p[j+b.length]:=Ya0 (by omega)
     generalize p[j+b.length]=z at hp
     have hcj:=hI2.cell hp
     have hfj:=hI2.free (j+b.length)
     obtain⟨m1,m2,m3⟩:=Zw7 da db hx.out hA2 hp
     have hpb:=Zax hA2.2.1 hp
     have M1:=Lib.hid m1
     clear hp hA2 m1
     have Hol2:=Lib.hid hol2;clear hol2
     go_wp2_with fail
     go_roundw
     case rel=>exact⟨j+1,_,by omega,by go_num,hI2.set (j+b.length) _,M1.out,hB2.setCell (p:=⟨_,j+b.length,none⟩) (Ya4 _) _⟩
     case measure=>simp[intOf];omega
  ·have e:j=a.length:=by omega
   subst e
   obtain⟨d1,d2⟩:=Zw8 hA
   have ht:=Zcp (some ⟨w.heap.size,0,none⟩) o.length o wr (hI.all (base:=w.heap.size) (Ya4 _) (by rw[hol];unfold maxLen;omega))
   have hown2:=hI.trim (base:=w.heap.size) (Ya4 _) (by rw[hol];unfold maxLen;omega)
   rw[ZcV d1,d2]at ht hown2
   rw[hol]at ht hown2
   clear d2 hol
   go_wp2_with (go_at_call 137;refine ht.mono ?_;rintro e w1 ⟨rfl,rfl⟩)
   go_ret
   exact⟨_,rfl,hown2,hB⟩
def Zvy(w:World)(l:List Int)(r:Int)(e:Ending)(w':World):Prop:=∃ v,e = .returned (.tuple #[v,I r])∧Owns w' w.heap.size v l∧Below w.heap.size w w'
set_option maxRecDepth 100000 in
set_option maxHeartbeats 8000000 in
theorem Zlm(va:Value)(a:List Int)(d:Int)(w:World)(ha:Zau w va a)(da:Dig a)(hd0:0<d)(hd1:d<1048576)(la:(a.length:Int)≤8796093022208) :
 Calls Tryz.prog 168 #[va,I d] w (Zvy w (digs (val a / d).toNat) (val a%d)):=by
 obtain⟨A,ca,rfl,hla,hca⟩:=ha.shape
 unfold maxLen at hca
 have hmk:=fun u=>ZcZ (P:=Tryz.prog) 30 3 _ _ Tryz.underlying30 Zeg rfl a.length (by omega) (by omega) u
 go_enter Tryz.func168,Tryz.ntmps168
 go_wp2_with fail
 go_loopw [8,7] (fun i c wr=>∃ (m:Nat)(o:List Int)(r:Int),m≤a.length∧i=I ((m:Int)-1)∧c=I r∧IArr wr w.heap.size o∧ZgF a d m o r∧Below w.heap.size w wr) (fun i _ _=>(intOf i+1).toNat)
 case atStart=>exact⟨a.length,_,0,by omega,rfl,rfl,IArr.made w _,Zm1 a hd0,(Below.refl _ _).alloc (Ya4 _) _⟩
 case round =>
  obtain⟨m,o,r,hm,rfl,rfl,hI,hA,hB⟩:=hrel
  have HA:=Lib.hid hA
  have hol:o.length=a.length:=hA.1
  have hr0:0≤r:=hA.2.2.1
  have hr1:r<d:=hA.2.2.2.1
  have hbl:=hI.lt
  cases m with
  | zero =>
    obtain⟨d1,d2,d3⟩:=Zrm da hA
    have ht:=Zcp (some ⟨w.heap.size,0,none⟩) o.length o wr (hI.all (base:=w.heap.size) (Ya4 _) (by rw[hol];unfold maxLen;omega))
    have hown2:=hI.trim (base:=w.heap.size) (Ya4 _) (by rw[hol];unfold maxLen;omega)
    rw[ZcV d1,d2]at ht hown2
    rw[hol]at ht hown2
    have D3:=Lib.hid d3
    clear d2 d3 hol
    rw[show((0:Nat):Int)-1 = -1 from rfl]
    go_wp2_with (go_at_call 137;refine ht.mono ?_;rintro e w1 ⟨rfl,rfl⟩)
    go_ret2
    exact⟨_,by rw[D3.out];rfl,hown2,hB⟩
  | succ k =>
    obtain⟨bx,ox,x,rfl,hbx,hx,hcx⟩:=Zau.get1 (ha.below RInt.mono hB) (i:=k) (by omega)
    have hxb:=Zax da hx.out
    have hp:o[k]? =some o[k]:=Ya0 (by omega)
    generalize o[k]=z at hp
    have hcj:=hI.cell hp
    have hfj:=hI.free k
    obtain⟨s1,s2,s3,s4,s5,s6⟩:=ZpB da hd1 hA hx.out
    have hor:=ZrG hr0 (by omega) hxb.1 hxb.2
    have S1:=Lib.hid s1
    have e2:((k+1:Nat):Int)-1=k:=by omega
    have hki:(0:Int)≤(k:Int):=by omega
    clear hp hA s1
    have Hol:=Lib.hid hol;clear hol
    rw[e2]
    clear e2
    go_wp2_with fail
    go_roundw
    case rel=>exact⟨k,_,_,by omega,by go_num,rfl,hI.set k _,S1.out,hB.setCell (p:=⟨_,k,none⟩) (Ya4 _) _⟩
    case measure=>simp[intOf]<;>omega
theorem ZkR(x y:Int)(w:World):Calls Tryz.prog 91 #[I x,I y] w fun e w'=>e = .returned (I (x-y).sign)∧w=w':=by
 have hnx:∀ (z:Int)(W:World),Calls Tryz.prog 135 #[I z] W fun e w'=>e = .returned (B false)∧W=w':=by
  intro z W
  go_enter Tryz.func135,Tryz.ntmps135
  go_wp2
  go_ret
  exact⟨retB (by simp),rfl⟩
 rcases Int.lt_trichotomy x y with h|h|h
 ·have e:(x-y).sign = -1:=Yb3 (by omega)
  rw[e]
  clear e
  go_enter Tryz.func91,Tryz.ntmps91
  go_wp2_with (go_at_call 135;refine(hnx _ _).mono ?_;rintro e w' ⟨rfl,rfl⟩)
  go_ret
  exact⟨rfl,rfl⟩
 ·subst h
  have e:(x-x).sign=0:=by rw[Int.sub_self];rfl
  rw[e]
  clear e
  go_enter Tryz.func91,Tryz.ntmps91
  go_wp2_with (go_at_call 135;refine(hnx _ _).mono ?_;rintro e w' ⟨rfl,rfl⟩)
  go_ret
  exact⟨rfl,rfl⟩
 ·have e:(x-y).sign=1:=Yb2 (by omega)
  rw[e]
  clear e
  go_enter Tryz.func91,Tryz.ntmps91
  go_wp2_with (go_at_call 135;refine(hnx _ _).mono ?_;rintro e w' ⟨rfl,rfl⟩)
  go_ret
  exact⟨rfl,rfl⟩
theorem ZeB{x y:Int}(h:x<y):(x-y).sign = -1:=Yb3 (by omega)
theorem ZfD{x y:Int}(h:y<x):(x-y).sign=1:=Yb2 (by omega)
theorem ZxI{a b:List Int}(ha:Norm a)(hb:Norm b)(h:a.length≠b.length):((a.length:Int)-b.length).sign=(val a-val b).sign:=by
 rcases Nat.lt_or_gt_of_ne h with h|h
 ·rw[ZeB (by omega),ZeB (Zgj ha.1 hb h)]
 ·rw[ZfD (by omega),ZfD (Zgj hb.1 ha h)]
theorem ZxJ{a b:List Int}(ha:Dig a)(hb:Dig b)(hl:a.length=b.length){k:Nat}{x y:Int}(hx:a[k]? =some x)(hy:b[k]? =some y)(hd:a.drop (k+1)=b.drop (k+1))(h:x≠y):(x-y).sign=(val a-val b).sign:=by
 rcases Int.lt_or_gt_of_ne h with h|h
 ·rw[ZeB h,ZeB (Zi7 ha hb hl hx hy hd h)]
 ·rw[ZfD h,ZfD (Zi7 hb ha hl.symm hy hx hd.symm h)]
theorem Zqb{P:Program}{f:FuncId}{args:Array Value}{w:World}{a n:Nat}{v:Value}
 (h:Calls P f args (w.drewN (a+n)) fun e w'=>e = .returned v∧w.drewN (a+n)=w'):Calls P f args (w.drewN (a+n)) fun e w''=>e = .returned v∧∃ m,w''=w.drewN (a+m) :=
 h.mono fun _ _ h=>⟨h.1,n,h.2.symm⟩
set_option maxRecDepth 100000 in
set_option maxHeartbeats 4000000 in
theorem Zda(va vb:Value)(a b:List Int)(w:World)(ha:Zau w va a)(hb:Zau w vb b)(na:Norm a)(nb:Norm b) :
 Calls Tryz.prog 92 #[va,vb] w fun e w'=>e = .returned (I (val a-val b).sign)∧Below w.heap.size w w':=by
 obtain⟨A,ca,rfl,hla,hca⟩:=ha.shape
 obtain⟨B,cb,rfl,hlb,hcb⟩:=hb.shape
 unfold maxLen at hca hcb
 by_cases hl:a.length=b.length
 ·have Hl:=Lib.hid hl
  have hl1:a.length≤b.length:=by omega
  have hl2:b.length≤a.length:=by omega
  clear hl
  go_enter Tryz.func92,Tryz.ntmps92
  go_wp2_with fail
  go_loopw [5] (fun i wr=>∃ m:Nat,m≤a.length∧i=I ((m:Int)-1)∧a.drop m=b.drop m∧Below w.heap.size w wr) (fun i _=>(intOf i+1).toNat)
  case atStart=>exact⟨a.length,by omega,rfl,by rw[List.drop_eq_nil_of_le (Ya4 _),List.drop_eq_nil_of_le hl2],Below.refl _ _⟩
  case round =>
   obtain⟨m,hm,rfl,hd,hB⟩:=hrel
   have Hd:=Lib.hid hd;clear hd
   cases m with
   | zero =>
     have e:(0:Int)=(val a-val b).sign:=by
      have:a=b:=by simpa using Hd.out
      rw[this];simp
     rw[show((0:Nat):Int)-1 = -1 from rfl]
     have E:=Lib.hid e;clear e
     go_wp2_with fail
     go_ret
     exact⟨retI E.out,hB⟩
   | succ k =>
     obtain⟨bx,ox,x,rfl,hbx,hx,hcx⟩:=Zau.get1 (ha.below RInt.mono hB) (i:=k) (by omega)
     obtain⟨by_,oy,y,rfl,hby,hy,hcy⟩:=Zau.get1 (hb.below RInt.mono hB) (i:=k) (by omega)
     rw[show((k+1:Nat):Int)-1=k by omega]
     have hki:(0:Int)≤(k:Int):=by omega
     have hka:(k:Int)<(a.length:Int):=by omega
     have hkb:(k:Int)<(b.length:Int):=by omega
     by_cases hxy:x=y
     ·subst hxy
      have hxx:(x !=x)=false:=by simp
      go_wp2_with fail
      go_quiet (fail)
      go_wp2_with fail
      go_roundw
      case rel =>
       refine⟨k,by omega,rfl,?_,ZaT hB _⟩
       have h1:=(Ya3.1 hx.out)
       have h2:=(Ya3.1 hy.out)
       obtain⟨h1,h1'⟩:=h1
       obtain⟨h2,h2'⟩:=h2
       rw[Yd7 h1,Yd7 h2,h1',h2',Hd.out]
      case measure=>simp[intOf]<;>omega
     ·have hxx:(x !=y)=true:=by simpa using hxy
      have E:=Lib.hid (ZxJ na.1 nb.1 Hl.out hx.out hy.out Hd.out hxy)
      go_wp2_with fail
      go_quiet (fail)
      go_wp2_with fail
      go_quiet ((go_at_call 91;exact Zqb (ZkR _ _ _)))
      go_wp2_with fail
      go_ret
      exact⟨retI E.out,ZaT (ZaT hB _) _⟩
 ·have hl':((a.length:Int) !=(b.length:Int))=true:=by simp;omega
  have E:=Lib.hid (ZxI na nb hl)
  have hl3:=Lib.hid hl;clear hl
  go_enter Tryz.func92,Tryz.ntmps92
  go_wp2_with (go_at_call 91;refine(ZkR _ _ _).mono ?_;rintro e w' ⟨rfl,rfl⟩)
  go_ret
  exact⟨retI E.out,Below.refl _ _⟩
def splice(U:List Int)(off:Nat)(o:List Int):List Int:=U.take off++o++U.drop (off+o.length)
theorem Zje{U o:List Int}{off j:Nat}{x:Int}(h:off≤U.length)(hx:o[j]? =some x):(splice U off o)[off+j]? =some x:=by
 unfold splice
 have hj:=(Ya3.1 hx).1
 rw[Yd3,Yc4 (by simp;omega),Yc1,Nat.min_eq_left h,Nat.add_sub_cancel_left,Yc3 hj,hx]
theorem ZeY{U o:List Int}{off j:Nat}(h:off≤U.length)(hj:j<o.length)(x:Int):(splice U off o).set (off+j) x=splice U off (o.set j x):=by
 unfold splice
 rw[List.length_set,Yd3,Yd3,List.set_append_right _ _ (by simp;omega),Yc1,Nat.min_eq_left h,Nat.add_sub_cancel_left,List.set_append_left _ _ hj]
theorem ZmW{U:List Int}{off n:Nat}(h:off+n≤U.length):splice U off ((U.drop off).take n)=U:=by
 unfold splice
 have e:((U.drop off).take n).length=n:=by simp;omega
 rw[e,← List.drop_drop,Yd3,List.take_append_drop,List.take_append_drop]
theorem ZdL{w W:World}{g:Nat}{v:Value}{l:List Int}(h:Zau w v l)(hg:w.grownBy W (some g))(hne:∀ k,v.ownBlock=some k→k≠g):Zau W v l:=by
 obtain⟨a,cap,hv,hl,hc,h⟩:=h
 refine⟨a,cap,hv,hl,hc,?_⟩
 rcases h with h|⟨b,off,ha,hlt,hx⟩
 ·exact .inl h
 ·subst ha hv
  have hb:=hne b rfl
  refine .inr ⟨b,off,rfl,Nat.lt_of_lt_of_le hlt hg.size,fun i x hi=>?_⟩
  obtain⟨cs,hr,hs,hj⟩:=hx i x hi
  exact⟨cs,hr,hs,fun j u hu=>(hgcell hg hlt hb).trans (hj j u hu)⟩
where hgcell {w W:World} {g b o:Nat} (hg:w.grownBy W (some g)) (hlt:b<w.heap.size) (hb:b≠g):W.cell? ⟨b,o,none⟩=w.cell? ⟨b,o,none⟩ :=
 World.cell?_of_block (hg.block b hlt (fun e=>hb (Option.some.inj e)))
theorem ZeH{w W:World}{g i:Nat}{x:Value}(h:w.grownBy W (some g)):w.grownBy (W.setCell ⟨g,i,none⟩ x) (some g):=by
 refine⟨h.os,h.tape,h.output,by simpa[World.setCell]using h.size,fun k hk hne=>?_⟩
 rw[heap_setCell_other W ⟨g,i,none⟩ k x (fun e=>hne (congrArg some e))]
 exact h.block k hk hne
set_option maxRecDepth 100000 in
set_option maxHeartbeats 8000000 in
theorem ZpD(g off n cap N cp:Nat)(U V:List Int)(vv:Value)(gu:Int)(base:Nat)(w:World)
 (hU:Owns w base (.slice (some ⟨g,0,none⟩) N cap) U) (hoff:off+n≤U.length) (hv:Zau w vv V) (hne:∀ k,vv.ownBlock=some k→k≠g)
 (dW:Dig ((U.drop off).take n)) (dv:Dig V) (hl:V.length≤n) (hv0:0<val V) (hV:val V<bp n) (hn:(n:Int)≤cp) (hcp:(cp:Int)≤9223372036854775807)
 (h0:0≤gu) (h1:qd ((U.drop off).take n) V≤gu) (h2:gu≤qd ((U.drop off).take n) V+1) (h3:gu<1048576) :
 Calls Tryz.prog 169 #[.slice (some ⟨g,off,none⟩) n cp,vv,I gu] w fun e w'=>e = .returned (I (qd ((U.drop off).take n) V)) ∧
  ∃ W':List Int,W'.length=n∧Dig W'∧val W'=val ((U.drop off).take n)-qd ((U.drop off).take n) V*val V∧Owns w' base (.slice (some ⟨g,0,none⟩) N cap) (splice U off W')∧w.grownBy w' (some g):=by
 obtain⟨A,ca,rfl,hla,hca⟩:=hv.shape
 unfold maxLen at hca
 have hwl:((U.drop off).take n).length=n:=by simp;omega
 have hUs:=ZmW hoff
 generalize hW:(U.drop off).take n=W at *
 clear hW
 have HUs:=Lib.hid hUs;clear hUs
 have hg:=hU.ge
 have Hwl:=Lib.hid hwl;clear hwl
 have h1':=Lib.hid h1;clear h1
 have h2':=Lib.hid h2;clear h2
 have Hne:=Lib.hid hne;clear hne
 have HV:=Lib.hid hV;clear hV
 have Hv0:=Lib.hid hv0;clear hv0
 go_enter Tryz.func169,Tryz.ntmps169
 go_wp2_with fail
 go_loopw [14,7] (fun i c wr=>∃ (j:Nat)(o:List Int)(k:Int),j≤n∧i=I j∧c=I k∧Owns wr base (.slice (some ⟨g,0,none⟩) N cap) (splice U off o)∧ZmC W V gu j o k∧w.grownBy wr (some g)) (fun i _ _=>n-(intOf i).toNat)
 case atStart=>exact⟨0,W,0,by omega,rfl,rfl,by rw[HUs.out];exact hU,Zln dW V gu,World.grownBy.refl w _⟩
 case round =>
  obtain⟨j,o,k,hj,rfl,rfl,hI,hA,hB⟩:=hrel
  have HA:=Lib.hid hA
  have hk0:0≤k:=hA.2.2.2.1
  have hk1:k<1048576:=hA.2.2.2.2.1
  have hol:o.length=n:=hA.1.trans Hwl.out
  have hgl:=hI.ge.2
  by_cases hlt:j<n
  ·have hp:o[j]? =some o[j]:=Ya0 (by omega)
   generalize o[j]=p at hp
   have hcj:=hI.cell (Zje (by omega) hp)
   have hfj:=hI.free (off+j)
   have Hp:=Lib.hid hp
   have Hol:=Lib.hid hol
   by_cases hjy:j<V.length
   ·obtain⟨by_,oy,q,rfl,hby,hq,hcy⟩:=Zau.get1 (ZdL hv hB Hne.out) hjy
    obtain⟨e1,s1,s2,s3,s4,s5,s6⟩:=Zh4 dv ⟨h0,h3⟩ hA hp (ZgY hq.out)
    have hqb:=Zax dv hq.out
    have E1:=Lib.hid e1
    clear e1 hp hA hol
    go_wp2_with fail
    go_roundw
    case rel =>
     have e2:=hI.set (off+j) ((p-k-gu*q)%1048576)
     rw[ZeY (by omega) (by have:=Hol.out;omega)]at e2
     exact⟨j+1,_,_,by omega,by go_num,rfl,e2,E1.out,ZeH hB⟩
    case measure=>simp[intOf];omega
   ·obtain⟨e1,s1,s2,s3,s4,s5,s6⟩:=Zh4 dv ⟨h0,h3⟩ hA hp (ZiG (by omega:V.length≤j))
    rw[Int.mul_zero,Int.sub_zero]at e1 s1 s2
    have E1:=Lib.hid e1
    clear e1 hp hA hol s3 s4
    go_wp2_with fail
    go_roundw
    case rel =>
     have e2:=hI.set (off+j) ((p-k)%1048576)
     rw[ZeY (by omega) (by have:=Hol.out;omega)]at e2
     exact⟨j+1,_,_,by omega,by go_num,rfl,e2,E1.out,ZeH hB⟩
    case measure=>simp[intOf];omega
  ·have e:j=n:=by omega
   subst e
   have hA':=hA
   rw[← Hwl.out]at hA'
   have hsb:=Zj4 hA' dW (by rw[Hwl.out];exact hl) Hv0.out (by rw[Hwl.out];exact HV.out) h1'.out h2'.out
   rcases hsb with⟨rfl,hq,hval⟩|⟨rfl,hq,hval⟩
   ·have HQ:=Lib.hid hq;clear hq
    have HVV:=Lib.hid hval;clear hval hA hA'
    have Hol:=Lib.hid hol;clear hol
    go_wp2_with fail
    go_ret
    exact⟨retI HQ.out,o,Hol.out,HA.out.2.1,HVV.out,hI,hB⟩
   ·have HQ:=Lib.hid hq;clear hq
    have HVV:=Lib.hid hval;clear hval hA hA'
    have Hol:=Lib.hid hol;clear hol
    have ho:Dig o:=HA.out.2.1
    obtain⟨wb,rfl⟩:∃ wb:World,wb=wr:=⟨_,rfl⟩
    go_wp2_with fail
    go_loopw [49,10] (fun i c wr=>∃ (m:Nat)(o':List Int)(k:Int),m≤j∧i=I m∧c=I k∧Owns wr base (.slice (some ⟨g,0,none⟩) N cap) (splice U off o')∧ZiX o V m o' k∧w.grownBy wr (some g)) (fun i _ _=>j-(intOf i).toNat)
    case atStart=>exact⟨0,o,0,by omega,rfl,rfl,hI,ZqC ho V,hB⟩
    case round =>
     obtain⟨m,o',k,hm,rfl,rfl,hI2,hA2,hB2⟩:=hrel
     have HA2:=Lib.hid hA2
     have hk0:0≤k:=hA2.2.2.2.1
     have hk1:k≤1:=hA2.2.2.2.2.1
     have hol2:o'.length=j:=hA2.1.trans Hol.out
     have hgl2:=hI2.ge.2
     by_cases hlt:m<j
     ·have hp:o'[m]? =some o'[m]:=Ya0 (by omega)
      generalize o'[m]=p at hp
      have hcj:=hI2.cell (Zje (by omega) hp)
      have hfj:=hI2.free (off+m)
      have hpb:=Zax hA2.2.1 hp
      have Hp:=Lib.hid hp
      have Hol2:=Lib.hid hol2
      by_cases hjy:m<V.length
      ·obtain⟨by_,oy,q,rfl,hby,hq,hcy⟩:=Zau.get1 (ZdL hv hB2 Hne.out) hjy
       have e1:=Zmy dv hA2 hp (ZgY hq.out)
       have hqb:=Zax dv hq.out
       have E1:=Lib.hid e1
       clear e1 hp hA2 hol2
       go_wp2_with fail
       go_roundw
       case rel =>
        have e2:=hI2.set (off+m) ((k+p+q)%1048576)
        rw[ZeY (by omega) (by have:=Hol2.out;omega)]at e2
        exact⟨m+1,_,_,by omega,by go_num,rfl,e2,E1.out,ZeH hB2⟩
       case measure=>simp[intOf];omega
      ·have e1:=Zmy dv hA2 hp (ZiG (by omega:V.length≤m))
       rw[Int.add_zero]at e1
       have E1:=Lib.hid e1
       clear e1 hp hA2 hol2
       go_wp2_with fail
       go_roundw
       case rel =>
        have e2:=hI2.set (off+m) ((k+p)%1048576)
        rw[ZeY (by omega) (by have:=Hol2.out;omega)]at e2
        exact⟨m+1,_,_,by omega,by go_num,rfl,e2,E1.out,ZeH hB2⟩
       case measure=>simp[intOf];omega
     ·have e:m=j:=by omega
      subst e
      have hA3:=hA2
      have hd0:0≤val W-qd W V*val V:=by have:=Int.ediv_mul_le (val W) (b:=val V) (by have:=Hv0.out;omega);unfold qd;omega
      have hd1:val W-qd W V*val V<bp o.length:=by
       have e1:=Int.emod_add_mul_ediv (val W) (val V)
       have e2:=Int.emod_lt_of_pos (val W) Hv0.out
       have e3:=HV.out
       rw[Hol.out]
       unfold qd;grind
      rw[← Hol.out]at hA3
      have hbe:=Zvu hA3 (by rw[Hol.out];exact hl) (by rw[Hol.out,← Hwl.out];exact HVV.out) hd0 hd1
      have hqg:gu-1=qd W V:=by have:=HQ.out;omega
      have HQG:=Lib.hid hqg
      have HBE:=Lib.hid hbe
      clear hqg hbe hd0 hd1 hA3 hA2
      have Hol2:=Lib.hid hol2;clear hol2
      go_wp2_with fail
      go_ret
      exact⟨retI HQG.out,o',Hol2.out,HBE.out.1,HBE.out.2.2,hI2,hB2⟩
def Zpg(w:World)(q r:Nat)(e:Ending)(w':World):Prop:=∃ v u,e = .returned (.tuple #[v,u])∧Owns w' w.heap.size v (digs q)∧Owns w' w.heap.size u (digs r)∧Below w.heap.size w w'
theorem Zqt{r:Nat}(h:r<1048576):ZaU [(r:Int)]=digs r:=by
 refine Zi8 (ZcN.2 ⟨by omega,ZgX⟩) ?_
 simp[val]
theorem ZkV(w:World)(x:Int):IArr (w.alloc (.cells #[.int .i64 x] 3)) w.heap.size [x]:=by
 unfold IArr
 rw[heap_alloc_new];rfl
theorem Zm0{x:Int}(h:0≤x):0≤x.sign:=by
 rcases Int.lt_or_eq_of_le h with h|h
 ·rw[Yb2 h];decide
 ·rw[← h];decide
theorem Zsl(w:World):Zau w (.slice none 0 0) []:=⟨none,0,rfl,Ya4 _,by unfold maxLen;omega,.inl rfl⟩
theorem Zam(w:World)(o:Obj):Below w.heap.size w (w.alloc o):=(Below.refl _ _).alloc (Ya4 _) o
set_option maxRecDepth 100000 in
set_option maxHeartbeats 8000000 in
theorem Zvg(A B:Nat)(va vb:Value)(w:World)(ha:Zau w va (digs A))(hb:Zau w vb (digs B))(la:((digs A).length:Int)≤4398046511104)(h:A<B) :
 Calls Tryz.prog 129 #[va,vb] w (Zpg w (A / B) (A%B)):=by
 have hc:=Zda va vb _ _ w ha hb (Zap A) (Zap B)
 rw[Zaw,Zaw,ZeB (by omega)]at hc
 have hq:A / B=0:=Nat.div_eq_of_lt h
 have hr:A%B=A:=Nat.mod_eq_of_lt h
 rw[hq,hr]
 clear hq hr
 obtain⟨aa,ca,rfl,hla,hca⟩:=ha.shape
 obtain⟨bb,cb,rfl,hlb,hcb⟩:=hb.shape
 go_enter Tryz.func129,Tryz.ntmps129
 go_wp2_with (first
  | (go_at_call 92;refine hc.mono ?_;rintro e w1 ⟨rfl,hb1⟩)
  | (go_at_call 58;refine(ZdS _ _ _ (ha.below RInt.mono hb1) (by omega)).mono ?_;rintro e w2 ⟨v2,rfl,hown,hb2⟩))
 go_ret2
 refine⟨_,_,rfl,?_,hown.mono hb1.size,hb1.trans (hb2.mono hb1.size)⟩
 rw[ZaI];exact Owns.nil _ _
set_option maxRecDepth 100000 in
set_option maxHeartbeats 8000000 in
theorem Zs0(A B:Nat)(va vb:Value)(w:World)(ha:Zau w va (digs A))(hb:Zau w vb (digs B))(la:((digs A).length:Int)≤4398046511104)(h:B≤A)(hB:0<B)(hB1:B<1048576) :
 Calls Tryz.prog 129 #[va,vb] w (Zpg w (A / B) (A%B)):=by
 have hc:=Zda va vb _ _ w ha hb (Zap A) (Zap B)
 rw[Zaw,Zaw]at hc
 have hs0:0≤((A:Int)-B).sign:=Zm0 (by omega)
 have hbd:digs B=[(B:Int)]:=by rw[Zfc (by omega),Nat.mod_eq_of_lt hB1,Nat.div_eq_of_lt hB1,ZaI]
 rw[hbd]at hb
 generalize ((A:Int)-B).sign=sg at *
 obtain⟨aa,ca,rfl,hla,hca⟩:=ha.shape
 obtain⟨bb,cb,rfl,hlb,hcb⟩:=hb.shape
 obtain⟨b,off,x,rfl,hbl,hx,hcell⟩:=hb.get1 (i:=0) (by simp)
 have hxe:(B:Int)=x:=by simpa using hx.out
 subst hxe
 clear hx hbd
 simp only[List.length_singleton]at *
 have hsd:=Zap A
 have hdiv:(val (digs A) / (B:Int)).toNat=A / B:=by rw[Zaw,← Int.natCast_ediv];rfl
 have hmod:val (digs A)%(B:Int)=((A%B:Nat):Int):=by rw[Zaw,← Int.natCast_emod]
 have hlt:A%B<1048576:=by have:=Nat.mod_lt A hB;omega
 have hsh:=fun W hW=>Zlm (.slice aa (digs A).length ca) (digs A) B W hW hsd.1 (by omega) (by omega) (by omega)
 rw[hdiv,hmod]at hsh
 have HT:=Lib.hid (Zqt hlt)
 generalize A%B=R at *
 generalize A / B=Q at *
 have hsh':=Lib.hid hsh;clear hsh hdiv hmod
 have hcell1:=fun(W:World) (hW:Below w.heap.size w W)=>(hW.cell (p:=⟨b,off,none⟩) hbl).trans (by simpa using hcell)
 have HC:=Lib.hid hcell1;clear hcell1
 go_enter Tryz.func129,Tryz.ntmps129
 go_upto_region 3 with(go_at_call 92;refine hc.mono ?_;rintro e w1 ⟨rfl,hb1⟩)
 have hc1:=HC.out _ hb1
 go_upto_region 5 with(go_at_call 168;refine(hsh'.out _ (ha.below RInt.mono hb1)).mono ?_;rintro e w2 ⟨v2,rfl,hown,hb2⟩)
 have hti:=(ZkV w2 (R:Int)).all (base:=w2.heap.size) (Ya4 _) (by unfold maxLen;simp)
 have htr:=Zcp (some ⟨w2.heap.size,0,none⟩) 1 [(R:Int)] _ hti
 have hto:=(ZkV w2 (R:Int)).trim (base:=w2.heap.size) (Ya4 _) (by unfold maxLen;simp)
 rw[HT.out]at htr hto
 go_wp2_with (go_at_call 137;refine htr.mono ?_;rintro e w3 ⟨rfl,rfl⟩)
 go_ret2
 have hb12:=hb1.trans (hb2.mono hb1.size)
 exact⟨_,_,rfl,(hown.alloc _).mono hb1.size,hto.mono hb12.size,hb12.alloc hb12.size _⟩
theorem Owns.grown{w W:World}{base g:Nat}{v:Value}{l:List Int}(h:Owns w base v l)(hg:w.grownBy W (some g))(hne:∀ k,v.ownBlock=some k→k≠g):Owns W base v l:=by
 refine⟨h.1,?_⟩
 rcases h.2 with h2|⟨b,cap,cur,rfl,hb2,hg2,rest⟩
 ·exact .inl h2
 ·exact .inr ⟨b,cap,cur,rfl,hb2,by rw[hg.block b (Ya5.1 hg2).1 (fun e=>hne b rfl (Option.some.inj e))];exact hg2,rest⟩
theorem IArr.grown{w W:World}{b g:Nat}{o:List Int}(h:IArr w b o)(hg:w.grownBy W (some g))(hne:b≠g):IArr W b o:=h.keep (hg.block b h.lt (fun e=>hne (Option.some.inj e)))
theorem ZeI{w:World}{g i:Nat}{x:Value}:w.grownBy (w.setCell ⟨g,i,none⟩ x) (some g):=ZeH (World.grownBy.refl w _)
theorem Zh5{w wr wi:World}{ug vg qb j L cu cv lu n:Nat}{U V Q:List Int}{X x u0 u1 u2 v1 v2:Int}(hUo:Owns wr w.heap.size (.slice (some ⟨ug,0,none⟩) lu cu) U)(hVo:Owns wr w.heap.size (.slice (some ⟨vg,0,none⟩) L cv) V)(hQ:IArr wr qb Q)(hB2:Below wr.heap.size wr wi)
 (hqb:qb<wr.heap.size) (hvu:ug<vg) (hqu:vg<qb) (hcu:cu≤2^63-1) (hlc:lu≤cu) (hj:j+L+1≤lu) (hinv:Zep X (val V) (n+2) (j+1) U Q) (hUl:U.length=lu) (hVL:V.length=L) (dV:Dig V) (hTop:Top ((U.drop j).take (L+1)) V n u0 u1 u2 v1 v2) (hLn:L=n+2)
 (hE:0≤x∧x≤qd ((U.drop j).take (L+1)) V+1) (hx:qd ((U.drop j).take (L+1)) V≤x) (hxs:x<1048576) :
 ∀ Wd,Below wi.heap.size wi Wd→Calls Tryz.prog 169 #[.slice (some ⟨ug,j,none⟩) (j+L+1-j) (cu-j),.slice (some ⟨vg,0,none⟩) L cv,I x] Wd fun e w'=>e = .returned (I (qd ((U.drop j).take (L+1)) V)) ∧
  ∃ W':List Int,W'.length=L+1∧Dig W'∧val W'=val ((U.drop j).take (L+1))-qd ((U.drop j).take (L+1)) V*val V∧Owns w' w.heap.size (.slice (some ⟨ug,0,none⟩) lu cu) (splice U j W')∧Owns w' w.heap.size (.slice (some ⟨vg,0,none⟩) L cv) V∧IArr w' qb Q∧Below wr.heap.size wr Wd∧Wd.grownBy w' (some ug):=by
 intro Wd hW
 have hB3:=hB2.trans (hW.mono hB2.size)
 have hU2:=hUo.below hB3
 have hV2:=hVo.below hB3
 have hQ2:=hQ.below hB3 hqb
 rw[show j+L+1-j=L+1 by omega]
 have hvl:=hTop.vlt
 have hwl:((U.drop j).take (L+1)).length=L+1:=by simp;omega
 rw[hwl]at hvl
 refine(ZpD ug j (L+1) cu lu (cu-j) U V _ x w.heap.size Wd hU2 (by omega) hV2.ints (fun q hq=>by simp only[Value.ownBlock,Ya1]at hq;omega) (Zb5 (ZhO hinv.1 j) _) dV (by omega) hTop.pos hvl (by omega) (by omega) hE.1 hx hE.2 hxs).mono ?_
 rintro e w' ⟨rfl,W',h1,h2,h3,h4,h5⟩
 exact⟨rfl,W',h1,h2,h3,h4,hV2.grown h5 (fun q hq=>by simp only[Value.ownBlock,Ya1]at hq;omega),hQ2.grown h5 (by omega),hB3,h5⟩
theorem Zlu{w wr w1 w7:World}{ug vg qb j L cu cv lu lq n:Nat}{U V Q W':List Int}{X:Int}(hinv:Zep X (val V) (n+2) (j+1) U Q)(hUl:U.length=lu)(hVL:V.length=L)(dV:Dig V)(hv0:0<val V)(hLn:L=n+2)(hj:j+L+1≤lu)(hQl:Q.length=lq)(hjq:j<lq)
 (hq:0≤qd ((U.drop j).take (L+1)) V∧qd ((U.drop j).take (L+1)) V<1048576) (hvu:ug<vg) (hqu:vg<qb) (hWl:W'.length=L+1) (hWd:Dig W') (hWv:val W'=val ((U.drop j).take (L+1))-qd ((U.drop j).take (L+1)) V*val V)
 (hU:Owns w7 w.heap.size (.slice (some ⟨ug,0,none⟩) lu cu) (splice U j W')) (hV:Owns w7 w.heap.size (.slice (some ⟨vg,0,none⟩) L cv) V) (hQ:IArr w7 qb Q) (hB:Below w.heap.size w wr) (h1:Below wr.heap.size wr w1) (hg:w1.grownBy w7 (some ug)) (hug:w.heap.size≤ug) :
 ∃ (m:Nat)(U' Q':List Int),m≤lq∧I ((j:Int)-1)=I ((m:Int)-1)∧Owns (w7.setCell ⟨qb,j,none⟩ (I (qd ((U.drop j).take (L+1)) V))) w.heap.size (.slice (some ⟨ug,0,none⟩) lu cu) U'∧Owns (w7.setCell ⟨qb,j,none⟩ (I (qd ((U.drop j).take (L+1)) V))) w.heap.size (.slice (some ⟨vg,0,none⟩) L cv) V ∧
  IArr (w7.setCell ⟨qb,j,none⟩ (I (qd ((U.drop j).take (L+1)) V))) qb Q'∧Q'.length=lq∧Zep X (val V) (n+2) m U' Q'∧Below w.heap.size w (w7.setCell ⟨qb,j,none⟩ (I (qd ((U.drop j).take (L+1)) V))):=by
 subst hLn
 have hVn:val V<bp (n+2):=by rw[← hVL];exact Zdw dV
 have hst:=Zr9 (v:=V) (W:=W') hinv rfl hv0 hVn (by omega) (by omega) hWd hWl hWv hq.1 hq.2
 refine⟨j,_,_,by omega,rfl,hU.grown ZeI (fun q hq=>by simp only[Value.ownBlock,Ya1]at hq;omega),hV.grown ZeI (fun q hq=>by simp only[Value.ownBlock,Ya1]at hq;omega),hQ.set j _,by simp[hQl],?_,?_⟩
 ·unfold splice
  rw[hWl];exact hst
 ·refine((hB.trans (h1.mono hB.size)).grown hg ?_ ?_).setCell (p:=⟨qb,j,none⟩) (by show _≤qb;omega) _
  ·have:=hB.size;have:=h1.size;omega
  ·intro k hk;cases hk;exact hug
set_option maxRecDepth 100000 in
set_option maxHeartbeats 40000000 in
theorem Zvf(A B:Nat)(va vb:Value)(w:World)(ha:Zau w va (digs A))(hb:Zau w vb (digs B))(la:((digs A).length:Int)≤2199023255552)(h:B≤A)(n:Nat)(hL:(digs B).length=n+2) :
 Calls Tryz.prog 129 #[va,vb] w (Zpg w (A / B) (A%B)):=by
 have hc:=Zda va vb _ _ w ha hb (Zap A) (Zap B)
 rw[Zaw,Zaw]at hc
 have hs0:0≤((A:Int)-B).sign:=Zm0 (by omega)
 generalize ((A:Int)-B).sign=sg at *
 obtain⟨aa,ca,rfl,hla,hca⟩:=ha.shape
 obtain⟨bb,cb,rfl,hlb,hcb⟩:=hb.shape
 unfold maxLen at hca hcb
 obtain⟨L,hL'⟩:∃ L,L=(digs B).length:=⟨_,rfl⟩
 obtain⟨b,off,t,rfl,hbl,ht,hcell⟩:=hb.get1 (i:=n+1) (by omega)
 rw[← hL']at hb hc hlb ⊢
 have hLn:L=n+2:=by omega
 have hHb:=Lib.hid hb
 have hHa:=Lib.hid ha
 have hcell1:=Lib.hid (fun(W:World) (hW:Below w.heap.size w W)=>(hW.cell (p:=⟨b,off+(n+1),none⟩) hbl).trans hcell)
 rw[show off+(n+1)=off+(L-1) by omega]at hcell1
 have HT:=Lib.hid ht.out
 have hLA:L≤(digs A).length:=by
  rw[hL']
  refine Zbe ?_
  have:=Zbd A
  omega
 obtain⟨tb1,tb2,tb3,tb4⟩:=ZeT (Zap B) hL ht.out
 have HL:=Lib.hid hL;clear hL
 have HL2:=Lib.hid hL';clear hL'
 have HLn:=Lib.hid hLn
 have hL2:2≤L:=by omega
 clear ht hcell tb1 tb2 hb ha hLn
 go_enter Tryz.func129,Tryz.ntmps129
 go_upto_region 3 with(go_at_call 92;refine hc.mono ?_;rintro e w1 ⟨rfl,hb1⟩)
 have hc1:=hcell1.out _ hb1
 have Hc:=Lib.hid hc;clear hc
 go_wp2_with fail
 go_loop [8] (fun s=>∃ e:Nat,e≤20∧s=I (2^e)∧t*2^e<1048576) (fun s=>(1048576-intOf s).toNat)
 case atStart=>exact⟨0,by omega,rfl,by omega⟩
 case round =>
  obtain⟨e,he,rfl,hte⟩:=hrel
  obtain⟨k,hk⟩:∃ k:Int,k=2^e:=⟨_,rfl⟩
  rw[← hk]at hte ⊢
  have HK:=Lib.hid hk
  have hk0:1≤k:=by
   have:(0:Int)<2^e:=Int.pow_pos (by decide)
   omega
  have htk0:0≤t*k:=Int.mul_nonneg (by omega) (by omega)
  have hkt:k≤t*k:=by
   have:1*k≤t*k:=Int.mul_le_mul_of_nonneg_right tb3 (by omega)
   omega
  clear hk
  by_cases hlt:t*k<524288
  ·go_wp2_with fail
   go_round
   case rel =>
    have e1:(2:Int)^(e+1)=k*2:=by rw[HK.out];exact Int.pow_succ 2 e
    refine⟨e+1,?_,by rw[e1],?_⟩
    ·rcases Nat.lt_or_ge e 20 with h1|h1
     ·omega
     ·exfalso
      have k20:=HK.out
      rw[show e=20 by omega]at k20
      have:k=1048576:=k20.trans (by decide)
      omega
    ·rw[e1,← Int.mul_assoc];omega
   case measure=>simp[intOf];omega
  ·have hge:524288≤t*k:=by omega
   obtain⟨sL,sV,v1,sv1,sbig⟩:=Zwu HL.out HT.out HK.out he hte hge
   have hVlow:524288*bp (n+1)≤(B:Int)*k:=by
    have h1:=(ZeT (Zap B) HL.out HT.out).1
    rw[Zaw]at h1
    have h2:bp (n+1)*t*k≤(B:Int)*k:=Int.mul_le_mul_of_nonneg_right h1 (by omega)
    have h3:bp (n+1)*524288≤bp (n+1)*(t*k):=Yd1 hge (Int.le_of_lt (Za3 _))
    rw[Int.mul_assoc]at h2;omega
   obtain⟨dl1,dl2,dX,dlt⟩:=Zve (A:=A) (B:=B) (n:=n+1) hk0 (by omega) hVlow h (by have:=HLn.out;omega)
   have hk1:k<1048576:=by omega
   have dk:Dig [k]:=ZcN.2 ⟨by omega,ZgX⟩
   have hvk:val [k]=k:=by simp[val]
   clear hlt
   have HX:=Lib.hid dX
   have HSV:=Lib.hid sV
   have HSL:=Lib.hid sL
   have HDlt:=Lib.hid dlt
   have HV1:=Lib.hid sv1
   have HVlow:=Lib.hid hVlow
   clear dX sV sL dlt sv1 hVlow
   obtain⟨U0,hU0⟩:∃ U0,U0=digs ((A:Int)*k).toNat:=⟨_,rfl⟩
   obtain⟨V,hVV⟩:∃ V,V=digs ((B:Int)*k).toNat:=⟨_,rfl⟩
   rw[← hU0]at dl1 dl2 HX HDlt
   rw[← hVV]at HSV HSL HV1
   have hmA:=fun vk W=>Zkf (.slice aa (digs A).length ca) vk (digs A) [k] W
   have hmB:=fun vk W=>Zkf (.slice (some ⟨b,off,none⟩) L cb) vk (digs B) [k] W
   rw[hvk,Zaw]at hmA hmB
   rw[← hU0]at hmA
   rw[← hVV]at hmB
   have HmA:=Lib.hid hmA;clear hmA
   have HmB:=Lib.hid hmB;clear hmB
   have HU0:=Lib.hid hU0;clear hU0
   have HVV:=Lib.hid hVV;clear hVV
   clear hvk
   go_upto_region 10 with(go_at_call 136;fail)
   go_at_call 136
   have hk2:=(ZkV w1 k).all (base:=w1.heap.size) (Ya4 _) (by unfold maxLen;simp)
   refine(HmA.out _ _ (hHa.out.below RInt.mono (hb1.trans ((Zam w1 _).mono hb1.size))) hk2 (Zap A).1 dk (by omega) (by simp)).mono ?_
   rintro e2 w2 ⟨v2,rfl,hown2,hb2⟩
   have hb2':=hb1.trans (((Zam w1 _).trans (hb2.mono (by simp))).mono hb1.size)
   go_upto_region 10 with(first|(at_builtin;refine ZmF w2 (by rfl) _ _ (by rfl) (w1.alloc (.cells #[.int .i64 k] 3)).heap.size v2 U0 0 (by rfl) hown2 (by rfl) (by omega) hb2.size ?_;intro vu w3 hownU hb3 hatU hszU)|(go_at_call 136;fail))
   go_at_call 136
   have hbase:w.heap.size≤(w1.alloc (.cells #[.int .i64 k] 3)).heap.size:=by have:=hb1.size;simp;omega
   have hb3':=hb2'.trans (hb3.mono hbase)
   have hk3:=(ZkV w3 k).all (base:=w3.heap.size) (Ya4 _) (by unfold maxLen;simp)
   refine(HmB.out _ _ (hHb.out.below RInt.mono (hb3'.trans ((Zam w3 _).mono hb3'.size))) hk3 (Zap B).1 dk (by have:=HL2.out;omega) (by simp)).mono ?_
   rintro e3 w4 ⟨v4,rfl,hown4,hb4⟩
   have hownU4:=((hownU.alloc (.cells #[.int .i64 k] 3)).below hb4).mono hbase
   have hb4':=hb3'.trans (((Zam w3 _).trans (hb4.mono (by simp))).mono hb3'.size)
   have hugg:=World.ownsRow.lt hownU
   obtain⟨ug,cu,rfl,hug0,hug1,hul,hum⟩:=hownU4.form (by simp)
   have hugw:=(hugg ug rfl).2
   have hVn:V≠[]:=by
    intro e0
    have:=HSL.out
    rw[e0]at this
    simp at this
   obtain⟨vg,cv,rfl,hvg0,hvg1,hvl,hvm⟩:=hown4.form hVn
   have hVL:V.length=L:=by have:=HSL.out;have:=HLn.out;omega
   have hown4':=hown4.mono (b':=w.heap.size) (by have:=hb3'.size;simp;omega)
   have hvu:ug<vg:=by simp at hvg0;omega
   rw[hVL]at hown4' hvl ⊢
   have HVL:=Lib.hid hVL;clear hVL hown4 hugg hvg0 hownU
   have dU1:Dig (U0++[0]):=by
    rw[HU0.out]
    exact ZdQ.2 ⟨(Zap _).1,ZcN.2 ⟨by omega,ZgX⟩⟩
   have hlu:(U0++[0]).length=U0.length+1:=by simp
   obtain⟨lq,hlq⟩:∃ lq,lq=U0.length+1-(n+1+1):=⟨_,rfl⟩
   rw[← hlq]at HDlt
   obtain⟨lu,hlu2⟩:∃ lu,lu=U0.length+1:=⟨_,rfl⟩
   rw[← hlu2]at hlu
   have HluU:=Lib.hid hlu
   have hluq:lu=lq+L:=by have:=HLn.out;omega
   have hluA:(digs A).length<lu:=by omega
   have hluM:lu≤(digs A).length+2:=by omega
   rw[hlu]at hownU4 hul ⊢
   generalize U0++[0]=U1 at *
   have Hluq:=Lib.hid hluq
   have hmk:∀ u:World,Sem.run Tryz.prog (Instr.makeSlice 30 (Value.int .i64 ((lu:Int)-(L:Int))) (Value.int .i64 ((lu:Int)-(L:Int)))) u = .ok (.slice (some ⟨u.heap.size,0,none⟩) lq lq) (u.alloc (.cells (Array.replicate lq (I 0)) 3)):=by
    intro u
    have h1:=ZcZ (P:=Tryz.prog) 30 3 _ _ Tryz.underlying30 Zeg rfl lq (by omega) (by omega) u
    rw[show(lq:Int)=(lu:Int)-(L:Int) by omega]at h1
    exact h1
   clear hlu hlu2 hlq hluq hc1
   have hlql:(lq:Int)≤9223372036854775:=by have:=Hluq.out;omega
   unfold maxLen at hum hvm
   have h65:((lu:Int)==((digs A).length:Int))=false:=by rw[beq_eq_false_iff_ne];omega
   go_wp2_with fail
   go_loopw [13] (fun i wr=>∃ (m:Nat)(U Q:List Int),m≤lq∧i=I ((m:Int)-1)∧Owns wr w.heap.size (.slice (some ⟨ug,0,none⟩) lu cu) U∧Owns wr w.heap.size (.slice (some ⟨vg,0,none⟩) L cv) V∧IArr wr w4.heap.size Q∧Q.length=lq∧Zep ((A:Int)*k) (val V) (n+2) m U Q∧Below w.heap.size w wr) (fun i _=>(intOf i+1).toNat)
   case atStart =>
    refine⟨lq,U1,_,Ya4 _,rfl,hownU4.alloc _,hown4'.alloc _,IArr.made w4 lq,by simp,?_,hb4'.alloc hb4'.size _⟩
    exact Zp9 dU1 HX.out (by rw[HSV.out];exact HDlt.out)
   case round =>
    obtain⟨m,U,Q,hm,rfl,hUo,hVo,hQ,hQl,hinv,hB⟩:=hrel
    have HI:=Lib.hid hinv;clear hinv
    cases m with
    | zero =>
      have hR:(A%B:Nat)=A%B:=rfl
      have hB0:0<B:=by
       rcases Nat.eq_zero_or_pos B with h0|h0
       ·exfalso
        have:=HL.out
        rw[h0,ZaI]at this
        simp at this
       ·exact h0
      obtain⟨l1,l2,l3,l4⟩:=ZuF HI.out rfl HSV.out (by omega) hB0
      have hti:=hUo.ints
      rw[← hUo.len.1]at hti
      have htu:=Zcp (some ⟨ug,0,none⟩) cu U wr hti
      have hto:=hUo.trim
      have htl:ZaU U=digs (val U).toNat:=ZcV l3
      have hsh:=Zlm (.slice (some ⟨ug,0,none⟩) (ZaU U).length cu) (ZaU U) k wr hto.ints (ZlL l3).1 (by omega) hk1 (by have:=Zcg U;have:=hUo.len.1;omega)
      rw[Zn0,l4,Int.mul_ediv_cancel _ (by omega:k≠0)]at hsh
      rw[hUo.len.1]at htu
      have hown2:=hQ.trim (base:=w.heap.size) hb4'.size (by rw[hQl];unfold maxLen;omega)
      have hqi:=fun(W:World) (hW:Below wr.heap.size wr W)=>Zcp (some ⟨w4.heap.size,0,none⟩) Q.length Q W ((hQ.all (base:=0) (Yb0 _) (by rw[hQl];unfold maxLen;omega)).below RInt.mono hW)
      rw[Zi8 l1 l2]at hown2 hqi
      rw[hQl]at hown2 hqi
      have Hto:=Lib.hid htl;clear htl hto hti hR
      have HQI:=Lib.hid hqi;clear hqi
      have L2:=Lib.hid l2;clear l2
      have L4:=Lib.hid l4;clear l4
      have HQl:=Lib.hid hQl;clear hQl
      rw[show((0:Nat):Int)-1 = -1 from rfl]
      go_upto_region 23 with fail
      go_upto_region 24 with(go_at_call 137;fail)
      go_at_call 137
      refine htu.mono ?_
      rintro e4 w5 ⟨rfl,rfl⟩
      go_upto_region 24 with(go_at_call 168;fail)
      go_at_call 168
      refine hsh.mono ?_
      rintro e4 w6 ⟨v6,rfl,hown6,hb6⟩
      have HQJ:=HQI.out _ hb6
      go_wp2_with (go_at_call 137;refine HQJ.mono ?_;rintro e4 w5 ⟨rfl,rfl⟩)
      go_ret2
      exact⟨_,_,rfl,hown2.below hb6,hown6.mono hB.size,hB.trans (hb6.mono hB.size)⟩
    | succ j =>
      have hUl:=hUo.len.1
      have hLn:=HLn.out
      have hj:j+L+1≤lu:=by have:=Hluq.out;omega
      have g0:U[j+(n+2)]? =some U[j+(n+2)]:=Ya0 (by omega)
      have g1:U[j+(n+1)]? =some U[j+(n+1)]:=Ya0 (by omega)
      have g2:U[j+n]? =some U[j+n]:=Ya0 (by omega)
      obtain⟨v2,gv2⟩:∃ v2,V[n]? =some v2:=⟨V[n]'(by have:=HVL.out;omega),Ya0 _⟩
      have gq:Q[j]? =some Q[j]:=Ya0 (by omega)
      generalize U[j+(n+2)]=u0 at g0
      generalize U[j+(n+1)]=u1 at g1
      generalize U[j+n]=u2 at g2
      generalize Q[j]=qz at gq
      have c0:=hUo.cell g0
      have c1:=hUo.cell g1
      have c2:=hUo.cell g2
      have cv1:=hVo.cell HV1.out
      have cv2:=hVo.cell gv2
      have cq:=hQ.cell gq
      have fq:=hQ.free j
      have dV:Dig V:=by rw[HVV.out];exact(Zap _).1
      have hTop0:=Zrv HI.out dV (by have:=HVL.out;omega) (by omega) g0 g1 g2 HV1.out gv2 sbig
      rw[show n+3=L+1 by omega]at hTop0
      have hTop:=Lib.hid hTop0;clear hTop0
      obtain⟨b00,b01⟩:=Zax HI.out.1 g0
      obtain⟨b10,b11⟩:=Zax HI.out.1 g1
      obtain⟨b20,b21⟩:=Zax HI.out.1 g2
      obtain⟨bv0,bv1⟩:=Zax dV gv2
      obtain⟨_,bw1⟩:=Zax dV HV1.out
      rw[show j+(n+2)=j+L by omega]at c0
      rw[show j+(n+1)=j+L-1 by omega]at c1
      rw[show j+n=j+L-2 by omega]at c2
      rw[show n+1=L-1 by omega]at cv1
      rw[show n=L-2 by omega]at cv2
      have hor1:=ZrG b00 (by omega) b10 b11
      have w1':IntKind.i64.wrap ((j:Int)+L)=j+L:=IntWalk.i64_in _ (by omega)
      have w2':IntKind.i64.wrap ((j:Int)+L-1)=j+L-1:=IntWalk.i64_in _ (by omega)
      have w3':IntKind.i64.wrap ((j:Int)+L-2)=j+L-2:=IntWalk.i64_in _ (by omega)
      have w4':IntKind.i64.wrap ((L:Int)-1)=L-1:=IntWalk.i64_in _ (by omega)
      have w5':IntKind.i64.wrap ((L:Int)-2)=L-2:=IntWalk.i64_in _ (by omega)
      have w6':IntKind.i64.wrap (u0*1048576)=u0*1048576:=IntWalk.i64_in _ (by omega)
      have t1':((j:Int)+L).toNat=j+L:=by omega
      have t2':((j:Int)+L-1).toNat=j+L-1:=by omega
      have t3':((j:Int)+L-2).toNat=j+L-2:=by omega
      have t4':((L:Int)-1).toNat=L-1:=by omega
      have t5':((L:Int)-2).toNat=L-2:=by omega
      have i1':(0:Int)≤(j:Int)+L:=by omega
      have i2':(j:Int)+L<lu:=by omega
      have i3':(0:Int)≤(j:Int)+L-1:=by omega
      have i4':(j:Int)+L-1<lu:=by omega
      have i5':(0:Int)≤(j:Int)+L-2:=by omega
      have i6':(j:Int)+L-2<lu:=by omega
      have i7':(0:Int)≤(L:Int)-1:=by omega
      have i8':(L:Int)-1<L:=by omega
      have i9':(0:Int)≤(L:Int)-2:=by omega
      have i10':(L:Int)-2<L:=by omega
      have htop0:0≤u0*1048576+u1:=by omega
      have htop1:u0*1048576+u1≤1099511627775:=by omega
      rw[show((j+1:Nat):Int)-1=j by omega]
      have G0:=Lib.hid g0
      have GQ:=Lib.hid gq
      have GUl:=Lib.hid hUl
      have HQl:=Lib.hid hQl
      have GLn:=Lib.hid hLn
      clear g0 g1 g2 gq gv2 hUl hLn hQl
      go_upto_region 17 with fail
      go_quiet (fail)
      go_upto_region 18 with fail
      go_quiet (fail)
      go_wp2_with fail
      have hug:=hUo.ge.2
      have hvg:=hVo.ge.2
      have HQ0:=Lib.hid hTop.out.qd_base
      have HQlt:=Lib.hid hQ.lt
      have C2:=Lib.hid c2
      have CV1:=Lib.hid cv1
      have CV2:=Lib.hid cv2
      clear c0 c1 c2 cv1 cv2 cq fq hor1 w1' w2' t1' t2' i3' i4' htop0 htop1 w6'
      have W1':=Lib.hid w3'
      go_loopw [15,16] (fun g r wi=>∃ x y:Int,g=I x∧r=I y∧Zty ((U.drop j).take (L+1)) V u0 u1 v1 x y∧Below wr.heap.size wr wi) (fun g _ _=>(intOf g-qd ((U.drop j).take (L+1)) V).toNat)
      case atStart=>exact⟨_,_,rfl,rfl,hTop.out.start,ZaT (ZaT (Below.refl _ _) _) _⟩
      case round =>
       obtain⟨x,y,rfl,rfl,hG,hB2⟩:=hrel
       have HG:=Lib.hid hG
       obtain⟨hg1,hg2,hg3,hg4,hg5⟩:=hG
       have c2:=(hB2.cell (p:=⟨ug,j+L-2,none⟩) hug).trans C2.out
       have cv1:=(hB2.cell (p:=⟨vg,L-1,none⟩) hvg).trans CV1.out
       have cv2:=(hB2.cell (p:=⟨vg,L-2,none⟩) hvg).trans CV2.out
       have hx0:0≤x:=by have:=HQ0.out.1;omega
       clear hg1 hg2
       by_cases hgx:1048576≤x
       ·have d1:decide (1048576≤x)=true:=decide_eq_true hgx
        have E1:=Lib.hid (hTop.out.down HG.out (.inr hgx) (.inl hgx))
        go_upto_region 19 with fail
        go_quiet (fail)
        go_wp2_with fail
        go_roundw
        case rel=>exact⟨x-1,y+v1,rfl,rfl,E1.out.1,ZaT hB2 _⟩
        case measure=>have:=E1.out.2;simp[intOf];omega
       ·have d1:decide (1048576≤x)=false:=decide_eq_false hgx
        have hxs:x<1048576:=by omega
        by_cases hry:y<1048576
        ·have d2:decide (y<1048576)=true:=decide_eq_true hry
         have hxv0:0≤x*v2:=Int.mul_nonneg hx0 bv0
         have hxv1:x*v2≤1048575*1048575:=Int.mul_le_mul (by omega) (by omega) bv0 (by omega)
         have hxv2:x*v2≤1099509530625:=by omega
         have hor2:=ZrG hg3 (by omega) b20 b21
         have w7':IntKind.i64.wrap (x*v2)=x*v2:=IntWalk.i64_in _ (by omega)
         have w8':IntKind.i64.wrap (y*1048576)=y*1048576:=IntWalk.i64_in _ (by omega)
         clear hxv1
         by_cases hmm:y*1048576+u2<x*v2
         ·have d3:decide (y*1048576+u2<x*v2)=true:=decide_eq_true hmm
          have E1:=Lib.hid (hTop.out.down HG.out (.inl hry) (.inr hmm))
          go_upto_region 19 with fail
          go_quiet (fail)
          go_wp2_with fail
          go_roundw
          case rel=>exact⟨x-1,y+v1,rfl,rfl,E1.out.1,ZaT hB2 _⟩
          case measure=>have:=E1.out.2;simp[intOf];omega
         ·have d3:decide (y*1048576+u2<x*v2)=false:=decide_eq_false hmm
          have E1:=Lib.hid (hTop.out.done HG.out hxs (.inr (by omega)))
          go_upto_region 19 with fail
          go_quiet (fail)
          have hset:=Lib.hid (Zh5 hUo hVo hQ hB2 HQlt.out hvu hvg1 hum hul hj HI.out GUl.out HVL.out dV hTop.out GLn.out E1.out HG.out.2.1 hxs)
          go_upto_region 16 with(go_at_call 169;refine(hset.out _ (ZaT (Below.refl _ _) _)).mono ?_;rintro e5 w7 ⟨rfl,W',hWl,hWd,hWv,hWo,hVo7,hQ7,hB7,hgrow7⟩;have cq7:=hQ7.cell GQ.out;have fq7:=hQ7.free j;have HWl:=Lib.hid hWl;have HWv:=Lib.hid hWv;clear hWl hWv)
          have hug7:=hQ7.lt
          go_wp2_with fail
          go_roundw
          case rel=>exact Zlu HI.out GUl.out HVL.out dV hTop.out.pos GLn.out hj HQl.out (by omega) HQ0.out hvu hvg1 HWl.out hWd HWv.out hWo hVo7 hQ7 hB hB7 hgrow7 hug0
          case measure=>simp[intOf]
        ·have d2:decide (y<1048576)=false:=decide_eq_false hry
         have E1:=Lib.hid (hTop.out.done HG.out hxs (.inl (by omega)))
         go_upto_region 19 with fail
         go_quiet (fail)
         have hset:=Lib.hid (Zh5 hUo hVo hQ hB2 HQlt.out hvu hvg1 hum hul hj HI.out GUl.out HVL.out dV hTop.out GLn.out E1.out HG.out.2.1 hxs)
         go_upto_region 16 with(go_at_call 169;refine(hset.out _ (ZaT (Below.refl _ _) _)).mono ?_;rintro e5 w7 ⟨rfl,W',hWl,hWd,hWv,hWo,hVo7,hQ7,hB7,hgrow7⟩;have cq7:=hQ7.cell GQ.out;have fq7:=hQ7.free j;have HWl:=Lib.hid hWl;have HWv:=Lib.hid hWv;clear hWl hWv)
         have hug7:=hQ7.lt
         go_wp2_with fail
         go_roundw
         case rel=>exact Zlu HI.out GUl.out HVL.out dV hTop.out.pos GLn.out hj HQl.out (by omega) HQ0.out hvu hvg1 HWl.out hWd HWv.out hWo hVo7 hQ7 hB hB7 hgrow7 hug0
         case measure=>simp[intOf]
theorem Zs1(A B:Nat)(va vb:Value)(w:World)(ha:Zau w va (digs A))(hb:Zau w vb (digs B))(la:((digs A).length:Int)≤2199023255552)(hB:0<B) :
 Calls Tryz.prog 129 #[va,vb] w (Zpg w (A / B) (A%B)):=by
 rcases Nat.lt_or_ge A B with h|h
 ·exact Zvg A B va vb w ha hb (by omega) h
 ·rcases Nat.lt_or_ge B 1048576 with h1|h1
  ·exact Zs0 A B va vb w ha hb (by omega) h hB h1
  ·have hl:2≤(digs B).length:=by
    rcases Nat.lt_or_ge (digs B).length 2 with h2|h2
    ·have h3:=Zbd B
     have h4:=ZkU (a:=(digs B).length) (b:=1) (by omega)
     simp only[bp]at h4
     omega
    ·exact h2
   exact Zvf A B va vb w ha hb la h ((digs B).length-2) (by omega)
def BigV(w:World)(v:Value)(x:BigD):Prop:=∃ d,v = .agg #[I x.s,d]∧Zau w d x.d
theorem BigV.below{w W:World}{v:Value}{x:BigD}(h:BigV w v x)(hb:Below w.heap.size w W):BigV W v x:=by
 obtain⟨d,rfl,h⟩:=h
 exact⟨d,rfl,h.below RInt.mono hb⟩
theorem BigV.mono(x:BigD):∀ w w' v,ZaP w w'→BigV w v x→BigV w' v x:=fun _ _ _ hg h=>h.below hg
def Zeo(w:World)(d:Value):Prop:=∀ k,d.ownBlock=some k→∃ cs fr,w.heap[k]? =some (.cells cs 3 fr)
theorem Zeo.below{w W:World}{d:Value}(h:Zeo w d)(hb:Below w.heap.size w W):Zeo W d:=by
 intro k hk
 obtain⟨cs,fr,hc⟩:=h k hk
 exact⟨cs,fr,by rw[hb.block k (Ya5.1 hc).1];exact hc⟩
theorem Zeo.nil(w:World):Zeo w (.slice none 0 0):=fun k hk=>by cases hk
theorem Owns.typed{w:World}{base:Nat}{v:Value}{l:List Int}(h:Owns w base v l):Zeo w v:=by
 intro k hk
 rcases h.2 with⟨rfl,_⟩|⟨g,cap,cur,rfl,hb,hg,_⟩
 ·cases hk
 ·cases hk;exact⟨_,_,hg⟩
def BigF(w:World)(v:Value)(x:BigD):Prop:=∃ d,v = .agg #[I x.s,d]∧Zau w d x.d∧Zeo w d
theorem BigF.big{w:World}{v:Value}{x:BigD}(h:BigF w v x):BigV w v x:=by
 obtain⟨d,h1,h2,_⟩:=h
 exact⟨d,h1,h2⟩
theorem BigF.below{w W:World}{v:Value}{x:BigD}(h:BigF w v x)(hb:Below w.heap.size w W):BigF W v x:=by
 obtain⟨d,rfl,h1,h2⟩:=h
 exact⟨d,rfl,h1.below RInt.mono hb,h2.below hb⟩
theorem BigF.mono(x:BigD):∀ w w' v,ZaP w w'→BigF w v x→BigF w' v x:=fun _ _ _ hg h=>h.below hg
theorem Ztj(w:World):BigF w (.agg #[I 0,.slice none 0 0]) zB:=⟨_,rfl,Zsl w,Zeo.nil w⟩
def Zph(w:World)(x:BigD)(e:Ending)(w':World):Prop:=∃ v,e = .returned v∧BigF w' v x∧Below w.heap.size w w'
theorem ZhU{w:World}{d x:Value}{g i:Nat}{cs:Array Value}{T:TypeId}{fr:Nat×Nat}(h:Zeo w d)(hg:w.heap[g]? =some (.cells cs T fr))(hT:T≠3):Zeo (w.setCell ⟨g,i,none⟩ x) d∧∀ k,d.ownBlock=some k→k≠g:=by
 have hne:∀ k,d.ownBlock=some k→k≠g:=by
  intro k hk e
  subst e
  obtain⟨cs',fr',hc⟩:=h k hk
  rw[hg]at hc
  simp only[Ya1,Obj.cells.injEq]at hc
  exact hT hc.2.1
 refine⟨fun k hk=>?_,hne⟩
 obtain⟨cs',fr',hc⟩:=h k hk
 exact⟨cs',fr',by rw[heap_setCell_other w ⟨g,i,none⟩ k x (hne k hk)];exact hc⟩
theorem BigF.set{w:World}{v u:Value}{x:BigD}{g i:Nat}{cs:Array Value}{T:TypeId}{fr:Nat×Nat}(h:BigF w v x)(hg:w.heap[g]? =some (.cells cs T fr))(hT:T≠3):BigF (w.setCell ⟨g,i,none⟩ u) v x:=by
 obtain⟨d,rfl,h1,h2⟩:=h
 obtain⟨h3,hne⟩:=ZhU (i:=i) (x:=u) h2 hg hT
 exact⟨d,rfl,ZdL h1 ZeI hne,h3⟩
theorem Zs3{l:List Int}{j:Nat}{d:Int}(h:digB (l.take j)=true)(hx:l[j]? =some d)(h0:0≤d)(h1:d≤1048575):digB (l.take (j+1))=true:=by
 obtain⟨hj,rfl⟩:=Ya3.1 hx
 rw[List.take_succ_eq_append_getElem hj]
 rw[ZhP]at *
 exact ZdQ.2 ⟨h,ZcN.2 ⟨by omega,ZgX⟩⟩
theorem Zo1{l:List Int}{j:Nat}{d:Int}(hx:l[j]? =some d)(h:d<0∨1048575<d):digB l=false:=by
 rw[Bool.eq_false_iff]
 intro hd
 have:=Zax (ZhP.1 hd) hx
 omega
set_option maxRecDepth 100000 in
set_option maxHeartbeats 4000000 in
theorem Zf4(x:BigD)(v:Value)(w:World)(h:BigV w v x) :
 Calls Tryz.prog 86 #[v] w fun e w'=>e = .returned (B (okB x))∧Below w.heap.size w w':=by
 obtain⟨d,rfl,h⟩:=h
 obtain⟨s,l⟩:=x
 simp only at h
 obtain⟨A,ca,rfl,hla,hca⟩:=h.shape
 unfold maxLen at hca
 go_enter Tryz.func86,Tryz.ntmps86
 go_wp2_with fail
 go_loop [12] (fun i=>∃ j:Nat,j≤l.length∧i=I j∧digB (l.take j)=true) (fun i=>l.length-(intOf i).toNat)
 case atStart=>exact⟨0,by omega,rfl,rfl⟩
 case round =>
  obtain⟨j,hj,rfl,hd⟩:=hrel
  have Hd:=Lib.hid hd;clear hd
  by_cases hlt:j<l.length
  ·obtain⟨b,off,x,rfl,hb,hx,hc⟩:=h.get1 hlt
   by_cases h0:x<0
   ·have E:=Lib.hid (Zo1 hx.out (.inl h0))
    go_wp2_with fail
    go_ret
    exact⟨retB (by unfold okB;rw[E.out];rfl),Zam _ _⟩
   ·by_cases h1:1048575<x
    ·have E:=Lib.hid (Zo1 hx.out (.inr h1))
     go_wp2_with fail
     go_ret
     exact⟨retB (by unfold okB;rw[E.out];rfl),Zam _ _⟩
    ·have E:=Lib.hid (Zs3 Hd.out hx.out (by omega) (by omega))
     go_wp2_with fail
     go_round
     case rel=>exact⟨j+1,by omega,by go_num,E.out⟩
     case measure=>simp[intOf];omega
  ·have hj:j=l.length:=by omega
   subst hj
   rw[Yc2]at Hd
   cases hl:l with
   | nil =>
     subst hl
     go_wp2_with fail
     go_ret
     exact⟨retB (by simp[okB,digB]),Zam _ _⟩
   | cons y l' =>
     have hne:l≠[]:=by rw[hl];simp
     have hpos:1≤l.length:=by rw[hl];simp
     rw[← hl]
     clear hl
     obtain⟨b,off,x,rfl,hb,hx,hc⟩:=h.get1 (i:=l.length-1) (by omega)
     have hlast:l.getLast? =some x:=by rw[List.getLast?_eq_getElem?];exact hx.out
     have HL:=Lib.hid hlast;clear hlast
     have hzi:(0:Int)≤(l.length:Int)-1:=by omega
     by_cases h1:s=1
     ·subst h1
      go_wp2_with fail
      go_ret
      exact⟨retB (by unfold okB;rw[Hd.out,HL.out];simp[hne];rfl),Zam _ _⟩
     ·have h1b:(s==1)=false:=by simpa using h1
      by_cases h2:s = -1
      ·subst h2
       go_wp2_with fail
       go_ret
       exact⟨retB (by unfold okB;rw[Hd.out,HL.out];simp[hne];rfl),Zam _ _⟩
      ·have h2b:(s == -1)=false:=by simpa using h2
       go_wp2_with fail
       go_ret
       exact⟨retB (by unfold okB;rw[Hd.out,HL.out,h1b,h2b];simp[hne]),Zam _ _⟩
def sgnd(s:Int)(l:List Int):BigD:=if (ZaU l).isEmpty then zB else⟨s,ZaU l⟩
set_option maxRecDepth 100000 in
theorem ZgL(s:Int)(v:Value)(l:List Int)(w:World)(h:Zau w v l)(hty:Zeo w v):Calls Tryz.prog 94 #[I s,v] w (Zph w (sgnd s l)):=by
 obtain⟨A,ca,rfl,hla,hca⟩:=h.shape
 unfold maxLen at hca
 have ht:=fun(W:World) (hW:Below w.heap.size w W)=>Zcp A ca l W (h.below RInt.mono hW)
 have htk:=h.below RInt.mono (Zam w (.cells #[.int .i64 0,.slice none 0 0] 32))
 have HT:=Lib.hid ht;clear ht
 have hty2:Zeo w (.slice A (ZaU l).length ca):=fun k hk=>hty k (by cases A with|none=>cases hk|some A=>exact hk)
 have hi:Zau w (.slice A (ZaU l).length ca) (ZaU l):=by
  obtain⟨a',cap',hv,hl,hc,h2⟩:=h
  simp only[Value.slice.injEq,true_and]at hv
  obtain⟨rfl,rfl⟩:=hv
  refine⟨A,ca,rfl,Yc7 (Zcg l) hl,hc,?_⟩
  rcases h2 with h2|⟨b,off,rfl,hb,hx⟩
  ·left
   have:=Zcg l
   omega
  ·refine .inr ⟨b,off,rfl,hb,fun i x hi=>hx i x ?_⟩
   rw[ZfT]at hi
   rw[List.getElem?_take]at hi
   split at hi
   ·exact hi
   ·cases hi
 by_cases he:(ZaU l).length=0
 ·have he2:ZaU l=[]:=Ya9 he
  have E:sgnd s l=zB:=by unfold sgnd;rw[he2];rfl
  rw[E,he]at *
  clear E
  go_enter Tryz.func94,Tryz.ntmps94
  go_wp2_with (go_at_call 137;refine(HT.out _ (Zam _ _)).mono ?_;rintro e w' ⟨rfl,rfl⟩)
  exact bodyPost_ret (v:=.agg #[I 0,.slice none 0 0]) (by simp[results,Tryz.results94,go_sem]) rfl ⟨_,rfl,Ztj _,Zam _ _⟩
 ·have E:sgnd s l=⟨s,ZaU l⟩:=by
   unfold sgnd
   rw[if_neg]
   simpa using fun e=>he (by rw[e];rfl)
  rw[E]
  have hne:1≤(ZaU l).length:=by omega
  generalize (ZaU l).length=n at *
  have HI:=Lib.hid hi
  clear he E
  go_enter Tryz.func94,Tryz.ntmps94
  go_wp2_with (go_at_call 137;refine(HT.out _ (Zam _ _)).mono ?_;rintro e w' ⟨rfl,rfl⟩)
  exact bodyPost_ret (v:=.agg #[I s,.slice A n ca]) (by simp[results,Tryz.results94,go_sem]) rfl ⟨_,rfl,⟨_,rfl,hi.below RInt.mono (Zam _ _),hty2.below (Zam _ _)⟩,Zam _ _⟩
def BigE(w:World)(v:Value)(x:BigD)(e:Int):Prop:=∃ u,v = .tuple #[u,I e]∧BigF w u x
theorem BigE.mono(x:BigD)(e:Int):∀ w w' v,ZaP w w'→BigE w v x e→BigE w' v x e:=fun _ _ _ hg ⟨u,hv,h⟩=>⟨u,hv,h.below hg⟩
def ZnV(w:World)(x:BigD)(r:Int)(e:Ending)(w':World):Prop:=∃ v,e = .returned v∧BigE w' v x r∧Below w.heap.size w w'
theorem ZgE(w:World)(o1 o2:Obj):Below w.heap.size w ((w.alloc o1).alloc o2):=((Below.refl _ _).alloc (Ya4 _) o1).alloc (by simp) o2
theorem ZgD(w:World)(o1 o2 o3:Obj):Below w.heap.size w (((w.alloc o1).alloc o2).alloc o3):=(ZgE w o1 o2).alloc (by simp;omega) o3
theorem ZiI(v:Value)(x:BigD)(w:World)(h:BigF w v x):Calls Tryz.prog 128 #[B true,v] w (ZnV w x 0):=by
 obtain⟨d,rfl,h,hty⟩:=h
 obtain⟨A,ca,rfl,hla,hca⟩:=h.shape
 go_enter Tryz.func128,Tryz.ntmps128
 go_wp2_with fail
 exact bodyPost_ret (v:=.tuple #[.agg #[I x.s,.slice A x.d.length ca],I 0]) (by simp[results,Tryz.results128,go_sem]) rfl ⟨_,rfl,⟨_,rfl,⟨_,rfl,h.below RInt.mono (ZgE _ _ _),hty.below (ZgE _ _ _)⟩⟩,ZgE _ _ _⟩
def orI(x y:Int):Int:=if x=0 then y else x
theorem ZyW{x y:Int}(h:x≠0):x=orI x y:=by rw[orI,if_neg h]
theorem ZyV(v:Value)(x y:Int)(w:World)(h:Zau w v [x,y]):Calls Tryz.prog 131 #[v] w fun e w'=>e = .returned (I (orI x y))∧w=w':=by
 obtain⟨A,ca,rfl,hla,hca⟩:=h.shape
 obtain⟨b,off,x',rfl,hb,hx,hc0⟩:=h.get1 (i:=0) (by simp)
 obtain⟨_,_,y',e1,_,hy,hc1⟩:=h.get1 (i:=1) (by simp)
 cases e1
 obtain rfl:x=x':=by simpa using hx.out
 obtain rfl:y=y':=by simpa using hy.out
 rw[Nat.add_zero]at hc0
 clear hx hy h
 simp only[List.length_cons,List.length_nil,Nat.zero_add,Nat.reduceAdd]at *
 go_enter Tryz.func131,Tryz.ntmps131
 go_wp2_with fail
 go_loop [8] (fun i=>∃ j:Nat,j≤2∧i=I j∧(1≤j→x=0)∧(2≤j→y=0)) (fun i=>2-(intOf i).toNat)
 case atStart=>exact⟨0,by omega,rfl,fun h=>absurd h (by omega),fun h=>absurd h (by omega)⟩
 case round =>
  obtain⟨j,hj,rfl,h1,h2⟩:=hrel
  have hcase:j=0∨j=1∨j=2:=by omega
  rcases hcase with rfl|rfl|rfl
  ·clear h1 h2
   by_cases h0:x=0
   ·subst h0
    go_wp2_with fail
    go_round
    case rel=>exact⟨1,by omega,rfl,by simp,by simp⟩
    case measure=>simp[intOf]
   ·have h0b:(x !=0)=true:=by simpa using h0
    go_wp2_with fail
    go_ret
    exact⟨retI (ZyW h0),rfl⟩
  ·obtain rfl:x=0:=h1 (by omega)
   clear h1 h2
   by_cases h0:y=0
   ·subst h0
    go_wp2_with fail
    go_round
    case rel=>exact⟨2,by omega,rfl,by simp,by simp⟩
    case measure=>simp[intOf]
   ·have h0b:(y !=0)=true:=by simpa using h0
    go_wp2_with fail
    go_ret
    exact⟨retI rfl,rfl⟩
  ·obtain rfl:x=0:=h1 (by omega)
   obtain rfl:y=0:=h2 (by omega)
   clear h1 h2
   go_wp2_with fail
   go_ret
   exact⟨retI rfl,rfl⟩
attribute [local go_sem] Zf8 Zlz ZfJ
abbrev BigZ(w:World)(v:Value)(z:Int):Prop:=BigV w v (ofZ z)
theorem Zdf(z:Int)(v:Value)(w:World)(h:BigZ w v z):Calls Tryz.prog 86 #[v] w fun e w'=>e = .returned (B true)∧Below w.heap.size w w' :=
 (Zf4 _ v w h).mono fun _ _ h=>by rw[Zik]at h;exact h
theorem Zcu{s:Int}{n:Nat}(z:Int)(h:z=s*n)(hs:s=1∨s = -1∨n=0):sgnd s (digs n)=ofZ z:=by
 unfold sgnd
 rw[Zq0 (Zap n)]
 by_cases hn:n=0
 ·subst hn
  rw[if_pos (by rw[ZaI];rfl)]
  have:z=0:=by rw[h];simp
  subst this
  exact Zuq.symm
 ·have hne:digs n≠[]:=fun e=>hn (Zdi.1 e)
  rw[if_neg (by simpa using hne)]
  subst h
  unfold ofZ
  rcases hs with rfl|rfl|h0
  ·rw[Int.one_mul,Yb2 (by omega),Int.natAbs_natCast]
  ·rw[Yb3 (by omega)]
   congr 2
   omega
  ·exact absurd h0 hn
theorem ZiY(a b:Int):a.sign*b.sign=1∨a.sign*b.sign = -1∨(val (digs a.natAbs)*val (digs b.natAbs)).toNat=0:=by
 rw[Zaw,Zaw]
 rcases Int.lt_trichotomy a 0 with ha|ha|ha<;>rcases Int.lt_trichotomy b 0 with hb|hb|hb
 ·rw[Yb3 ha,Yb3 hb];exact .inl rfl
 ·subst hb;right;right;simp
 ·rw[Yb3 ha,Yb2 hb];exact .inr (.inl rfl)
 ·subst ha;right;right;simp
 ·subst ha;right;right;simp
 ·subst ha;right;right;simp
 ·rw[Yb2 ha,Yb3 hb];exact .inr (.inl rfl)
 ·subst hb;right;right;simp
 ·rw[Yb2 ha,Yb2 hb];exact .inl rfl
theorem Zog(a b:Int):sgnd (a.sign*b.sign) (digs (val (digs a.natAbs)*val (digs b.natAbs)).toNat)=ofZ (a*b):=by
 refine Zcu _ ?_ (ZiY a b)
 rw[Zaw,Zaw]
 have h1:=Int.sign_mul_natAbs a
 have h2:=Int.sign_mul_natAbs b
 have:(((a.natAbs:Int)*b.natAbs).toNat:Int)=(a.natAbs:Int)*b.natAbs:=Int.toNat_of_nonneg (Int.mul_nonneg (by omega) (by omega))
 rw[this]
 conv=>lhs;rw[← h1,← h2]
 grind
theorem ZaS(a:Int) : -1≤a.sign∧a.sign≤1:=by
 rcases Int.lt_trichotomy a 0 with ha|ha|ha
 ·rw[Yb3 ha];decide
 ·subst ha;decide
 ·rw[Yb2 ha];decide
theorem Za1(a b:Int) : -1≤a.sign*b.sign∧a.sign*b.sign≤1:=by
 rw[← Int.sign_mul];exact ZaS _
theorem ZvV{w W:World}{c0 c1 c2 c3:Value}{T:TypeId}{o:Obj}(h:Below (((w.alloc (.cells #[c0,c1] T)).alloc (.cells #[c2,c3] T)).alloc o).heap.size (((w.alloc (.cells #[c0,c1] T)).alloc (.cells #[c2,c3] T)).alloc o) W) :
 w.heap.size+2<W.heap.size∧Below w.heap.size w W∧W.cell? ⟨w.heap.size,0,none⟩=some c0∧W.cell? ⟨w.heap.size,1,none⟩=some c1∧W.cell? ⟨w.heap.size+1,0,none⟩=some c2∧W.cell? ⟨w.heap.size+1,1,none⟩=some c3∧W.heap[w.heap.size+2]? =some o:=by
 have hs:=h.size
 simp at hs
 have hA:W.heap[w.heap.size]? =some (.cells #[c0,c1] T):=(h.block _ (by simp;omega)).trans (by rw[Below.heap_alloc _ _ _ (by simp;omega),Below.heap_alloc _ _ _ (by simp),heap_alloc_new])
 have hB:W.heap[w.heap.size+1]? =some (.cells #[c2,c3] T):=(h.block _ (by simp)).trans (by
  rw[Below.heap_alloc _ _ _ (by simp)]
  have:=heap_alloc_new (w.alloc (.cells #[c0,c1] T)) (.cells #[c2,c3] T)
  simpa using this)
 refine⟨by omega,(ZgD w _ _ _).trans (h.mono (ZgD w _ _ _).size),?_,?_,?_,?_,?_⟩
 ·rw[cell_of_row W _ 0 _ _ (0,0) hA];rfl
 ·rw[cell_of_row W _ 1 _ _ (0,0) hA];rfl
 ·rw[cell_of_row W _ 0 _ _ (0,0) hB];rfl
 ·rw[cell_of_row W _ 1 _ _ (0,0) hB];rfl
 ·rw[h.block _ (by simp)]
  have:=heap_alloc_new ((w.alloc (.cells #[c0,c1] T)).alloc (.cells #[c2,c3] T)) o
  simpa using this
theorem Zcz{P:Program}{fn:Func}{R:Ending→World→Prop}{a:Act}{w:World}{g:Nat}{cs:Array Value}{T:TypeId}{p q:Tmp}{e:Value}{d:TypeDesc}(Zr:fn.results=#[.cell p T,.tmp q])(hp:a.tmps.getD p undef = .pointer (some ⟨g,0,none⟩))(hq:a.tmps.getD q undef=e)(hdf:a.defers=[])
 (hg:w.heap[g]? =some (.cells cs T (0,0))) (hu:P.underlying T=some d) (hd:(match d with | .struct _ | .array _ _=>true|_=>false)=true) (hi:(P.info? T).map (·.size)=some cs.size) (hR:R (.returned (.tuple #[.agg cs,e])) w):bodyPost P fn R .ret a w:=by
 refine bodyPost_ret_by ?_ hdf hR
 rw[results_cell_tmp Zr,hp,hq]
 simp[asAddr,run_loadVar_row w g T T cs (0,0) d hg hu hd hi,Result.andThen]
theorem ZkJ{P:Program}{fn:Func}{R:Ending→World→Prop}{a:Act}{w:World}{g:Nat}{cs:Array Value}{T:TypeId}{p:Tmp}{d:TypeDesc}(Zr:fn.results=#[.cell p T])(hp:a.tmps.getD p undef = .pointer (some ⟨g,0,none⟩))(hdf:a.defers=[])
 (hg:w.heap[g]? =some (.cells cs T (0,0))) (hu:P.underlying T=some d) (hd:(match d with | .struct _ | .array _ _=>true|_=>false)=true) (hi:(P.info? T).map (·.size)=some cs.size) (hR:R (.returned (.agg cs)) w):bodyPost P fn R .ret a w :=
 bodyPost_ret_by (results_cell_row Zr _ _ g T cs (0,0) d hp hg hu hd hi) hdf hR
theorem set2{w:World}{g:Nat}{c0 c1:Value}{T:TypeId}(h:w.heap[g]? =some (.cells #[c0,c1] T (0,0)))(v0 v1:Value):((w.setCell ⟨g,0,none⟩ v0).setCell ⟨g,1,none⟩ v1).heap[g]? =some (.cells #[v0,v1] T (0,0)):=by
 rw[heap_setCell_same _ g 1 _ _ v1 (heap_setCell_same w g 0 _ _ v0 h)];rfl
theorem ZdX{w W:World}{B g:Nat}(h:Below B w W)(hg:B≤g)(v0 v1:Value):Below B w ((W.setCell ⟨g,0,none⟩ v0).setCell ⟨g,1,none⟩ v1):=(h.setCell (p:=⟨g,0,none⟩) hg v0).setCell (p:=⟨g,1,none⟩) hg v1
theorem BigF.set2{w:World}{v c0 c1 v0 v1:Value}{x:BigD}{g:Nat}{T:TypeId}(h:BigF w v x)(hg:w.heap[g]? =some (.cells #[c0,c1] T (0,0)))(hT:T≠3):BigF ((w.setCell ⟨g,0,none⟩ v0).setCell ⟨g,1,none⟩ v1) v x :=
 (h.set hg hT).set (heap_setCell_same w g 0 _ _ v0 hg) hT
set_option maxRecDepth 100000 in
set_option maxHeartbeats 8000000 in
theorem ZzP(a b:Int)(va vb:Value)(w:World)(ha:BigZ w va a)(hb:BigZ w vb b)(la:(szZ a:Int)≤1099511627776)(lb:(szZ b:Int)≤1099511627776) :
 Calls Tryz.prog 93 #[va,vb] w (ZnV w (ofZ (a*b)) 0):=by
 obtain⟨da,rfl,ia⟩:=ha
 obtain⟨db,rfl,ib⟩:=hb
 obtain⟨A,ca,rfl,hla,hca⟩:=ia.shape
 obtain⟨B',cb,rfl,hlb,hcb⟩:=ib.shape
 obtain⟨sb1,sb2⟩:=Za1 a b
 have sbw:IntKind.i64.wrap (a.sign*b.sign)=a.sign*b.sign:=IntWalk.i64_in _ (by omega)
 have HA:=Lib.hid (fun W h=>Zdf a (.agg #[I (ofZ a).s,.slice A (ofZ a).d.length ca]) W h)
 have HB:=Lib.hid (fun W h=>Zdf b (.agg #[I (ofZ b).s,.slice B' (ofZ b).d.length cb]) W h)
 have HM:=Lib.hid (fun W h1 h2=>Zkf (.slice A (ofZ a).d.length ca) (.slice B' (ofZ b).d.length cb) (ofZ a).d (ofZ b).d W h1 h2 (Zap a.natAbs).1 (Zap b.natAbs).1 (by rw[Zh1];omega) (by rw[Zh1];omega))
 have HS:=Lib.hid (Zog a b)
 have Hia:=Lib.hid ia
 have Hib:=Lib.hid ib
 have hsa:(ofZ a).s=a.sign:=rfl
 have hsb:(ofZ b).s=b.sign:=rfl
 have hda:(ofZ a).d=digs a.natAbs:=rfl
 have hdb:(ofZ b).d=digs b.natAbs:=rfl
 simp only[hsa,hsb,hda,hdb]at *
 clear hsa hsb hda hdb ia ib
 go_enter Tryz.func93,Tryz.ntmps93
 go_upto_region 3 with(go_at_call 86;fail)
 go_at_call 86
 refine(HA.out _ ⟨_,rfl,Hia.out.below RInt.mono (ZgD _ _ _ _)⟩).mono ?_
 rintro e w1 ⟨rfl,hb1⟩
 obtain⟨hs1,hb1',ka0,ka1,kb0,kb1,kr⟩:=ZvV hb1
 go_upto_region 3 with(go_at_call 86;fail)
 go_at_call 86
 refine(HB.out _ ⟨_,rfl,Hib.out.below RInt.mono hb1'⟩).mono ?_
 rintro e w2 ⟨rfl,hb2⟩
 have hb12:=hb1.trans (hb2.mono hb1.size)
 clear hs1 hb1' ka0 ka1 kb0 kb1 kr
 obtain⟨hs2,hb2',ka0,ka1,kb0,kb1,kr⟩:=ZvV hb12
 have Kr:=Lib.hid kr;clear kr
 have Hia2:=Lib.hid (Hia.out.below RInt.mono hb2')
 have Hib2:=Lib.hid (Hib.out.below RInt.mono hb2')
 have hsz0:w.heap.size<w2.heap.size:=by omega
 have hsz1:w.heap.size+1<w2.heap.size:=by omega
 go_upto_region 3 with fail
 refine ZaK 14 (by kernel_rfl) (by kernel_rfl) (by kernel_rfl) (by kernel_rfl) (by kernel_rfl) ?_
 simp only[List.take_succ_cons,List.take_zero]
 repeat (with_reducible apply ZcI
         ·intro wx hx
          have hc:=(ZbZ hx).2.1
          try simp only[Yc8,Yc9]
          repeat(first|with_reducible refine Zaq ?_|(with_reducible refine ZaA ?_ ?_;(· decide +kernel))|(with_reducible refine ZaQ ?_ ?_;(· decide +kernel);intro u hu))
          with_reducible refine Zav ?_
          go_simp
          exact⟨ZaP.refl _,rfl⟩)
 refine ZcH (fun W u=>Zau W u (digs (val (digs a.natAbs)*val (digs b.natAbs)).toNat)∧Zeo W u) (fun _ _ _ hg h=>⟨h.1.below RInt.mono hg,h.2.below hg⟩) ?_ ?_
 ·intro wx hx
  try simp only[Yc8,Yc9]
  repeat(first|with_reducible refine Zaq ?_|(with_reducible refine ZaA ?_ ?_;(· decide +kernel))|(with_reducible refine ZaQ ?_ ?_;(· decide +kernel);intro u hu))
  with_reducible refine Zav ?_
  go_simp
  go_at_call 136
  refine(HM.out _ (Hia2.out.below RInt.mono hx) (Hib2.out.below RInt.mono hx)).mono ?_
  rintro e w3 ⟨v3,rfl,ho,hb3⟩
  exact⟨_,rfl,hb3,ho.ints,ho.typed⟩
 refine ZcH (fun W u=>BigF W u (ofZ (a*b))) (BigF.mono _) ?_ ?_
 ·intro wx hx
  try simp only[Yc8,Yc9]
  repeat(first|with_reducible refine Zaq ?_|(with_reducible refine ZaA ?_ ?_;(· decide +kernel))|(with_reducible refine ZaQ ?_ ?_;(· decide +kernel);intro u hu))
  with_reducible refine Zav ?_
  go_simp
  go_at_call 94
  refine(ZgL _ _ _ _ hu.1 hu.2).mono ?_
  rintro e w3 ⟨v3,rfl,ho,hb3⟩
  rw[HS.out]at ho
  exact⟨_,rfl,hb3,ho⟩
 refine ZcH (fun W u=>BigE W u (ofZ (a*b)) 0) (BigE.mono _ _) ?_ ?_
 ·intro wx hx
  try simp only[Yc8,Yc9]
  repeat(first|with_reducible refine Zaq ?_|(with_reducible refine ZaA ?_ ?_;(· decide +kernel))|(with_reducible refine ZaQ ?_ ?_;(· decide +kernel);intro u hu))
  with_reducible refine Zav ?_
  go_simp
  go_at_call 128
  refine(ZiI _ _ _ hu).mono ?_
  rintro e w3 ⟨v3,rfl,ho,hb3⟩
  exact⟨_,rfl,hb3,ho⟩
 refine ZcH (fun W u=>BigF W u (ofZ (a*b))) (BigF.mono _) ?_ ?_
 ·intro wx hx
  try simp only[Yc8,Yc9]
  repeat(first|with_reducible refine Zaq ?_|(with_reducible refine ZaA ?_ ?_;(· decide +kernel))|(with_reducible refine ZaQ ?_ ?_;(· decide +kernel);intro u hu))
  obtain⟨u1,he,hu1⟩:=hu
  with_reducible refine Zav ?_
  go_simp
  (first|exact⟨ZaP.refl _,hu1⟩|exact ZaP.refl _)
 apply ZcI (v:=I 0)
 ·intro wx hx
  try simp only[Yc8,Yc9]
  repeat(first|with_reducible refine Zaq ?_|(with_reducible refine ZaA ?_ ?_;(· decide +kernel))|(with_reducible refine ZaQ ?_ ?_;(· decide +kernel);intro u hu))
  obtain⟨u1,he,hu1⟩:=hu
  with_reducible refine Zav ?_
  go_simp
  (first|exact⟨ZaP.refl _,rfl⟩|exact ZaP.refl _)
 with_reducible refine ZfI ?_
 intro w6 hg6
 simp only[Yc8,Yc9]
 repeat(first|with_reducible refine ZaW ?_|(with_reducible refine ZbM ?_;intro u hu))
 have hu6:=Lib.hid hu
 obtain⟨d6,e6,hi6,hty6⟩:=hu
 obtain⟨A6,c6,e7,hl6,hc6⟩:=hi6.shape
 subst e7
 subst e6
 clear hi6 hty6
 have kr6:=(hg6.block _ hs2).trans Kr.out
 have Kr6:=Lib.hid kr6
 have k60:w6.cell? ⟨w.heap.size+2,0,none⟩=some (I 0):=by rw[cell_of_row w6 _ 0 _ _ (0,0) kr6];rfl
 have k61:w6.cell? ⟨w.heap.size+2,1,none⟩=some (.slice none 0 0):=by rw[cell_of_row w6 _ 1 _ _ (0,0) kr6];rfl
 have kf:=fun i=>frozen_of_row w6 (w.heap.size+2) i _ _ kr6
 clear kr6
 with_reducible refine Zc6 ?_
 simp only[List.drop_succ_cons,List.drop_zero]
 go_frame
 go_wp2_with fail
 exact Zcz rfl (by rfl) (by rfl) rfl (set2 Kr6.out _ _) Tryz.underlying32 rfl (by kernel_rfl) ⟨_,rfl,⟨_,rfl,hu6.out.set2 Kr6.out (by decide)⟩,ZdX (hb2'.trans (hg6.mono hb2'.size)) (by omega) _ _⟩
end Go.Proofs.YtblamlnjbjaokaaGreat
