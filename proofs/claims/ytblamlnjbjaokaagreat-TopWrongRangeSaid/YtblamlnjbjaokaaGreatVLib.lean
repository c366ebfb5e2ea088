/-
  Base: readings of slices in a world, and small helpers. Nothing of the program is named here.
-/
import Derived.WalkKit
import Derived.LoopTactic
import Derived.Below
import Derived.Lib.Hide
import Derived.Deep.QuietTactic
import Derived.BigQuiet
import Derived.Maps.AppendAt
import Derived.Deep.AppendLies
import Derived.RegionTactic
import Derived.OwnWalk
import Derived.Orders
namespace Go.Proofs.YtblamlnjbjaokaaGreat
set_option linter.unusedVariables false
set_option linter.unusedSimpArgs false
set_option linter.unusedSectionVars false
open Go.RowKit
theorem Ya0 {α : Type _} {l : List α} {i : Nat} (h : i < l.length) : l[i]? = some l[i] := List.getElem?_eq_getElem h
theorem Ya1 {α : Type _} (a b : α) : (some a = some b) = (a = b) := Option.some.injEq a b
theorem Ya2 (a b : Bool) : ((a && b) = true) = (a = true ∧ b = true) := Bool.and_eq_true a b
theorem Ya3 {α : Type _} {i : Nat} {a : α} {l : List α} : l[i]? = some a ↔ ∃ h, l[i] = a := List.getElem?_eq_some_iff
theorem Ya4 (n : Nat) : n ≤ n := Nat.le_refl n
theorem Ya5 {α : Type _} {i : Nat} {b : α} {xs : Array α} : xs[i]? = some b ↔ ∃ h, xs[i] = b := Array.getElem?_eq_some_iff
theorem Ya6 {α : Type _} {p : α → Bool} {l : List α} : l.all p = true ↔ ∀ x, x ∈ l → p x = true := List.all_eq_true
theorem Ya7 {α : Type _} {l : List α} {i : Nat} {a : α} (e : l[i]? = some a) : a ∈ l := List.mem_of_getElem? e
theorem Ya8 {α : Type _} {i : Nat} {l : List α} (h : l.length ≤ i) : l.take i = l := List.take_of_length_le h
theorem Ya9 {α : Type _} {l : List α} : l.length = 0 → l = [] := List.eq_nil_of_length_eq_zero
theorem Yb0 (n : Nat) : 0 ≤ n := Nat.zero_le n
theorem Yb1 {α : Type _} (p : α → Bool) (l : List α) : (l.filter p).length ≤ l.length := List.length_filter_le p l
theorem Yb2 {a : Int} (h : 0 < a) : Int.sign a = 1 := Int.sign_eq_one_of_pos h
theorem Yb3 {a : Int} (h : a < 0) : Int.sign a = -1 := Int.sign_eq_neg_one_of_neg h
theorem Yb4 {α : Type _} {l : List α} {i : Nat} : l.take (i + 1) = l.take i ++ l[i]?.toList := List.take_add_one
theorem Yb5 {α : Type _} {xs : Array α} {i : Nat} (h : i < xs.size) : xs[i]? = some xs[i] := Array.getElem?_eq_getElem h
theorem Yb6 {α : Type _} (y : α) {a : α} {l : List α} : a ∈ l → a ∈ y :: l := List.mem_cons_of_mem y
theorem Yb7 {α : Type _} {a : α} {l : List α} : a ∈ a :: l := List.mem_cons_self
theorem Yb8 {α β : Type _} {f : α → β} {l : List α} {i : Nat} : (l.map f)[i]? = Option.map f l[i]? := List.getElem?_map
theorem Yb9 {α : Type _} {as bs : List α} : (as ++ bs).length = as.length + bs.length := List.length_append
theorem Yc0 {α β : Type _} {as : List α} (f : α → β) : (as.map f).length = as.length := List.length_map f
theorem Yc1 {α : Type _} {i : Nat} {l : List α} : (l.take i).length = min i l.length := List.length_take
theorem Yc2 {α : Type _} {l : List α} : l.take l.length = l := List.take_length
theorem Yc3 {α : Type _} {l₁ l₂ : List α} {n : Nat} (hn : n < l₁.length) : (l₁ ++ l₂)[n]? = l₁[n]? := List.getElem?_append_left hn
theorem Yc4 {α : Type _} {l₁ l₂ : List α} {n : Nat} (h : l₁.length ≤ n) : (l₁ ++ l₂)[n]? = l₂[n - l₁.length]? := List.getElem?_append_right h
theorem Yc5 : false ≠ true := Bool.false_ne_true
theorem Yc6 {α β : Type _} {b : β} {f : α → β} {l : List α} : b ∈ l.map f ↔ ∃ a, a ∈ l ∧ f a = b := List.mem_map
theorem Yc7 {n m k : Nat} (h : n ≤ m) (h2 : m ≤ k) : n ≤ k := Nat.le_trans h h2
theorem Yc8 {α : Type _} (as : List α) : [] ++ as = as := List.nil_append as
theorem Yc9 {α : Type _} {a : α} {as bs : List α} : a :: as ++ bs = a :: (as ++ bs) := List.cons_append
theorem Yd0 {α β : Type _} (a : α) (f : α → β) : Option.map f (some a) = some (f a) := Option.map_some a f
theorem Yd1 {a b c : Int} (h : a ≤ b) (h2 : 0 ≤ c) : c * a ≤ c * b := Int.mul_le_mul_of_nonneg_left h h2
theorem Yd2 {m n : Nat} : m ∈ List.range n ↔ m < n := List.mem_range
theorem Yd3 {α : Type _} (a b c : List α) : a ++ b ++ c = a ++ (b ++ c) := List.append_assoc a b c
theorem Yd4 {α : Type _} {a b : α} {n : Nat} (h : b ∈ List.replicate n a) : b = a := List.eq_of_mem_replicate h
theorem Yd5 {α : Type _} {a : α} {s t : List α} : a ∈ s ++ t ↔ a ∈ s ∨ a ∈ t := List.mem_append
theorem Yd6 {α : Type _} {a : α} {as : List α} (bs : List α) (h : a ∈ as) : a ∈ as ++ bs := List.mem_append_left bs h
theorem Yd7 {α : Type _} {i : Nat} {l : List α} (h : i < l.length) : l.drop i = l[i] :: l.drop (i + 1) := List.drop_eq_getElem_cons h
abbrev I(n:Int):Value:=.int .i64 n
abbrev B(b:Bool):Value:=.bool b
theorem retB{a b:Bool}(h:a=b):Ending.returned (.bool a) = .returned (.bool b):=by rw[h]
theorem retI{a b:Int}(h:a=b):Ending.returned (.int .i64 a) = .returned (.int .i64 b):=by rw[h]
theorem ZbZ{W w1:World}(hb:Below W.heap.size W w1):W.heap.size≤w1.heap.size∧(∀ b o,b<W.heap.size→w1.cell? ⟨b,o,none⟩=W.cell? ⟨b,o,none⟩)∧(∀ b o,b<W.heap.size→w1.frozen? ⟨b,o,none⟩=W.frozen? ⟨b,o,none⟩) :=
 ⟨hb.size,fun b o h=>hb.cell (p:=⟨b,o,none⟩) h,fun b o h=>hb.frozen (p:=⟨b,o,none⟩) h⟩
theorem ZiP{B:Nat}{a w:World}{o:Obj}(h:Below B a w)(hB:B≤a.heap.size):Below B a (w.alloc o):=h.alloc (Yc7 hB h.size) o
theorem ZaT{B:Nat}{a w:World}(h:Below B a w):∀ n,Below B a (w.drewN n)
 | 0=>h
 | n+1=>(ZaT h n).drew
def Zdn{α:Type}(R:World→List Value→α→Prop)(size:Nat)(w:World)(v:Value)(l:List α):Prop :=
 ∃ a cap,v = .slice a l.length cap∧l.length≤cap∧cap≤maxLen∧(l.length=0∨∃ b off,a=some ⟨b,off,none⟩∧b<w.heap.size ∧
  ∀ (i:Nat)(x:α),l[i]? =some x→∃ cs,R w cs x∧cs.length=size∧∀ (j:Nat)(u:Value),cs[j]? =some u→w.cell? ⟨b,off+i*size+j,none⟩=some u)
def Zx8{α:Type}(R:World→List Value→α→Prop):Prop:=∀ w w' cs x,Below w.heap.size w w'→R w cs x→R w' cs x
theorem Zdn.below{α:Type}{R:World→List Value→α→Prop}(hm:Zx8 R){size:Nat}{w w':World}{v:Value}{l:List α}(hb:Below w.heap.size w w')(h:Zdn R size w v l):Zdn R size w' v l:=by
 obtain⟨a,cap,hv,hl,hc,h⟩:=h
 refine⟨a,cap,hv,hl,hc,?_⟩
 rcases h with h|⟨b,off,ha,hlt,hx⟩
 ·exact .inl h
 ·refine .inr ⟨b,off,ha,Nat.lt_of_lt_of_le hlt hb.size,fun i x hi=>?_⟩
  obtain⟨cs,hr,hs,hj⟩:=hx i x hi
  exact⟨cs,hm _ _ _ _ hb hr,hs,fun j u hu=>(hb.cell (p:=⟨b,off+i*size+j,none⟩) hlt).trans (hj j u hu)⟩
theorem Zdn.get{α:Type}{R:World→List Value→α→Prop}{size:Nat}{w:World}{a:Option Addr}{n cap:Nat}{l:List α}(h:Zdn R size w (.slice a n cap) l){i:Nat}(hi:i<l.length) :
 ∃ b off x cs,a=some ⟨b,off,none⟩∧b<w.heap.size∧l[i]? =some x∧R w cs x∧cs.length=size∧∀ (j:Nat)(u:Value),cs[j]? =some u→w.cell? ⟨b,off+i*size+j,none⟩=some u:=by
 obtain⟨a',cap',hv,hl,hc,h⟩:=h
 simp only[Value.slice.injEq]at hv
 obtain⟨rfl,rfl,rfl⟩:=hv
 rcases h with h|⟨b,off,ha,hlt,hx⟩
 ·omega
 ·obtain⟨cs,hr,hs,hj⟩:=hx i l[i] (Ya0 hi)
  exact⟨b,off,l[i],cs,ha,hlt,Ya0 hi,hr,hs,hj⟩
theorem Zdn.shape{α:Type}{R:World→List Value→α→Prop}{size:Nat}{w:World}{v:Value}{l:List α}(h:Zdn R size w v l):∃ a cap,v = .slice a l.length cap∧l.length≤cap∧cap≤maxLen:=by
 obtain⟨a,cap,hv,hl,hc,h⟩:=h
 exact⟨a,cap,hv,hl,hc⟩
theorem box2{w wr:World}{c0 c1:Value}{T:TypeId}(h:Below (w.heap.size+1) (w.alloc (.cells #[c0,c1] T)) wr) :
 Below w.heap.size w wr∧w.heap.size<wr.heap.size∧wr.cell? ⟨w.heap.size,0,none⟩=some c0∧wr.cell? ⟨w.heap.size,1,none⟩=some c1:=by
 refine⟨((Below.refl _ _).alloc (Ya4 _) _).trans (h.mono (by omega)),?_,?_,?_⟩
 ·have:=h.size;simp at this;omega
 ·rw[h.cell (p:=⟨w.heap.size,0,none⟩) (by simp)];simp
 ·rw[h.cell (p:=⟨w.heap.size,1,none⟩) (by simp)];simp
structure Ext (w:World) where
 world:World
 below:Below w.heap.size w world
def RInt(_:World)(cs:List Value)(n:Int):Prop:=cs=[I n]
theorem RInt.mono:Zx8 RInt:=fun _ _ _ _ _ h=>h
abbrev Zau(w:World)(v:Value)(l:List Int):Prop:=Zdn RInt 1 w v l
theorem Zau.get1{w:World}{a:Option Addr}{n cap:Nat}{l:List Int}(h:Zau w (.slice a n cap) l){i:Nat}(hi:i<l.length) :
 ∃ b off x,a=some ⟨b,off,none⟩∧b<w.heap.size∧Hid (l[i]? =some x)∧w.cell? ⟨b,off+i,none⟩=some (I x):=by
 obtain⟨b,off,x,cs,ha,hb,hx,hr,hs,hj⟩:=Zdn.get h hi
 refine⟨b,off,x,ha,hb,hx,?_⟩
 have:=hj 0 (I x) (by rw[hr];rfl)
 simpa using this
def Src(w:World)(A:Option Addr)(m size:Nat)(news:List Value):Prop :=
 news.length=m*size∧(m=0∨∃ ad,A=some ad∧∀ j u,news[j]? =some u→w.cell? (ad.add j)=some u)
theorem append_nil{P:Program}(w:World){base:Nat}{t ty e:TypeId}{i:TypeInfo}{size:Nat}(ht:P.underlying t=some (.slice e))(hi:P.info? e=some i)
 {v:Value} {n:Nat} {xs:List Value} (hown:w.ownsRow base e size v n xs) (c:Nat):(Builtin.append_ #[t,t] ty #[v,.slice none 0 c]).run P w = .ok v w:=by
 rcases hown.2 with⟨rfl,rfl⟩|⟨g,cap,cur,rfl,_,_,hnc,_⟩ <;>
  simp[Builtin.append_,run_underlying ht,sizeOf,typeInfo,hi,Builtin.lenOf,Builtin.firstCells,storeCells, *]
theorem ZiZ{P:Program}(w:World)(base:Nat)(t ty e:TypeId)(i:TypeInfo)(z:Value)(size bytes:Nat)(ht:P.underlying t=some (.slice e))(hi:P.info? e=some i)(hz:i.zero=some z)
 (hsize:i.size=size) (hby:i.bytes=bytes) (hzs:z.cells.size=size) (hsz:0<size)
 (v:Value) (n:Nat) (xs:List Value) (hown:w.ownsRow base e size v n xs)
 (A:Option Addr) (m c:Nat) (news:List Value) (hr:Src w A m size news) (h1:∀ u∈news,u.oneCell'=true)
 (h63:n+m≤maxLen) (hbytes:(n+m)*bytes≤140737488355328) (hbase:base≤w.heap.size) :
 ∃ v' w',(Builtin.append_ #[t,t] ty #[v,.slice A m c]).run P w = .ok v' w'∧w'.ownsRow base e size v' (n+m) (xs++news)∧w.grownBy w' v.ownBlock ∧
  (v'.ownBlock=v.ownBlock∨v'.ownBlock=some w.heap.size):=by
 obtain⟨hl,h0⟩:=hr
 cases A with
 | none =>
   have hm:m=0:=by
    rcases h0 with h|⟨ad,h,_⟩
    ·exact h
    ·cases h
   subst hm
   obtain rfl:news=[]:=Ya9 (by simpa using hl)
   exact⟨v,w,append_nil w ht hi hown c,by simpa using hown,World.grownBy.refl w _,.inl rfl⟩
 | some ad =>
   have hnews:∀ j u,news[j]? =some u→w.cell? (ad.add j)=some u:=by
    rcases h0 with rfl|⟨ad',h,hc⟩
    ·obtain rfl:news=[]:=Ya9 (by simpa using hl)
     intro j u hu
     simp at hu
    ·cases h;exact hc
   obtain⟨v',w',hr,h2,h3,_,h5⟩:=run_append_own_at (P:=P) w base t ty e i z size bytes ht hi hz hsize hby hzs hsz v n xs hown ad m c news hl hnews h1 h63 hbytes hbase
   exact⟨v',w',hr,h2,h3,h5⟩
theorem ZjW{P:Program}(w:World){o:Oper}{a:Act}{K:Act→World→Prop}{Q:Exit→Act→World→Prop}(s x:Operand)(t:TypeId)
 (ho:o.op = .call {callee:=.builtin .append,args:=#[s,x],argTypes:=#[t,t]})
 (base:Nat) (e:TypeId) (i:TypeInfo) (z:Value) (size bytes:Nat) (ht:P.underlying t=some (.slice e)) (hi:P.info? e=some i) (hz:i.zero=some z)
 (hsize:i.size=size) (hby:i.bytes=bytes) (hzs:z.cells.size=size) (hsz:0<size)
 (v:Value) (n:Nat) (xs:List Value) (hs:a.eval s=v) (hown:w.ownsRow base e size v n xs)
 (A:Option Addr) (m c:Nat) (news:List Value) (hx:a.eval x = .slice A m c) (hr:Src w A m size news) (h1:∀ u∈news,u.oneCell'=true)
 (h63:n+m≤maxLen) (hbytes:(n+m)*bytes≤140737488355328) (hbase:base≤w.heap.size)
 (h:∀ v' w',w'.ownsRow base e size v' (n+m) (xs++news)→w.grownBy w' v.ownBlock→(v'.ownBlock=v.ownBlock∨v'.ownBlock=some w.heap.size)→K (a.put o.dst v') w'):Oper.wp P o a w K Q:=by
 obtain⟨v',w',hrun,h2,h3,h4⟩:=ZiZ (P:=P) w base t o.type e i z size bytes ht hi hz hsize hby hzs hsz v n xs hown A m c news hr h1 h63 hbytes hbase
 unfold Oper.wp execOp
 simp only[ho,resolve,invoke,builtin,Sem.run_bind,Sem.run_pure,Result.andThen_ok,List.map_toArray,List.map_cons,List.map_nil,hs,hx,hrun]
 exact h v' w' h2 h3 h4
theorem Zdv{P:Program}(w:World){ops:Array Oper}{rest:List Oper}{o:Oper}{a:Act}{Q:Exit→Act→World→Prop}(hgd:o.guard=none)(s x:Operand)(t:TypeId)
 (ho:o.op = .call {callee:=.builtin .append,args:=#[s,x],argTypes:=#[t,t]})
 (base:Nat) (e:TypeId) (i:TypeInfo) (z:Value) (size bytes:Nat) (ht:P.underlying t=some (.slice e)) (hi:P.info? e=some i) (hz:i.zero=some z)
 (hsize:i.size=size) (hby:i.bytes=bytes) (hzs:z.cells.size=size) (hsz:0<size)
 (v:Value) (n:Nat) (xs:List Value) (hs:a.eval s=v) (hown:w.ownsRow base e size v n xs)
 (A:Option Addr) (m c:Nat) (news:List Value) (hx:a.eval x = .slice A m c) (hr:Src w A m size news) (h1:∀ u∈news,u.oneCell'=true)
 (h63:n+m≤maxLen) (hbytes:(n+m)*bytes≤140737488355328) (hbase:base≤w.heap.size)
 (h:∀ v' w',w'.ownsRow base e size v' (n+m) (xs++news)→w.grownBy w' v.ownBlock→(v'.ownBlock=v.ownBlock∨v'.ownBlock=some w.heap.size)→wpList P ops Q rest (a.put o.dst v') w'):wpList P ops Q (o ::rest) a w :=
 wpList_plain hgd fun _ hK=>ZjW w s x t ho base e i z size bytes ht hi hz hsize hby hzs hsz v n xs hs hown A m c news hx hr h1 h63 hbytes hbase fun v' w' h2 h3 h4=>hK _ _ (h v' w' h2 h3 h4)
theorem Src.kept{w W:World}{A:Option Addr}{m size:Nat}{news:List Value}(h:Src w A m size news)(hb:∀ k,k<w.heap.size→W.heap[k]? =w.heap[k]?):Src W A m size news:=by
 refine⟨h.1,?_⟩
 rcases h.2 with h0|⟨ad,rfl,hc⟩
 ·exact .inl h0
 ·exact .inr ⟨ad,rfl,fun j u hu=>(World.cell?_of_block (hb _ (block_lt_of_cell (hc j u hu)))).trans (hc j u hu)⟩
theorem Zrf{w:World}{B:Nat}{cs:Array Value}{t:TypeId}{fr:Nat×Nat}{m size:Nat}(h:w.heap[B]? =some (.cells cs t fr))(hs:cs.size=m*size):Src w (some ⟨B,0,none⟩) m size cs.toList :=
 ⟨by simpa using hs,.inr ⟨_,rfl,World.news_of_block h⟩⟩
theorem Zdn.src{α:Type}{R:World→List Value→α→Prop}{size:Nat}{w:World}{A:Option Addr}{n cap:Nat}{l:List α}(f:α→List Value)(hR:∀ w cs x,R w cs x→cs=f x)
 (h:Zdn R size w (.slice A n cap) l) (hf:∀ x,(f x).length=size):Src w A n size (l.flatMap f)∧n=l.length:=by
 obtain⟨a',cap',hv,hl,hc,h⟩:=h
 simp only[Value.slice.injEq]at hv
 obtain⟨rfl,rfl,rfl⟩:=hv
 have hlen:∀ l:List α,(l.flatMap f).length=l.length*size:=by
  intro l
  induction l with
  | nil=>simp
  | cons x l ih=>rw[List.flatMap_cons,Yb9,hf,ih,List.length_cons,Nat.succ_mul,Nat.add_comm]
 refine⟨⟨hlen l,?_⟩,rfl⟩
 rcases h with h|⟨b,off,rfl,hb,hx⟩
 ·exact .inl h
 ·refine .inr ⟨_,rfl,fun j u hj=>?_⟩
  have hadd:(⟨b,off,none⟩:Addr).add j=⟨b,off+j,none⟩:=by unfold Addr.add;split<;>simp_all
  rw[hadd]
  -- the element that holds cell j
  have hfind:∀ (l:List α)(j:Nat)(u:Value),(l.flatMap f)[j]? =some u→∃ i k x,l[i]? =some x∧(f x)[k]? =some u∧j=i*size+k:=by
   intro l
   induction l with
   | nil=>intro j u h;simp at h
   | cons x l ih =>
     intro j u h
     rw[List.flatMap_cons]at h
     by_cases hj:j<size
     ·rw[Yc3 (by rw[hf];exact hj)]at h
      exact⟨0,j,x,rfl,h,by simp⟩
     ·rw[Yc4 (by rw[hf];omega),hf]at h
      obtain⟨i,k,y,h1,h2,h3⟩:=ih _ _ h
      exact⟨i+1,k,y,h1,h2,by rw[Nat.succ_mul];omega⟩
  obtain⟨i,k,x,h1,h2,rfl⟩:=hfind l j u hj
  obtain⟨cs,hr,hs,hcell⟩:=hx i x h1
  rw[hR _ _ _ hr]at hcell
  have:=hcell k u h2
  rwa [Nat.add_assoc]at this
open Go Go.RowKit
def ZaP(w w':World):Prop:=Below w.heap.size w w'
theorem ZaP.refl(w:World):ZaP w w:=Below.refl _ _
theorem ZaP.trans{a b c:World}(h:ZaP a b)(k:ZaP b c):ZaP a c:=Below.trans h (Below.mono k h.size)
theorem ZaP.drawn(w:World):ZaP w {w with drawn:=w.drawn+1}:=(Below.refl _ _).drew
structure Ent where
 val:Value
 law:Option (World→Value→Prop)
def Ent.spec(e:Ent):World→Value→Prop:=match e.law with|none=>fun _ v=>v=e.val|some T=>T
def Ent.Mono(e:Ent):Prop:=∀ T,e.law=some T→∀ w w' v,ZaP w w'→T w v→T w' v
theorem Ent.Mono.spec{e:Ent}(h:e.Mono){w w':World}{v:Value}(hg:ZaP w w')(hs:e.spec w v):e.spec w' v:=by
 unfold Ent.spec at *
 cases hl:e.law with
 | none=>rw[hl]at hs;exact hs
 | some T=>rw[hl]at hs;exact h T hl w w' v hg hs
def ZfJ(P:Program)(w:World)(T:World→Value→Prop):Result Next→Prop
 | .ok (.value u) w'=>ZaP w w'∧T w' u
 | .ok .skip w'=>ZaP w w'∧T w' undef
 | .ok (.enter f args) w'=>w'=w∧Calls P f args w (fun e w''=>∃ v,e = .returned v∧ZaP w w''∧T w'' v)
 | _=>False
def Zlz(P:Program)(o:Oper)(a:Act)(w:World)(T:World→Value→Prop):Prop:=ZfJ P w T ((execOp a.eval o).run P w)
theorem ZqR{P:Program}{o:Oper}{a:Act}{w:World}{T:World→Value→Prop}{K:Act→World→Prop}{Q:Exit→Act→World→Prop}(h:Zlz P o a w T)
 (hK:∀ v w',ZaP w w'→T w' v→K (a.put o.dst v) w'):o.wp P a w K Q:=by
 unfold Zlz at h
 unfold Oper.wp
 generalize (execOp a.eval o).run P w=r at *
 cases r with
 | ok n w' =>
   cases n<;>simp only[ZfJ]at h<;>simp only[Oper.upon]
   case value u=>exact hK _ _ h.1 h.2
   case skip=>exact hK _ _ h.1 h.2
   case enter f args =>
    obtain⟨e1,hc⟩:=h
    rw[e1]
    exact hc.mono fun e w'' ⟨v,he,hg,ht⟩=>by subst he;exact hK _ _ hg ht
 | halt x w'=>simp only[ZfJ]at h
def Zf8(P:Program)(ops:Array Oper)(o:Oper)(a:Act)(w:World)(T:World→Value→Prop):Prop :=
 if Region.wanted o (yielded ops a.tmps)then Zlz P o a w T else T w undef
def Zbu(o:Oper)(j:Nat):Bool:=o.after.any fun e=>Region.binds .any e&&e.on==j
def relB(ops:Array Oper):Bool :=
 Region.noSelect ops &&
 (List.range ops.size).all fun i=>match ops[i]? with
   | none=>true
   | some o =>
     (o.after.all fun e=> !Region.binds .any e||decide (e.on<i)) &&
     (List.range ops.size).all fun j=>match ops[j]? with
       | none=>true
       | some p=>match p.dst with
         | none=>true
         | some t=>(i==j||o.dst !=some t)&&(!(o.looksAt ops).contains t||(decide (j<i)&&Zbu o j)||(decide (i<j)&&Zbu p i))
structure Ztu (ops:Array Oper):Prop where
 noSel:∀ (i:Nat)(o:Oper) cs b,ops[i]? =some o→o.op ≠ .select cs b
 back:∀ (i:Nat)(o:Oper),ops[i]? =some o→∀ e∈o.after,Region.binds .any e=true→e.on<i
 once:∀ (i j:Nat)(o p:Oper) t,ops[i]? =some o→ops[j]? =some p→o.dst=some t→p.dst=some t→i=j
 reads:∀ (i j:Nat)(o p:Oper) t,ops[i]? =some o→ops[j]? =some p→p.dst=some t→t∈o.looksAt ops→(j<i∧Zbu o j=true)∨(i<j∧Zbu p i=true)
theorem ZwB{ops:Array Oper}(h:relB ops=true):Ztu ops:=by
 simp only[relB,Ya2,Ya6,Yd2]at h
 obtain⟨h0,h1⟩:=h
 have get:∀ {i:Nat} {o:Oper},ops[i]? =some o→i<ops.size:=fun hi=>(Ya5.1 hi).1
 refine⟨fun i o cs b hi=>Region.noSelect_spec h0 i o cs b hi,fun i o hi e he hb=>?_,fun i j o p t hi hj ho hp=>?_,fun i j o p t hi hj hp ht=>?_⟩
 ·have:=h1 i (get hi)
  rw[hi]at this
  simp only[Ya2]at this
  have:=Array.all_eq_true_iff_forall_mem.1 this.1 e he
  simpa[hb]using this
 ·have:=h1 i (get hi)
  rw[hi]at this
  simp only[Ya2,Ya6,Yd2]at this
  have:=this.2 j (get hj)
  rw[hj]at this
  simp only[hp,Ya2,Bool.or_eq_true,beq_iff_eq]at this
  rcases this.1 with h|h
  ·exact h
  ·simp[ho]at h
 ·have:=h1 i (get hi)
  rw[hi]at this
  simp only[Ya2,Ya6,Yd2]at this
  have:=this.2 j (get hj)
  rw[hj]at this
  simp only[hp,Ya2,Bool.or_eq_true]at this
  have h2:=this.2
  rcases h2 with(h2|h2)|h2
  ·simp[List.contains_iff_mem]at h2;exact absurd ht h2
  ·exact .inl (by simpa using h2)
  ·exact .inr (by simpa using h2)
theorem ZbE{o:Oper}{j:Nat}:Zbu o j=true↔∃ e∈o.after,Region.binds .any e=true∧e.on=j:=by
 unfold Zbu
 rw[Array.any_eq_true']
 simp
structure Zv7 (ops:Array Oper) (a0:Act) (w0:World) (es:List Ent) (listed:Array Bool) (a:Act) (w:World):Prop where
 size:listed.size=ops.size
 closed:∀ (i:Nat)(o:Oper),ops[i]? =some o→listed[i]? =some true→∀ e∈o.after,Region.binds .any e=true→listed[e.on]? =some true
 grows:ZaP w0 w
 vals:∀ (i:Nat)(o:Oper)(e:Ent) t,ops[i]? =some o→listed[i]? =some true→o.dst=some t→es[i]? =some e→e.spec w (a.eval (.tmp t))
 rest:∀ t,(∀ (i:Nat)(o:Oper),ops[i]? =some o→listed[i]? =some true→o.dst≠some t)→a.eval (.tmp t)=a0.eval (.tmp t)
 width:a.tmps.size=a0.tmps.size
 defers:a.defers=a0.defers
def ZzT(ops:Array Oper)(a0:Act)(es:List Ent)(i:Nat)(o:Oper)(a:Act)(w:World):Prop :=
 a.tmps.size=a0.tmps.size∧∀ t∈o.looksAt ops,(∀ (j:Nat)(p:Oper)(e:Ent),j<i→ops[j]? =some p→p.dst=some t→es[j]? =some e→e.spec w (a.eval (.tmp t))) ∧
  ((∀ (j:Nat)(p:Oper),j<i→ops[j]? =some p→p.dst≠some t)→a.eval (.tmp t)=a0.eval (.tmp t))
def Zv6(P:Program)(ops:Array Oper)(a0:Act)(w0:World)(es:List Ent)(i:Nat)(o:Oper)(e:Ent):Prop :=
 ∀ a w,ZaP w0 w→ZzT ops a0 es i o a w→Zf8 P ops o a w e.spec
theorem Zbs{a:Act}{t:Tmp}{v:Value}(h:t<a.tmps.size):(a.put (some t) v).eval (.tmp t)=v:=by
 simp[Act.eval,Act.put,h]
theorem Zbt{a:Act}{d:Option Tmp}{t:Tmp}{v:Value}(h:d≠some t):(a.put d v).eval (.tmp t)=a.eval (.tmp t) :=
 Act.eval_put fun d' hd hx=>h (by rw[hd];simp only[Operand.tmp.injEq]at hx;rw[hx])
theorem ZbL{listed:Array Bool}{i:Nat}{d:Bool}(h:i<listed.size):listed.getD i d=true↔listed[i]? =some true:=by
 simp[Array.getD,h]
theorem Zry{ops:Array Oper}(ok:Ztu ops){listed:Array Bool}(hs:listed.size=ops.size)(h:Region.ready .any ops listed=[]):∀ i,i<ops.size→listed[i]? =some true:=by
 intro i
 induction i using Nat.strongRecOn with
 | ind i ih =>
   intro hi
   cases hl:listed.getD i true with
   | true=>exact(ZbL (by omega)).1 hl
   | false =>
     exfalso
     have:i∈Region.ready .any ops listed:=by
      refine mem_ready.2 ⟨hl,ops[i],Yb5 hi,fun e he hb=>?_⟩
      have hlt:=ok.back i _ (Yb5 hi) e he hb
      exact(ZbL (by omega)).2 (ih e.on hlt (by omega))
     rw[h]at this
     cases this
theorem Zmo{l:List Bool}{i:Nat}(h:l[i]? =some false):(l.set i true).countP (fun b=> !b)+1=l.countP (fun b=> !b):=by
 induction l generalizing i with
 | nil=>simp at h
 | cons b l ih =>
   cases i with
   | zero=>simp only[List.getElem?_cons_zero,Ya1]at h;subst h;simp
   | succ i =>
     simp only[List.getElem?_cons_succ]at h
     have:=ih h
     simp only[List.set_cons_succ,List.countP_cons]
     omega
abbrev Zdb:=List (Option Tmp×Ent)
def Zdt(ops:Array Oper)(o:Oper)(w:World)(G:Act→Prop):Zdb→Act→Prop
 | [],a=>G a
 | (d,e) ::l,a=>match d,e.law with
   | some t,some T=>if (o.looksAt ops).contains t then ∀ v,T w v→Zdt ops o w G l (a.put (some t) v)else Zdt ops o w G l a
   | _,_=>Zdt ops o w G l a
def Rel(P:Program)(ops:Array Oper)(w0:World)(K:Zdb→Prop):Zdb→List Oper→Act→Prop
 | done,[],_=>K done
 | done,o ::rest,a=>∃ e:Ent,e.Mono∧(∀ w,ZaP w0 w→Zdt ops o w (fun a'=>Zf8 P ops o a' w e.spec) done a)∧Rel P ops w0 K (done++[(o.dst,e)]) rest (a.put o.dst e.val)
def Zhw(Q:Act→World→Prop)(w:World):Zdb→Act→Prop
 | [],a=>Q a w
 | (d,e) ::l,a=>match d,e.law with
   | some t,some T=>∀ v,T w v→Zhw Q w l (a.put (some t) v)
   | _,_=>Zhw Q w l (a.put d e.val)
def zipD(l:List Oper)(es:List Ent):Zdb:=List.zipWith (fun o e=>(o.dst,e)) l es
def lexA(zs:Zdb)(a:Act):Act:=zs.foldl (fun b x=>b.put x.1 x.2.val) a
theorem ZfR{l:List Oper}{es:List Ent}{i:Nat}{x:Option Tmp×Ent}:(zipD l es)[i]? =some x↔∃ o e,l[i]? =some o∧es[i]? =some e∧x=(o.dst,e):=by
 unfold zipD
 rw[List.getElem?_zipWith]
 cases l[i]? <;> cases es[i]? <;> simp[eq_comm]
theorem ZtY{P:Program}{ops:Array Oper}{w0:World}{K:Zdb→Prop}:∀ (rest:List Oper)(done:Zdb)(a:Act),Rel P ops w0 K done rest a →
 ∃ es:List Ent,es.length=rest.length∧(∀ e∈es,e.Mono)∧K (done++zipD rest es) ∧
  ∀ (i:Nat)(o:Oper)(e:Ent),rest[i]? =some o→es[i]? =some e→∀ w,ZaP w0 w→Zdt ops o w (fun a'=>Zf8 P ops o a' w e.spec) (done++(zipD rest es).take i) (lexA ((zipD rest es).take i) a):=by
 intro rest
 induction rest with
 | nil=>intro done a h;exact⟨[],rfl,by simp,by simpa[zipD,Rel]using h,by simp⟩
 | cons o rest ih =>
   intro done a h
   obtain⟨e,h1,h2,h3⟩:=h
   obtain⟨es,k1,k2,k3,k4⟩:=ih _ _ h3
   refine⟨e ::es,by simp[k1],?_,?_,?_⟩
   ·intro x hx
    rcases List.mem_cons.1 hx with rfl|hx
    ·exact h1
    ·exact k2 x hx
   ·simpa[zipD]using k3
   ·intro i o' e' ho he w hw
    cases i with
    | zero =>
      simp only[List.getElem?_cons_zero,Ya1]at ho he
      subst ho he
      simpa[lexA]using h2 w hw
    | succ i =>
      simp only[List.getElem?_cons_succ]at ho he
      have:=k4 i o' e' ho he w hw
      simpa[zipD,lexA]using this
def ZdP(look:Tmp→Bool)(b:Act):Zdb→Act→Act
 | [],a=>a
 | (d,e) ::l,a=>match d,e.law with
   | some t,some _=>if look t then ZdP look b l (a.put (some t) (b.eval (.tmp t)))else ZdP look b l a
   | _,_=>ZdP look b l a
theorem ZpO{ops:Array Oper}{o:Oper}{w:World}{G:Act→Prop}{b:Act}:∀ (zs:Zdb)(a:Act),Zdt ops o w G zs a →
 (∀ x∈zs,∀ t T,x.1=some t→x.2.law=some T→t∈o.looksAt ops→T w (b.eval (.tmp t)))→G (ZdP (fun t=>(o.looksAt ops).contains t) b zs a):=by
 intro zs
 induction zs with
 | nil=>intro a h _;exact h
 | cons x l ih =>
   intro a h hx
   obtain⟨d,e⟩:=x
   have hl:∀ y∈l,∀ t T,y.1=some t→y.2.law=some T→t∈o.looksAt ops→T w (b.eval (.tmp t)):=fun y hy=>hx y (Yb6 _ hy)
   unfold ZdP
   unfold Zdt at h
   cases d with
   | none=>exact ih a h hl
   | some t =>
     cases hlaw:e.law with
     | none=>simp only[hlaw]at h ⊢;exact ih a h hl
     | some T =>
       simp only[hlaw]at h ⊢
       by_cases hc:(o.looksAt ops).contains t=true
       ·simp only[hc,if_true]at h ⊢
        exact ih _ (h _ (hx (some t,e) (by simp) t T rfl hlaw (List.contains_iff_mem.1 hc))) hl
       ·simp only[hc]at h ⊢
        exact ih a h hl
theorem ZsG{look:Tmp→Bool}{b:Act}{t:Tmp}:∀ (zs:Zdb)(a:Act),a.eval (.tmp t)=b.eval (.tmp t)→(ZdP look b zs a).eval (.tmp t)=b.eval (.tmp t):=by
 intro zs
 induction zs with
 | nil=>intro a h;exact h
 | cons x l ih =>
   intro a h
   obtain⟨d,e⟩:=x
   unfold ZdP
   cases d with
   | none=>exact ih a h
   | some s =>
     cases e.law with
     | none=>exact ih a h
     | some T =>
       simp only
       split
       ·refine ih _ ?_
        by_cases hst:s=t
        ·subst hst
         by_cases hlt:s<a.tmps.size
         ·rw[Zbs hlt]
         ·rw[← h];simp[Act.put,Act.eval,Array.getD,hlt]
        ·rw[Zbt (by simpa using hst)];exact h
       ·exact ih a h
theorem Zqn{look:Tmp→Bool}{b:Act}:∀ (zs:Zdb)(a:Act),(ZdP look b zs a).tmps.size=a.tmps.size:=by
 intro zs
 induction zs with
 | nil=>intro a;rfl
 | cons x l ih =>
   intro a
   obtain⟨d,e⟩:=x
   unfold ZdP
   cases d with
   | none=>exact ih a
   | some s =>
     cases e.law with
     | none=>exact ih a
     | some T =>
       simp only
       split
       ·rw[ih];simp[Act.put]
       ·exact ih a
theorem Zu4{look:Tmp→Bool}{b:Act}{t:Tmp}(hl:look t=true):∀ (zs:Zdb)(a:Act),t<a.tmps.size→(∃ x∈zs,x.1=some t∧x.2.law≠none)→(ZdP look b zs a).eval (.tmp t)=b.eval (.tmp t):=by
 intro zs
 induction zs with
 | nil=>rintro a _ ⟨x,hx,_⟩;cases hx
 | cons x l ih =>
   rintro a ht ⟨y,hy,hd,hlaw⟩
   obtain⟨d,e⟩:=x
   unfold ZdP
   rcases List.mem_cons.1 hy with rfl|hyl
   ·simp only at hd hlaw
    subst hd
    cases h:e.law with
    | none=>exact absurd h hlaw
    | some T =>
      simp only[hl,if_true]
      exact ZsG l _ (Zbs ht)
   ·cases d with
    | none=>exact ih a ht ⟨y,hyl,hd,hlaw⟩
    | some s =>
      cases e.law with
      | none=>exact ih a ht ⟨y,hyl,hd,hlaw⟩
      | some T =>
        simp only
        split
        ·exact ih _ (by simpa[Act.put]using ht) ⟨y,hyl,hd,hlaw⟩
        ·exact ih a ht ⟨y,hyl,hd,hlaw⟩
theorem Zmd{look:Tmp→Bool}{b:Act}{t:Tmp}:∀ (zs:Zdb)(a:Act),(∀ x∈zs,x.1=some t→x.2.law=none)→(ZdP look b zs a).eval (.tmp t)=a.eval (.tmp t):=by
 intro zs
 induction zs with
 | nil=>intro a _;rfl
 | cons x l ih =>
   intro a h
   obtain⟨d,e⟩:=x
   have hl:∀ x∈l,x.1=some t→x.2.law=none:=fun x hx=>h x (Yb6 _ hx)
   unfold ZdP
   cases d with
   | none=>exact ih a hl
   | some s =>
     cases hlaw:e.law with
     | none=>exact ih a hl
     | some T =>
       simp only
       split
       ·rw[ih _ hl,Zbt]
        intro hs
        have:=h (some s,e) (by simp) hs
        rw[hlaw]at this
        cases this
       ·exact ih a hl
theorem Zjx(zs:Zdb)(a:Act):(lexA zs a).tmps.size=a.tmps.size:=by
 unfold lexA
 induction zs generalizing a with
 | nil=>rfl
 | cons x l ih=>rw[List.foldl_cons,ih];cases x.1<;>simp[Act.put]
theorem ZlU{t:Tmp}(zs:Zdb)(a:Act)(h:∀ x∈zs,x.1≠some t):(lexA zs a).eval (.tmp t)=a.eval (.tmp t):=by
 unfold lexA
 induction zs generalizing a with
 | nil=>rfl
 | cons x l ih=>rw[List.foldl_cons,ih _ (fun y hy=>h y (Yb6 _ hy)),Zbt (h x (by simp))]
theorem ZuJ{t:Tmp}{c:Value}:∀ (zs:Zdb)(a:Act),t<a.tmps.size→(∀ x∈zs,x.1=some t→x.2.val=c)→(∃ x∈zs,x.1=some t)→(lexA zs a).eval (.tmp t)=c:=by
 intro zs
 induction zs with
 | nil=>rintro a _ _ ⟨x,hx,_⟩;cases hx
 | cons x l ih =>
   rintro a ht hc ⟨y,hy,hd⟩
   show(lexA l (a.put x.1 x.2.val)).eval (.tmp t)=c
   by_cases hl:∃ z∈l,z.1=some t
   ·exact ih _ (by cases x.1<;>simpa[Act.put]using ht) (fun z hz=>hc z (Yb6 _ hz)) hl
   ·rw[ZlU l _ (fun z hz h=>hl ⟨z,hz,h⟩)]
    rcases List.mem_cons.1 hy with rfl|hy
    ·rw[hd,Zbs ht];exact hc y (by simp) hd
    ·exact absurd ⟨y,hy,hd⟩ hl
theorem Zk2{ops:Array Oper}{o:Oper}{a b:Act}(hw:a.tmps.size=b.tmps.size)(h:∀ t∈o.looksAt ops,a.eval (.tmp t)=b.eval (.tmp t)) :
 Region.wanted o (yielded ops a.tmps)=Region.wanted o (yielded ops b.tmps):=by
 unfold Region.wanted
 cases hg:o.guard with
 | none=>rfl
 | some gw =>
   obtain⟨g,want⟩:=gw
   have hy:yielded ops a.tmps g=yielded ops b.tmps g:=by
    unfold yielded
    cases ht:(ops[g]?).bind (·.dst)with
    | none=>rfl
    | some t =>
      have:=h t (by simp[Oper.looksAt,hg,ht])
      simp only[Act.eval,Array.getD]at this
      by_cases hlt:t<a.tmps.size
      ·have hlt':t<b.tmps.size:=by rw[← hw];exact hlt
       simp only[hlt,hlt',dif_pos]at this
       simp only[Option.bind_some,Yb5 hlt,Yb5 hlt']
       simp only[Array.getInternal_eq_getElem]at this
       rw[this]
      ·have hlt':¬ t<b.tmps.size:=by rw[← hw];exact hlt
       simp only[Option.bind_some,Array.getElem?_eq_none (Nat.le_of_not_lt hlt),Array.getElem?_eq_none (Nat.le_of_not_lt hlt')]
   simp only[hy]
theorem Znb{P:Program}{ops:Array Oper}{o:Oper}{a b:Act}{w:World}{T:World→Value→Prop}(hs:∀ cs b,o.op ≠ .select cs b)(hw:a.tmps.size=b.tmps.size)
 (h:∀ t∈o.looksAt ops,a.eval (.tmp t)=b.eval (.tmp t)) (k:Zf8 P ops o a w T):Zf8 P ops o b w T:=by
 unfold Zf8 Zlz at *
 rw[← Zk2 hw h]
 have:execOp b.eval o=execOp a.eval o:=execOp_congr o hs fun x hx=>by
  cases x with
  | tmp t=>exact(h t (Yd6 _ (List.mem_filterMap.2 ⟨.tmp t,by simpa using hx,rfl⟩))).symm
  | _=>rfl
 rw[this]
 exact k
theorem ZxZ{a b:Act}(hw:a.tmps.size=b.tmps.size)(hd:a.defers=b.defers)(h:∀ t,a.eval (.tmp t)=b.eval (.tmp t)):a=b:=by
 obtain⟨ta,da⟩:=a
 obtain⟨tb,db⟩:=b
 simp only at hw hd
 subst hd
 congr 1
 apply Array.ext hw
 intro i h1 h2
 have:=h i
 simpa[Act.eval,Array.getD,h1,h2]using this
theorem ZsF{Q:Act→World→Prop}{w:World}{b:Act}:∀ (zs:Zdb)(a:Act),Zhw Q w zs a→a.tmps.size=b.tmps.size→a.defers=b.defers →
 (∀ x∈zs,∀ t,x.1=some t→x.2.spec w (b.eval (.tmp t)))→(∀ t,(∀ x∈zs,x.1≠some t)→a.eval (.tmp t)=b.eval (.tmp t))→(∀ x∈zs,∀ t,x.1=some t→t<b.tmps.size)→Q b w:=by
 intro zs
 induction zs with
 | nil =>
   intro a h hw hd _ hr _
   have:a=b:=ZxZ hw hd fun t=>hr t (by simp)
   subst this
   exact h
 | cons x l ih =>
   intro a h hw hd hv hr hb
   obtain⟨d,e⟩:=x
   have hv':∀ x∈l,∀ t,x.1=some t→x.2.spec w (b.eval (.tmp t)):=fun y hy=>hv y (Yb6 _ hy)
   have hb':∀ x∈l,∀ t,x.1=some t→t<b.tmps.size:=fun y hy=>hb y (Yb6 _ hy)
   have key:∀ v,(∀ t,d=some t→v=b.eval (.tmp t))→∀ t,(∀ x∈l,x.1≠some t)→(a.put d v).eval (.tmp t)=b.eval (.tmp t):=by
    intro v hdv t ht
    by_cases hdt:d=some t
    ·rw[hdt,Zbs (by rw[hw];exact hb (d,e) (by simp) t hdt)]
     exact hdv t hdt
    ·rw[Zbt hdt]
     refine hr t fun y hy=>?_
     rcases List.mem_cons.1 hy with rfl|hy
     ·exact hdt
     ·exact ht y hy
   unfold Zhw at h
   cases d with
   | none=>exact ih _ h (by simpa[Act.put]using hw) (by simpa[Act.put]using hd) hv' (key e.val (by simp)) hb'
   | some t =>
     have hs:=hv (some t,e) (by simp) t rfl
     unfold Ent.spec at hs
     cases hlaw:e.law with
     | none =>
       simp only[hlaw]at h hs
       exact ih _ h (by simpa[Act.put]using hw) (by simpa[Act.put]using hd) hv' (key e.val (by intro s hs';cases hs';exact hs.symm)) hb'
     | some T =>
       simp only[hlaw]at h hs
       exact ih _ (h _ hs) (by simpa[Act.put]using hw) (by simpa[Act.put]using hd) hv' (key _ (by intro s hs';cases hs';rfl)) hb'
section
variable {P:Program} {ops:Array Oper} {w0:World} {K:Zdb→Prop} {done:Zdb} {o:Oper} {rest:List Oper} {a:Act}
theorem ZcI{v:Value}(h:∀ w,ZaP w0 w→Zdt ops o w (fun a'=>Zf8 P ops o a' w (fun _ u=>u=v)) done a)(k:Rel P ops w0 K (done++[(o.dst,⟨v,none⟩)]) rest (a.put o.dst v)):Rel P ops w0 K done (o ::rest) a :=
 ⟨⟨v,none⟩,(fun T hT=>by cases hT),h,k⟩
theorem ZcH(T:World→Value→Prop)(hm:∀ w w' v,ZaP w w'→T w v→T w' v)(h:∀ w,ZaP w0 w→Zdt ops o w (fun a'=>Zf8 P ops o a' w T) done a)(k:Rel P ops w0 K (done++[(o.dst,⟨undef,some T⟩)]) rest (a.put o.dst undef)):Rel P ops w0 K done (o ::rest) a :=
 ⟨⟨undef,some T⟩,(fun T' hT=>by cases hT;exact hm),h,k⟩
theorem ZfI(h:K done):Rel P ops w0 K done [] a:=h
end
section
variable {ops:Array Oper} {o:Oper} {w:World} {G:Act→Prop} {l:Zdb} {a:Act} {d:Option Tmp} {v:Value} {t:Tmp} {T:World→Value→Prop}
theorem Zav(h:G a):Zdt ops o w G [] a:=h
theorem Zaq(h:Zdt ops o w G l a):Zdt ops o w G ((d,⟨v,none⟩) ::l) a:=by
 unfold Zdt
 cases d<;>exact h
theorem ZaA(hl:(o.looksAt ops).contains t=false)(h:Zdt ops o w G l a):Zdt ops o w G ((some t,⟨v,some T⟩) ::l) a:=by
 unfold Zdt
 simp only[hl]
 exact h
theorem ZaQ(hl:(o.looksAt ops).contains t=true)(h:∀ u,T w u→Zdt ops o w G l (a.put (some t) u)):Zdt ops o w G ((some t,⟨v,some T⟩) ::l) a:=by
 unfold Zdt
 simp only[hl]
 exact h
end
def Zyd(ops:Array Oper)(n:Nat):Bool:=ops.all fun o=>match o.dst with|none=>true|some t=>decide (t<n)
theorem Zm9{P:Program}{ops:Array Oper}{a:Act}{w:World}{l:List Oper}{es:List Ent}(ok:Ztu ops)(hwid:∀ (i:Nat)(o:Oper) t,ops[i]? =some o→o.dst=some t→t<a.tmps.size)(hsub:∀ i,i<l.length→ops[i]? =l[i]?)(h1:es.length=l.length)
 (h4:∀ (i:Nat)(o:Oper)(e:Ent),l[i]? =some o→es[i]? =some e→∀ w',ZaP w w'→Zdt ops o w' (fun a'=>Zf8 P ops o a' w' e.spec) ([]++(zipD l es).take i) (lexA ((zipD l es).take i) a)) :
 ∀ (i:Nat)(o:Oper)(e:Ent),ops[i]? =some o→es[i]? =some e→Zv6 P ops a w es i o e:=by
 intro i o e ho he b w' hw' hag
 have hil:i<l.length:=by have:=(Ya3.1 he).1;omega
 have ho':l[i]? =some o:=by rw[← hsub i hil];exact ho
 have hr:=h4 i o e ho' he w' hw'
 simp only[Yc8]at hr
 have hin:∀ x∈(zipD l es).take i,∃ (j:Nat)(p:Oper),j<i∧ops[j]? =some p∧es[j]? =some x.2∧x.1=p.dst:=by
  intro x hx
  obtain⟨j,hj⟩:=List.getElem?_of_mem hx
  rw[List.getElem?_take]at hj
  split at hj
  ·rename_i hlt
   obtain⟨p,e',k1,k2,rfl⟩:=ZfR.1 hj
   exact⟨j,p,hlt,by rw[hsub j (by omega)];exact k1,k2,rfl⟩
  ·cases hj
 have hout:∀ (j:Nat)(p:Oper)(e':Ent),j<i→ops[j]? =some p→es[j]? =some e'→(p.dst,e')∈(zipD l es).take i:=by
  intro j p e' hj hp he'
  refine Ya7 (i:=j) ?_
  rw[List.getElem?_take,if_pos hj]
  exact ZfR.2 ⟨p,e',by rw[← hsub j (by omega)];exact hp,he',rfl⟩
 have hG:=ZpO (b:=b) _ _ hr (by
  intro x hx t T hxt hlaw htl
  obtain⟨j,p,hj,hp,hej,hpd⟩:=hin x hx
  have:=(hag.2 t htl).1 j p x.2 hj hp (by rw[← hpd];exact hxt) hej
  unfold Ent.spec at this
  rw[hlaw]at this
  exact this)
 refine Znb (fun cs b'=>ok.noSel i o cs b' ho) ?_ ?_ hG
 ·rw[Zqn,Zjx]
  exact hag.1.symm
 ·intro t ht
  by_cases hd:∃ x∈(zipD l es).take i,x.1=some t
  ·obtain⟨x,hx,hxt⟩:=hd
   obtain⟨j,p,hj,hp,hej,hpd⟩:=hin x hx
   have hta:t<a.tmps.size:=hwid j p t hp (by rw[← hpd];exact hxt)
   have huniq:∀ y∈(zipD l es).take i,y.1=some t→y=x:=by
    intro y hy hyt
    obtain⟨j',p',hj',hp',hej',hpd'⟩:=hin y hy
    have e1:=ok.once j j' p p' t hp hp' (by rw[← hpd];exact hxt) (by rw[← hpd'];exact hyt)
    subst e1
    rw[hp]at hp'
    cases hp'
    rw[hej]at hej'
    refine Prod.ext (by rw[hpd,hpd']) (Option.some.inj hej'.symm)
   have hs:=(hag.2 t ht).1 j p x.2 hj hp (by rw[← hpd];exact hxt) hej
   by_cases hlaw:x.2.law=none
   ·rw[Zmd _ _ (fun y hy hyt=>by rw[huniq y hy hyt];exact hlaw),ZuJ _ _ hta (fun y hy hyt=>by rw[huniq y hy hyt]) ⟨x,hx,hxt⟩]
    unfold Ent.spec at hs
    rw[hlaw]at hs
    exact hs.symm
   ·exact Zu4 (by simpa[List.contains_iff_mem]using ht) _ _ (by rw[Zjx];exact hta) ⟨x,hx,hxt,hlaw⟩
  ·have hno:∀ x∈(zipD l es).take i,x.1≠some t:=fun x hx h=>hd ⟨x,hx,h⟩
   rw[Zmd _ _ (fun x hx h=>absurd h (hno x hx)),ZlU _ _ hno]
   refine((hag.2 t ht).2 fun j p hj hp hpt=>?_).symm
   have hj':j<es.length:=by omega
   exact hno _ (hout j p es[j] hj hp (Ya0 hj')) hpt
theorem Zc6{Q:Act→World→Prop}{w:World}{a:Act}(h:Q a w):Zhw Q w [] a:=h
theorem ZaW{Q:Act→World→Prop}{w:World}{a:Act}{l:Zdb}{d:Option Tmp}{v:Value}(h:Zhw Q w l (a.put d v)):Zhw Q w ((d,⟨v,none⟩) ::l) a:=by
 unfold Zhw
 cases d<;>exact h
theorem ZbM{Q:Act→World→Prop}{w:World}{a:Act}{l:Zdb}{t:Tmp}{v:Value}{T:World→Value→Prop}(h:∀ u,T w u→Zhw Q w l (a.put (some t) u)):Zhw Q w ((some t,⟨v,some T⟩) ::l) a:=h
attribute [irreducible] Zdt Rel Zhw relB
def Zom(ops:Array Oper)(o:Oper):Nat→List Nat→List Nat
 | 0,acc=>acc
 | j+1,acc=>Zom ops o j (if Zbu o j||acc.any (fun k=>match ops[k]? with|some p=>Zbu p j|none=>false)then j ::acc else acc)
theorem ZlB{ops:Array Oper}{o:Oper}{P:Nat→Prop}(h1:∀ j,Zbu o j=true→P j)(h2:∀ k p j,P k→ops[k]? =some p→Zbu p j=true→P j) :
 ∀ (n:Nat)(acc:List Nat),(∀ k∈acc,P k)→∀ k∈Zom ops o n acc,P k:=by
 intro n
 induction n with
 | zero=>intro acc h k hk;exact h k hk
 | succ j ih =>
   intro acc h
   refine ih _ ?_
   intro k hk
   split at hk
   ·rename_i hc
    rcases List.mem_cons.1 hk with rfl|hk
    ·rw[Bool.or_eq_true,List.any_eq_true]at hc
     rcases hc with hc|⟨m,hm,hc⟩
     ·exact h1 k hc
     ·cases hp:ops[m]? with
      | none=>rw[hp]at hc;cases hc
      | some p=>rw[hp]at hc;exact h2 m p k (h m hm) hp hc
    ·exact h k hk
   ·exact h k hk
def Zq2(ops:Array Oper)(n:Nat):Bool :=
 (match ops[n]? with|none=>true|some o=>(List.range n).all fun j=>(Zom ops o n []).contains j) &&
 (List.range ops.size).all fun i=>decide (i≤n)||match ops[i]? with|none=>true|some o=>Zbu o (i-1)
structure Zx3 (ops:Array Oper) (n:Nat):Prop where
 first:∀ (o:Oper),ops[n]? =some o→∀ P:Nat→Prop,(∀ j,Zbu o j=true→P j)→(∀ k p j,P k→ops[k]? =some p→Zbu p j=true→P j)→∀ j,j<n→P j
 next:∀ (i:Nat)(o:Oper),n<i→ops[i]? =some o→Zbu o (i-1)=true
theorem Zld{ops:Array Oper}{n:Nat}(h:Zq2 ops n=true):Zx3 ops n:=by
 unfold Zq2 at h
 rw[Ya2]at h
 refine⟨fun o ho P h1 h2 j hj=>?_,fun i o hi ho=>?_⟩
 ·have h3:=h.1
  rw[ho]at h3
  simp only[Ya6,Yd2]at h3
  have h4:=h3 j hj
  rw[List.contains_iff_mem]at h4
  exact ZlB h1 h2 n [] (by simp) j h4
 ·have h3:=h.2
  rw[Ya6]at h3
  have h4:=h3 i (Yd2.2 (Ya5.1 ho).1)
  rw[ho]at h4
  simp only[Bool.or_eq_true,decide_eq_true_eq]at h4
  rcases h4 with h4|h4
  ·omega
  ·exact h4
theorem Zwx{P:Program}{ops:Array Oper}{Q:Exit→Act→World→Prop}{n:Nat}(ok:Ztu ops)(hall:Zx3 ops n) :
 ∀ (tl:List Oper)(k:Nat)(listed:Array Bool)(a:Act)(w:World),n≤k→k+tl.length=ops.size→tl=ops.toList.drop k→listed.size=ops.size→(∀ j,j<k→listed[j]? =some true)→(∀ j,k≤j→j<ops.size→listed[j]? =some false) →
  wpList P ops Q tl a w→wpAny P .any ops Q tl.length listed a w:=by
 intro tl
 induction tl with
 | nil =>
   intro k listed a w hn hk htl hs h1 h2 hw
   simp only[List.length_nil,Nat.add_zero]at hk
   refine⟨?_,hw⟩
   apply List.eq_nil_iff_forall_not_mem.2
   intro i hi
   obtain⟨g1,o,ho,_⟩:=mem_ready.1 hi
   have hio:=(Ya5.1 ho).1
   have:=(ZbL (d:=true) (show i<listed.size by omega)).2 (h1 i (by omega))
   rw[this]at g1
   cases g1
 | cons o tl ih =>
   intro k listed a w hn hk htl hs h1 h2 hw
   simp only[List.length_cons]at hk
   have hko:ops[k]? =some o:=by
    have:=congrArg (fun l=>l[0]?) htl
    simpa using this.symm
   refine⟨fun h=>?_,fun i hi=>?_⟩
   ·exfalso
    have:=Zry ok hs h k (by omega)
    rw[h2 k (Ya4 _) (by omega)]at this
    cases this
   ·obtain⟨g1,p,hp,hready⟩:=mem_ready.1 hi
    have hio:=(Ya5.1 hp).1
    have hik:i=k:=by
     rcases Nat.lt_trichotomy i k with h|h|h
     ·have:=(ZbL (d:=true) (show i<listed.size by omega)).2 (h1 i h)
      rw[this]at g1
      cases g1
     ·exact h
     ·exfalso
      obtain⟨x,hx,hb,hxk⟩:=ZbE.1 (hall.next i p (by omega) hp)
      have g2:=hready x hx hb
      rw[hxk]at g2
      have:=(ZbL (by omega)).1 g2
      rw[h2 (i-1) (by omega) (by omega)]at this
      cases this
    subst hik
    have hK:∀ a' w',wpList P ops Q tl a' w'→wpAny P .any ops Q tl.length (listed.setIfInBounds i true) a' w':=by
     intro a' w' hw'
     refine ih (i+1) _ a' w' (by omega) (by omega) ?_ (by simpa using hs) ?_ ?_ hw'
     ·have:=congrArg List.tail htl
      simpa using this
     ·intro j hj
      by_cases hji:i=j
      ·subst hji;simp[show i<listed.size from by omega]
      ·rw[Array.getElem?_setIfInBounds_ne hji];exact h1 j (by omega)
     ·intro j hj hjs
      rw[Array.getElem?_setIfInBounds_ne (by omega)];exact h2 j (by omega) hjs
    unfold wpOp
    rw[hko]
    unfold wpList at hw
    by_cases hwt:Region.wanted o (yielded ops a.tmps)=true
    ·simp only[hwt,if_true]at hw ⊢
     rcases hw with hw|hw
     ·exact .inl (Oper.wp_mono hK hw)
     ·exact .inr hw
    ·simp only[hwt]at hw ⊢
     exact hK _ _ hw
theorem Zna{P:Program}{ops:Array Oper}{a0:Act}{w0:World}{es:List Ent}{Q:Exit→Act→World→Prop}{n m:Nat}(ok:Ztu ops)(hn:ops.size=n+m)(hall:Zx3 ops n)
 (hlen:es.length=n) (hw:∀ (i:Nat)(o:Oper) t,ops[i]? =some o→o.dst=some t→t<a0.tmps.size)
 (hmono:∀ e∈es,e.Mono) (hstep:∀ (i:Nat)(o:Oper)(e:Ent),ops[i]? =some o→es[i]? =some e→Zv6 P ops a0 w0 es i o e)
 (hQ:∀ a w listed,Zv7 ops a0 w0 es listed a w→(∀ i,i<n→listed[i]? =some true)→(∀ i,n≤i→i<ops.size→listed[i]? =some false)→wpAny P .any ops Q m listed a w) :
 ∀ (fuel:Nat)(listed:Array Bool)(a:Act)(w:World),Zv7 ops a0 w0 es listed a w→(listed.toList.take n).countP (fun b=> !b)=fuel→(∀ i,n≤i→i<ops.size→listed[i]? =some false)→wpAny P .any ops Q (fuel+m) listed a w:=by
 intro fuel
 induction fuel with
 | zero =>
   intro listed a w hI hc hln
   have hs:=hI.size
   have hothers:∀ i,i<n→listed[i]? =some true:=by
    intro i hi
    rw[List.countP_eq_zero]at hc
    have hm:listed[i]'(by omega)∈listed.toList.take n:=by
     refine Ya7 (i:=i) ?_
     rw[List.getElem?_take_of_lt hi]
     simp[show i<listed.size from by omega]
    have:=hc _ hm
    rw[Yb5 (by omega)]
    simpa using this
   rw[Nat.zero_add]
   exact hQ a w listed hI hothers hln
 | succ fuel ih =>
   intro listed a w hI hc hln
   have hs:=hI.size
   have hopen:∃ j,j<n∧listed[j]? =some false:=by
    have:0<(listed.toList.take n).countP (fun b=> !b):=by omega
    obtain⟨b,hb,hbf⟩:=List.countP_pos_iff.1 this
    obtain⟨j,hj⟩:=List.getElem?_of_mem hb
    rw[List.getElem?_take]at hj
    split at hj
    ·rename_i hjn
     refine⟨j,hjn,?_⟩
     rw[← Array.getElem?_toList,hj]
     simpa using hbf
    ·cases hj
   obtain⟨j0,hj0,hj0f⟩:=hopen
   rw[Nat.succ_add]
   refine⟨fun h=>?_,fun i hi=>?_⟩
   ·exfalso
    have:=Zry ok hs h j0 (by omega)
    rw[hj0f]at this
    cases this
   obtain⟨hun,o,ho,hready⟩:=mem_ready.1 hi
   have hio:=(Ya5.1 ho).1
   have hlf:listed[i]? =some false:=by
    rw[Yb5 (by omega)]
    simpa[Array.getD,show i<listed.size from by omega]using hun
   have hin:i<n:=by
    rcases Nat.lt_or_ge i n with h|h
    ·exact h
    ·exfalso
     rcases Nat.lt_or_ge n i with hni|hni
     ·obtain⟨x,hx,hb,hxk⟩:=ZbE.1 (hall.next i o hni ho)
      have g2:=hready x hx hb
      rw[hxk]at g2
      have:=(ZbL (by omega)).1 g2
      rw[hln (i-1) (by omega) (by omega)]at this
      cases this
     ·have hin:i=n:=by omega
      subst hin
      have:=hall.first o ho (fun j=>listed[j]? =some true) (fun j hj=>by
       obtain⟨x,hx,hb,hxk⟩:=ZbE.1 hj
       have g2:=hready x hx hb
       rw[hxk]at g2
       have hlt:=ok.back i o ho x hx hb
       exact(ZbL (by omega)).1 g2) (fun k p j hk hp hj=>by
       obtain⟨x,hx,hb,hxk⟩:=ZbE.1 hj
       have:=hI.closed k p hp hk x hx hb
       rw[hxk]at this
       exact this) j0 hj0
      rw[hj0f]at this
      cases this
   have he:es[i]? =some es[i]:=Ya0 (by omega)
   have hag:ZzT ops a0 es i o a w:=by
    refine⟨hI.width,fun t ht=>?_⟩
    refine⟨fun j p e hj hp hd hej=>?_,fun hno=>?_⟩
    ·have hdep:Zbu o j=true:=by
      rcases ok.reads i j o p t ho hp hd ht with h|h
      ·exact h.2
      ·omega
     obtain⟨x,hx,hb,rfl⟩:=ZbE.1 hdep
     have hx1:=hready x hx hb
     have hlt:=ok.back i o ho x hx hb
     exact hI.vals x.on p e t hp ((ZbL (by omega)).1 hx1) hd hej
    ·refine hI.rest t fun j p hp hl hd=>?_
     rcases ok.reads i j o p t ho hp hd ht with h|h
     ·exact hno j p h.1 hp hd
     ·obtain⟨x,hx,hb,hxi⟩:=ZbE.1 h.2
      have:=hI.closed j p hp hl x hx hb
      rw[hxi,hlf]at this
      cases this
   have hst:=hstep i o es[i] ho he a w hI.grows hag
   have hnext:∀ v w',ZaP w w'→es[i].spec w' v→wpAny P .any ops Q (fuel+m) (listed.setIfInBounds i true) (a.put o.dst v) w':=by
    intro v w' hg hv
    have hget:∀ k,(listed.setIfInBounds i true)[k]? =some true↔k=i∨listed[k]? =some true:=by
     intro k
     by_cases hk:i=k
     ·subst hk;simp[show i<listed.size from by omega]
     ·rw[Array.getElem?_setIfInBounds_ne hk];simp[Ne.symm hk]
    refine ih _ _ _ ⟨by simpa using hs,fun k p hp hl x hx hb=>?_,hI.grows.trans hg,fun k p e t hp hl hd hek=>?_,fun t hno=>?_,?_,?_⟩ ?_ ?_
    ·refine(hget _).2 ?_
     rcases(hget k).1 hl with rfl|h
     ·rw[ho]at hp;cases hp
      have hlt:=ok.back k o ho x hx hb
      exact .inr ((ZbL (by omega)).1 (hready x hx hb))
     ·exact .inr (hI.closed k p hp h x hx hb)
    ·rcases(hget k).1 hl with rfl|h
     ·rw[ho]at hp;cases hp
      rw[he]at hek;cases hek
      rw[hd,Zbs (by rw[hI.width];exact hw k o t ho hd)]
      exact hv
     ·by_cases hki:k=i
      ·subst hki;rw[h]at hlf;cases hlf
      ·rw[Zbt (fun hd'=>hki (ok.once k i p o t hp ho hd hd'))]
       exact(hmono e (Ya7 hek)).spec hg (hI.vals k p e t hp h hd hek)
    ·rw[Zbt (hno i o ho ((hget i).2 (.inl rfl)))]
     exact hI.rest t fun k p hp h=>hno k p hp ((hget k).2 (.inr h))
    ·cases o.dst<;>simp[Act.put,hI.width]
    ·cases o.dst<;>simp[Act.put,hI.defers]
    ·have h1:=Zmo (l:=listed.toList.take n) (i:=i) (by rw[List.getElem?_take_of_lt hin];simpa using hlf)
     have h2:(listed.setIfInBounds i true).toList.take n=(listed.toList.take n).set i true:=by simp[List.take_set]
     rw[h2]
     omega
    ·intro k hk hks
     rw[Array.getElem?_setIfInBounds_ne (by omega)];exact hln k hk hks
   unfold wpOp
   rw[ho]
   unfold Zf8 at hst
   by_cases hwt:Region.wanted o (yielded ops a.tmps)=true
   ·simp only[hwt,if_true]at hst ⊢
    exact .inl (ZqR hst hnext)
   ·simp only[hwt]at hst ⊢
    exact hnext undef w (ZaP.refl w) hst
theorem ZaK{P:Program}{id:Nat}{Q:Exit→Act→World→Prop}{a:Act}{w:World}{l0:List Oper}(n:Nat)(hm:P.follows .mixedOrders=true)(hB:relB l0.toArray=true)(hW:Zyd l0.toArray a.tmps.size=true)(hT:Zq2 l0.toArray n=true)(hnl:decide (n≤l0.length)=true)
 (h:Rel P l0.toArray w (fun done=>∀ w',ZaP w w'→Zhw (fun a' w''=>wpList P l0.toArray Q (l0.drop n) a' w'') w' done a) [] (l0.take n) a) :
 (Code.region id l0.toArray true).wp P Q a w:=by
 have hnl:=of_decide_eq_true hnl
 obtain⟨es,h1,h2,h3,h4⟩:=ZtY (l0.take n) [] a h
 have ok:=ZwB hB
 have hwid:∀ (i:Nat)(o:Oper) t,l0.toArray[i]? =some o→o.dst=some t→t<a.tmps.size:=by
  intro i o t ho hd
  have:=Array.all_eq_true_iff_forall_mem.1 hW o (Array.mem_of_getElem? ho)
  rw[hd]at this
  simpa using this
 have hlt:(l0.take n).length=n:=by simp;omega
 have hsub:∀ i,i<(l0.take n).length→l0.toArray[i]? =(l0.take n)[i]?:=by
  intro i hi
  rw[List.getElem?_toArray,List.getElem?_take_of_lt (by omega)]
 have hsz:l0.toArray.size=n+(l0.drop n).length:=by simp;omega
 refine wp_region_any hm ?_
 have hcount:((Array.replicate l0.toArray.size false).toList.take n).countP (fun b=> !b)=n:=by
  simp only[Array.toList_replicate,List.take_replicate,List.countP_replicate];simp;omega
 have key:=Zna (P:=P) (a0:=a) (w0:=w) (es:=es) (Q:=Q) (n:=n) (m:=(l0.drop n).length) ok hsz (Zld hT) (by rw[h1,hlt]) hwid h2 (Zm9 ok hwid hsub h1 h4) ?_ n (Array.replicate l0.toArray.size false) a {w with drawn:=w.drawn+1} ⟨by simp,?_,ZaP.drawn w,?_,fun _ _=>rfl,rfl,rfl⟩ hcount ?_
 ·rw[hsz]
  rw[hsz]at key
  exact key
 ·intro b w' listed hI hall hrest
  have hfin:wpList P l0.toArray Q (l0.drop n) b w':=by
   refine ZsF (Q:=fun a' w''=>wpList P l0.toArray Q (l0.drop n) a' w'') _ _ (h3 w' hI.grows) hI.width.symm hI.defers.symm ?_ ?_ ?_
   ·intro x hx t hxt
    simp only[Yc8]at hx
    obtain⟨j,hj⟩:=List.getElem?_of_mem hx
    obtain⟨p,e',k1,k2,rfl⟩:=ZfR.1 hj
    have hjl:=(Ya3.1 k1).1
    exact hI.vals j p e' t (by rw[hsub j hjl];exact k1) (hall j (by omega)) hxt k2
   ·intro t ht
    refine(hI.rest t fun i o ho hl hd=>?_).symm
    rcases Nat.lt_or_ge i n with hi|hi
    ·exact ht (o.dst,es[i]'(by omega)) (Ya7 (i:=i) (ZfR.2 ⟨o,es[i]'(by omega),by rw[← hsub i (by omega)];exact ho,Ya0 (by omega),rfl⟩)) hd
    ·have:=hrest i hi (Ya5.1 ho).1
     rw[this]at hl
     cases hl
   ·intro x hx t hxt
    simp only[Yc8]at hx
    obtain⟨j,hj⟩:=List.getElem?_of_mem hx
    obtain⟨p,e',k1,k2,rfl⟩:=ZfR.1 hj
    rw[hI.width]
    exact hwid j p t (by rw[hsub j (Ya3.1 k1).1];exact k1) hxt
  exact Zwx ok (Zld hT) (l0.drop n) n listed b w' (Ya4 _) (by omega) (by simp) hI.size hall hrest hfin
 ·intro i o ho hl
  simp[Array.getElem?_replicate]at hl
 ·intro i o e t ho hl
  simp[Array.getElem?_replicate]at hl
 ·intro i _ hi
  simp[Array.getElem?_replicate]
  simpa using hi
structure Late (ops:Array Oper) (n q:Nat) (on oq:Oper) (dq:Tmp):Prop where
 lt:q<n
 hon:ops[n]? =some on
 hoq:ops[q]? =some oq
 gn:on.guard=none
 dn:on.dst=none
 gq:oq.guard=none
 ext:∃ t k,oq.op = .extract t k
 hdq:oq.dst=some dq
 look:∀ t∈on.looksAt ops,t≠dq
 first:∀ P:Nat→Prop,(∀ j,Zbu on j=true→P j)→(∀ k p j,P k→ops[k]? =some p→Zbu p j=true→P j)→∀ j,j<n→j≠q→P j
 next:∀ (i:Nat)(o:Oper),n<i→ops[i]? =some o→Zbu o (i-1)=true
 both:∀ (o:Oper),ops[n+1]? =some o→Zbu o q=true
end Go.Proofs.YtblamlnjbjaokaaGreat
