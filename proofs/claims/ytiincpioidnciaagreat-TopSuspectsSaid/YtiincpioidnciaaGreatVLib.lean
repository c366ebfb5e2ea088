/-
  Base: readings of slices in a world, and small helpers. Nothing of the program is named here.
-/
import Derived.WalkKit
import Derived.LoopTactic
import Derived.Below
import Derived.Lib.Hide
import Derived.Deep.QuietTactic
import Derived.BigQuiet
import Derived.Maps.AppendAt
import Derived.Deep.AppendLies
import Derived.RegionTactic
import Derived.OwnWalk
import Derived.Orders
namespace Go.Proofs.YtiincpioidnciaaGreat
set_option linter.unusedVariables false
set_option linter.unusedSimpArgs false
set_option linter.unusedSectionVars false
open Go.RowKit
theorem Ya0 {α : Type _} {l : List α} {i : Nat} (h : i < l.length) : l[i]? = some l[i] := List.getElem?_eq_getElem h
theorem Ya1 {α : Type _} (a b : α) : (some a = some b) = (a = b) := Option.some.injEq a b
theorem Ya2 (a b : Bool) : ((a && b) = true) = (a = true ∧ b = true) := Bool.and_eq_true a b
theorem Ya3 {α : Type _} {i : Nat} {a : α} {l : List α} : l[i]? = some a ↔ ∃ h, l[i] = a := List.getElem?_eq_some_iff
theorem Ya4 (n : Nat) : n ≤ n := Nat.le_refl n
theorem Ya5 {α : Type _} {i : Nat} {b : α} {xs : Array α} : xs[i]? = some b ↔ ∃ h, xs[i] = b := Array.getElem?_eq_some_iff
theorem Ya6 {α : Type _} {p : α → Bool} {l : List α} : l.all p = true ↔ ∀ x, x ∈ l → p x = true := List.all_eq_true
theorem Ya7 {α : Type _} {l : List α} {i : Nat} {a : α} (e : l[i]? = some a) : a ∈ l := List.mem_of_getElem? e
theorem Ya8 {α : Type _} {i : Nat} {l : List α} (h : l.length ≤ i) : l.take i = l := List.take_of_length_le h
theorem Ya9 {α : Type _} {l : List α} : l.length = 0 → l = [] := List.eq_nil_of_length_eq_zero
theorem Yb0 (n : Nat) : 0 ≤ n := Nat.zero_le n
theorem Yb1 {α : Type _} (p : α → Bool) (l : List α) : (l.filter p).length ≤ l.length := List.length_filter_le p l
theorem Yb2 {a : Int} (h : 0 < a) : Int.sign a = 1 := Int.sign_eq_one_of_pos h
theorem Yb3 {a : Int} (h : a < 0) : Int.sign a = -1 := Int.sign_eq_neg_one_of_neg h
theorem Yb4 {α : Type _} {l : List α} {i : Nat} : l.take (i + 1) = l.take i ++ l[i]?.toList := List.take_add_one
theorem Yb5 {α : Type _} {xs : Array α} {i : Nat} (h : i < xs.size) : xs[i]? = some xs[i] := Array.getElem?_eq_getElem h
theorem Yb6 {α : Type _} (y : α) {a : α} {l : List α} : a ∈ l → a ∈ y :: l := List.mem_cons_of_mem y
theorem Yb7 {α : Type _} {a : α} {l : List α} : a ∈ a :: l := List.mem_cons_self
theorem Yb8 {α β : Type _} {f : α → β} {l : List α} {i : Nat} : (l.map f)[i]? = Option.map f l[i]? := List.getElem?_map
theorem Yb9 {α : Type _} {as bs : List α} : (as ++ bs).length = as.length + bs.length := List.length_append
theorem Yc0 {α β : Type _} {as : List α} (f : α → β) : (as.map f).length = as.length := List.length_map f
theorem Yc1 {α : Type _} {i : Nat} {l : List α} : (l.take i).length = min i l.length := List.length_take
theorem Yc2 {α : Type _} {l : List α} : l.take l.length = l := List.take_length
theorem Yc3 {α : Type _} {l₁ l₂ : List α} {n : Nat} (hn : n < l₁.length) : (l₁ ++ l₂)[n]? = l₁[n]? := List.getElem?_append_left hn
theorem Yc4 {α : Type _} {l₁ l₂ : List α} {n : Nat} (h : l₁.length ≤ n) : (l₁ ++ l₂)[n]? = l₂[n - l₁.length]? := List.getElem?_append_right h
theorem Yc5 : false ≠ true := Bool.false_ne_true
theorem Yc6 {α β : Type _} {b : β} {f : α → β} {l : List α} : b ∈ l.map f ↔ ∃ a, a ∈ l ∧ f a = b := List.mem_map
theorem Yc7 {n m k : Nat} (h : n ≤ m) (h2 : m ≤ k) : n ≤ k := Nat.le_trans h h2
theorem Yc8 {α : Type _} (as : List α) : [] ++ as = as := List.nil_append as
theorem Yc9 {α : Type _} {a : α} {as bs : List α} : a :: as ++ bs = a :: (as ++ bs) := List.cons_append
theorem Yd0 {α β : Type _} (a : α) (f : α → β) : Option.map f (some a) = some (f a) := Option.map_some a f
theorem Yd1 {a b c : Int} (h : a ≤ b) (h2 : 0 ≤ c) : c * a ≤ c * b := Int.mul_le_mul_of_nonneg_left h h2
theorem Yd2 {m n : Nat} : m ∈ List.range n ↔ m < n := List.mem_range
theorem Yd3 {α : Type _} (a b c : List α) : a ++ b ++ c = a ++ (b ++ c) := List.append_assoc a b c
theorem Yd4 {α : Type _} {a b : α} {n : Nat} (h : b ∈ List.replicate n a) : b = a := List.eq_of_mem_replicate h
theorem Yd5 {α : Type _} {a : α} {s t : List α} : a ∈ s ++ t ↔ a ∈ s ∨ a ∈ t := List.mem_append
theorem Yd6 {α : Type _} {a : α} {as : List α} (bs : List α) (h : a ∈ as) : a ∈ as ++ bs := List.mem_append_left bs h
theorem Yd7 {α : Type _} {i : Nat} {l : List α} (h : i < l.length) : l.drop i = l[i] :: l.drop (i + 1) := List.drop_eq_getElem_cons h
abbrev I(n:Int):Value:=.int .i64 n
abbrev B(b:Bool):Value:=.bool b
def ZbQ{α:Type}(R:World→List Value→α→Prop)(size:Nat)(w:World)(v:Value)(l:List α):Prop :=
 ∃ a cap,v = .slice a l.length cap∧l.length≤cap∧cap≤maxLen∧(l.length=0∨∃ b off,a=some ⟨b,off,none⟩∧b<w.heap.size ∧
  ∀ (i:Nat)(x:α),l[i]? =some x→∃ cs,R w cs x∧cs.length=size∧∀ (j:Nat)(u:Value),cs[j]? =some u→w.cell? ⟨b,off+i*size+j,none⟩=some u)
def Zgs{α:Type}(R:World→List Value→α→Prop):Prop:=∀ w w' cs x,Below w.heap.size w w'→R w cs x→R w' cs x
theorem ZbQ.below{α:Type}{R:World→List Value→α→Prop}(hm:Zgs R){size:Nat}{w w':World}{v:Value}{l:List α}(hb:Below w.heap.size w w')(h:ZbQ R size w v l):ZbQ R size w' v l:=by
 obtain⟨a,cap,hv,hl,hc,h⟩:=h
 refine⟨a,cap,hv,hl,hc,?_⟩
 rcases h with h|⟨b,off,ha,hlt,hx⟩
 ·exact .inl h
 ·refine .inr ⟨b,off,ha,Nat.lt_of_lt_of_le hlt hb.size,fun i x hi=>?_⟩
  obtain⟨cs,hr,hs,hj⟩:=hx i x hi
  exact⟨cs,hm _ _ _ _ hb hr,hs,fun j u hu=>(hb.cell (p:=⟨b,off+i*size+j,none⟩) hlt).trans (hj j u hu)⟩
theorem ZbQ.get{α:Type}{R:World→List Value→α→Prop}{size:Nat}{w:World}{a:Option Addr}{n cap:Nat}{l:List α}(h:ZbQ R size w (.slice a n cap) l){i:Nat}(hi:i<l.length) :
 ∃ b off x cs,a=some ⟨b,off,none⟩∧b<w.heap.size∧l[i]? =some x∧R w cs x∧cs.length=size∧∀ (j:Nat)(u:Value),cs[j]? =some u→w.cell? ⟨b,off+i*size+j,none⟩=some u:=by
 obtain⟨a',cap',hv,hl,hc,h⟩:=h
 simp only[Value.slice.injEq]at hv
 obtain⟨rfl,rfl,rfl⟩:=hv
 rcases h with h|⟨b,off,ha,hlt,hx⟩
 ·omega
 ·obtain⟨cs,hr,hs,hj⟩:=hx i l[i] (Ya0 hi)
  exact⟨b,off,l[i],cs,ha,hlt,Ya0 hi,hr,hs,hj⟩
structure Ext (w:World) where
 world:World
 below:Below w.heap.size w world
def RInt(_:World)(cs:List Value)(n:Int):Prop:=cs=[I n]
theorem RInt.mono:Zgs RInt:=fun _ _ _ _ _ h=>h
abbrev ZaV(w:World)(v:Value)(l:List Int):Prop:=ZbQ RInt 1 w v l
def Src(w:World)(A:Option Addr)(m size:Nat)(news:List Value):Prop :=
 news.length=m*size∧(m=0∨∃ ad,A=some ad∧∀ j u,news[j]? =some u→w.cell? (ad.add j)=some u)
theorem append_nil{P:Program}(w:World){base:Nat}{t ty e:TypeId}{i:TypeInfo}{size:Nat}(ht:P.underlying t=some (.slice e))(hi:P.info? e=some i)
 {v:Value} {n:Nat} {xs:List Value} (hown:w.ownsRow base e size v n xs) (c:Nat):(Builtin.append_ #[t,t] ty #[v,.slice none 0 c]).run P w = .ok v w:=by
 rcases hown.2 with⟨rfl,rfl⟩|⟨g,cap,cur,rfl,_,_,hnc,_⟩ <;>
  simp[Builtin.append_,run_underlying ht,sizeOf,typeInfo,hi,Builtin.lenOf,Builtin.firstCells,storeCells, *]
theorem Src.kept{w W:World}{A:Option Addr}{m size:Nat}{news:List Value}(h:Src w A m size news)(hb:∀ k,k<w.heap.size→W.heap[k]? =w.heap[k]?):Src W A m size news:=by
 refine⟨h.1,?_⟩
 rcases h.2 with h0|⟨ad,rfl,hc⟩
 ·exact .inl h0
 ·exact .inr ⟨ad,rfl,fun j u hu=>(World.cell?_of_block (hb _ (block_lt_of_cell (hc j u hu)))).trans (hc j u hu)⟩
open Go Go.RowKit
def ZaG(w w':World):Prop:=Below w.heap.size w w'
theorem ZaG.refl(w:World):ZaG w w:=Below.refl _ _
theorem ZaG.trans{a b c:World}(h:ZaG a b)(k:ZaG b c):ZaG a c:=Below.trans h (Below.mono k h.size)
structure Ent where
 val:Value
 law:Option (World→Value→Prop)
def Ent.spec(e:Ent):World→Value→Prop:=match e.law with|none=>fun _ v=>v=e.val|some T=>T
def Ent.Mono(e:Ent):Prop:=∀ T,e.law=some T→∀ w w' v,ZaG w w'→T w v→T w' v
theorem Ent.Mono.spec{e:Ent}(h:e.Mono){w w':World}{v:Value}(hg:ZaG w w')(hs:e.spec w v):e.spec w' v:=by
 unfold Ent.spec at *
 cases hl:e.law with
 | none=>rw[hl]at hs;exact hs
 | some T=>rw[hl]at hs;exact h T hl w w' v hg hs
def Zbm(P:Program)(w:World)(T:World→Value→Prop):Result Next→Prop
 | .ok (.value u) w'=>ZaG w w'∧T w' u
 | .ok .skip w'=>ZaG w w'∧T w' undef
 | .ok (.enter f args) w'=>w'=w∧Calls P f args w (fun e w''=>∃ v,e = .returned v∧ZaG w w''∧T w'' v)
 | _=>False
def ZdC(P:Program)(o:Oper)(a:Act)(w:World)(T:World→Value→Prop):Prop:=Zbm P w T ((execOp a.eval o).run P w)
def ZdB(P:Program)(ops:Array Oper)(o:Oper)(a:Act)(w:World)(T:World→Value→Prop):Prop :=
 if Region.wanted o (yielded ops a.tmps)then ZdC P o a w T else T w undef
def Zaq(o:Oper)(j:Nat):Bool:=o.after.any fun e=>Region.binds .any e&&e.on==j
def relB(ops:Array Oper):Bool :=
 Region.noSelect ops &&
 (List.range ops.size).all fun i=>match ops[i]? with
   | none=>true
   | some o =>
     (o.after.all fun e=> !Region.binds .any e||decide (e.on<i)) &&
     (List.range ops.size).all fun j=>match ops[j]? with
       | none=>true
       | some p=>match p.dst with
         | none=>true
         | some t=>(i==j||o.dst !=some t)&&(!(o.looksAt ops).contains t||(decide (j<i)&&Zaq o j)||(decide (i<j)&&Zaq p i))
structure RelOk (ops:Array Oper):Prop where
 noSel:∀ (i:Nat)(o:Oper) cs b,ops[i]? =some o→o.op ≠ .select cs b
 back:∀ (i:Nat)(o:Oper),ops[i]? =some o→∀ e∈o.after,Region.binds .any e=true→e.on<i
 once:∀ (i j:Nat)(o p:Oper) t,ops[i]? =some o→ops[j]? =some p→o.dst=some t→p.dst=some t→i=j
 reads:∀ (i j:Nat)(o p:Oper) t,ops[i]? =some o→ops[j]? =some p→p.dst=some t→t∈o.looksAt ops→(j<i∧Zaq o j=true)∨(i<j∧Zaq p i=true)
structure RelInv (ops:Array Oper) (a0:Act) (w0:World) (es:List Ent) (listed:Array Bool) (a:Act) (w:World):Prop where
 size:listed.size=ops.size
 closed:∀ (i:Nat)(o:Oper),ops[i]? =some o→listed[i]? =some true→∀ e∈o.after,Region.binds .any e=true→listed[e.on]? =some true
 grows:ZaG w0 w
 vals:∀ (i:Nat)(o:Oper)(e:Ent) t,ops[i]? =some o→listed[i]? =some true→o.dst=some t→es[i]? =some e→e.spec w (a.eval (.tmp t))
 rest:∀ t,(∀ (i:Nat)(o:Oper),ops[i]? =some o→listed[i]? =some true→o.dst≠some t)→a.eval (.tmp t)=a0.eval (.tmp t)
 width:a.tmps.size=a0.tmps.size
 defers:a.defers=a0.defers
theorem Zb3{a:Act}{t:Tmp}{v:Value}(h:t<a.tmps.size):(a.put (some t) v).eval (.tmp t)=v:=by
 simp[Act.eval,Act.put,h]
theorem Zcv{a:Act}{d:Option Tmp}{t:Tmp}{v:Value}(h:d≠some t):(a.put d v).eval (.tmp t)=a.eval (.tmp t) :=
 Act.eval_put fun d' hd hx=>h (by rw[hd];simp only[Operand.tmp.injEq]at hx;rw[hx])
abbrev Zcx:=List (Option Tmp×Ent)
def Zec(ops:Array Oper)(o:Oper)(w:World)(G:Act→Prop):Zcx→Act→Prop
 | [],a=>G a
 | (d,e) ::l,a=>match d,e.law with
   | some t,some T=>if (o.looksAt ops).contains t then ∀ v,T w v→Zec ops o w G l (a.put (some t) v)else Zec ops o w G l a
   | _,_=>Zec ops o w G l a
def Rel(P:Program)(ops:Array Oper)(w0:World)(K:Zcx→Prop):Zcx→List Oper→Act→Prop
 | done,[],_=>K done
 | done,o ::rest,a=>∃ e:Ent,e.Mono∧(∀ w,ZaG w0 w→Zec ops o w (fun a'=>ZdB P ops o a' w e.spec) done a)∧Rel P ops w0 K (done++[(o.dst,e)]) rest (a.put o.dst e.val)
def ZfI(Q:Act→World→Prop)(w:World):Zcx→Act→Prop
 | [],a=>Q a w
 | (d,e) ::l,a=>match d,e.law with
   | some t,some T=>∀ v,T w v→ZfI Q w l (a.put (some t) v)
   | _,_=>ZfI Q w l (a.put d e.val)
section
variable {P:Program} {ops:Array Oper} {w0:World} {K:Zcx→Prop} {done:Zcx} {o:Oper} {rest:List Oper} {a:Act}
end
section
variable {ops:Array Oper} {o:Oper} {w:World} {G:Act→Prop} {l:Zcx} {a:Act} {d:Option Tmp} {v:Value} {t:Tmp} {T:World→Value→Prop}
end
attribute [irreducible] Zec Rel ZfI relB
def ZeT(ops:Array Oper)(o:Oper):Nat→List Nat→List Nat
 | 0,acc=>acc
 | j+1,acc=>ZeT ops o j (if Zaq o j||acc.any (fun k=>match ops[k]? with|some p=>Zaq p j|none=>false)then j ::acc else acc)
structure Tails (ops:Array Oper) (n:Nat):Prop where
 first:∀ (o:Oper),ops[n]? =some o→∀ P:Nat→Prop,(∀ j,Zaq o j=true→P j)→(∀ k p j,P k→ops[k]? =some p→Zaq p j=true→P j)→∀ j,j<n→P j
 next:∀ (i:Nat)(o:Oper),n<i→ops[i]? =some o→Zaq o (i-1)=true
structure Late (ops:Array Oper) (n q:Nat) (on oq:Oper) (dq:Tmp):Prop where
 lt:q<n
 hon:ops[n]? =some on
 hoq:ops[q]? =some oq
 gn:on.guard=none
 dn:on.dst=none
 gq:oq.guard=none
 ext:∃ t k,oq.op = .extract t k
 hdq:oq.dst=some dq
 look:∀ t∈on.looksAt ops,t≠dq
 first:∀ P:Nat→Prop,(∀ j,Zaq on j=true→P j)→(∀ k p j,P k→ops[k]? =some p→Zaq p j=true→P j)→∀ j,j<n→j≠q→P j
 next:∀ (i:Nat)(o:Oper),n<i→ops[i]? =some o→Zaq o (i-1)=true
 both:∀ (o:Oper),ops[n+1]? =some o→Zaq o q=true
end Go.Proofs.YtiincpioidnciaaGreat
