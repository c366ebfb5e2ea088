/-
  Values as data: what a value reads as in a world, where memory of the call's own has names.
-/
import Derived.Test.YtiincpioidnciaaGreatWLib
import Derived.Laws.CopyRow
import Derived.Laws.MakeOwn
import Derived.Laws.Append
import Derived.Laws.AppendOwn
import Derived.Laws.OwnMore
namespace Go.Proofs.YtiincpioidnciaaGreat
set_option linter.unusedVariables false
set_option linter.unusedSimpArgs false
set_option linter.unusedSectionVars false
open Go Go.RowKit
class Ifl where
 i:Bool
 r:Bool
@[reducible] def Ifl.on : Ifl := ⟨true, true⟩
@[reducible] def Ifl.off : Ifl := ⟨false, true⟩
@[reducible] def Ifl.it : Ifl := ⟨false, false⟩
section ifl
variable [Ifl]
inductive D where
 | v (x:Value)
 | nil
 | agg (l:List D)
 | tup (l:List D)
 | sl (es:List (List D))
 | cl (es:List (List D))
 | ep (es:List (List D)) (i off:Nat)
 | ls (id ver:Nat)
 | lp (id ver i off:Nat)
 | clo (f:FuncId) (l:List D)
 | junk
deriving Inhabited
structure Blk where
 T:TypeId
 ver:Nat
 k:Nat
 es:List (List D)
 fz:Nat
 dead:Bool
abbrev Mem:=Nat→Option Blk
abbrev Bet:=Nat→Option Nat
def cellAt(es:List (List D))(i j:Nat):Option D:=(es[i]?).bind (·[j]?)
def Zd7(w:World)(b n:Nat):Prop:=∃ cs T fr,w.heap[b]? =some (.cells cs T fr)∧cs.size=n
def ZvV(w:World)(b:Nat):Nat ⊕ Obj→Prop
 | .inl n=>Zd7 w b n
 | .inr o=>(∀ cs T fr,o ≠ .cells cs T fr)∧w.heap[b]? =some o
section
variable (S:Nat→Nat→Prop) (w:World)
inductive RepI:Bet→Mem→Value→D→Prop where
 | v {β m} (x:Value):RepI β m x (.v x)
 | nil {β m}:RepI β m (.slice none 0 0) .nil
 | agg {β m} (vs:List Value) (l:List D) (hl:vs.length=l.length) (h:∀ (i:Nat)(x:Value)(d:D),vs[i]? =some x→l[i]? =some d→RepI β m x d):RepI β m (.agg vs.toArray) (.agg l)
 | tup {β m} (vs:List Value) (l:List D) (hl:vs.length=l.length) (h:∀ (i:Nat)(x:Value)(d:D),vs[i]? =some x→l[i]? =some d→RepI β m x d):RepI β m (.tuple vs.toArray) (.tup l)
 | sl0 {β m} (a:Option Addr) (cap:Nat) (hc:cap≤maxLen):RepI β m (.slice a 0 cap) (.sl [])
 | sl {β m} (b off cap k : Nat) (es : List (List D)) (val : Nat → Nat → Value) (h1 : es.length ≤ cap) (h2 : cap ≤ maxLen) (h3 : ∀ (i : Nat) (e : List D), es[i]? = some e → e.length = k)
     (h4:∀ (i j:Nat)(d:D),cellAt es i j=some d→S b (off+i*k+j)∧w.cell? ⟨b,off+i*k+j,none⟩=some (val i j))
     (h5:∀ (i j:Nat)(d:D),cellAt es i j=some d→RepI (fun _=>none) (fun _=>none) (val i j) d):RepI β m (.slice (some ⟨b,off,none⟩) es.length cap) (.sl es)
 | cl {β m} (a:Option Addr) (es:List (List D)) (h:RepI (fun _=>none) (fun _=>none) (.slice a es.length es.length) (.sl es)):RepI β m (.slice a es.length es.length) (.cl es)
 | ep {β m} (b off k i o : Nat) (es : List (List D)) (val : Nat → Nat → Value) (h3 : ∀ (i : Nat) (e : List D), es[i]? = some e → e.length = k)
     (h4:∀ (i j:Nat)(d:D),cellAt es i j=some d→S b (off+i*k+j)∧w.cell? ⟨b,off+i*k+j,none⟩=some (val i j))
     (h5:∀ (i j:Nat)(d:D),cellAt es i j=some d→RepI (fun _=>none) (fun _=>none) (val i j) d):RepI β m (.pointer (some ⟨b,off+i*k+o,none⟩)) (.ep es i o)
 | ls {β m} (a : Option Addr) (n cap id ver : Nat) (blk : Blk) (hm : m id = some blk) (hv : ver ≤ blk.ver) (hx : ver = blk.ver → ver = 0 → cap = n)
     (h:ver=blk.ver→n=blk.es.length∧n≤cap∧cap≤maxLen∧((β id=none∧a=none∧cap=0)∨∃ b,β id=some b∧a=some ⟨b,0,none⟩∧Zd7 w b (cap*blk.k))):RepI β m (.slice a n cap) (.ls id ver)
 | lp {β m} (b p : Nat) (id ver i o : Nat) (blk : Blk) (hm : m id = some blk) (hv : ver ≤ blk.ver)
     (h:ver=blk.ver→β id=some b∧p=i*blk.k+o):RepI β m (.pointer (some ⟨b,p,none⟩)) (.lp id ver i o)
 | clo {β m} (f:FuncId) (vs:List Value) (l:List D) (hl:vs.length=l.length) (h:∀ (i:Nat)(x:Value)(d:D),vs[i]? =some x→l[i]? =some d→RepI β m x d):RepI β m (.func (.func f) #[] vs.toArray) (.clo f l)
 | junk {β m} (x:Value):RepI β m x .junk
end
abbrev Rep(β:Bet)(m:Mem)(S:Nat→Nat→Prop)(w:World)(x:Value)(d:D):Prop:=RepI S w β m x d
abbrev noB:Bet:=fun _=>none
abbrev noM:Mem:=fun _=>none
structure Za7 (β:Bet) (m:Mem) (w:World) (β':Bet) (m':Mem) (w':World):Prop where
 blk:∀ id x,m id=some x→∃ y,m' id=some y∧x.ver≤y.ver∧(y.ver=x.ver→y.k=x.k∧y.es.length=x.es.length∧β' id=β id)
 cap:∀ b n,ZvV w b n→ZvV w' b n
def Zaw(S:Nat→Nat→Prop)(w:World)(S':Nat→Nat→Prop)(w':World):Prop:=∀ b o u,S b o→w.cell? ⟨b,o,none⟩=some u→S' b o∧w'.cell? ⟨b,o,none⟩=some u
theorem Za7.refl(β:Bet)(m:Mem)(w:World):Za7 β m w β m w:=⟨fun _ x h=>⟨x,h,Ya4 _,fun _=>⟨rfl,rfl,rfl⟩⟩,fun _ _ h=>h⟩
theorem Za7.trans{β m w β1 m1 w1 β2 m2 w2}(h:Za7 β m w β1 m1 w1)(k:Za7 β1 m1 w1 β2 m2 w2):Za7 β m w β2 m2 w2:=by
 refine⟨fun id x hx=>?_,fun b n hn=>k.cap _ _ (h.cap _ _ hn)⟩
 obtain⟨y,hy,hv,he⟩:=h.blk id x hx
 obtain⟨z,hz,hv2,he2⟩:=k.blk id y hy
 refine⟨z,hz,Yc7 hv hv2,fun e=>?_⟩
 obtain⟨e1,e2,e3⟩:=he (by omega)
 obtain⟨f1,f2,f3⟩:=he2 (by omega)
 exact⟨f1.trans e1,f2.trans e2,f3.trans e3⟩
theorem Zaw.refl(S:Nat→Nat→Prop)(w:World):Zaw S w S w:=fun _ _ _ h k=>⟨h,k⟩
theorem Zaw.trans{S w S1 w1 S2 w2}(h:Zaw S w S1 w1)(k:Zaw S1 w1 S2 w2):Zaw S w S2 w2:=fun b o u h1 h2=>let ⟨a,c⟩:=h b o u h1 h2;k b o u a c
structure Zrh (β:Bet) (m:Mem) (w:World) (β':Bet) (m':Mem) (w':World):Prop where
 blk:∀ id x,m id=some x→∃ y,m' id=some y∧x.ver≤y.ver∧(y.ver=x.ver→y.k=x.k∧y.es.length=x.es.length∧β' id=β id)
 cap:∀ b n,Zd7 w b n→Zd7 w' b n
theorem Rep.mono0{β m S w β' m' S' w'}{x:Value}{d:D}(hm:Zrh β m w β' m' w')(hs:Zaw S w S' w')(h:Rep β m S w x d):Rep β' m' S' w' x d:=by
 induction h generalizing β' m' with
 | v x=>exact .v x
 | nil=>exact .nil
 | agg vs l hl _ ih=>exact .agg vs l hl fun i x d h1 h2=>ih i x d h1 h2 hm
 | tup vs l hl _ ih=>exact .tup vs l hl fun i x d h1 h2=>ih i x d h1 h2 hm
 | sl0 a cap hc=>exact .sl0 a cap hc
 | sl b off cap k es val h1 h2 h3 h4 _ ih=>exact .sl b off cap k es val h1 h2 h3 (fun i j d hd=>hs _ _ _ (h4 i j d hd).1 (h4 i j d hd).2) fun i j d hd=>ih i j d hd ⟨fun _ _ h=>(by cases h),hm.cap⟩
 | cl a es _ ih=>exact .cl a es (ih ⟨fun _ _ h=>(by cases h),hm.cap⟩)
 | ep b off k i o es val h3 h4 _ ih=>exact .ep b off k i o es val h3 (fun i j d hd=>hs _ _ _ (h4 i j d hd).1 (h4 i j d hd).2) fun i j d hd=>ih i j d hd ⟨fun _ _ h=>(by cases h),hm.cap⟩
 | ls a n cap id ver blk hb hv hx h =>
   obtain⟨y,hy,hv2,he⟩:=hm.blk id blk hb
   refine .ls a n cap id ver y hy (Yc7 hv hv2) (fun e=>hx (by omega)) fun e=>?_
   have e':ver=blk.ver:=by omega
   obtain⟨e1,e2,e3⟩:=he (by omega)
   obtain⟨h1,h2,h3,h4⟩:=h e'
   refine⟨h1.trans e2.symm,h2,h3,?_⟩
   rcases h4 with⟨h4,h5⟩|⟨b,h4,h5,h6⟩
   ·exact .inl ⟨e3.trans h4,h5⟩
   ·exact .inr ⟨b,e3.trans h4,h5,by rw[e1];exact hm.cap _ _ h6⟩
 | lp b p id ver i o blk hb hv h =>
   obtain⟨y,hy,hv2,he⟩:=hm.blk id blk hb
   refine .lp b p id ver i o y hy (Yc7 hv hv2) fun e=>?_
   have e':ver=blk.ver:=by omega
   obtain⟨e1,e2,e3⟩:=he (by omega)
   obtain⟨h4,h5⟩:=h e'
   exact⟨e3.trans h4,by rw[e1];exact h5⟩
 | clo f vs l hl _ ih=>exact .clo f vs l hl fun i x d h1 h2=>ih i x d h1 h2 hm
 | junk x=>exact .junk x
theorem Rep.mono{β m S w β' m' S' w'}{x:Value}{d:D}(hm:Za7 β m w β' m' w')(hs:Zaw S w S' w')(h:Rep β m S w x d):Rep β' m' S' w' x d:=h.mono0 ⟨hm.blk,fun b n hr=>hm.cap b (.inl n) hr⟩ hs
theorem Rep.lift{β m S w}{x:Value}{d:D}(h:Rep noB noM S w x d):Rep β m S w x d:=h.mono ⟨fun _ _ h=>(by cases h),fun _ _ h=>h⟩ (Zaw.refl _ _)
section
variable {β:Bet} {m:Mem} {S:Nat→Nat→Prop} {w:World} {x:Value}
theorem Rep.inv_v{y:Value}(h:Rep β m S w x (.v y)):x=y:=by cases h;rfl
theorem Rep.inv_cl{es:List (List D)}(h:Rep β m S w x (.cl es)):∃ a,x = .slice a es.length es.length∧Rep noB noM S w x (.sl es):=by cases h with|cl a es h=>exact⟨a,rfl,h⟩
theorem Rep.inv_nil(h:Rep β m S w x .nil):x = .slice none 0 0:=by cases h;rfl
theorem Rep.inv_agg{l:List D}(h:Rep β m S w x (.agg l)):∃ vs:List Value,x = .agg vs.toArray∧vs.length=l.length∧∀ (i:Nat)(y:Value)(d:D),vs[i]? =some y→l[i]? =some d→Rep β m S w y d:=by cases h;exact⟨_,rfl,by assumption,by assumption⟩
theorem Rep.inv_tup{l:List D}(h:Rep β m S w x (.tup l)):∃ vs:List Value,x = .tuple vs.toArray∧vs.length=l.length∧∀ (i:Nat)(y:Value)(d:D),vs[i]? =some y→l[i]? =some d→Rep β m S w y d:=by cases h;exact⟨_,rfl,by assumption,by assumption⟩
theorem Rep.inv_clo{f:FuncId}{l:List D}(h:Rep β m S w x (.clo f l)):∃ vs:List Value,x = .func (.func f) #[] vs.toArray∧vs.length=l.length∧∀ (i:Nat)(y:Value)(d:D),vs[i]? =some y→l[i]? =some d→Rep β m S w y d:=by cases h;exact⟨_,rfl,by assumption,by assumption⟩
def Zvy(S:Nat→Nat→Prop)(w:World)(b off k:Nat)(es:List (List D)):Prop :=
 (∀ (i:Nat)(e:List D),es[i]? =some e→e.length=k)∧∀ (i j:Nat)(d:D),cellAt es i j=some d→∃ u,S b (off+i*k+j)∧w.cell? ⟨b,off+i*k+j,none⟩=some u∧Rep noB noM S w u d
theorem Rep.inv_sl{es:List (List D)}(h:Rep β m S w x (.sl es)):∃ a cap,x = .slice a es.length cap∧cap≤maxLen∧es.length≤cap∧(es=[]∨∃ b off k,a=some ⟨b,off,none⟩∧Zvy S w b off k es):=by
 cases h with
 | sl0 a cap hc=>exact⟨a,cap,rfl,hc,Yb0 _,.inl rfl⟩
 | sl b off cap k es val h1 h2 h3 h4 h5=>exact⟨_,cap,rfl,h2,h1,.inr ⟨b,off,k,rfl,h3,fun i j d hd=>⟨val i j,(h4 i j d hd).1,(h4 i j d hd).2,h5 i j d hd⟩⟩⟩
theorem Rep.inv_ep{es:List (List D)}{i o:Nat}(h:Rep β m S w x (.ep es i o)):∃ b off k,x = .pointer (some ⟨b,off+i*k+o,none⟩)∧Zvy S w b off k es:=by
 cases h with
 | ep b off k i o es val h3 h4 h5=>exact⟨b,off,k,rfl,h3,fun i j d hd=>⟨val i j,(h4 i j d hd).1,(h4 i j d hd).2,h5 i j d hd⟩⟩
theorem Rep.inv_ls{id ver:Nat}(h:Rep β m S w x (.ls id ver)):∃ a n cap blk,x = .slice a n cap∧m id=some blk∧ver≤blk.ver ∧
 (ver=blk.ver→n=blk.es.length∧n≤cap∧cap≤maxLen∧((β id=none∧a=none∧cap=0)∨∃ b,β id=some b∧a=some ⟨b,0,none⟩∧Zd7 w b (cap*blk.k))):=by
 cases h with
 | ls a n cap id ver blk hb hv hx h=>exact⟨a,n,cap,blk,rfl,hb,hv,h⟩
theorem Rep.inv_lsx{id ver:Nat}(h:Rep β m S w x (.ls id ver)):∃ a n cap blk,x = .slice a n cap∧m id=some blk∧ver≤blk.ver∧(ver=blk.ver→ver=0→cap=n) ∧
 (ver=blk.ver→n=blk.es.length∧n≤cap∧cap≤maxLen∧((β id=none∧a=none∧cap=0)∨∃ b,β id=some b∧a=some ⟨b,0,none⟩∧Zd7 w b (cap*blk.k))):=by
 cases h with
 | ls a n cap id ver blk hb hv hx h=>exact⟨a,n,cap,blk,rfl,hb,hv,hx,h⟩
theorem Rep.inv_lp{id ver i o:Nat}(h:Rep β m S w x (.lp id ver i o)):∃ b p blk,x = .pointer (some ⟨b,p,none⟩)∧m id=some blk∧ver≤blk.ver∧(ver=blk.ver→β id=some b∧p=i*blk.k+o):=by
 cases h with
 | lp b p id ver i o blk hb hv h=>exact⟨b,p,blk,rfl,hb,hv,h⟩
theorem ZkV{b off k cap:Nat}{es:List (List D)}(h:Zvy S w b off k es)(h1:es.length≤cap)(h2:cap≤maxLen):Rep β m S w (.slice (some ⟨b,off,none⟩) es.length cap) (.sl es):=by
 refine .sl b off cap k es (fun i j=>(w.cell? ⟨b,off+i*k+j,none⟩).getD undef) h1 h2 h.1 (fun i j d hd=>?_) (fun i j d hd=>?_)
 ·obtain⟨u,h3,h4,h5⟩:=h.2 i j d hd
  exact⟨h3,by rw[h4];rfl⟩
 ·obtain⟨u,h3,h4,h5⟩:=h.2 i j d hd
  rw[h4];exact h5
theorem Zp7{b off k:Nat}{es:List (List D)}(h:Zvy S w b off k es)(i o:Nat):Rep β m S w (.pointer (some ⟨b,off+i*k+o,none⟩)) (.ep es i o):=by
 refine .ep b off k i o es (fun i j=>(w.cell? ⟨b,off+i*k+j,none⟩).getD undef) h.1 (fun i j d hd=>?_) (fun i j d hd=>?_)
 ·obtain⟨u,h3,h4,h5⟩:=h.2 i j d hd
  exact⟨h3,by rw[h4];rfl⟩
 ·obtain⟨u,h3,h4,h5⟩:=h.2 i j d hd
  rw[h4];exact h5
end
structure Env where
 S0:Nat→Nat→Prop
 w0:World
 fresh:∀ b o,w0.heap.size≤b→S0 b o
 ints:Ifl.i=true→∀ b cs fr o,w0.heap[b]? =some (.cells cs 3 fr)→S0 b o
def safe(E:Env)(β:Bet)(m:Mem)(b o:Nat):Prop:=E.S0 b o∧∀ id blk,m id=some blk→β id=some b→o<blk.fz*blk.k∨blk.dead=true
structure ZaK (E:Env) (β:Bet) (m:Mem) (nx:Nat) (w:World):Prop where
 below:Below E.w0.heap.size E.w0 w
 lt:∀ id blk,m id=some blk→id<nx
 fz:∀ id blk,m id=some blk→blk.fz≤blk.es.length
 wid:∀ id blk,m id=some blk→∀ (i:Nat)(e:List D),blk.es[i]? =some e→e.length=blk.k
 non:∀ id blk,m id=some blk→β id=none→blk.es=[]
 row:∀ id blk b,m id=some blk→β id=some b→E.w0.heap.size≤b∧∃ cs,w.heap[b]? =some (.cells cs blk.T (0,0))∧blk.es.length*blk.k≤cs.size ∧
  ∀ (i j:Nat)(d:D),cellAt blk.es i j=some d→∃ u,cs[i*blk.k+j]? =some u∧Rep β m (safe E β m) w u d
 inj:∀ id1 id2 x y b,m id1=some x→m id2=some y→β id1=some b→β id2=some b→id1=id2
theorem Zak{es:List (List D)}{i j:Nat}{d:D}:cellAt es i j=some d↔∃ e,es[i]? =some e∧e[j]? =some d:=by
 unfold cellAt
 cases es[i]? <;> simp
end ifl
section ifl
variable [Ifl]
def upd{α:Type}(f:Nat→α)(k:Nat)(x:α):Nat→α:=fun j=>if j=k then x else f j
theorem Zac{α:Type}(f:Nat→α)(k:Nat)(x:α):upd f k x k=x:=by simp[upd]
theorem Zab{α:Type}(f:Nat→α){k j:Nat}(x:α)(h:j≠k):upd f k x j=f j:=by simp[upd,h]
def ZbU(E:Env)(β:Bet)(m:Mem)(nx:Nat)(w:World)(m':Mem)(v:Value)(d:D)(w':World):Prop :=
 ∃ β',ZaK E β' m' nx w'∧Za7 β m w β' m' w'∧Zaw (safe E β m) w (safe E β' m') w'∧Rep β' m' (safe E β' m') w' v d
theorem ZbU.same{E β m nx w v d}(h:ZaK E β m nx w)(hv:Rep β m (safe E β m) w v d):ZbU E β m nx w m v d w :=
 ⟨β,h,Za7.refl _ _ _,Zaw.refl _ _,hv⟩
theorem ZaK.mono_nx{E β m nx nx' w}(h:ZaK E β m nx w)(hn:nx≤nx'):ZaK E β m nx' w :=
 ⟨h.below,fun id b hb=>Nat.lt_of_lt_of_le (h.lt id b hb) hn,h.fz,h.wid,h.non,h.row,h.inj⟩
theorem ZaK.none{E β m nx w}(h:ZaK E β m nx w):m nx=none:=by
 cases hm:m nx with
 | none=>rfl
 | some b=>exact absurd (h.lt _ _ hm) (Nat.lt_irrefl _)
theorem Zcr{w:World}{b:Nat}{cs:Array Value}{T:TypeId}{fr:Nat×Nat}(h:w.heap[b]? =some (.cells cs T fr))(o:Nat):w.cell? ⟨b,o,none⟩=cs[o]?:=cell_of_row w b o cs T fr h
theorem Zib{w:World}{b o:Nat}{u:Value}(h:w.cell? ⟨b,o,none⟩=some u):b<w.heap.size:=block_lt_of_cell h
theorem ZjB{w:World}{b n:Nat}(h:Zd7 w b n):b<w.heap.size:=by
 obtain⟨cs,T,fr,h,_⟩:=h
 exact(Ya5.1 h).1
theorem ZoJ{w w':World}(h:∀ b,b<w.heap.size→w'.heap[b]? =w.heap[b]?){b n:Nat}(hr:Zd7 w b n):Zd7 w' b n:=by
 have hl:=ZjB hr
 obtain⟨cs,T,fr,hg,hn⟩:=hr
 exact⟨cs,T,fr,by rw[h b hl];exact hg,hn⟩
theorem Zh0{w w':World}(h:∀ b,b<w.heap.size→w'.heap[b]? =w.heap[b]?){b:Nat}{n:Nat ⊕ Obj}(hr:ZvV w b n):ZvV w' b n:=by
 cases n with
 | inl n=>exact ZoJ h hr
 | inr o=>exact⟨hr.1,by rw[h b (Ya5.1 hr.2).1];exact hr.2⟩
theorem Zn8{es:List (List D)}{i j:Nat}{d:D}(h:cellAt es i j=some d):i<es.length:=by
 obtain⟨e,he,_⟩:=Zak.1 h
 exact(Ya3.1 he).1
theorem ZdH{es:List (List D)}{k:Nat}(hk:∀ (i:Nat)(e:List D),es[i]? =some e→e.length=k){i j:Nat}{d:D}(h:cellAt es i j=some d):j<k:=by
 obtain⟨e,he,hj⟩:=Zak.1 h
 have:=(Ya3.1 hj).1
 rw[hk i e he]at this
 exact this
theorem ZiD{i j k n:Nat}(hi:i<n)(hj:j<k):i*k+j<n*k:=by
 have:i*k+k≤n*k:=by rw[← Nat.succ_mul];exact Nat.mul_le_mul_right _ hi
 omega
theorem ZeI{E β m nx w w'}(h:ZaK E β m nx w)(hb:Below w.heap.size w w'):ZaK E β m nx w'∧Za7 β m w β m w'∧Zaw (safe E β m) w (safe E β m) w':=by
 have hk:∀ b,b<w.heap.size→w'.heap[b]? =w.heap[b]?:=hb.block
 have hs:Zaw (safe E β m) w (safe E β m) w':=fun b o u h1 h2=>⟨h1,(hb.cell (p:=⟨b,o,none⟩) (Zib h2)).trans h2⟩
 have hm:Za7 β m w β m w':=⟨fun _ x hx=>⟨x,hx,Ya4 _,fun _=>⟨rfl,rfl,rfl⟩⟩,fun b n hr=>Zh0 hk hr⟩
 refine⟨⟨h.below.trans (hb.mono h.below.size),h.lt,h.fz,h.wid,h.non,fun id blk b h1 h2=>?_,h.inj⟩,hm,hs⟩
 obtain⟨h3,cs,h4,h5,h6⟩:=h.row id blk b h1 h2
 refine⟨h3,cs,by rw[hk b (Ya5.1 h4).1];exact h4,h5,fun i j d hd=>?_⟩
 obtain⟨u,h7,h8⟩:=h6 i j d hd
 exact⟨u,h7,h8.mono hm hs⟩
theorem Zzv{E β m nx w}(h:ZaK E β m nx w){id:Nat}(hid:m id=none)(hlt:id<nx)(blk:Blk)(cs:Array Value)(hfz:blk.fz≤blk.es.length)
 (hwid:∀ (i:Nat)(e:List D),blk.es[i]? =some e→e.length=blk.k) (hsz:blk.es.length*blk.k≤cs.size)
 (hcs:∀ (i j:Nat)(d:D),cellAt blk.es i j=some d→∃ u,cs[i*blk.k+j]? =some u∧Rep β m (safe E β m) w u d) {w1:World} (hw1:Below w.heap.size w w1) :
 ZaK E (upd β id (some w1.heap.size)) (upd m id (some blk)) nx (w1.alloc (.cells cs blk.T))∧Za7 β m w (upd β id (some w1.heap.size)) (upd m id (some blk)) (w1.alloc (.cells cs blk.T)) ∧
  Zaw (safe E β m) w (safe E (upd β id (some w1.heap.size)) (upd m id (some blk))) (w1.alloc (.cells cs blk.T)):=by
 have hB:Below w.heap.size w (w1.alloc (.cells cs blk.T)):=hw1.alloc hw1.size _
 have hk:∀ b,b<w.heap.size→(w1.alloc (.cells cs blk.T)).heap[b]? =w.heap[b]?:=hB.block
 have hne:∀ x y,m x=some y→x≠id:=fun x y hx e=>by rw[e,hid]at hx;cases hx
 have hm:Za7 β m w (upd β id (some w1.heap.size)) (upd m id (some blk)) (w1.alloc (.cells cs blk.T)):=by
  refine⟨fun x y hx=>⟨y,by rw[Zab _ _ (hne x y hx)];exact hx,Ya4 _,fun _=>⟨rfl,rfl,by rw[Zab _ _ (hne x y hx)]⟩⟩,fun b n hr=>Zh0 hk hr⟩
 have hs:Zaw (safe E β m) w (safe E (upd β id (some w1.heap.size)) (upd m id (some blk))) (w1.alloc (.cells cs blk.T)):=by
  intro b o u h1 h2
  have hl:=Zib h2
  refine⟨⟨h1.1,fun x y hx hy=>?_⟩,(hB.cell (p:=⟨b,o,none⟩) hl).trans h2⟩
  by_cases e:x=id
  ·subst e
   rw[Zac]at hy
   simp only[Ya1]at hy
   have:=hw1.size
   omega
  ·rw[Zab _ _ e]at hx hy
   exact h1.2 x y hx hy
 have hblt:∀ x y b,m x=some y→β x=some b→b<w.heap.size:=fun x y b hx hb=>by
  obtain⟨_,cs,h4,_⟩:=h.row x y b hx hb
  exact(Ya5.1 h4).1
 refine⟨⟨h.below.trans (hB.mono h.below.size),?_,?_,?_,?_,?_,?_⟩,hm,hs⟩
 ·intro x y hx
  by_cases e:x=id
  ·subst e;exact hlt
  ·rw[Zab _ _ e]at hx;exact h.lt x y hx
 ·intro x y hx
  by_cases e:x=id
  ·subst e;rw[Zac]at hx;cases hx;exact hfz
  ·rw[Zab _ _ e]at hx;exact h.fz x y hx
 ·intro x y hx
  by_cases e:x=id
  ·subst e;rw[Zac]at hx;cases hx;exact hwid
  ·rw[Zab _ _ e]at hx;exact h.wid x y hx
 ·intro x y hx hb
  by_cases e:x=id
  ·subst e;rw[Zac]at hb;cases hb
  ·rw[Zab _ _ e]at hx hb;exact h.non x y hx hb
 ·intro x y b hx hb
  by_cases e:x=id
  ·subst e
   rw[Zac]at hx hb
   cases hx
   cases hb
   refine⟨Yc7 h.below.size hw1.size,cs,heap_alloc_new _ _,hsz,fun i j d hd=>?_⟩
   obtain⟨u,h1,h2⟩:=hcs i j d hd
   exact⟨u,h1,h2.mono hm hs⟩
  ·rw[Zab _ _ e]at hx hb
   obtain⟨h3,cs',h4,h5,h6⟩:=h.row x y b hx hb
   refine⟨h3,cs',by rw[hk b (hblt x y b hx hb)];exact h4,h5,fun i j d hd=>?_⟩
   obtain⟨u,h7,h8⟩:=h6 i j d hd
   exact⟨u,h7,h8.mono hm hs⟩
 ·intro x1 x2 y1 y2 b h1 h2 h3 h4
  by_cases e1:x1=id
  ·by_cases e2:x2=id
   ·rw[e1,e2]
   ·subst e1
    rw[Zac]at h3
    rw[Zab _ _ e2]at h2 h4
    cases h3
    have:=hblt x2 y2 _ h2 h4
    have:=hw1.size
    omega
  ·by_cases e2:x2=id
   ·subst e2
    rw[Zac]at h4
    rw[Zab _ _ e1]at h1 h3
    cases h4
    have:=hblt x1 y1 _ h1 h3
    have:=hw1.size
    omega
   ·rw[Zab _ _ e1]at h1 h3
    rw[Zab _ _ e2]at h2 h4
    exact h.inj x1 x2 y1 y2 b h1 h2 h3 h4
theorem Zo7{E β m nx w}(h:ZaK E β m nx w){id b:Nat}{blk blk':Blk}(hm0:m id=some blk)(hb0:β id=some b)(cs':Array Value){cs:Array Value}(hcs0:w.heap[b]? =some (.cells cs blk.T (0,0)))
 (hdead:blk.dead=false) (hT:blk'.T=blk.T) (hk:blk'.k=blk.k) (hv:blk.ver≤blk'.ver) (hfz:blk.fz≤blk'.fz) (hfl:blk'.fz≤blk'.es.length) (hver:blk'.ver=blk.ver→blk'.es.length=blk.es.length)
 (hsz:cs'.size=cs.size) (hlen:blk'.es.length*blk'.k≤cs'.size)
 (hold:∀ o,o<blk.fz*blk.k→cs'[o]? =cs[o]?)
 (hwid:∀ (i:Nat)(e:List D),blk'.es[i]? =some e→e.length=blk.k)
 (hnew:∀ (i j:Nat)(d:D),cellAt blk'.es i j=some d→∃ u,cs'[i*blk.k+j]? =some u∧Rep β m (safe E β m) w u d)
 {w':World} (hw':w'.heap[b]? =some (.cells cs' blk.T (0,0))) (hoth:∀ k,k≠b→k<w.heap.size→w'.heap[k]? =w.heap[k]?) (hbl:∀ B,B≤b→B≤w.heap.size→Below B w w') :
 ZaK E β (upd m id (some blk')) nx w'∧Za7 β m w β (upd m id (some blk')) w'∧Zaw (safe E β m) w (safe E β (upd m id (some blk'))) w':=by
 obtain⟨hB,_⟩:=h.row id blk b hm0 hb0
 have hm:Za7 β m w β (upd m id (some blk')) w':=by
  refine⟨fun x y hx=>?_,fun c n hr=>?_⟩
  ·by_cases e:x=id
   ·subst e
    rw[hm0]at hx;cases hx
    exact⟨blk',Zac _ _ _,hv,fun e=>⟨hk,hver e,rfl⟩⟩
   ·exact⟨y,by rw[Zab _ _ e];exact hx,Ya4 _,fun _=>⟨rfl,rfl,rfl⟩⟩
  ·by_cases e:c=b
   ·subst e
    cases n with
    | inl n =>
      obtain⟨cs1,T1,fr1,h1,h2⟩:=hr
      rw[hcs0]at h1
      cases h1
      exact⟨cs',_,_,hw',hsz.trans h2⟩
    | inr o =>
      have h1:=hr.2
      rw[hcs0]at h1
      cases h1
      exact absurd rfl (hr.1 _ _ _)
   ·cases n with
    | inl n =>
      obtain⟨cs1,T1,fr1,h1,h2⟩:=hr
      exact⟨cs1,T1,fr1,by rw[hoth c e (Ya5.1 h1).1];exact h1,h2⟩
    | inr o=>exact⟨hr.1,by rw[hoth c e (Ya5.1 hr.2).1];exact hr.2⟩
 have hs:Zaw (safe E β m) w (safe E β (upd m id (some blk'))) w':=by
  intro c o u h1 h2
  have hl:=Zib h2
  refine⟨⟨h1.1,fun x y hx hy=>?_⟩,?_⟩
  ·by_cases e:x=id
   ·subst e
    rw[Zac]at hx
    cases hx
    have:=(h1.2 x blk hm0 hy).resolve_right (by rw[hdead];exact Yc5)
    rw[hk]
    exact .inl (Nat.lt_of_lt_of_le this (Nat.mul_le_mul_right _ hfz))
   ·rw[Zab _ _ e]at hx
    exact h1.2 x y hx hy
  ·by_cases e:c=b
   ·subst e
    have:=(h1.2 id blk hm0 hb0).resolve_right (by rw[hdead];exact Yc5)
    rw[Zcr hcs0]at h2
    rw[Zcr hw',hold o this]
    exact h2
   ·rw[World.cell?_of_block (w:=w) (a:=⟨c,o,none⟩) (hoth c e hl)]
    exact h2
 refine⟨⟨h.below.trans (hbl _ hB h.below.size),?_,?_,?_,?_,?_,?_⟩,hm,hs⟩
 ·intro x y hx
  by_cases e:x=id
  ·subst e;exact h.lt x blk hm0
  ·rw[Zab _ _ e]at hx;exact h.lt x y hx
 ·intro x y hx
  by_cases e:x=id
  ·subst e;rw[Zac]at hx;cases hx;exact hfl
  ·rw[Zab _ _ e]at hx;exact h.fz x y hx
 ·intro x y hx
  by_cases e:x=id
  ·subst e;rw[Zac]at hx;cases hx;rw[hk];exact hwid
  ·rw[Zab _ _ e]at hx;exact h.wid x y hx
 ·intro x y hx hb
  by_cases e:x=id
  ·subst e;rw[hb0]at hb;cases hb
  ·rw[Zab _ _ e]at hx;exact h.non x y hx hb
 ·intro x y c hx hb
  by_cases e:x=id
  ·subst e
   rw[Zac]at hx
   cases hx
   rw[hb0]at hb
   cases hb
   refine⟨hB,cs',by rw[hT];exact hw',hlen,fun i j d hd=>?_⟩
   obtain⟨u,h1,h2⟩:=hnew i j d hd
   exact⟨u,by rw[hk];exact h1,h2.mono hm hs⟩
  ·rw[Zab _ _ e]at hx
   have hcb:c≠b:=fun ec=>e (h.inj x id y blk c hx hm0 hb (by rw[ec];exact hb0))
   obtain⟨h3,cs1,h4,h5,h6⟩:=h.row x y c hx hb
   refine⟨h3,cs1,by rw[hoth c hcb (Ya5.1 h4).1];exact h4,h5,fun i j d hd=>?_⟩
   obtain⟨u,h7,h8⟩:=h6 i j d hd
   exact⟨u,h7,h8.mono hm hs⟩
 ·intro x1 x2 y1 y2 c h1 h2 h3 h4
  have g1:∃ z,m x1=some z:=by
   by_cases e:x1=id
   ·exact⟨blk,by rw[e];exact hm0⟩
   ·rw[Zab _ _ e]at h1;exact⟨_,h1⟩
  have g2:∃ z,m x2=some z:=by
   by_cases e:x2=id
   ·exact⟨blk,by rw[e];exact hm0⟩
   ·rw[Zab _ _ e]at h2;exact⟨_,h2⟩
  obtain⟨z1,g1⟩:=g1
  obtain⟨z2,g2⟩:=g2
  exact h.inj x1 x2 z1 z2 c g1 g2 h3 h4
theorem Zqt{E β m nx w}(h:ZaK E β m nx w){id:Nat}{blk blk':Blk}(hm0:m id=some blk)(hver:blk.ver<blk'.ver)(cs:Array Value)
 (hfl:blk'.fz≤blk'.es.length) (hwid:∀ (i:Nat)(e:List D),blk'.es[i]? =some e→e.length=blk'.k) (hsz:blk'.es.length*blk'.k≤cs.size)
 (hnew:∀ (i j:Nat)(d:D),cellAt blk'.es i j=some d→∃ u,cs[i*blk'.k+j]? =some u∧Rep β m (safe E β m) w u d)
 {w1:World} (hw1:Below w.heap.size w w1) :
 ZaK E (upd β id (some w1.heap.size)) (upd m id (some blk')) nx (w1.alloc (.cells cs blk'.T))∧Za7 β m w (upd β id (some w1.heap.size)) (upd m id (some blk')) (w1.alloc (.cells cs blk'.T)) ∧
  Zaw (safe E β m) w (safe E (upd β id (some w1.heap.size)) (upd m id (some blk'))) (w1.alloc (.cells cs blk'.T)):=by
 have hB:Below w.heap.size w (w1.alloc (.cells cs blk'.T)):=hw1.alloc hw1.size _
 have hk:∀ b,b<w.heap.size→(w1.alloc (.cells cs blk'.T)).heap[b]? =w.heap[b]?:=hB.block
 have hblt:∀ x y b,m x=some y→β x=some b→b<w.heap.size:=fun x y b hx hb=>by
  obtain⟨_,cs,h4,_⟩:=h.row x y b hx hb
  exact(Ya5.1 h4).1
 have hm:Za7 β m w (upd β id (some w1.heap.size)) (upd m id (some blk')) (w1.alloc (.cells cs blk'.T)):=by
  refine⟨fun x y hx=>?_,fun b n hr=>Zh0 hk hr⟩
  by_cases e:x=id
  ·subst e
   rw[hm0]at hx;cases hx
   exact⟨blk',Zac _ _ _,Nat.le_of_lt hver,fun e=>by omega⟩
  ·exact⟨y,by rw[Zab _ _ e];exact hx,Ya4 _,fun _=>⟨rfl,rfl,by rw[Zab _ _ e]⟩⟩
 have hs:Zaw (safe E β m) w (safe E (upd β id (some w1.heap.size)) (upd m id (some blk'))) (w1.alloc (.cells cs blk'.T)):=by
  intro b o u h1 h2
  have hl:=Zib h2
  refine⟨⟨h1.1,fun x y hx hy=>?_⟩,(hB.cell (p:=⟨b,o,none⟩) hl).trans h2⟩
  by_cases e:x=id
  ·subst e
   rw[Zac]at hy
   simp only[Ya1]at hy
   have:=hw1.size
   omega
  ·rw[Zab _ _ e]at hx hy
   exact h1.2 x y hx hy
 refine⟨⟨h.below.trans (hB.mono h.below.size),?_,?_,?_,?_,?_,?_⟩,hm,hs⟩
 ·intro x y hx
  by_cases e:x=id
  ·subst e;exact h.lt x blk hm0
  ·rw[Zab _ _ e]at hx;exact h.lt x y hx
 ·intro x y hx
  by_cases e:x=id
  ·subst e;rw[Zac]at hx;cases hx;exact hfl
  ·rw[Zab _ _ e]at hx;exact h.fz x y hx
 ·intro x y hx
  by_cases e:x=id
  ·subst e;rw[Zac]at hx;cases hx;exact hwid
  ·rw[Zab _ _ e]at hx;exact h.wid x y hx
 ·intro x y hx hb
  by_cases e:x=id
  ·subst e;rw[Zac]at hb;cases hb
  ·rw[Zab _ _ e]at hx hb;exact h.non x y hx hb
 ·intro x y b hx hb
  by_cases e:x=id
  ·subst e
   rw[Zac]at hx hb
   cases hx
   cases hb
   refine⟨Yc7 h.below.size hw1.size,cs,heap_alloc_new _ _,hsz,fun i j d hd=>?_⟩
   obtain⟨u,h1,h2⟩:=hnew i j d hd
   exact⟨u,h1,h2.mono hm hs⟩
  ·rw[Zab _ _ e]at hx hb
   obtain⟨h3,cs',h4,h5,h6⟩:=h.row x y b hx hb
   refine⟨h3,cs',by rw[hk b (hblt x y b hx hb)];exact h4,h5,fun i j d hd=>?_⟩
   obtain⟨u,h7,h8⟩:=h6 i j d hd
   exact⟨u,h7,h8.mono hm hs⟩
 ·intro x1 x2 y1 y2 b h1 h2 h3 h4
  by_cases e1:x1=id
  ·by_cases e2:x2=id
   ·rw[e1,e2]
   ·subst e1
    rw[Zac]at h3
    rw[Zab _ _ e2]at h2 h4
    cases h3
    have:=hblt x2 y2 _ h2 h4
    have:=hw1.size
    omega
  ·by_cases e2:x2=id
   ·subst e2
    rw[Zac]at h4
    rw[Zab _ _ e1]at h1 h3
    cases h4
    have:=hblt x1 y1 _ h1 h3
    have:=hw1.size
    omega
   ·rw[Zab _ _ e1]at h1 h3
    rw[Zab _ _ e2]at h2 h4
    exact h.inj x1 x2 y1 y2 b h1 h2 h3 h4
theorem Zqw{E β m nx w}(h:ZaK E β m nx w){id:Nat}{blk:Blk}(hm0:m id=some blk) :
 ZaK E β (upd m id (some {blk with dead:=true})) nx w∧Za7 β m w β (upd m id (some {blk with dead:=true})) w∧Zaw (safe E β m) w (safe E β (upd m id (some {blk with dead:=true}))) w:=by
 have hm:Za7 β m w β (upd m id (some {blk with dead:=true})) w:=by
  refine⟨fun x y hx=>?_,fun _ _ h=>h⟩
  by_cases e:x=id
  ·subst e
   rw[hm0]at hx;cases hx
   exact⟨_,Zac _ _ _,Ya4 _,fun _=>⟨rfl,rfl,rfl⟩⟩
  ·exact⟨y,by rw[Zab _ _ e];exact hx,Ya4 _,fun _=>⟨rfl,rfl,rfl⟩⟩
 have hs:Zaw (safe E β m) w (safe E β (upd m id (some {blk with dead:=true}))) w:=by
  intro b o u h1 h2
  refine⟨⟨h1.1,fun x y hx hy=>?_⟩,h2⟩
  by_cases e:x=id
  ·subst e;rw[Zac]at hx;cases hx;exact .inr rfl
  ·rw[Zab _ _ e]at hx;exact h1.2 x y hx hy
 have hget:∀ x y,upd m id (some {blk with dead:=true}) x=some y→∃ z,m x=some z∧y.T=z.T∧y.k=z.k∧y.es=z.es∧y.fz=z.fz:=by
  intro x y hx
  by_cases e:x=id
  ·subst e;rw[Zac]at hx;cases hx;exact⟨blk,hm0,rfl,rfl,rfl,rfl⟩
  ·rw[Zab _ _ e]at hx;exact⟨y,hx,rfl,rfl,rfl,rfl⟩
 refine⟨⟨h.below,?_,?_,?_,?_,?_,?_⟩,hm,hs⟩
 ·intro x y hx
  obtain⟨z,hz,_⟩:=hget x y hx
  exact h.lt x z hz
 ·intro x y hx
  obtain⟨z,hz,e1,e2,e3,e4⟩:=hget x y hx
  rw[e3,e4];exact h.fz x z hz
 ·intro x y hx
  obtain⟨z,hz,e1,e2,e3,e4⟩:=hget x y hx
  rw[e3,e2];exact h.wid x z hz
 ·intro x y hx hb
  obtain⟨z,hz,e1,e2,e3,e4⟩:=hget x y hx
  rw[e3];exact h.non x z hz hb
 ·intro x y b hx hb
  obtain⟨z,hz,e1,e2,e3,e4⟩:=hget x y hx
  obtain⟨h3,cs',h4,h5,h6⟩:=h.row x z b hz hb
  rw[e1,e2,e3]
  refine⟨h3,cs',h4,h5,fun i j d hd=>?_⟩
  obtain⟨u,h7,h8⟩:=h6 i j d hd
  exact⟨u,h7,h8.mono hm hs⟩
 ·intro x1 x2 y1 y2 b h1 h2 h3 h4
  obtain⟨z1,hz1,_⟩:=hget x1 y1 h1
  obtain⟨z2,hz2,_⟩:=hget x2 y2 h2
  exact h.inj x1 x2 z1 z2 b hz1 hz2 h3 h4
end ifl
section ifl
variable [Ifl]
def ZfW:Value→D
 | .slice none 0 0=>.nil
 | x=>.v x
theorem ZjF{β m S w}(x:Value):Rep β m S w x (ZfW x):=by
 unfold ZfW
 split
 ·exact .nil
 ·exact .v _
def rd(t:Nat→D):Operand→D
 | .tmp k=>t k
 | .const x=>ZfW x
 | .global _=>.junk
 | .func f=>.clo f []
structure TyI where
 kind:Nat
 size:Nat
 bytes:Nat
 zero:Option (List D)
 elem:TypeId
 ik:Option IntKind
 fields:List (Nat×Nat×Bool)
def TyI.agg(i:TyI):Bool:=i.kind==1||i.kind==3
def Zdk:TypeDesc→Nat
 | .struct _=>1
 | .slice _=>2
 | .array _ _=>3
 | .string=>4
 | .int _=>5
 | .bool=>6
 | _=>0
def ZdX(P:Program)(f:Field):Option (Nat×Nat×Bool) :=
 match P.info? f.type,P.underlying f.type with
 | some i,some d=>some (f.offset,i.size,Zdk d==1||Zdk d==3)
 | _,_=>none
def tyOf(P:Program)(t:TypeId):Option TyI :=
 match P.info? t,P.underlying t with
 | some i,some d=>some
   { kind:=Zdk d,size:=i.size,bytes:=i.bytes,zero:=i.zero.map fun z=>z.cells.toList.map ZfW
     elem:=match d with | .slice e=>e|_=>0
     ik:=match d with | .int k=>some k|_=>none
     fields:=match d with | .struct fs=>(fs.toList.map fun f=>(ZdX P f).getD (0,0,false))|_=>[]}
 | _,_=>none
structure Res where
 ok:Prop
 d:D
 rd:List Nat
 wr:List (Nat×Blk)
 new:List Nat
def ov(m:Mem):List (Nat×Blk)→Mem
 | []=>m
 | p ::l=>ov (upd m p.1 (some p.2)) l
abbrev Res.pure(d:D):Res:=⟨True,d,[],[],[]⟩
def D.isCell:D→Bool
 | .v x=>x.oneCell'
 | .agg _ | .tup _ | .junk=>false
 | _=>true
def D.cells? :D→Option (List D)
 | .agg l=>some l
 | .tup _=>none
 | .junk=>none
 | .v x=>if x.oneCell' then some [.v x]else none
 | d=>some [d]
def ldE(es:List (List D))(i off:Nat)(ty:TyI):Option D :=
 match es[i]? with
 | none=>none
 | some e=>if ty.agg then(if off+ty.size≤e.length then some (.agg ((e.drop off).take ty.size))else none)else e[off]?
def binD(op:BinOp)(x y:D):Option (Prop×D) :=
 match op,x,y with
 | .shr,.v (.int k a),.v (.int _ b)=>some (0≤b,.v (.int k (a.fdiv (2^min b.toNat k.bits))))
 | .shl,.v (.int k a),.v (.int _ b)=>some (0≤b,.v (.int k (k.wrap (a*2^min b.toNat k.bits))))
 | op, .v (.int k a), .v (.int k' b) => if k = k' then
     match op with
     | .add=>some (True,.v (.int k (k.wrap (a+b))))
     | .sub=>some (True,.v (.int k (k.wrap (a-b))))
     | .mul=>some (True,.v (.int k (k.wrap (a*b))))
     | .quo=>some (b≠0,.v (.int k (k.wrap (a.tdiv b))))
     | .rem=>some (b≠0,.v (.int k (a.tmod b)))
     | .eql=>some (True,.v (.bool (a==b)))
     | .neq=>some (True,.v (.bool (a !=b)))
     | .lss=>some (True,.v (.bool (decide (a<b))))
     | .leq=>some (True,.v (.bool (decide (a≤b))))
     | .gtr=>some (True,.v (.bool (decide (a>b))))
     | .geq=>some (True,.v (.bool (decide (a≥b))))
     | .or=>some (True,.v (.int k (k.wrap (BitVec.ofInt k.bits a ||| BitVec.ofInt k.bits b).toNat)))
     | .and=>some (True,.v (.int k (k.wrap (BitVec.ofInt k.bits a &&& BitVec.ofInt k.bits b).toNat)))
     | .xor=>some (True,.v (.int k (k.wrap (BitVec.ofInt k.bits a ^^^ BitVec.ofInt k.bits b).toNat)))
     | _=>none
   else none
 | op, .v (.string a), .v (.string b) =>
     match op with
     | .eql=>some (True,.v (.bool (a.toList==b.toList)))
     | .neq=>some (True,.v (.bool (!(a.toList==b.toList))))
     | .lss=>some (True,.v (.bool (Op.bytesLess a.toList b.toList)))
     | .add=>some (((a.size+b.size:Nat):Int)≤9223372036854775807,.v (.string (a++b)))
     | _=>none
 | _,_,_=>none
def unD(op:UnOp)(x:D):Option D :=
 match op,x with
 | .not,.v (.bool b)=>some (.v (.bool !b))
 | .neg,.v (.int k n)=>some (.v (.int k (k.wrap (0-n))))
 | _,_=>none
def eqTy(P:Program)(t:TypeId):Bool :=
 match P.underlying t with
 | some (.struct fs) => !P.stoodInHeld t && (!P.eqGuardType P.depth t && ((fs.toList.all fun f => f.name != "_" && (match P.underlying f.type with | some (.int .i64) => true | _ => false)) && (decide (fs.toList.map (·.offset) = List.range fs.toList.length) && decide ((P.info? t).map (·.size) = some fs.toList.length))))
 | _=>false
def eqL:List D→List D→Option Bool
 | [],[]=>some true
 | .v (.int .i64 a) ::l,.v (.int .i64 b) ::m=>(eqL l m).map fun c=>(a==b)&&c
 | _,_=>none
def ZrU(P:Program)(t:TypeId):Bool :=
 match P.underlying t with
 | some (.pointer _)=>true
 | _=>false
def Zvh(se ptr:Bool)(op:BinOp)(ty:TyI)(x y:D):Option D :=
 match op,x,y with
 | .eql,.ep _ _ _,.v (.pointer none)=>if ptr=true then some (.v (.bool false))else none
 | .neq,.ep _ _ _,.v (.pointer none)=>if ptr=true then some (.v (.bool true))else none
 | .eql,.lp _ _ _ _,.v (.pointer none)=>if ptr=true then some (.v (.bool false))else none
 | .neq,.lp _ _ _ _,.v (.pointer none)=>if ptr=true then some (.v (.bool true))else none
 | .eql,.v (.pointer p),.v (.pointer none)=>if ptr=true then some (.v (.bool p.isNone))else none
 | .neq,.v (.pointer p),.v (.pointer none)=>if ptr=true then some (.v (.bool (!p.isNone)))else none
 | .eql,.agg a,.agg b=>if se=true∧a.length=ty.size then(eqL a b).map fun c=>.v (.bool c)else none
 | .eql,.v (.bool a),.v (.bool b)=>if ty.kind=6 then some (.v (.bool (a==b)))else none
 | .neq,.v (.bool a),.v (.bool b)=>if ty.kind=6 then some (.v (.bool (!(a==b))))else none
 | .eql,.sl (_ ::_),.nil=>if ty.kind=2 then some (.v (.bool false))else none
 | _,_,_=>none
def ZbJ(m:Mem)(id ver:Nat):Option Blk :=
 match m id with
 | some b=>if ver=b.ver then some b else none
 | none=>none
def Zc6(e:List D)(off:Nat)(c:List D):List D:=e.take off++c++e.drop (off+c.length)
def Zic(ty:TyI)(x:D)(m:Mem):Option Res :=
 match x with
 | .ep es i off=>(ldE es i off ty).map .pure
 | .lp id ver i off=>match ZbJ m id ver with
   | some b=>(ldE b.es i off ty).map fun d=>⟨True,d,[id],[],[]⟩
   | none=>none
 | _=>none
def ZgA(ty:TyI)(x y:D)(m:Mem):Option Res :=
 match x,y.cells? with
 | .lp id ver i off,some c=>match ZbJ m id ver with
   | some b=>match b.es[i]? with
     | some e => if b.dead = false ∧ c.length = ty.size ∧ c.all D.isCell = true ∧ b.fz ≤ i ∧ off + c.length ≤ e.length then
         some ⟨True,.v undef,[id],[(id,{b with es:=b.es.set i (Zc6 e off c)})],[]⟩else none
     | none=>none
   | none=>none
 | _,_=>none
def ZdG(ty:TyI)(x:D)(f:Nat):Option Res :=
 match (if ty.kind=1 then ty.fields[f]? else none)with
 | some (o,n,_)=>if n=0 then none else match x with
   | .lp id ver i off=>some (.pure (.lp id ver i (off+o)))
   | .ep es i off=>some (.pure (.ep es i (off+o)))
   | _=>none
 | none=>none
def Zlo(ty:TyI)(x:D)(f:Nat):Option Res :=
 match (if ty.kind=1 then ty.fields[f]? else none),x with
 | some (o,n,ag),.agg l=>if n=0 then none else(if ag=true then(if o+n≤l.length then some (.agg ((l.drop o).take n))else none)else l[o]?).map .pure
 | _,_=>none
def Zci(ty et:TyI)(x ix:D)(m:Mem):Option Res :=
 if ty.kind=2 then
  match ix with
  | .v (.int _ n)=>match x with
    | .sl es=>match es[n.toNat]? with
      | some e=>if e.length=et.size then some ⟨0≤n,.ep es n.toNat 0,[],[],[]⟩else none
      | none=>none
    | .ls id ver=>match ZbJ m id ver with
      | some b=>match b.es[n.toNat]? with
        | some e=>if e.length=et.size then some ⟨0≤n,.lp id ver n.toNat 0,[id],[],[]⟩else none
        | none=>none
      | none=>none
    | _=>none
  | _=>none
 else none
def ZiX(o:Option D)(dflt:Nat):Option Int :=
 match o with
 | none=>some dflt
 | some (.v (.int _ n))=>some n
 | _=>none
def ZkQ(et:TyI)(x:D)(lo hi:Option D):Option Res :=
 match x with
 | .sl es=>match ZiX lo 0,ZiX hi es.length with
   | some l,some h=>some ⟨(∀ e∈es,e.length=et.size)∧0≤l∧l≤h∧h≤es.length,.sl ((es.take h.toNat).drop l.toNat),[],[],[]⟩
   | _,_=>none
 | _=>none
def Zeu(x:D)(lo hi:Option D):Option Res :=
 match x with
 | .v (.string s)=>match ZiX lo 0,ZiX hi s.size with
   | some l,some h=>some ⟨0≤l∧l≤h∧h≤s.size,.v (.string (s.extract l.toNat h.toNat)),[],[],[]⟩
   | _,_=>none
 | _=>none
def Zlg(ty:TyI)(x ix:D):Option Res :=
 if ty.kind=4 then
  match x,ix with
  | .v (.string s),.v (.int _ n)=>match s[n.toNat]? with
    | some b=>some ⟨0≤n,.v (.int .u8 b.toNat),[],[],[]⟩
    | none=>none
  | _,_=>none
 else none
def Zkk(place:Nat→Option (Nat×Nat))(c:List D):List (Nat×D)→Option (List D)
 | []=>some c
 | (i,x) ::rest=>match place i,x.cells? with
   | some (o,n),some y=>if y.length=n∧o+n≤c.length then Zkk place (Zc6 c o y) rest else none
   | _,_=>none
def Zlt(ty:TyI)(parts:List (Nat×D)):Option Res :=
 if ty.kind=1∧ty.fields.all (fun f=>f.2.1 !=0)=true then
  match ty.zero with
  | some z=>(Zkk (fun i=>(ty.fields[i]?).map fun f=>(f.1,f.2.1)) z parts).map fun c=>.pure (.agg c)
  | none=>none
 else none
def Zkm(k:Nat):Nat→List (Nat×D)→Option (List (List D))
 | _,[]=>some []
 | n,(i,x) ::rest=>match x.cells? with
   | some y=>if i=n∧y.length=k then(Zkm k (n+1) rest).map (y::·)else none
   | none=>none
def ZcB(ty et:TyI)(len:Nat)(parts:List (Nat×D))(nx:Nat):Option Res :=
 if ty.kind=2∧parts.length=len∧len*et.size≤16777216∧et.zero.isSome=true∧len≤9007199254740992 then
  match Zkm et.size 0 parts with
  | some es=>some ⟨True,.ls nx 0,[],[(nx,⟨ty.elem,0,et.size,es,0,false⟩)],[nx]⟩
  | none=>none
 else none
def Zkv(T:TypeId)(ty:TyI)(nx:Nat):Option Res :=
 match ty.zero with
 | some z=>some ⟨True,.lp nx 0 0 0,[],[(nx,⟨T,0,z.length,[z],0,false⟩)],[nx]⟩
 | none=>none
def boxF(T:TypeId)(x:D)(nx:Nat):Option Res :=
 match x.cells? with
 | some c=>some ⟨True,.lp nx 0 0 0,[],[(nx,⟨T,0,c.length,[c],0,false⟩)],[nx]⟩
 | none=>none
def Zda(ty et:TyI)(l c:D)(nx:Nat):Option Res :=
 if ty.kind=2 then
  match l,c,et.zero with
  | .v (.int _ l), .v (.int _ c), some z => if z.length = et.size then
      some ⟨0≤l∧l≤c∧(et.bytes:Int)*c≤140737488355328∧c≤9007199254740992,.ls nx 1,[],[(nx,⟨ty.elem,1,et.size,List.replicate l.toNat z,0,false⟩)],[nx]⟩else none
  | _,_,_=>none
 else none
def lenF(ty:TyI)(x:D)(m:Mem):Option Res :=
 match x with
 | .sl es=>if ty.kind=2 then some (.pure (.v (.int .i64 es.length)))else none
 | .nil=>if ty.kind=2 then some (.pure (.v (.int .i64 0)))else none
 | .ls id ver=>if ty.kind=2 then(match ZbJ m id ver with
   | some b=>some ⟨True,.v (.int .i64 b.es.length),[id],[],[]⟩
   | none=>none)else none
 | .v (.string s)=>if ty.kind=4 then some (.pure (.v (.int .i64 s.size)))else none
 | _=>none
def ZfR(m:Mem):D→Option (List (List D)×List Nat)
 | .sl es=>some (es,[])
 | .nil=>some ([],[])
 | .ls id ver=>match ZbJ m id ver with
   | some b=>some (b.es,[id])
   | none=>none
 | _=>none
def Zfj(ty et:TyI)(s x:D)(m:Mem)(nx:Nat):Option Res :=
 if ty.kind=2∧0<et.size∧(et.zero.map (·.length))=some et.size then
  match ZfR m x with
  | some (es,r)=>match s with
    | .nil => some ⟨(∀ e ∈ es, e.length = et.size ∧ e.all D.isCell = true) ∧ (es.length : Int) * et.bytes ≤ 140737488355328 ∧ (es.length : Int) ≤ 9007199254740992,
        .ls nx 1,r,[(nx,⟨ty.elem,1,et.size,es,0,false⟩)],[nx]⟩
    | .cl es0 => some ⟨(∀ e ∈ es0, e.length = et.size ∧ e.all D.isCell = true) ∧ (∀ e ∈ es, e.length = et.size ∧ e.all D.isCell = true) ∧ ((es0.length + es.length : Nat) : Int) * et.bytes ≤ 140737488355328 ∧ ((es0.length + es.length : Nat) : Int) ≤ 9007199254740992 ∧ 0 < es.length,
        .ls nx 1,r,[(nx,⟨ty.elem,1,et.size,es0++es,0,false⟩)],[nx]⟩
    | .ls id ver=>match ZbJ m id ver with
      | some b => if b.dead = false ∧ b.T = ty.elem ∧ b.k = et.size then
          some ⟨(∀ e∈es,e.length=et.size∧e.all D.isCell=true)∧((b.es.length+es.length:Nat):Int)*et.bytes≤140737488355328∧((b.es.length+es.length:Nat):Int)≤9007199254740992,
           .ls id (ver+1),id ::r,[(id,{b with ver:=ver+1,es:=b.es++es})],[]⟩
        else if b.dead=true∧b.T=ty.elem∧b.k=et.size∧ver=0 then
         some ⟨(∀ e∈es,e.length=et.size∧e.all D.isCell=true)∧((b.es.length+es.length:Nat):Int)*et.bytes≤140737488355328∧((b.es.length+es.length:Nat):Int)≤9007199254740992∧0<es.length,
          .ls nx 1,id ::r,[(nx,⟨ty.elem,1,et.size,b.es++es,0,false⟩)],[nx]⟩else none
      | none=>none
    | _=>none
  | none=>none
 else none
def ZgO(mx:Bool)(l:List D):Option Res :=
 match l with
 | [.v (.int k x),.v (.int k' y)]=>if k=k' then some (.pure (.v (.int k (if mx then(if y>x then y else x)else(if y<x then y else x)))))else none
 | _=>none
def Zgn(src dst:TyI)(x:D):Option Res :=
 match dst.ik,x with
 | some k,.v (.int _ n)=>if dst.kind=5∧src.kind=5 then some (.pure (.v (.int k (k.wrap n))))else none
 | _,_=>none
def opF(P:Program)(o:Op)(t:Nat→D)(m:Mem)(nx:Nat):Option Res :=
 match o with
 | .move x | .assign x=>some (.pure (rd t x))
 | .pick c a b=>match rd t c with
   | .v (.bool c)=>some (.pure (if c then rd t a else rd t b))
   | _=>none
 | .alloc T=>match tyOf P T with
   | some ty=>Zkv T ty nx
   | none=>none
 | .box T x=>boxF T (rd t x) nx
 | .load T x=>match tyOf P T with
   | some ty=>Zic ty (rd t x) m
   | none=>none
 | .store T x y=>match tyOf P T with
   | some ty=>ZgA ty (rd t x) (rd t y) m
   | none=>none
 | .fieldAddr T x f=>match tyOf P T with
   | some ty=>ZdG ty (rd t x) f
   | none=>none
 | .field T x f=>match tyOf P T with
   | some ty=>Zlo ty (rd t x) f
   | none=>none
 | .indexAddr T x i=>match tyOf P T with
   | some ty=>match tyOf P ty.elem with
     | some et=>Zci ty et (rd t x) (rd t i) m
     | none=>none
   | none=>none
 | .index T x i=>match tyOf P T with
   | some ty=>Zlg ty (rd t x) (rd t i)
   | none=>none
 | .slice T x lo hi none=>match tyOf P T with
   | some ty => if ty.kind = 2 then (match tyOf P ty.elem with
       | some et=>ZkQ et (rd t x) (lo.map (rd t)) (hi.map (rd t))
       | none=>none)
     else if ty.kind=4 then Zeu (rd t x) (lo.map (rd t)) (hi.map (rd t))else none
   | none=>none
 | .build T ps=>match tyOf P T with
   | some ty=>Zlt ty (ps.toList.map fun p=>(p.1,rd t p.2))
   | none=>none
 | .buildSlice T n ps=>match tyOf P T with
   | some ty=>match tyOf P ty.elem with
     | some et=>ZcB ty et n (ps.toList.map fun p=>(p.1,rd t p.2)) nx
     | none=>none
   | none=>none
 | .makeSlice T l c=>match tyOf P T with
   | some ty=>match tyOf P ty.elem with
     | some et=>Zda ty et (rd t l) (rd t c) nx
     | none=>none
   | none=>none
 | .extract x i=>match rd t x with
   | .tup l=>(l[i]?).map .pure
   | _=>none
 | .nilCheck x=>match rd t x with
   | .lp id ver i off=>some (.pure (.lp id ver i off))
   | .ep es i off=>some (.pure (.ep es i off))
   | _=>none
 | .unOp op _ x=>(unD op (rd t x)).map .pure
 | .binOp op T x y _=>match binD op (rd t x) (rd t y)with
   | some (q,d)=>some ⟨q,d,[],[],[]⟩
   | none=>match tyOf P T with
     | some ty=>(Zvh (eqTy P T) (ZrU P T) op ty (rd t x) (rd t y)).map .pure
     | none=>none
 | .convert a b x=>match tyOf P a,tyOf P b with
   | some src,some dst=>Zgn src dst (rd t x)
   | _,_=>none
 | .makeFunc (.func f) first cap=>if first.size=0 then some (.pure (.clo f (cap.toList.map (rd t))))else none
 | .call {callee:=.builtin .len,args,argTypes}=>match args.toList,argTypes[0]? with
   | [x],some T=>match tyOf P T with
     | some ty=>lenF ty (rd t x) m
     | none=>none
   | _,_=>none
 | .call {callee:=.builtin .append,args,argTypes}=>match args.toList,argTypes.toList with
   | [x,y],[T,U]=>if T=U then match tyOf P T with
     | some ty=>match tyOf P ty.elem with
       | some et=>Zfj ty et (rd t x) (rd t y) m nx
       | none=>none
     | none=>none else none
   | _,_=>none
 | .call {callee:=.builtin .max,args,argTypes:=_}=>ZgO true (args.toList.map (rd t))
 | .call {callee:=.builtin .min,args,argTypes:=_}=>ZgO false (args.toList.map (rd t))
 | _=>none
end ifl
section ifl
variable [Ifl]
theorem Zfk(b o n:Nat):(⟨b,o,none⟩:Addr).add n=⟨b,o+n,none⟩:=by unfold Addr.add;split<;>simp_all
structure TyAt (P:Program) (T:TypeId) (ty:TyI) (i:TypeInfo) (d:TypeDesc):Prop where
 info:P.info? T=some i
 und:P.underlying T=some d
 kind:ty.kind=Zdk d
 size:ty.size=i.size
 bytes:ty.bytes=i.bytes
 zero:ty.zero=i.zero.map fun z=>z.cells.toList.map ZfW
 elem:∀ e,d = .slice e→ty.elem=e
 ik:∀ k,ty.ik=some k→d = .int k
 flds:∀ fs,d = .struct fs→ty.fields=fs.toList.map fun f=>(ZdX P f).getD (0,0,false)
theorem tyAt{P:Program}{T:TypeId}{ty:TyI}(h:tyOf P T=some ty):∃ i d,TyAt P T ty i d:=by
 unfold tyOf at h
 split at h
 ·rename_i i d hi hd
  simp only[Ya1]at h
  subst h
  refine⟨i,d,hi,hd,rfl,rfl,rfl,rfl,?_,?_,?_⟩
  ·rintro e rfl;rfl
  ·intro k hk
   cases d<;>simp at hk
   subst hk;rfl
  ·rintro fs rfl;rfl
 ·cases h
section
variable {P:Program} {T:TypeId} {ty:TyI} {i:TypeInfo} {d:TypeDesc}
theorem TyAt.run_isAgg(h:TyAt P T ty i d)(w:World):(isAgg T).run P w = .ok ty.agg w:=by
 unfold isAgg
 simp only[Sem.run_bind,run_underlying h.und,Result.andThen_ok]
 unfold TyI.agg
 rw[h.kind]
 cases d<;>rfl
theorem TyAt.run_size(h:TyAt P T ty i d)(w:World):(sizeOf T).run P w = .ok ty.size w:=by
 simp[sizeOf,typeInfo,h.info,h.size]
theorem TyAt.run_und(h:TyAt P T ty i d)(w:World):(underlying T).run P w = .ok d w:=run_underlying h.und w
theorem TyAt.struct(h:TyAt P T ty i d)(hk:ty.kind=1):∃ fs,d = .struct fs:=by
 rw[h.kind]at hk
 cases d<;>simp[Zdk]at hk
 exact⟨_,rfl⟩
theorem TyAt.slice(h:TyAt P T ty i d)(hk:ty.kind=2):d = .slice ty.elem:=by
 rw[h.kind]at hk
 cases d<;>simp[Zdk]at hk
 rw[h.elem _ rfl]
theorem TyAt.string(h:TyAt P T ty i d)(hk:ty.kind=4):d = .string:=by
 rw[h.kind]at hk
 cases d<;>simp[Zdk]at hk
 rfl
theorem TyAt.int(h:TyAt P T ty i d)(hk:ty.kind=5):∃ k,d = .int k:=by
 rw[h.kind]at hk
 cases d<;>simp[Zdk]at hk
 exact⟨_,rfl⟩
theorem TyAt.bool(h:TyAt P T ty i d)(hk:ty.kind=6):d = .bool:=by
 rw[h.kind]at hk
 cases d<;>simp[Zdk]at hk
 rfl
end
section
variable {P:Program} {β:Bet} {m:Mem} {S:Nat→Nat→Prop} {w:World}
theorem ZqC{T:TypeId}{ty:TyI}(hty:tyOf P T=some ty){es:List (List D)}{b base k i off:Nat}{d:D}(hw:∀ (i:Nat)(e:List D),es[i]? =some e→e.length=k)
 (hc:∀ (i j:Nat)(d:D),cellAt es i j=some d→∃ u,w.cell? ⟨b,base+i*k+j,none⟩=some u∧Rep β m S w u d) (h:ldE es i off ty=some d) :
 ∃ u,(loadVar T ⟨b,base+i*k+off,none⟩).run P w = .ok u w∧Rep β m S w u d:=by
 obtain⟨inf,de,ht⟩:=tyAt hty
 unfold ldE at h
 split at h
 ·cases h
 ·rename_i e he
  unfold loadVar
  simp only[Sem.run_bind,ht.run_isAgg,Result.andThen_ok]
  split at h
  ·rename_i hag
   rw[if_pos (by simpa using hag)]
   split at h
   ·rename_i hlen
    simp only[Ya1]at h
    subst h
    have hcell:∀ j,j<ty.size→∃ u d,e[off+j]? =some d∧w.cell? ⟨b,base+i*k+(off+j),none⟩=some u∧Rep β m S w u d:=by
     intro j hj
     have hlt:off+j<e.length:=by omega
     obtain⟨u,h1,h2⟩:=hc i (off+j) e[off+j] (Zak.2 ⟨e,he,Ya0 hlt⟩)
     exact⟨u,_,Ya0 hlt,h1,h2⟩
    let f:Nat→Value:=fun j=>(w.cell? ⟨b,base+i*k+off+j,none⟩).getD undef
    have hf:∀ j,j<ty.size→w.cell? ((⟨b,base+i*k+off,none⟩:Addr).add j)=some (f j):=by
     intro j hj
     obtain⟨u,d,h0,h1,h2⟩:=hcell j hj
     rw[Zfk]
     simp only[f,Nat.add_assoc]at h1 ⊢
     rw[h1];rfl
    have hl:=run_loadCells (P:=P) w ⟨b,base+i*k+off,none⟩ ty.size f hf
    simp only[Sem.run_bind,ht.run_size,Result.andThen_ok,hl,Sem.run_pure]
    refine⟨_,rfl,.agg _ _ (by simp;omega) (fun j x d hx hd=>?_)⟩
    rw[List.getElem?_take]at hd
    split at hd
    ·rename_i hj
     rw[List.getElem?_drop]at hd
     obtain⟨u,d',h0,h1,h2⟩:=hcell j hj
     rw[hd]at h0
     cases h0
     rw[Yb8,List.getElem?_range hj]at hx
     simp only[Yd0,Ya1,f]at hx
     rw[Nat.add_assoc,h1]at hx
     simp only[Option.getD_some]at hx
     subst hx
     exact h2
    ·cases hd
   ·cases h
  ·rename_i hag
   rw[if_neg (by simpa using hag)]
   obtain⟨u,h1,h2⟩:=hc i off d (Zak.2 ⟨e,he,h⟩)
   refine⟨u,?_,h2⟩
   simp[load,Sem.run,h1]
theorem Zts{x:Value}{d:D}{c:List D}(h:Rep β m S w x d)(hc:d.cells? =some c):∃ vs:List Value,x.cells=vs.toArray∧vs.length=c.length∧∀ (i:Nat)(y:Value)(d:D),vs[i]? =some y→c[i]? =some d→Rep β m S w y d:=by
 have one:x.oneCell'=true→c=[d]→∃ vs:List Value,x.cells=vs.toArray∧vs.length=c.length∧∀ (i:Nat)(y:Value)(d:D),vs[i]? =some y→c[i]? =some d→Rep β m S w y d:=by
  rintro h1 rfl
  refine⟨[x],?_,rfl,fun i y d' hy hd=>?_⟩
  ·cases x<;>first|rfl|cases h1
  ·cases i with
   | zero=>simp at hy hd;subst hy;subst hd;exact h
   | succ i=>simp at hy
 cases h with
 | v x =>
   simp only[D.cells?]at hc
   split at hc
   ·rename_i h1;simp only[Ya1]at hc;exact one h1 hc.symm
   ·cases hc
 | agg vs l hl h =>
   simp only[D.cells?,Ya1]at hc
   subst hc
   exact⟨vs,rfl,hl,h⟩
 | tup vs l hl h=>simp[D.cells?]at hc
 | junk x=>simp[D.cells?]at hc
 | nil=>simp only[D.cells?,Ya1]at hc;exact one rfl hc.symm
 | sl0 a cap hc=>simp only[D.cells?,Ya1]at hc;exact one rfl hc.symm
 | sl=>simp only[D.cells?,Ya1]at hc;exact one rfl hc.symm
 | cl=>simp only[D.cells?,Ya1]at hc;exact one rfl hc.symm
 | ep=>simp only[D.cells?,Ya1]at hc;exact one rfl hc.symm
 | ls=>simp only[D.cells?,Ya1]at hc;exact one rfl hc.symm
 | lp=>simp only[D.cells?,Ya1]at hc;exact one rfl hc.symm
 | clo=>simp only[D.cells?,Ya1]at hc;exact one rfl hc.symm
theorem ZjC{x:Value}{d:D}(h:Rep β m S w x d)(hc:d.isCell=true):x.oneCell'=true:=by
 cases h with
 | v x=>simpa[D.isCell]using hc
 | agg=>cases hc
 | tup=>cases hc
 | junk=>cases hc
 | _=>rfl
def Reps(β:Bet)(m:Mem)(S:Nat→Nat→Prop)(w:World)(vs:List Value)(ds:List D):Prop :=
 vs.length=ds.length∧∀ (i:Nat)(y:Value)(d:D),vs[i]? =some y→ds[i]? =some d→Rep β m S w y d
theorem Reps.nil:Reps β m S w [] []:=⟨rfl,by simp⟩
theorem Reps.cons{x:Value}{d:D}{vs:List Value}{ds:List D}(h:Rep β m S w x d)(hs:Reps β m S w vs ds):Reps β m S w (x ::vs) (d ::ds):=by
 refine⟨by simp[hs.1],fun i y d' hy hd=>?_⟩
 cases i with
 | zero=>simp at hy hd;subst hy;subst hd;exact h
 | succ i=>exact hs.2 i y d' (by simpa using hy) (by simpa using hd)
theorem Reps.append{vs us:List Value}{ds es:List D}(h:Reps β m S w vs ds)(k:Reps β m S w us es):Reps β m S w (vs++us) (ds++es):=by
 refine⟨by simp[h.1,k.1],fun i y d hy hd=>?_⟩
 by_cases hi:i<vs.length
 ·rw[Yc3 hi]at hy
  rw[Yc3 (by rw[← h.1];exact hi)]at hd
  exact h.2 i y d hy hd
 ·rw[Yc4 (by omega)]at hy
  rw[Yc4 (by rw[← h.1];omega),← h.1]at hd
  exact k.2 _ y d hy hd
theorem Reps.take{vs:List Value}{ds:List D}(h:Reps β m S w vs ds)(n:Nat):Reps β m S w (vs.take n) (ds.take n):=by
 refine⟨by simp[h.1],fun i y d hy hd=>?_⟩
 rw[List.getElem?_take]at hy hd
 split at hy
 ·rw[if_pos (by assumption)]at hd;exact h.2 i y d hy hd
 ·cases hy
theorem Reps.drop{vs:List Value}{ds:List D}(h:Reps β m S w vs ds)(n:Nat):Reps β m S w (vs.drop n) (ds.drop n):=by
 refine⟨by simp[h.1],fun i y d hy hd=>?_⟩
 rw[List.getElem?_drop]at hy hd
 exact h.2 _ y d hy hd
theorem Reps.get{vs:List Value}{ds:List D}(h:Reps β m S w vs ds){i:Nat}{d:D}(hd:ds[i]? =some d):∃ y,vs[i]? =some y∧Rep β m S w y d:=by
 have hi:i<vs.length:=by rw[h.1];exact(Ya3.1 hd).1
 exact⟨vs[i],Ya0 hi,h.2 i _ d (Ya0 hi) hd⟩
theorem Reps.mono{β' m' S' w'}{vs:List Value}{ds:List D}(hm:Za7 β m w β' m' w')(hs:Zaw S w S' w')(h:Reps β m S w vs ds):Reps β' m' S' w' vs ds:=⟨h.1,fun i y d hy hd=>(h.2 i y d hy hd).mono hm hs⟩
theorem Reps.rep_agg{vs:List Value}{ds:List D}(h:Reps β m S w vs ds):Rep β m S w (.agg vs.toArray) (.agg ds):=.agg _ _ h.1 h.2
theorem Reps.rep_tup{vs:List Value}{ds:List D}(h:Reps β m S w vs ds):Rep β m S w (.tuple vs.toArray) (.tup ds):=.tup _ _ h.1 h.2
theorem ZkU(l:List Value):Reps β m S w l (l.map ZfW):=by
 refine⟨by simp,fun i y d hy hd=>?_⟩
 rw[Yb8,hy]at hd
 simp at hd
 subst hd
 exact ZjF y
theorem Reps.splice{vs us:List Value}{ds es:List D}(h:Reps β m S w vs ds)(k:Reps β m S w us es)(off:Nat):Reps β m S w (vs.take off++us++vs.drop (off+us.length)) (Zc6 ds off es):=by
 unfold Zc6
 rw[k.1]
 exact((h.take off).append k).append (h.drop _)
theorem Zh5{x:Value}{d:D}{c:List D}(h:Rep β m S w x d)(hc:d.cells? =some c):∃ vs:List Value,x.cells=vs.toArray∧Reps β m S w vs c:=by
 obtain⟨vs,h1,h2,h3⟩:=Zts h hc
 exact⟨vs,h1,h2,h3⟩
end
end ifl
section ifl
variable [Ifl]
theorem ZaZ{m:Mem}{id ver:Nat}{b:Blk}(h:ZbJ m id ver=some b):m id=some b∧ver=b.ver:=by
 unfold ZbJ at h
 split at h
 ·rename_i b' hb
  split at h
  ·simp only[Ya1]at h;subst h;exact⟨hb,by assumption⟩
  ·cases h
 ·cases h
def Runs(P:Program)(E:Env)(β:Bet)(m:Mem)(nx:Nat)(w:World)(s:Sem Value)(r:Res):Prop :=
 ∃ v w',s.run P w = .ok v w'∧ZbU E β m nx w (ov m r.wr) v r.d w'
theorem Runs.pure{P E β m nx w}{s:Sem Value}{r:Res}(hM:ZaK E β m nx w)(hw:r.wr=[]){v:Value}(hr:s.run P w = .ok v w)(hv:Rep β m (safe E β m) w v r.d):Runs P E β m nx w s r :=
 ⟨v,w,hr,by rw[hw];exact ZbU.same hM hv⟩
section
variable {P:Program} {E:Env} {β:Bet} {m:Mem} {nx:Nat} {w:World}
theorem Zue(hM:ZaK E β m nx w){x:Value}{id ver i off:Nat}{b:Blk}(hx:Rep β m (safe E β m) w x (.lp id ver i off))(hb:ZbJ m id ver=some b) :
 ∃ B cs,β id=some B∧x = .pointer (some ⟨B,i*b.k+off,none⟩)∧w.heap[B]? =some (.cells cs b.T (0,0))∧b.es.length*b.k≤cs.size ∧
  (∀ (i j:Nat)(d:D),cellAt b.es i j=some d→∃ u,cs[i*b.k+j]? =some u∧Rep β m (safe E β m) w u d):=by
 obtain⟨h1,h2⟩:=ZaZ hb
 obtain⟨B,p,b',rfl,h3,h4,h5⟩:=hx.inv_lp
 rw[h1]at h3
 cases h3
 obtain⟨h6,rfl⟩:=h5 h2
 obtain⟨_,cs,h7,h8,h9⟩:=hM.row id b B h1 h6
 exact⟨B,cs,h6,rfl,h7,h8,h9⟩
theorem Zpa(hM:ZaK E β m nx w){x:Value}{id ver:Nat}{b:Blk}(hx:Rep β m (safe E β m) w x (.ls id ver))(hb:ZbJ m id ver=some b) :
 ∃ a cap,x = .slice a b.es.length cap∧b.es.length≤cap∧cap≤maxLen∧((β id=none∧a=none∧cap=0∧b.es=[])∨∃ B cs,β id=some B∧a=some ⟨B,0,none⟩∧w.heap[B]? =some (.cells cs b.T (0,0))∧cs.size=cap*b.k ∧
  (∀ (i j:Nat)(d:D),cellAt b.es i j=some d→∃ u,cs[i*b.k+j]? =some u∧Rep β m (safe E β m) w u d)):=by
 obtain⟨h1,h2⟩:=ZaZ hb
 obtain⟨a,n,cap,b',rfl,h3,h4,h5⟩:=hx.inv_ls
 rw[h1]at h3
 cases h3
 obtain⟨rfl,h7,h8,h9⟩:=h5 h2
 refine⟨a,cap,rfl,h7,h8,?_⟩
 rcases h9 with⟨g1,g2,g3⟩|⟨B,g1,g2,g3⟩
 ·exact .inl ⟨g1,g2,g3,hM.non id b h1 g1⟩
 ·obtain⟨_,cs,h10,h11,h12⟩:=hM.row id b B h1 g1
  obtain⟨cs',T',fr',g4,g5⟩:=g3
  rw[h10]at g4
  cases g4
  exact .inr ⟨B,cs,g1,g2,h10,g5,h12⟩
theorem ZwN{x:Value}{id:Nat}{b:Blk}{S:Nat→Nat→Prop}(hx:Rep β m S w x (.ls id 0))(hb:ZbJ m id 0=some b):∃ a,x = .slice a b.es.length b.es.length:=by
 obtain⟨h1,h2⟩:=ZaZ hb
 obtain⟨a,n,cap,b',rfl,h3,h4,h5,h6⟩:=hx.inv_lsx
 rw[h1]at h3
 cases h3
 obtain⟨rfl,_⟩:=h6 h2
 rw[h5 h2 rfl]
 exact⟨a,rfl⟩
theorem ZwP{T:TypeId}{ty:TyI}(hty:tyOf P T=some ty){x:Value}{d:D}{r:Res}(hM:ZaK E β m nx w)(hx:Rep β m (safe E β m) w x d)(h:Zic ty d m=some r) :
 Runs P E β m nx w (Instr.loadAt T x) r:=by
 unfold Zic at h
 split at h
 ·rename_i es i off
  cases hl:ldE es i off ty with
  | none=>rw[hl]at h;cases h
  | some d' =>
    rw[hl]at h
    simp only[Yd0,Ya1]at h
    subst h
    obtain⟨b,base,k,rfl,h1,h2⟩:=hx.inv_ep
    obtain⟨u,hr,hu⟩:=ZqC (P:=P) hty h1 (fun i j d hd=>let ⟨u,_,h4,h5⟩:=h2 i j d hd;⟨u,h4,h5.lift⟩) hl
    exact Runs.pure hM rfl (by simpa[Instr.loadAt,Instr.sureAddr]using hr) hu
 ·rename_i id ver i off
  split at h
  ·rename_i b hb
   cases hl:ldE b.es i off ty with
   | none=>rw[hl]at h;cases h
   | some d' =>
     rw[hl]at h
     simp only[Yd0,Ya1]at h
     subst h
     obtain⟨B,cs,g1,rfl,g2,g3,g4⟩:=Zue hM hx hb
     obtain⟨u,hr,hu⟩:=ZqC (P:=P) (b:=B) (base:=0) hty (hM.wid id b (ZaZ hb).1) (fun i j d hd=>by
      obtain⟨u,h4,h5⟩:=g4 i j d hd
      exact⟨u,by rw[Nat.zero_add,Zcr g2];exact h4,h5⟩) hl
     rw[Nat.zero_add]at hr
     exact Runs.pure hM rfl (by simpa[Instr.loadAt,Instr.sureAddr]using hr) hu
  ·cases h
 ·cases h
theorem ZiO{w:World}{b:Nat}{cs:Array Value}(B:Nat)(hB:B≤b):Below B w (w.setRow b cs) :=
 ⟨rfl,rfl,rfl,by simp,fun k hk=>setRow_other w b k cs (by omega)⟩
theorem ZmO{T:TypeId}{ty:TyI}(hty:tyOf P T=some ty){x y:Value}{d e:D}{r:Res}(hM:ZaK E β m nx w)(hx:Rep β m (safe E β m) w x d)(hy:Rep β m (safe E β m) w y e)(h:ZgA ty d e m=some r) :
 ∃ w',(Instr.storeAt T x y).run P w = .ok () w'∧ZbU E β m nx w (ov m r.wr) undef r.d w':=by
 unfold ZgA at h
 split at h
 ·rename_i id ver i off c hc
  split at h
  ·rename_i b hb
   split at h
   ·rename_i e0 he0
    split at h
    ·rename_i hcond
     obtain⟨hdead,q1,q2,q3,q4⟩:=hcond
     simp only[Ya1]at h
     subst h
     obtain⟨B,cs,g1,rfl,g2,g3,g4⟩:=Zue hM hx hb
     obtain⟨h1,h2⟩:=ZaZ hb
     obtain⟨vs,hv,hvs⟩:=Zh5 hy hc
     obtain⟨inf,de,ht⟩:=tyAt hty
     have hek:=hM.wid id b h1 i e0 he0
     have hil:i<b.es.length:=(Ya3.1 he0).1
     have hfit:i*b.k+off+vs.length≤cs.size:=by
      have h5:i*b.k+b.k≤b.es.length*b.k:=by rw[← Nat.succ_mul];exact Nat.mul_le_mul_right _ hil
      rw[hvs.1];omega
     have hone:∀ v∈vs,v.oneCell'=true:=by
      intro v hv'
      obtain⟨n,hn,rfl⟩:=List.getElem_of_mem hv'
      have hn2:n<c.length:=by rw[← hvs.1];exact hn
      exact ZjC (hvs.2 n _ c[n] (Ya0 hn) (Ya0 hn2)) (Ya6.1 q2 _ (List.getElem_mem hn2))
     have hrun:=run_storeCells_at P B (i*b.k+off) b.T vs 0 cs w g2 (by simpa using hfit) hone
     simp only[Nat.add_zero]at hrun
     have hsz:vs.length=ty.size:=by rw[hvs.1,q1]
     refine⟨w.setRow B (cs.toList.take (i*b.k+off)++vs++cs.toList.drop (i*b.k+off+vs.length)).toArray,?_,?_⟩
     ·unfold Instr.storeAt Instr.sureAddr storeVar
      simp only[Sem.run_bind,Sem.run_pure,Result.andThen_ok,ht.run_size,hv]
      rw[if_neg (by simp[hsz])]
      simpa using hrun
     ·have hspl:(Zc6 e0 off c).length=b.k:=by
       unfold Zc6
       simp only[Yb9,Yc1,List.length_drop]
       omega
      have hset:=Zo7 (blk':={b with es:=b.es.set i (Zc6 e0 off c)}) hM h1 g1 (cs.toList.take (i*b.k+off)++vs++cs.toList.drop (i*b.k+off+vs.length)).toArray g2 hdead rfl rfl (Ya4 _) (Ya4 _)
       (by simp;exact hM.fz id b h1) (by simp) (by simp;omega) (by simp;omega)
       (fun o ho=>by
         have h6:o<i*b.k+off:=by
          have:b.fz*b.k≤i*b.k:=Nat.mul_le_mul_right _ q3
          omega
         simp only[List.getElem?_toArray]
         rw[Yd3,Yc3 (by simp;omega),List.getElem?_take,if_pos h6]
         simp)
       (fun j e' he'=>by
         simp only[List.getElem?_set]at he'
         split at he'
         ·simp only[Ya1]at he';subst he';exact hspl
         ·exact hM.wid id b h1 j e' he')
       (fun i' j d' hd=>by
         obtain⟨e',he',hj⟩:=Zak.1 hd
         have hjk:j<b.k:=by
          have hlt:=(Ya3.1 hj).1
          simp only[List.getElem?_set]at he'
          split at he'
          ·simp only[Ya1]at he';subst he';rw[hspl]at hlt;exact hlt
          ·rw[hM.wid id b h1 i' e' he']at hlt;exact hlt
         simp only[List.getElem?_set]at he'
         simp only[List.getElem?_toArray]
         split at he'
         ·rename_i hii
          subst hii
          simp only[Ya1]at he'
          subst he'
          unfold Zc6 at hj
          by_cases c1:j<off
          ·rw[Yd3,Yc3 (by simp;omega),List.getElem?_take,if_pos c1]at hj
           rw[Yd3,Yc3 (by simp;omega),List.getElem?_take,if_pos (by omega)]
           obtain⟨u,hu,hr⟩:=g4 i j d' (Zak.2 ⟨e0,he0,hj⟩)
           exact⟨u,by simpa using hu,hr⟩
          ·by_cases c2:j<off+c.length
           ·rw[Yd3,Yc4 (by simp;omega),Yc3 (by simp;omega)]at hj
            simp only[Yc1,Nat.min_eq_left (show off≤e0.length by omega)]at hj
            obtain⟨u,hu,hr⟩:=hvs.get hj
            refine⟨u,?_,hr⟩
            rw[Yd3,Yc4 (by simp;omega),Yc3 (by simp;omega)]
            simp only[Yc1,Array.length_toList,Nat.min_eq_left (show i*b.k+off≤cs.size by omega)]
            rw[show i*b.k+j-(i*b.k+off)=j-off by omega]
            exact hu
           ·rw[Yc4 (by simp;omega),List.getElem?_drop]at hj
            simp only[Yb9,Yc1,Nat.min_eq_left (show off≤e0.length by omega)]at hj
            rw[show off+c.length+(j-(off+c.length))=j by omega]at hj
            obtain⟨u,hu,hr⟩:=g4 i j d' (Zak.2 ⟨e0,he0,hj⟩)
            refine⟨u,?_,hr⟩
            rw[Yc4 (by simp;omega),List.getElem?_drop]
            simp only[Yb9,Yc1,Array.length_toList,Nat.min_eq_left (show i*b.k+off≤cs.size by omega)]
            rw[show i*b.k+off+vs.length+(i*b.k+j-(i*b.k+off+vs.length))=i*b.k+j by omega]
            simpa using hu
         ·rename_i hii
          obtain⟨u,hu,hr⟩:=g4 i' j d' (Zak.2 ⟨e',he',hj⟩)
          refine⟨u,?_,hr⟩
          have hi'l:i'<b.es.length:=(Ya3.1 he').1
          rcases Nat.lt_or_ge i' i with hlt|hge
          ·have h7:=ZiD (k:=b.k) hlt hjk
           rw[Yd3,Yc3 (by simp;omega),List.getElem?_take,if_pos (by omega)]
           simpa using hu
          ·have h7:i*b.k+b.k≤i'*b.k:=by rw[← Nat.succ_mul];exact Nat.mul_le_mul_right _ (by omega)
           rw[Yc4 (by simp;omega),List.getElem?_drop]
           simp only[Yb9,Yc1,Array.length_toList,Nat.min_eq_left (show i*b.k+off≤cs.size by omega)]
           rw[show i*b.k+off+vs.length+(i'*b.k+j-(i*b.k+off+vs.length))=i'*b.k+j by omega]
           simpa using hu)
       (setRow_heap w B cs _ b.T _ g2) (fun k hk _=>setRow_other w B k _ hk) (fun B' hB' _=>ZiO B' hB')
      obtain⟨s1,s2,s3⟩:=hset
      exact⟨β,s1,s2,s3,.v _⟩
    ·cases h
   ·cases h
  ·cases h
 ·cases h
end
end ifl
section ifl
variable [Ifl]
section
variable {P:Program} {E:Env} {β:Bet} {m:Mem} {nx:Nat} {w:World}
theorem ZiI{P:Program}{f:Field}{n:Nat}{o:Nat}{ag:Bool}(h:(ZdX P f).getD (0,0,false)=(o,n,ag))(hn:n≠0) :
 o=f.offset∧∃ i d,P.info? f.type=some i∧P.underlying f.type=some d∧n=i.size∧ag=(Zdk d==1||Zdk d==3):=by
 unfold ZdX at h
 split at h
 ·rename_i i d hi hd
  simp only[Option.getD_some,Prod.mk.injEq]at h
  exact⟨h.1.symm,i,d,hi,hd,h.2.1.symm,h.2.2.symm⟩
 ·simp only[Option.getD_none,Prod.mk.injEq]at h
  exact absurd h.2.1.symm hn
theorem Zye{T:TypeId}{ty:TyI}{i:TypeInfo}{d:TypeDesc}(ht:TyAt P T ty i d){f:Nat}{o n:Nat}{ag:Bool}(h:(if ty.kind=1 then ty.fields[f]? else none)=some (o,n,ag)) :
 ∃ fs fl,d = .struct fs∧fs[f]? =some fl∧(ZdX P fl).getD (0,0,false)=(o,n,ag):=by
 split at h
 ·rename_i hk
  obtain⟨fs,rfl⟩:=ht.struct hk
  rw[ht.flds fs rfl,Yb8]at h
  cases hf:fs.toList[f]? with
  | none=>rw[hf]at h;cases h
  | some fl =>
    rw[hf]at h
    simp only[Yd0,Ya1]at h
    exact⟨fs,fl,rfl,by simpa using hf,h⟩
 ·cases h
theorem Zmh{T:TypeId}{ty:TyI}(hty:tyOf P T=some ty){x:Value}{d:D}{f:Nat}{r:Res}(hM:ZaK E β m nx w)(hx:Rep β m (safe E β m) w x d)(h:ZdG ty d f=some r) :
 Runs P E β m nx w (Instr.fieldAt T x f) r:=by
 obtain⟨inf,de,ht⟩:=tyAt hty
 unfold ZdG at h
 split at h
 ·rename_i o n ag hf
  obtain⟨fs,fl,rfl,hfl,hfo⟩:=Zye ht hf
  split at h
  ·cases h
  ·rename_i hn
   obtain⟨rfl,i,d,h1,h2,rfl,_⟩:=ZiI hfo hn
   have hrun:∀ b o,(Instr.fieldAt T (.pointer (some ⟨b,o,none⟩)) f).run P w = .ok (.pointer (some ⟨b,o+fl.offset,none⟩)) w:=by
    intro b o
    have hfl':fs[f]? =some fl:=hfl
    simp[Instr.fieldAt,ht.run_und,hfl',Instr.sureAddr,fieldPlace,sizeOf,typeInfo,h1,hn,Zfk]
   split at h
   ·rename_i id ver i off
    simp only[Ya1]at h
    subst h
    obtain⟨b,p,blk,rfl,h3,h4,h5⟩:=hx.inv_lp
    refine Runs.pure hM rfl (hrun b p) (.lp _ _ _ _ _ _ blk h3 h4 fun e=>?_)
    obtain⟨g1,g2⟩:=h5 e
    exact⟨g1,by omega⟩
   ·rename_i es i off
    simp only[Ya1]at h
    subst h
    obtain⟨b,base,k,rfl,h3⟩:=hx.inv_ep
    refine Runs.pure hM rfl (hrun b _) ?_
    rw[Nat.add_assoc]
    exact Zp7 h3 i _
   ·cases h
 ·cases h
theorem Zwo{T:TypeId}{i:TypeInfo}{d:TypeDesc}(h1:P.info? T=some i)(h2:P.underlying T=some d){vs:List Value}{l:List D}{S:Nat→Nat→Prop}(hvs:Reps β m S w vs l){o:Nat}{e:D}
 (h:(if (Zdk d==1||Zdk d==3)=true then(if o+i.size≤l.length then some (D.agg ((l.drop o).take i.size))else none)else l[o]?)=some e) :
 ∃ u,(part T vs.toArray o).run P w = .ok u w∧Rep β m S w u e:=by
 have hag:(isAgg T).run P w = .ok (Zdk d==1||Zdk d==3) w:=by
  unfold isAgg
  simp only[Sem.run_bind,run_underlying h2,Result.andThen_ok]
  cases d<;>rfl
 unfold part
 simp only[Sem.run_bind,hag,Result.andThen_ok]
 split at h
 ·rename_i hk
  rw[if_pos hk]
  split at h
  ·simp only[Ya1]at h
   subst h
   refine⟨_,by simp[sizeOf,typeInfo,h1];rfl,?_⟩
   exact((hvs.drop o).take i.size).rep_agg
  ·cases h
 ·rename_i hk
  rw[if_neg hk]
  obtain⟨u,hu,hr⟩:=hvs.get h
  refine⟨u,?_,hr⟩
  simp[hu]
theorem ZuK{T:TypeId}{ty:TyI}(hty:tyOf P T=some ty){x:Value}{d:D}{f:Nat}{r:Res}(hM:ZaK E β m nx w)(hx:Rep β m (safe E β m) w x d)(h:Zlo ty d f=some r) :
 Runs P E β m nx w (Instr.field T x f) r:=by
 obtain⟨inf,de,ht⟩:=tyAt hty
 unfold Zlo at h
 split at h
 ·rename_i o n ag l hf
  obtain⟨fs,fl,rfl,hfl,hfo⟩:=Zye ht hf
  obtain⟨vs,rfl,hvs⟩:=hx.inv_agg
  have hfl':fs[f]? =some fl:=hfl
  split at h
  ·cases h
  ·rename_i hn
   obtain⟨rfl,i,d,h1,h2,rfl,rfl⟩:=ZiI hfo hn
   cases he:(if (Zdk d==1||Zdk d==3)=true then(if fl.offset+i.size≤l.length then some (D.agg ((l.drop fl.offset).take i.size))else none)else l[fl.offset]?)with
   | none=>rw[he]at h;cases h
   | some e =>
     rw[he]at h
     simp only[Yd0,Ya1]at h
     subst h
     obtain⟨u,hu,hr⟩:=Zwo (P:=P) h1 h2 hvs he
     exact Runs.pure hM rfl (by simpa[Instr.field,ht.run_und,hfl',asAgg]using hu) hr
 ·cases h
theorem Zma{T:TypeId}{ty et:TyI}(hty:tyOf P T=some ty)(het:tyOf P ty.elem=some et){x y:Value}{d e:D}{r:Res}(hM:ZaK E β m nx w)(hx:Rep β m (safe E β m) w x d)(hy:Rep β m (safe E β m) w y e)
 (h:Zci ty et d e m=some r) (hok:r.ok):Runs P E β m nx w (Instr.indexAt T x y) r:=by
 obtain⟨inf,de,ht⟩:=tyAt hty
 obtain⟨inf2,de2,ht2⟩:=tyAt het
 unfold Zci at h
 split at h
 ·rename_i hk
  have hde:=ht.slice hk
  subst hde
  split at h
  ·rename_i ik n
   cases hy.inv_v
   have hrun:∀ (b o len cap:Nat),0≤n→n<(len:Int)→(Instr.indexAt T (.slice (some ⟨b,o,none⟩) len cap) (.int ik n)).run P w = .ok (.pointer (some ⟨b,o+n.toNat*et.size,none⟩)) w:=by
    intro b o len cap h0 h1
    have hs:=ht2.size
    simp[Instr.indexAt,asIntOf,ht.run_und,sizeOf,typeInfo,ht2.info,h0,h1,Zfk,hs]
   split at h
   ·rename_i es
    split at h
    ·rename_i e0 he0
     split at h
     ·rename_i hsz
      simp only[Ya1]at h
      subst h
      have hlt:=(Ya3.1 he0).1
      obtain⟨a,cap,rfl,h1,h2,h3⟩:=hx.inv_sl
      rcases h3 with rfl|⟨b,off,k,rfl,h4⟩
      ·simp at hlt
      ·have hok':0≤n:=hok
       have hkk:k=et.size:=by rw[← h4.1 _ _ he0,hsz]
       refine Runs.pure hM rfl (hrun b off es.length cap hok' (by omega)) ?_
       have:=Zp7 (β:=β) (m:=m) h4 n.toNat 0
       rw[hkk,Nat.add_zero]at this
       exact this
     ·cases h
    ·cases h
   ·rename_i id ver
    split at h
    ·rename_i blk hb
     split at h
     ·rename_i e0 he0
      split at h
      ·rename_i hsz
       simp only[Ya1]at h
       subst h
       have hlt:=(Ya3.1 he0).1
       obtain⟨h1,h2⟩:=ZaZ hb
       have hkk:blk.k=et.size:=by rw[← hM.wid id blk h1 _ _ he0,hsz]
       obtain⟨a,cap,rfl,h3,h4,h5⟩:=Zpa hM hx hb
       rcases h5 with⟨_,_,_,h6⟩|⟨B,cs,g1,rfl,g2,g3,g4⟩
       ·rw[h6]at hlt;simp at hlt
       ·have hok':0≤n:=hok
        refine Runs.pure hM rfl (hrun B 0 _ cap hok' (by omega)) (.lp _ _ _ _ _ _ blk h1 (by omega) fun _=>⟨g1,?_⟩)
        rw[hkk];omega
      ·cases h
     ·cases h
    ·cases h
   ·cases h
  ·cases h
 ·cases h
def Ziq(β:Bet)(m:Mem)(S:Nat→Nat→Prop)(w:World)(o:Option Value)(od:Option D):Prop :=
 (o=none∧od=none)∨∃ v e,o=some v∧od=some e∧Rep β m S w v e
theorem Zjh{S:Nat→Nat→Prop}{o:Option Value}{od:Option D}(h:Ziq β m S w o od){dflt:Nat}{b:Int}(hb:ZiX od dflt=some b):(o=none∧b=dflt)∨∃ k,o=some (.int k b):=by
 rcases h with⟨rfl,rfl⟩|⟨v,e,rfl,rfl,he⟩
 ·simp[ZiX]at hb;exact .inl ⟨rfl,hb.symm⟩
 ·unfold ZiX at hb
  split at hb
  ·rename_i hh;cases hh
  ·rename_i k n hh
   simp only[Ya1]at hh hb
   subst hh;subst hb
   exact .inr ⟨k,by rw[he.inv_v]⟩
  ·cases hb
theorem Zg9(k:IntKind)(l:Int)(u:Nat)(c:BoundsCode)(h0:0≤l)(h1:l≤u):(Instr.sliceBound (.int k l) u c).run P w = .ok l.toNat w:=by
 unfold Instr.sliceBound asIntOf
 simp only[Sem.run_bind,Sem.run_pure,Result.andThen_ok]
 rw[if_pos ⟨h0,h1⟩]
 rfl
theorem Zh3(isS:Bool)(len cap:Nat)(l u:Int)(o1 o2:Option Value)(h1:(o1=none∧l=((0:Nat):Int))∨∃ k,o1=some (.int k l))(h2:(o2=none∧u=len)∨∃ k,o2=some (.int k u))(h3:0≤l)(h4:l≤u)(h5:u≤len)(h6:len≤cap) :
 (Instr.sliceBounds isS len cap o1 o2 none).run P w = .ok (l.toNat,u.toNat,cap) w:=by
 unfold Instr.sliceBounds
 rcases h2 with⟨rfl,rfl⟩|⟨k2,rfl⟩<;>rcases h1 with⟨rfl,rfl⟩|⟨k1,rfl⟩
 ·simp
 ·simp[Zg9 k1 l len _ h3 h4]
 ·simp[Zg9 k2 u cap _ h4 (by omega)]
 ·simp[Zg9 k2 u cap _ (by omega) (by omega),Zg9 k1 l u.toNat _ h3 (by omega)]
theorem Zs9{T:TypeId}{ty et:TyI}(hty:tyOf P T=some ty)(hk:ty.kind=2)(het:tyOf P ty.elem=some et){x:Value}{d:D}{lo hi:Option Value}{lod hid:Option D}{r:Res}(hM:ZaK E β m nx w)(hx:Rep β m (safe E β m) w x d)
 (hlo:Ziq β m (safe E β m) w lo lod) (hhi:Ziq β m (safe E β m) w hi hid) (h:ZkQ et d lod hid=some r) (hok:r.ok):Runs P E β m nx w (Instr.sliceAt T x lo hi none) r:=by
 obtain⟨inf,de,ht⟩:=tyAt hty
 obtain⟨inf2,de2,ht2⟩:=tyAt het
 have hde:=ht.slice hk
 subst hde
 have hsl:(Instr.sliceAt T x lo hi none).run P w=(Instr.slice T x lo hi none).run P w:=by
  unfold Instr.sliceAt
  simp only[Sem.run_bind,ht.run_und,Result.andThen_ok]
 unfold ZkQ at h
 split at h
 ·rename_i es
  split at h
  ·rename_i l u hl hu
   simp only[Ya1]at h
   subst h
   obtain⟨q0,q1,q2,q3⟩:=hok
   obtain⟨a,cap,rfl,g1,g2,g3⟩:=hx.inv_sl
   have hrb:=Zh3 (P:=P) (w:=w) true es.length cap l u lo hi (Zjh hlo hl) (Zjh hhi hu) q1 q2 q3 g2
   have hlen:((es.take u.toNat).drop l.toNat).length=u.toNat-l.toNat:=by simp;omega
   have hrun:(Instr.sliceAt T (.slice a es.length cap) lo hi none).run P w = .ok (.slice (if cap=l.toNat then a else a.map (·.add (l.toNat*et.size))) (u.toNat-l.toNat) (cap-l.toNat)) w:=by
    rw[hsl]
    unfold Instr.slice
    simp only[Sem.run_bind,ht.run_und,Result.andThen_ok,hrb,ht2.run_size,Sem.run_pure]
   refine Runs.pure hM rfl hrun ?_
   by_cases he:u.toNat-l.toNat=0
   ·rw[he]at hlen ⊢
    rw[Ya9 hlen]
    exact .sl0 _ _ (by omega)
   ·rcases g3 with rfl|⟨b,off,k,rfl,h4⟩
    ·simp at q3;omega
    ·have hlt:l.toNat<es.length:=by omega
     have hkk:k=et.size:=by rw[← h4.1 _ _ (Ya0 hlt),q0 _ (List.getElem_mem hlt)]
     rw[if_neg (by omega),← hlen]
     simp only[Yd0,Zfk]
     refine ZkV (k:=k) ⟨fun i e hi=>?_,fun i j d hd=>?_⟩ (by omega) (by omega)
     ·rw[List.getElem?_drop,List.getElem?_take]at hi
      split at hi
      ·exact h4.1 _ _ hi
      ·cases hi
     ·obtain⟨e,hi,hj⟩:=Zak.1 hd
      rw[List.getElem?_drop,List.getElem?_take]at hi
      split at hi
      ·obtain⟨v,p1,p2,p3⟩:=h4.2 (l.toNat+i) j d (Zak.2 ⟨e,hi,hj⟩)
       have e1:off+l.toNat*et.size+i*k+j=off+(l.toNat+i)*k+j:=by rw[hkk,Nat.add_mul];omega
       exact⟨v,by rw[e1];exact p1,by rw[e1];exact p2,p3⟩
      ·cases hi
  ·cases h
 ·cases h
theorem ZmN{T:TypeId}{ty:TyI}(hty:tyOf P T=some ty)(hk:ty.kind=4){x:Value}{d:D}{lo hi:Option Value}{lod hid:Option D}{r:Res}(hM:ZaK E β m nx w)(hx:Rep β m (safe E β m) w x d)
 (hlo:Ziq β m (safe E β m) w lo lod) (hhi:Ziq β m (safe E β m) w hi hid) (h:Zeu d lod hid=some r) (hok:r.ok):Runs P E β m nx w (Instr.sliceAt T x lo hi none) r:=by
 obtain⟨inf,de,ht⟩:=tyAt hty
 have hde:=ht.string hk
 subst hde
 have hsl:(Instr.sliceAt T x lo hi none).run P w=(Instr.slice T x lo hi none).run P w:=by
  unfold Instr.sliceAt
  simp only[Sem.run_bind,ht.run_und,Result.andThen_ok]
 unfold Zeu at h
 split at h
 ·rename_i s
  split at h
  ·rename_i l u hl hu
   simp only[Ya1]at h
   subst h
   obtain⟨q1,q2,q3⟩:=hok
   cases hx.inv_v
   have hrb:=Zh3 (P:=P) (w:=w) false s.size s.size l u lo hi (Zjh hlo hl) (Zjh hhi hu) q1 q2 q3 (Ya4 _)
   refine Runs.pure hM rfl ?_ (.v _)
   rw[hsl]
   unfold Instr.slice
   simp[ht.run_und,hrb]
  ·cases h
 ·cases h
theorem Zur{T:TypeId}{ty:TyI}(hty:tyOf P T=some ty){x y:Value}{d e:D}{r:Res}(hM:ZaK E β m nx w)(hx:Rep β m (safe E β m) w x d)(hy:Rep β m (safe E β m) w y e)(h:Zlg ty d e=some r)(hok:r.ok) :
 Runs P E β m nx w (Instr.index T x y) r:=by
 obtain⟨inf,de,ht⟩:=tyAt hty
 unfold Zlg at h
 split at h
 ·rename_i hk
  have hde:=ht.string hk
  subst hde
  split at h
  ·rename_i s k n
   cases hx.inv_v
   cases hy.inv_v
   split at h
   ·rename_i b hb
    simp only[Ya1]at h
    subst h
    have h0:0≤n:=hok
    refine Runs.pure hM rfl ?_ (.v _)
    simp[Instr.index,asIntOf,ht.run_und,h0,hb]
   ·cases h
  ·cases h
 ·cases h
theorem ZlI{T:TypeId}(cs:Array Value):(newRow T cs).run P w = .ok ⟨w.heap.size,0,none⟩ (w.alloc (.cells cs T)):=by
 simp[newRow]
theorem ZbU.new(hM:ZaK E β m nx w){id:Nat}(hid:m id=none)(hlt:id<nx)(blk:Blk)(vs:List Value)(hfz:blk.fz≤blk.es.length)
 (hwid:∀ (i:Nat)(e:List D),blk.es[i]? =some e→e.length=blk.k) (hsz:blk.es.length*blk.k≤vs.length)
 (hcs:∀ (i j:Nat)(d:D),cellAt blk.es i j=some d→∃ u,vs[i*blk.k+j]? =some u∧Rep β m (safe E β m) w u d) {w1:World} (hw1:Below w.heap.size w w1) {v:Value} {d:D}
 (hv:∀ β' w',β' id=some w1.heap.size→w'.heap[w1.heap.size]? =some (.cells vs.toArray blk.T (0,0))→Rep β' (upd m id (some blk)) (safe E β' (upd m id (some blk))) w' v d) :
 ZbU E β m nx w (ov m [(id,blk)]) v d (w1.alloc (.cells vs.toArray blk.T)):=by
 obtain⟨h1,h2,h3⟩:=Zzv hM hid hlt blk vs.toArray hfz hwid (by simpa using hsz) (fun i j d hd=>by
  obtain⟨u,h1,h2⟩:=hcs i j d hd
  exact⟨u,by simpa using h1,h2⟩) hw1
 exact⟨_,h1,h2,h3,hv _ _ (Zac _ _ _) (heap_alloc_new _ _)⟩
theorem Znj{vs:List Value}{c:List D}(h:Reps β m (safe E β m) w vs c):∀ (i j:Nat)(d:D),cellAt [c] i j=some d→∃ u,vs[i*c.length+j]? =some u∧Rep β m (safe E β m) w u d:=by
 intro i j d hd
 obtain⟨e,hi,hj⟩:=Zak.1 hd
 cases i with
 | zero =>
   simp at hi
   subst hi
   obtain⟨u,hu,hr⟩:=h.get hj
   exact⟨u,by simpa using hu,hr⟩
 | succ i=>simp at hi
theorem ZtS{c:List D}:∀ (i:Nat)(e:List D),[c][i]? =some e→e.length=c.length:=by
 intro i e h
 cases i with
 | zero=>simp at h;rw[h]
 | succ i=>simp at h
theorem ZzW{T:TypeId}{x:Value}{d:D}{r:Res}{id:Nat}(hM:ZaK E β m nx w)(hid:m id=none)(hlt:id<nx)(hx:Rep β m (safe E β m) w x d)(h:boxF T d id=some r):Runs P E β m nx w (Instr.box T x) r:=by
 unfold boxF at h
 split at h
 ·rename_i c hc
  simp only[Ya1]at h
  subst h
  obtain⟨vs,hv,hvs⟩:=Zh5 hx hc
  refine⟨.pointer (some ⟨w.heap.size,0,none⟩),w.alloc (.cells vs.toArray T),by simp[Instr.box,newVar,hv,ZlI],?_⟩
  exact ZbU.new hM hid hlt ⟨T,0,c.length,[c],0,false⟩ vs (Yb0 _) ZtS (by simp[hvs.1]) (Znj hvs) (Below.refl _ _) (fun β' w' hb _=>.lp _ _ _ _ _ _ ⟨T,0,c.length,[c],0,false⟩ (Zac _ _ _) (Ya4 _) fun _=>⟨hb,by simp⟩)
 ·cases h
theorem Zvt{T:TypeId}{ty:TyI}(hty:tyOf P T=some ty){r:Res}{id:Nat}(hM:ZaK E β m nx w)(hid:m id=none)(hlt:id<nx)(h:Zkv T ty id=some r):Runs P E β m nx w (Instr.alloc T true (.tuple #[])) r:=by
 obtain⟨inf,de,ht⟩:=tyAt hty
 unfold Zkv at h
 split at h
 ·rename_i z hz
  simp only[Ya1]at h
  subst h
  rw[ht.zero]at hz
  cases hzz:inf.zero with
  | none=>rw[hzz]at hz;cases hz
  | some zv =>
    rw[hzz]at hz
    simp only[Yd0,Ya1]at hz
    subst hz
    have hvs:Reps β m (safe E β m) w zv.cells.toList (zv.cells.toList.map ZfW):=ZkU _
    refine⟨.pointer (some ⟨w.heap.size,0,none⟩),w.alloc (.cells zv.cells.toList.toArray T),by simp[Instr.alloc,zeroValue,typeInfo,ht.info,hzz,newVar,ZlI],?_⟩
    exact ZbU.new hM hid hlt ⟨T,0,(zv.cells.toList.map ZfW).length,[zv.cells.toList.map ZfW],0,false⟩ zv.cells.toList (Yb0 _) ZtS (by simp) (Znj hvs) (Below.refl _ _) (fun β' w' hb _=>.lp _ _ _ _ _ _ _ (Zac _ _ _) (Ya4 _) fun _=>⟨hb,by simp⟩)
 ·cases h
end
end ifl
section ifl
variable [Ifl]
theorem ZmZ{P:Program}{w:World}{α γ:Type}(f:α→Sem γ)(g:α→γ):∀ l:List α,(∀ x∈l,(f x).run P w = .ok (g x) w)→(l.mapM f).run P w = .ok (l.map g) w
 | [],_=>by simp
 | x ::l,h=>by
   simp only[List.mapM_cons,Sem.run_bind,h x (by simp),Result.andThen_ok,ZmZ f g l (fun y hy=>h y (by simp[hy])),Sem.run_pure,List.map_cons]
theorem Zv4{P:Program}{w:World}{α γ:Type}(f:α→Sem γ)(g:α→γ)(l:Array α)(h:∀ x∈l,(f x).run P w = .ok (g x) w):(l.mapM f).run P w = .ok (l.map g) w:=by
 rw[Array.mapM_eq_mapM_toList]
 simp[ZmZ f g l.toList (fun x hx=>h x (by simpa using hx))]
 apply Array.ext'
 simp
theorem Zll(off:Nat):∀ (vs:List Value)(n:Nat)(c:Array Value),off+n+vs.length≤c.size →
 ((vs.zipIdx n).foldl (fun(cs:Array Value) (p:Value×Nat)=>cs.setIfInBounds (off+p.2) p.1) c).toList=c.toList.take (off+n)++vs++c.toList.drop (off+n+vs.length)
 | [],n,c,_=>by simp
 | v ::vs,n,c,h=>by
   rw[List.zipIdx_cons,List.foldl_cons,Zll off vs (n+1) _ (by simp at h ⊢;omega)]
   have e:=list_seg_step c.toList (off+n) v vs (by simp at h ⊢;omega)
   simpa[Array.toList_setIfInBounds,Nat.add_assoc]using e
section
variable {P:Program} {E:Env} {β:Bet} {m:Mem} {nx:Nat} {w:World} {S:Nat→Nat→Prop}
def ZvB(β:Bet)(m:Mem)(S:Nat→Nat→Prop)(w:World):List (Nat×Value)→List (Nat×D)→Prop
 | [],[]=>True
 | p ::ps,q ::qs=>p.1=q.1∧Rep β m S w p.2 q.2∧ZvB β m S w ps qs
 | _,_=>False
theorem Zmg(place:Nat→Option (Nat×Nat)):∀ (qs:List (Nat×D)) (ps:List (Nat×Value)) (c:List D) (cs:Array Value) (c':List D),ZvB β m S w ps qs→Reps β m S w cs.toList c→Zkk place c qs=some c' →
 ∃ cs',Instr.fill place cs ps=some cs'∧Reps β m S w cs'.toList c'
 | [],ps,c,cs,c',hp,hc,h=>by
   cases ps with
   | nil=>simp only[Zkk,Ya1]at h;subst h;exact⟨cs,rfl,hc⟩
   | cons p ps=>exact hp.elim
 | (i,x) ::qs,ps,c,cs,c',hp,hc,h=>by
   cases ps with
   | nil=>exact hp.elim
   | cons p ps =>
     obtain⟨j,v⟩:=p
     obtain⟨e,hv,hp⟩:=hp
     simp only at e hv
     subst e
     unfold Zkk at h
     split at h
     ·rename_i o n y hpl hy
      split at h
      ·rename_i hcond
       obtain⟨vs,hvc,hvs⟩:=Zh5 hv hy
       have hsz:vs.length=n:=by rw[hvs.1,hcond.1]
       have hcl:cs.size=c.length:=by have:=hc.1;simpa using this
       have hfo:=Zll o vs 0 cs (by omega)
       have hR:Reps β m S w (((vs.zipIdx 0).foldl (fun(cs:Array Value) (p:Value×Nat)=>cs.setIfInBounds (o+p.2) p.1) cs)).toList (Zc6 c o y):=by
        rw[hfo,Nat.add_zero]
        exact hc.splice hvs o
       obtain⟨cs',h1,h2⟩:=Zmg place qs ps _ _ c' hp hR h
       refine⟨cs',?_,h2⟩
       unfold Instr.fill
       rw[hpl]
       simp only
       rw[hvc,if_neg (by simp;omega)]
       rw[← h1]
       congr 1
       simp
      ·cases h
     ·cases h
theorem Zvf{T:TypeId}{ty:TyI}(hty:tyOf P T=some ty){ps:Array (Nat×Value)}{qs:List (Nat×D)}{r:Res}(hM:ZaK E β m nx w)(hp:ZvB β m (safe E β m) w ps.toList qs)(h:Zlt ty qs=some r) :
 Runs P E β m nx w (Instr.build T ps) r:=by
 obtain⟨inf,de,ht⟩:=tyAt hty
 unfold Zlt at h
 split at h
 ·rename_i hk
  obtain⟨hk,hall'⟩:=hk
  have hall:∀ f∈ty.fields,f.2.1≠0:=by simpa using hall'
  obtain⟨fs,rfl⟩:=ht.struct hk
  split at h
  ·rename_i z hz
   rw[ht.zero]at hz
   cases hzz:inf.zero with
   | none=>rw[hzz]at hz;cases hz
   | some zv =>
     rw[hzz]at hz
     simp only[Yd0,Ya1]at hz
     subst hz
     cases hf:Zkk (fun(i:Nat)=>(ty.fields[i]?).map fun f=>(f.1,f.2.1)) (zv.cells.toList.map ZfW) qs with
     | none=>rw[hf]at h;cases h
     | some c =>
       rw[hf]at h
       simp only[Yd0,Ya1]at h
       subst h
       have hfl:=ht.flds fs rfl
       have hm:(fs.mapM fun(f:Field)=>do pure (f.offset,← sizeOf f.type)).run P w = .ok (fs.map fun(f:Field)=>(f.offset,((P.info? f.type).map (·.size)).getD 0)) w:=by
        refine Zv4 _ _ _ fun f hf=>?_
        have hne:=hall ((ZdX P f).getD (0,0,false)) (by rw[hfl];exact Yc6.2 ⟨f,by simpa using hf,rfl⟩)
        cases hfo:ZdX P f with
        | none=>rw[hfo]at hne;exact absurd rfl hne
        | some q =>
          unfold ZdX at hfo
          split at hfo
          ·rename_i i d hi hd
           simp[sizeOf,typeInfo,hi]
          ·cases hfo
       have hplace:(fun(i:Nat)=>(ty.fields[i]?).map fun f=>(f.1,f.2.1))=((fs.map fun(f:Field)=>(f.offset,((P.info? f.type).map (·.size)).getD 0))[·]?):=by
        funext i
        rw[hfl,Yb8]
        simp only[Array.getElem?_map]
        cases hfi:fs[i]? with
        | none=>simp[hfi]
        | some f =>
          have hfi':fs.toList[i]? =some f:=by simpa using hfi
          rw[hfi']
          simp only[Yd0]
          have hne:=hall ((ZdX P f).getD (0,0,false)) (by rw[hfl];exact Yc6.2 ⟨f,Ya7 hfi',rfl⟩)
          cases hfo:ZdX P f with
          | none=>rw[hfo]at hne;exact absurd rfl hne
          | some q =>
            unfold ZdX at hfo
            split at hfo
            ·rename_i i d hi hd
             simp only[Ya1]at hfo
             subst hfo
             simp[hi]
            ·cases hfo
       rw[hplace]at hf
       obtain⟨cs',h1,h2⟩:=Zmg (β:=β) (m:=m) (w:=w) (S:=safe E β m) _ qs ps.toList _ zv.cells c hp (ZkU _) hf
       refine Runs.pure hM rfl (v:=.agg cs') ?_ (by have:=h2.rep_agg;simpa using this)
       simp only[Instr.build,zeroValue,typeInfo,Sem.run_bind,Sem.run,program,ht.info,hzz,Sem.run_pure,Result.andThen_ok,ht.run_und,hm,h1]
  ·cases h
 ·cases h
end
end ifl
section ifl
variable [Ifl]
theorem ZqL{k:Nat}:∀ es:List (List D),(∀ e∈es,e.length=k)→es.flatten.length=es.length*k
 | [],_=>by simp
 | e ::es,h=>by simp only[List.flatten_cons,Yb9,ZqL es (fun e he=>h e (by simp[he])),h e (by simp),List.length_cons,Nat.succ_mul];omega
theorem ZqM{k:Nat}:∀ (es:List (List D)),(∀ e∈es,e.length=k)→∀ (i j:Nat)(d:D),cellAt es i j=some d→es.flatten[i*k+j]? =some d
 | [],_,i,j,d,h=>by simp[cellAt]at h
 | e ::es,hk,i,j,d,h=>by
   obtain⟨e',he,hj⟩:=Zak.1 h
   rw[List.flatten_cons]
   cases i with
   | zero =>
     simp at he
     subst he
     rw[Yc3 (by simp;exact(Ya3.1 hj).1)]
     simpa using hj
   | succ i =>
     have hek:=hk e (by simp)
     rw[Yc4 (by rw[hek,Nat.succ_mul];omega),hek,Nat.succ_mul]
     have:=ZqM es (fun e he=>hk e (by simp[he])) i j d (Zak.2 ⟨e',by simpa using he,hj⟩)
     rw[← this];congr 1;omega
theorem ZnW{k:Nat}:∀ (qs:List (Nat×D)) (n:Nat) (es:List (List D)),Zkm k n qs=some es→es.length=qs.length∧(∀ e∈es,e.length=k) ∧
 ∀ pre:List D,pre.length=n*k→Zkk (fun i=>some (i*k,k)) (pre++List.replicate (qs.length*k) .junk) qs=some (pre++es.flatten)
 | [],n,es,h=>by
   simp only[Zkm,Ya1]at h
   subst h
   simp[Zkk]
 | (i,x) ::qs,n,es,h=>by
   unfold Zkm at h
   split at h
   ·rename_i y hy
    split at h
    ·rename_i hc
     obtain⟨rfl,hyk⟩:=hc
     cases hr:Zkm k (i+1) qs with
     | none=>rw[hr]at h;cases h
     | some es' =>
       rw[hr]at h
       simp only[Yd0,Ya1]at h
       subst h
       obtain⟨h1,h2,h3⟩:=ZnW qs (i+1) es' hr
       refine⟨by simp[h1],by simp[hyk];exact h2,fun pre hpre=>?_⟩
       unfold Zkk
       rw[hy]
       simp only
       rw[if_pos ⟨hyk,by simp[hpre,Nat.succ_mul]⟩]
       have e:Zc6 (pre++List.replicate ((qs.length+1)*k) .junk) (i*k) y=(pre++y)++List.replicate (qs.length*k) .junk:=by
        unfold Zc6
        rw[← hpre,List.take_left,← List.drop_drop,List.drop_left,List.drop_replicate,hyk]
        congr 2
        rw[Nat.succ_mul];omega
       simp only[List.length_cons]
       rw[e,h3 (pre++y) (by simp[hpre,hyk,Nat.succ_mul])]
       simp
    ·cases h
   ·cases h
section
variable {P:Program} {E:Env} {β:Bet} {m:Mem} {nx:Nat} {w:World} {S:Nat→Nat→Prop}
theorem Ztr(vs:List Value):Reps β m S w vs (List.replicate vs.length .junk):=by
 refine⟨by simp,fun i y d hy hd=>?_⟩
 rw[List.getElem?_replicate]at hd
 split at hd
 ·simp only[Ya1]at hd;subst hd;exact .junk _
 ·cases hd
theorem ZkE{T:TypeId}{ty et:TyI}(hty:tyOf P T=some ty)(het:tyOf P ty.elem=some et){len:Nat}{ps:Array (Nat×Value)}{qs:List (Nat×D)}{r:Res}{id:Nat}(hM:ZaK E β m nx w)(hid:m id=none)(hlt:id<nx)
 (hp:ZvB β m (safe E β m) w ps.toList qs) (h:ZcB ty et len qs id=some r):Runs P E β m nx w (Instr.buildSlice T len ps) r:=by
 obtain⟨inf,de,ht⟩:=tyAt hty
 obtain⟨inf2,de2,ht2⟩:=tyAt het
 unfold ZcB at h
 split at h
 ·rename_i hk
  obtain⟨hk,hql,hsz,hzz,hlm⟩:=hk
  have hde:=ht.slice hk
  subst hde
  split at h
  ·rename_i es hes
   simp only[Ya1]at h
   subst h
   obtain⟨h1,h2,h3⟩:=ZnW qs 0 es hes
   have h3:=h3 [] (by simp)
   simp only[Yc8]at h3
   rw[ht2.zero]at hzz
   obtain⟨z,hz⟩:∃ z,inf2.zero=some z:=by
    cases hq:inf2.zero with
    | none=>rw[hq]at hzz;cases hzz
    | some z=>exact⟨z,rfl⟩
   let cs0:Array Value:=(Array.range (len*et.size)).map ((if len*et.size=0 then #[]else z.cells)[·%(if len*et.size=0 then(#[]:Array Value)else z.cells).size]!)
   have hcs0:cs0.toList.length=qs.length*et.size:=by simp[cs0,hql]
   have hj:=Ztr (β:=β) (m:=m) (S:=safe E β m) (w:=w) cs0.toList
   rw[hcs0]at hj
   obtain⟨cs',h4,h5⟩:=Zmg _ qs ps.toList _ cs0 _ hp hj h3
   have hlen:cs'.size=len*et.size:=by
    have:=h5.1
    rw[ZqL es h2,h1,hql]at this
    simpa using this
   refine⟨.slice (some ⟨w.heap.size,0,none⟩) len len,w.alloc (.cells cs'.toList.toArray ty.elem),?_,?_⟩
   ·unfold Instr.buildSlice
    simp only[Sem.run_bind,ht.run_und,Result.andThen_ok,ht2.run_size]
    rw[if_neg (by omega)]
    simp only[cs0]at h4
    by_cases h0:len*et.size=0
    ·rw[if_pos h0]at h4 ⊢
     simp only[Sem.run_bind,Sem.run_pure,Result.andThen_ok,h4,ZlI,Array.toArray_toList]
    ·rw[if_neg h0]at h4 ⊢
     simp[zeroValue,typeInfo,ht2.info,hz,h4,ZlI]
   ·refine ZbU.new hM hid hlt ⟨ty.elem,0,et.size,es,0,false⟩ cs'.toList (Yb0 _) (fun i e he=>h2 e (Ya7 he)) (by simp;rw[h1,hql,hlen];exact Ya4 _) (fun i j d hd=>?_) (Below.refl _ _) (fun β' w' hb hw'=>?_)
    ·obtain⟨u,hu,hr⟩:=h5.get (ZqM es h2 i j d hd)
     exact⟨u,hu,hr⟩
    ·refine .ls _ _ _ _ _ ⟨ty.elem,0,et.size,es,0,false⟩ (Zac _ _ _) (Ya4 _) (fun _ _=>rfl) fun _=>⟨by simp[h1,hql],Ya4 _,by unfold maxLen;omega,.inr ⟨_,hb,rfl,?_⟩⟩
     exact⟨_,_,_,hw',by simp[hlen]⟩
  ·cases h
 ·cases h
theorem Zl5{T:TypeId}{ty et:TyI}(hty:tyOf P T=some ty)(het:tyOf P ty.elem=some et){x y:Value}{d e:D}{r:Res}{id:Nat}(hM:ZaK E β m nx w)(hid:m id=none)(hlt:id<nx)
 (hx:Rep β m (safe E β m) w x d) (hy:Rep β m (safe E β m) w y e) (h:Zda ty et d e id=some r) (hok:r.ok):Runs P E β m nx w (Instr.makeSlice T x y) r:=by
 obtain⟨inf,de,ht⟩:=tyAt hty
 obtain⟨inf2,de2,ht2⟩:=tyAt het
 unfold Zda at h
 split at h
 ·rename_i hk
  have hde:=ht.slice hk
  subst hde
  split at h
  ·rename_i kl l kc c z hz
   split at h
   ·rename_i hzl
    simp only[Ya1]at h
    subst h
    cases hx.inv_v
    cases hy.inv_v
    obtain⟨q1,q2,q3,q4⟩:=hok
    rw[ht2.zero]at hz
    cases hq:inf2.zero with
    | none=>rw[hq]at hz;cases hz
    | some zv =>
      rw[hq]at hz
      simp only[Yd0,Ya1]at hz
      have hr:=run_make (P:=P) w T ty.elem inf2 zv ht.und ht2.info hq kl kc l c q1 q2 (by rw[← ht2.bytes];omega) (by omega)
      have hzs:zv.cells.size=et.size:=by
       have:=congrArg List.length hz
       simp at this
       omega
      refine⟨_,w.alloc (.cells (madeCells zv.cells (c.toNat*inf2.size)).toList.toArray ty.elem),by simpa using hr,?_⟩
      have hmc:(madeCells zv.cells (c.toNat*inf2.size)).size=c.toNat*et.size:=by rw[size_madeCells,ht2.size]
      refine ZbU.new hM hid hlt ⟨ty.elem,1,et.size,List.replicate l.toNat z,0,false⟩ _ (Yb0 _) (fun i e he=>?_) ?_ (fun i j d hd=>?_) (Below.refl _ _) (fun β' w' hb hw'=>?_)
      ·rw[List.getElem?_replicate]at he
       split at he
       ·simp only[Ya1]at he;rw[← he];exact hzl
       ·cases he
      ·simp only[List.length_replicate,Array.length_toList]
       rw[hmc]
       exact Nat.mul_le_mul_right _ (by omega)
      ·obtain⟨e,he,hj⟩:=Zak.1 hd
       have he':=he
       rw[List.getElem?_replicate]at he
       split at he
       ·rename_i hil
        simp only[Ya1]at he
        subst he
        have hjl:j<et.size:=by rw[← hzl];exact(Ya3.1 hj).1
        rw[← hz,Yb8]at hj
        have hlt2:i*et.size+j<c.toNat*et.size:=ZiD (by omega) hjl
        have hmod:(i*et.size+j)%zv.cells.size=j:=by rw[hzs,Nat.mul_comm,Nat.mul_add_mod,Nat.mod_eq_of_lt hjl]
        refine⟨zv.cells[j]'(by omega),?_,?_⟩
        ·have hsz2:inf2.size=et.size:=ht2.size.symm
         simp only[madeCells,hsz2,Array.toList_map,Array.toList_range,Yb8,List.getElem?_range hlt2,Yd0,Ya1,hmod]
         exact getElem!_pos zv.cells j (by omega)
        ·have hcj:zv.cells.toList[j]? =some (zv.cells[j]'(by omega)):=by simp
         rw[hcj]at hj
         simp only[Yd0,Ya1]at hj
         subst hj
         exact ZjF _
       ·cases he
      ·refine .ls _ _ _ _ _ ⟨ty.elem,1,et.size,List.replicate l.toNat z,0,false⟩ (Zac _ _ _) (Ya4 _) (fun _ h=>by cases h) fun _=>⟨by simp,by omega,by unfold maxLen;omega,.inr ⟨_,hb,rfl,?_⟩⟩
       exact⟨_,_,_,hw',by simpa using hmc⟩
   ·cases h
  ·cases h
 ·cases h
theorem Zzw{T ty':TypeId}{ty:TyI}(hty:tyOf P T=some ty){x:Value}{d:D}{r:Res}{ats:Array TypeId}(hat:ats[0]? =some T)(hM:ZaK E β m nx w)(hx:Rep β m (safe E β m) w x d)(h:lenF ty d m=some r) :
 Runs P E β m nx w (Builtin.len_ ats ty' #[x]) r:=by
 obtain⟨inf,de,ht⟩:=tyAt hty
 unfold lenF at h
 split at h
 ·rename_i es
  split at h
  ·rename_i hk
   have hde:=ht.slice hk
   subst hde
   simp only[Ya1]at h
   subst h
   obtain⟨a,cap,rfl,_⟩:=hx.inv_sl
   exact Runs.pure hM rfl (by simp[Builtin.len_,hat,ht.run_und,goInt]) (.v _)
  ·cases h
 ·split at h
  ·rename_i hk
   have hde:=ht.slice hk
   subst hde
   simp only[Ya1]at h
   subst h
   cases hx.inv_nil
   exact Runs.pure hM rfl (by simp[Builtin.len_,hat,ht.run_und,goInt]) (.v _)
  ·cases h
 ·rename_i id ver
  split at h
  ·rename_i hk
   have hde:=ht.slice hk
   subst hde
   split at h
   ·rename_i b hb
    simp only[Ya1]at h
    subst h
    obtain⟨a,cap,rfl,_⟩:=Zpa hM hx hb
    exact Runs.pure hM rfl (by simp[Builtin.len_,hat,ht.run_und,goInt]) (.v _)
   ·cases h
  ·cases h
 ·rename_i s
  split at h
  ·rename_i hk
   have hde:=ht.string hk
   subst hde
   simp only[Ya1]at h
   subst h
   cases hx.inv_v
   exact Runs.pure hM rfl (by simp[Builtin.len_,hat,ht.run_und,goInt]) (.v _)
  ·cases h
 ·cases h
end
end ifl
section ifl
variable [Ifl]
section
variable {P:Program} {E:Env} {β:Bet} {m:Mem} {nx:Nat} {w:World} {S:Nat→Nat→Prop}
theorem ZmR(hM:ZaK E β m nx w){x:Value}{d:D}{es:List (List D)}{r:List Nat}(hx:Rep β m (safe E β m) w x d)(h:ZfR m d=some (es,r)){k:Nat}(hk:∀ e∈es,e.length=k)(hcell:∀ e∈es,e.all D.isCell=true) :
 ∃ A c news,x = .slice A es.length c∧Src w A es.length k news∧(∀ u∈news,u.oneCell'=true)∧(∀ (i j:Nat)(d:D),cellAt es i j=some d→∃ u,news[i*k+j]? =some u∧Rep β m (safe E β m) w u d):=by
 have row : ∀ (b base : Nat), (∀ (i j : Nat) (d : D), cellAt es i j = some d → ∃ u, w.cell? ⟨b, base + i * k + j, none⟩ = some u ∧ Rep β m (safe E β m) w u d) →
     ∃ news,Src w (some ⟨b,base,none⟩) es.length k news∧(∀ u∈news,u.oneCell'=true)∧(∀ (i j:Nat)(d:D),cellAt es i j=some d→∃ u,news[i*k+j]? =some u∧Rep β m (safe E β m) w u d):=by
  intro b base h
  let f:Nat→Value:=fun p=>(w.cell? ⟨b,base+p,none⟩).getD undef
  have hcl:∀ p,p<es.length*k→∃ i j d,p=i*k+j∧cellAt es i j=some d∧d.isCell=true:=by
   intro p hp
   have hk0:0<k:=by
    rcases Nat.eq_zero_or_pos k with rfl|h
    ·simp at hp
    ·exact h
   have hi:p / k<es.length:=(Nat.div_lt_iff_lt_mul hk0).2 hp
   have hj:p%k<(es[p / k]).length:=by rw[hk _ (List.getElem_mem hi)];exact Nat.mod_lt _ hk0
   refine⟨p / k,p%k,(es[p / k])[p%k],(by rw[Nat.mul_comm];exact(Nat.div_add_mod p k).symm),Zak.2 ⟨_,Ya0 hi,Ya0 hj⟩,?_⟩
   exact Ya6.1 (hcell _ (List.getElem_mem hi)) _ (List.getElem_mem hj)
  have hf:∀ p,p<es.length*k→w.cell? ⟨b,base+p,none⟩=some (f p)∧(f p).oneCell'=true:=by
   intro p hp
   obtain⟨i,j,d,rfl,hd,hc⟩:=hcl p hp
   obtain⟨u,hu,hr⟩:=h i j d hd
   rw[← Nat.add_assoc]
   simp only[f]
   rw[← Nat.add_assoc,hu]
   exact⟨rfl,ZjC hr hc⟩
  refine⟨(List.range (es.length*k)).map f,⟨by simp,.inr ⟨_,rfl,fun j u hu=>?_⟩⟩,fun u hu=>?_,fun i j d hd=>?_⟩
  ·rw[Yb8]at hu
   rcases Nat.lt_or_ge j (es.length*k)with hj|hj
   ·rw[List.getElem?_range hj]at hu
    simp only[Yd0,Ya1]at hu
    rw[Zfk,← hu]
    exact(hf j hj).1
   ·rw[List.getElem?_eq_none (by simpa using hj)]at hu;cases hu
  ·obtain⟨p,hp,rfl⟩:=Yc6.1 hu
   exact(hf p (Yd2.1 hp)).2
  ·obtain⟨u,hu,hr⟩:=h i j d hd
   have hlt:i*k+j<es.length*k:=ZiD (Zn8 hd) (ZdH (fun i e he=>hk e (Ya7 he)) hd)
   refine⟨u,?_,hr⟩
   rw[Yb8,List.getElem?_range hlt]
   simp only[Yd0,f]
   rw[← Nat.add_assoc,hu];rfl
 have nil:es=[]→∀ A,∃ news,Src w A es.length k news∧(∀ u∈news,u.oneCell'=true)∧(∀ (i j:Nat)(d:D),cellAt es i j=some d→∃ u,news[i*k+j]? =some u∧Rep β m (safe E β m) w u d):=by
  rintro rfl A
  exact⟨[],⟨by simp,.inl rfl⟩,by simp,fun i j d hd=>by simp[cellAt]at hd⟩
 unfold ZfR at h
 split at h
 ·rename_i es0
  simp only[Ya1,Prod.mk.injEq]at h
  obtain⟨rfl,rfl⟩:=h
  obtain⟨a,cap,rfl,g1,g2,g3⟩:=hx.inv_sl
  rcases g3 with rfl|⟨b,off,k',rfl,h4⟩
  ·obtain⟨news,h⟩:=nil rfl a
   exact⟨a,cap,news,rfl,h⟩
  ·by_cases he:es0=[]
   ·obtain⟨news,h⟩:=nil he (some ⟨b,off,none⟩)
    exact⟨_,cap,news,rfl,h⟩
   ·have hpos:0<es0.length:=List.length_pos_iff.2 he
    have hkk:k'=k:=by rw[← h4.1 0 es0[0] (Ya0 hpos),hk _ (List.getElem_mem hpos)]
    obtain⟨news,h⟩:=row b off (fun i j d hd=>by
     obtain⟨u,_,h5,h6⟩:=h4.2 i j d hd
     exact⟨u,by rw[← hkk];exact h5,h6.lift⟩)
    exact⟨_,cap,news,rfl,h⟩
 ·simp only[Ya1,Prod.mk.injEq]at h
  obtain⟨rfl,rfl⟩:=h
  cases hx.inv_nil
  obtain⟨news,h⟩:=nil rfl none
  exact⟨none,0,news,rfl,h⟩
 ·rename_i id ver
  split at h
  ·rename_i b hb
   simp only[Ya1,Prod.mk.injEq]at h
   obtain⟨rfl,rfl⟩:=h
   obtain⟨a,cap,rfl,g1,g2,g3⟩:=Zpa hM hx hb
   rcases g3 with⟨_,rfl,rfl,he⟩|⟨B,cs,q1,rfl,q2,q3,q4⟩
   ·obtain⟨news,h⟩:=nil he none
    exact⟨none,0,news,rfl,h⟩
   ·by_cases he:b.es=[]
    ·obtain⟨news,h⟩:=nil he (some ⟨B,0,none⟩)
     exact⟨_,cap,news,rfl,h⟩
    ·have hpos:0<b.es.length:=List.length_pos_iff.2 he
     have hkk:b.k=k:=by rw[← hM.wid id b (ZaZ hb).1 0 b.es[0] (Ya0 hpos),hk _ (List.getElem_mem hpos)]
     obtain⟨news,h⟩:=row B 0 (fun i j d hd=>by
      obtain⟨u,h5,h6⟩:=q4 i j d hd
      exact⟨u,by rw[Nat.zero_add,Zcr q2,← hkk];exact h5,h6⟩)
     exact⟨_,cap,news,rfl,h⟩
  ·cases h
 ·cases h
theorem Ze9(hM:ZaK E β m nx w){id:Nat}(hlt:id<nx)(blk:Blk)(he:blk.es=[])(hfz:blk.fz=0)
 (hid:m id=none∨∃ b,m id=some b∧b.ver<blk.ver∧β id=none) :
 ZaK E (upd β id none) (upd m id (some blk)) nx w∧Za7 β m w (upd β id none) (upd m id (some blk)) w∧Zaw (safe E β m) w (safe E (upd β id none) (upd m id (some blk))) w:=by
 have hm:Za7 β m w (upd β id none) (upd m id (some blk)) w:=by
  refine⟨fun x y hx=>?_,fun _ _ h=>h⟩
  by_cases e:x=id
  ·subst e
   rcases hid with h|⟨b,h1,h2,h3⟩
   ·rw[h]at hx;cases hx
   ·rw[h1]at hx;cases hx
    exact⟨blk,Zac _ _ _,Nat.le_of_lt h2,fun e=>by omega⟩
  ·exact⟨y,by rw[Zab _ _ e];exact hx,Ya4 _,fun _=>⟨rfl,rfl,by rw[Zab _ _ e]⟩⟩
 have hs:Zaw (safe E β m) w (safe E (upd β id none) (upd m id (some blk))) w:=by
  intro b o u h1 h2
  refine⟨⟨h1.1,fun x y hx hy=>?_⟩,h2⟩
  by_cases e:x=id
  ·subst e;rw[Zac]at hy;cases hy
  ·rw[Zab _ _ e]at hx hy;exact h1.2 x y hx hy
 refine⟨⟨hM.below,?_,?_,?_,?_,?_,?_⟩,hm,hs⟩
 ·intro x y hx
  by_cases e:x=id
  ·subst e;exact hlt
  ·rw[Zab _ _ e]at hx;exact hM.lt x y hx
 ·intro x y hx
  by_cases e:x=id
  ·subst e;rw[Zac]at hx;cases hx;rw[hfz];exact Yb0 _
  ·rw[Zab _ _ e]at hx;exact hM.fz x y hx
 ·intro x y hx i e' he'
  by_cases e:x=id
  ·subst e;rw[Zac]at hx;cases hx;rw[he]at he';simp at he'
  ·rw[Zab _ _ e]at hx;exact hM.wid x y hx i e' he'
 ·intro x y hx hb
  by_cases e:x=id
  ·subst e;rw[Zac]at hx;cases hx;exact he
  ·rw[Zab _ _ e]at hx hb;exact hM.non x y hx hb
 ·intro x y b hx hb
  by_cases e:x=id
  ·subst e;rw[Zac]at hb;cases hb
  ·rw[Zab _ _ e]at hx hb
   obtain⟨h3,cs',h4,h5,h6⟩:=hM.row x y b hx hb
   refine⟨h3,cs',h4,h5,fun i j d hd=>?_⟩
   obtain⟨u,h7,h8⟩:=h6 i j d hd
   exact⟨u,h7,h8.mono hm hs⟩
 ·intro x1 x2 y1 y2 b h1 h2 h3 h4
  by_cases e1:x1=id
  ·subst e1;rw[Zac]at h3;cases h3
  ·by_cases e2:x2=id
   ·subst e2;rw[Zac]at h4;cases h4
   ·rw[Zab _ _ e1]at h1 h3
    rw[Zab _ _ e2]at h2 h4
    exact hM.inj x1 x2 y1 y2 b h1 h2 h3 h4
theorem ZdC{a b:List (List D)}{i j:Nat}{d:D}(h:cellAt (a++b) i j=some d):(i<a.length∧cellAt a i j=some d)∨(a.length≤i∧cellAt b (i-a.length) j=some d):=by
 obtain⟨e,he,hj⟩:=Zak.1 h
 by_cases hi:i<a.length
 ·rw[Yc3 hi]at he
  exact .inl ⟨hi,Zak.2 ⟨e,he,hj⟩⟩
 ·rw[Yc4 (by omega)]at he
  exact .inr ⟨by omega,Zak.2 ⟨e,he,hj⟩⟩
theorem ZsA{T ty':TypeId}{ty et:TyI}(hty:tyOf P T=some ty)(het:tyOf P ty.elem=some et){x y:Value}{d e:D}{r:Res}{id:Nat}(hM:ZaK E β m nx w)(hid:∀ i∈r.new,m i=none∧i<nx)
 (hx:Rep β m (safe E β m) w x d) (hy:Rep β m (safe E β m) w y e) (h:Zfj ty et d e m id=some r) (hok:r.ok):Runs P E β m nx w (Builtin.append_ #[T,T] ty' #[x,y]) r:=by
 obtain⟨inf,de,ht⟩:=tyAt hty
 obtain⟨inf2,de2,ht2⟩:=tyAt het
 unfold Zfj at h
 split at h
 ·rename_i hk
  obtain⟨hk,hsz0,hzz⟩:=hk
  have hde:=ht.slice hk
  subst hde
  rw[ht2.zero]at hzz
  obtain⟨z,hz⟩:∃ z,inf2.zero=some z:=by
   cases hq:inf2.zero with
   | none=>rw[hq]at hzz;cases hzz
   | some z=>exact⟨z,rfl⟩
  have hzs:z.cells.size=et.size:=by rw[hz]at hzz;simpa using hzz
  split at h
  ·rename_i es rr hes
   -- onto nothing
   have onto_nil : ∀ (id : Nat) (blk : Blk) (dd : D) (wr : List (Nat × Blk)), (∀ e ∈ es, e.length = et.size ∧ e.all D.isCell = true) → (es.length : Int) * et.bytes ≤ 140737488355328 → (es.length : Int) ≤ 9007199254740992 →
       blk.T=ty.elem→blk.k=et.size→blk.es=es→blk.fz=0→id<nx→(m id=none∨∃ b,m id=some b∧b.ver<blk.ver∧β id=none)→blk.ver≠0→dd = .ls id blk.ver →
       ∃ v w',(Builtin.append_ #[T,T] ty' #[.slice none 0 0,y]).run P w = .ok v w'∧ZbU E β m nx w (ov m [(id,blk)]) v dd w':=by
    intro id blk dd wr hall hb1 hb2 e1 e2 e3 e4 hlt hid hvz e5
    obtain⟨A,c,news,rfl,hsrc,hone,hcs⟩:=ZmR hM hy hes (fun e he=>(hall e he).1) (fun e he=>(hall e he).2)
    by_cases h0:es.length=0
    ·have hes0:es=[]:=Ya9 h0
     refine⟨.slice none 0 0,w,?_,?_⟩
     ·cases A with
      | none=>simp[Builtin.append_,ht.run_und,sizeOf,typeInfo,ht2.info,Builtin.lenOf,Builtin.firstCells,h0]
      | some a=>simp[Builtin.append_,ht.run_und,sizeOf,typeInfo,ht2.info,Builtin.lenOf,Builtin.firstCells,loadCells,loadCellsFrom,h0]
     ·obtain⟨s1,s2,s3⟩:=Ze9 hM hlt blk (e3.trans hes0) e4 hid
      refine⟨_,s1,s2,s3,?_⟩
      rw[e5]
      exact .ls _ _ _ _ _ blk (Zac _ _ _) (Ya4 _) (fun _ _=>rfl) fun _=>⟨by rw[e3,h0],Ya4 _,Yb0 _,.inl ⟨Zac _ _ _,rfl,rfl⟩⟩
    ·have hnews:=hsrc
     obtain⟨hl,h1⟩:=hsrc
     rcases h1 with h1|⟨ad,rfl,h1⟩
     ·exact absurd h1 h0
     have hb3:es.length*inf2.bytes≤140737488355328:=by
      have:((es.length*et.bytes:Nat):Int)≤140737488355328:=by rw[Int.natCast_mul];exact hb1
      rw[ht2.bytes]at this
      omega
     have hr:=run_append_nil (P:=P) w T ty' ty.elem inf2 z ht.und ht2.info hz ad es.length c news (by rw[hl,ht2.size]) h1 (by omega) (by omega) (by omega)
     have hcap:=grownCap_ge w es.length 0 ty.elem
     have hcapm:=grownCap_le_maxLen w es.length 0 ty.elem (by unfold maxLen;omega)
     refine⟨_,w.drew.alloc (.cells (news++(Builtin.zeroCells z.cells (grownCap w es.length 0 ty.elem-es.length)).toList).toArray blk.T),by rw[hr,e1];congr 3;apply Array.ext';simp,?_⟩
     have hcs':∀ (i j:Nat)(d:D),cellAt blk.es i j=some d→∃ u,(news++(Builtin.zeroCells z.cells (grownCap w es.length 0 ty.elem-es.length)).toList)[i*blk.k+j]? =some u∧Rep β m (safe E β m) w u d:=by
      intro i j d hd
      rw[e3]at hd
      obtain⟨u,hu,hr⟩:=hcs i j d hd
      exact⟨u,by rw[e2,Yc3 (Ya3.1 hu).1];exact hu,hr⟩
     have hwid:∀ (i:Nat)(e:List D),blk.es[i]? =some e→e.length=blk.k:=fun i e he=>by rw[e2];rw[e3]at he;exact(hall e (Ya7 he)).1
     have hsz:blk.es.length*blk.k≤(news++(Builtin.zeroCells z.cells (grownCap w es.length 0 ty.elem-es.length)).toList).length:=by rw[e3,e2,Yb9,hl];omega
     have hRep : ∀ β' w', β' id = some w.drew.heap.size → w'.heap[w.drew.heap.size]? = some (.cells (news ++ (Builtin.zeroCells z.cells (grownCap w es.length 0 ty.elem - es.length)).toList).toArray blk.T (0, 0)) →
         Rep β' (upd m id (some blk)) (safe E β' (upd m id (some blk))) w' (.slice (some ⟨w.heap.size,0,none⟩) es.length (grownCap w es.length 0 ty.elem)) (.ls id blk.ver):=by
      intro β' w' hb hw'
      refine .ls _ _ _ _ _ blk (Zac _ _ _) (Ya4 _) (fun _ h=>absurd h hvz) fun _=>⟨by rw[e3],hcap,hcapm,.inr ⟨_,hb,rfl,?_⟩⟩
      refine⟨_,_,_,hw',?_⟩
      simp only[List.size_toArray,Yb9,Array.length_toList,size_zeroCells,hl,hzs,e2,← Nat.add_mul]
      congr 1
      omega
     rw[e5]
     rcases hid with hid|⟨b,g1,g2,g3⟩
     ·exact ZbU.new hM hid hlt blk _ (by rw[e4];exact Yb0 _) hwid hsz hcs' (Below.refl _ _).drew hRep
     ·obtain⟨s1,s2,s3⟩:=Zqt hM g1 g2 (news++(Builtin.zeroCells z.cells (grownCap w es.length 0 ty.elem-es.length)).toList).toArray (by rw[e4];exact Yb0 _) hwid (by simpa using hsz) (fun i j d hd=>by
       obtain⟨u,hu,hr⟩:=hcs' i j d hd
       exact⟨u,by simpa using hu,hr⟩) (Below.refl _ _).drew
      exact⟨_,s1,s2,s3,hRep _ _ (Zac _ _ _) (heap_alloc_new _ _)⟩
   split at h
   ·simp only[Ya1]at h
    subst h
    obtain⟨q1,q2,q3⟩:=hok
    cases hx.inv_nil
    obtain⟨g1,g2⟩:=hid id (by simp)
    exact onto_nil id ⟨ty.elem,1,et.size,es,0,false⟩ _ [] q1 q2 q3 rfl rfl rfl rfl g2 (.inl g1) (fun h=>by cases h) rfl
   ·rename_i es0
    simp only[Ya1]at h
    subst h
    obtain⟨q0,q1,q2,q3,q4⟩:=hok
    obtain⟨n1,n2⟩:=hid id (by simp)
    obtain⟨a0,rfl,hx'⟩:=hx.inv_cl
    obtain⟨A0,c0,olds,hxe,hsrc0,hone0,hcs0⟩:=ZmR (d:=.sl es0) hM hx'.lift rfl (fun e he=>(q0 e he).1) (fun e he=>(q0 e he).2)
    simp only[Value.slice.injEq,true_and]at hxe
    obtain⟨rfl,rfl⟩:=hxe
    obtain⟨hl0,hA0⟩:=hsrc0
    cases a0 with
    | none =>
      have he0:es0=[]:=by
       rcases hA0 with h|⟨ad,h,_⟩
       ·exact Ya9 h
       ·cases h
      subst he0
      simp only[List.length_nil,Nat.zero_add,Yc8]at q2 q3 ⊢
      exact onto_nil id ⟨ty.elem,1,et.size,es,0,false⟩ _ [] q1 q2 q3 rfl rfl rfl rfl n2 (.inl n1) (fun h=>by cases h) rfl
    | some ad0 =>
      have hold:∀ j u,olds[j]? =some u→w.cell? (ad0.add j)=some u:=by
       rcases hA0 with h|⟨ad,h,h2⟩
       ·intro j u hu
        rw[Ya9 (by rw[hl0,h,Nat.zero_mul]:olds.length=0)]at hu
        cases hu
       ·cases h;exact h2
      obtain⟨A,c,news,rfl,hsrc,hone,hcs⟩:=ZmR hM hy hes (fun e he=>(q1 e he).1) (fun e he=>(q1 e he).2)
      obtain⟨hl,hA⟩:=hsrc
      have hBytes:(es0.length+es.length)*inf2.bytes≤140737488355328:=by
       have:(((es0.length+es.length)*et.bytes:Nat):Int)≤140737488355328:=by rw[Int.natCast_mul];exact q2
       rw[ht2.bytes]at this
       omega
      have hwid0:∀ (i:Nat)(e:List D),es0[i]? =some e→e.length=et.size:=fun i e he=>(q0 e (Ya7 he)).1
      have hwid':∀ (i:Nat)(e:List D),(es0++es)[i]? =some e→e.length=et.size:=by
       intro i e he
       by_cases hi:i<es0.length
       ·rw[Yc3 hi]at he;exact hwid0 i e he
       ·rw[Yc4 (by omega)]at he;exact(q1 e (Ya7 he)).1
      have h0:es.length≠0:=by omega
      rcases hA with hA|⟨ad,rfl,hA⟩
      ·exact absurd hA h0
      have hr:=run_append_grow (P:=P) w T ty' ty.elem inf2 z ht.und ht2.info hz ad0 es0.length es0.length olds (by rw[hl0,ht2.size]) hold ad es.length c news (by rw[hl,ht2.size]) hA (by omega) (by omega) (growslice_fits (by omega) hBytes)
      have hcap:=grownCap_ge w (es0.length+es.length) es0.length ty.elem
      have hcapm:=grownCap_le_maxLen w (es0.length+es.length) es0.length ty.elem (by unfold maxLen;omega)
      let cells:=olds.toArray++news.toArray++Builtin.zeroCells z.cells (grownCap w (es0.length+es.length) es0.length ty.elem-(es0.length+es.length))
      have hsize:cells.size=grownCap w (es0.length+es.length) es0.length ty.elem*et.size:=by
       simp only[cells,Array.size_append,List.size_toArray,size_zeroCells,hl,hl0,hzs]
       rw[← Nat.add_mul,← Nat.add_mul]
       congr 1
       omega
      refine⟨_,w.drew.alloc (.cells cells ty.elem),by rw[hr],?_⟩
      refine ZbU.new hM n1 n2 ⟨ty.elem,1,et.size,es0++es,0,false⟩ cells.toList (Yb0 _) hwid'
       (by show(es0++es).length*et.size≤cells.size;rw[hsize,Yb9];exact Nat.mul_le_mul_right _ hcap)
       (fun i j d hd=>by
         show ∃ u,cells.toList[i*et.size+j]? =some u∧_
         rw[Array.getElem?_toList]
         simp only[cells]
         rw[Array.append_assoc]
         rcases ZdC hd with⟨hi,hd⟩|⟨hi,hd⟩
         ·obtain⟨u,hu,hr⟩:=hcs0 i j d hd
          refine⟨u,?_,hr⟩
          have:=ZiD hi (ZdH hwid0 hd)
          rw[Array.getElem?_append_left (by simp[hl0];omega)]
          simpa using hu
         ·obtain⟨u,hu,hr⟩:=hcs _ j d hd
          refine⟨u,?_,hr⟩
          have hlt:=(Ya3.1 hu).1
          have e1:i*et.size+j=es0.length*et.size+((i-es0.length)*et.size+j):=by
           have:i=es0.length+(i-es0.length):=by omega
           rw[← Nat.add_assoc,← Nat.add_mul,← this]
          rw[Array.getElem?_append_right (by simp[e1,hl0]),e1]
          simp only[List.size_toArray,hl0,Nat.add_sub_cancel_left]
          rw[Array.getElem?_append_left (by simp;exact hlt)]
          simpa using hu)
       (Below.refl _ _).drew (fun β' w' hb' hw'=>?_)
      refine .ls _ _ _ _ _ ⟨ty.elem,1,et.size,es0++es,0,false⟩ (Zac _ _ _) (Ya4 _) (fun _ h=>by cases h) fun _=>⟨by simp,hcap,hcapm,.inr ⟨_,hb',rfl,?_⟩⟩
      exact⟨_,_,_,hw',by show cells.size=_;rw[hsize]⟩
   ·rename_i id' ver
    split at h
    ·rename_i b hb
     split at h
     ·rename_i hT
      obtain⟨hdead,hT,hbk⟩:=hT
      simp only[Ya1]at h
      subst h
      obtain⟨q1,q2,q3⟩:=hok
      obtain⟨h1,h2⟩:=ZaZ hb
      obtain⟨a,cap,rfl,g1,g2,g3⟩:=Zpa hM hx hb
      rcases g3 with⟨g3,rfl,rfl,hes0⟩|⟨B,cs,g3,rfl,g4,g5,g6⟩
      ·rw[hes0]at q2 q3 ⊢
       simp only[List.length_nil,Nat.zero_add,Yc8]at q2 q3 ⊢
       have hfz:b.fz=0:=by have:=hM.fz id' b h1;rw[hes0]at this;simpa using this
       exact onto_nil id' {b with ver:=ver+1,es:=es} _ [] q1 q2 q3 hT hbk rfl hfz (hM.lt _ _ h1) (.inr ⟨b,h1,by simp;omega,g3⟩) (by simp) rfl
      ·obtain⟨A,c,news,rfl,hsrc,hone,hcs⟩:=ZmR hM hy hes (fun e he=>(q1 e he).1) (fun e he=>(q1 e he).2)
       obtain⟨hl,hA⟩:=hsrc
       have hBytes:(b.es.length+es.length)*inf2.bytes≤140737488355328:=by
        have:(((b.es.length+es.length)*et.bytes:Nat):Int)≤140737488355328:=by rw[Int.natCast_mul];exact q2
        rw[ht2.bytes]at this
        omega
       have hwid':∀ (i:Nat)(e:List D),(b.es++es)[i]? =some e→e.length=b.k:=by
        intro i e he
        by_cases hi:i<b.es.length
        ·rw[Yc3 hi]at he;exact hM.wid id' b h1 i e he
        ·rw[Yc4 (by omega)]at he;rw[hbk];exact(q1 e (Ya7 he)).1
       by_cases hroom:b.es.length+es.length≤cap
       · -- there is room
        have hrun:(Builtin.append_ #[T,T] ty' #[.slice (some ⟨B,0,none⟩) b.es.length cap,.slice A es.length c]).run P w = .ok (.slice (some ⟨B,0,none⟩) (b.es.length+es.length) cap) (w.setRow B (cs.toList.take (b.es.length*b.k)++news++cs.toList.drop (b.es.length*b.k+news.length)).toArray):=by
         by_cases h0:es.length=0
         ·have hn:news=[]:=Ya9 (by rw[hl,h0,Nat.zero_mul])
          subst hn
          have hnc:b.es.length≤cap:=by omega
          have hself:(w.setRow B (cs.toList.take (b.es.length*b.k)++([]:List Value)++cs.toList.drop (b.es.length*b.k+([]:List Value).length)).toArray)=w:=by
           simp only[List.append_nil,List.length_nil,Nat.add_zero,List.take_append_drop,Array.toArray_toList]
           exact setRow_self w B cs b.T (0,0) g4
          rw[hself]
          cases A with
          | none=>simp[Builtin.append_,ht.run_und,sizeOf,typeInfo,ht2.info,Builtin.lenOf,Builtin.firstCells,h0,hnc,storeCells]
          | some a=>simp[Builtin.append_,ht.run_und,sizeOf,typeInfo,ht2.info,Builtin.lenOf,Builtin.firstCells,loadCells,loadCellsFrom,h0,hnc,storeCells]
         ·rcases hA with hA|⟨ad,rfl,hA⟩
          ·exact absurd hA h0
          have hr:=run_append_room (P:=P) w T ty' ty.elem inf2 ht.und ht2.info B b.es.length cap cs (by rw[← hT];exact g4) ad es.length c news (by rw[hl,ht2.size]) hA hone hroom (by rw[hl,g5,← ht2.size,hbk,← Nat.add_mul];exact Nat.mul_le_mul_right _ hroom)
          rw[hr,← ht2.size,hbk]
        refine⟨_,_,hrun,?_⟩
        have hcsz:b.es.length*b.k+es.length*b.k≤cs.size:=by rw[g5,← Nat.add_mul];exact Nat.mul_le_mul_right _ hroom
        have hnl:news.length=es.length*b.k:=by rw[hl,hbk]
        obtain⟨s1,s2,s3⟩:=Zo7 (blk':={b with ver:=ver+1,es:=b.es++es}) hM h1 g3 (cs.toList.take (b.es.length*b.k)++news++cs.toList.drop (b.es.length*b.k+news.length)).toArray g4 hdead rfl rfl (by simp;omega) (Ya4 _)
         (by have:=hM.fz id' b h1;simp;omega) (fun e=>by simp at e;omega) (by simp;omega) (by simp[Nat.add_mul];omega)
         (fun o ho=>by
           have h6:b.fz*b.k≤b.es.length*b.k:=Nat.mul_le_mul_right _ (hM.fz id' b h1)
           simp only[List.getElem?_toArray]
           rw[Yd3,Yc3 (by simp;omega),List.getElem?_take,if_pos (by omega)]
           simp)
         hwid'
         (fun i j d hd=>by
           simp only[List.getElem?_toArray]
           rcases ZdC hd with⟨hi,hd⟩|⟨hi,hd⟩
           ·obtain⟨u,hu,hr⟩:=g6 i j d hd
            refine⟨u,?_,hr⟩
            have:=ZiD hi (ZdH (hM.wid id' b h1) hd)
            rw[Yd3,Yc3 (by simp;omega),List.getElem?_take,if_pos this]
            simpa using hu
           ·obtain⟨u,hu,hr⟩:=hcs _ j d hd
            refine⟨u,?_,hr⟩
            have hlt:=(Ya3.1 hu).1
            have e1:i*b.k+j=b.es.length*b.k+((i-b.es.length)*b.k+j):=by
             have:i=b.es.length+(i-b.es.length):=by omega
             rw[← Nat.add_assoc,← Nat.add_mul,← this]
            rw[Yd3,Yc4 (by simp[e1];omega),e1]
            simp only[Yc1,Array.length_toList,Nat.min_eq_left (show b.es.length*b.k≤cs.size by omega),Nat.add_sub_cancel_left]
            rw[Yc3 (by rw[hbk];exact hlt),hbk]
            exact hu)
         (setRow_heap w B cs _ b.T _ g4) (fun k hk _=>setRow_other w B k _ hk) (fun B' hB' _=>ZiO B' hB')
        refine⟨β,s1,s2,s3,.ls _ _ _ _ _ {b with ver:=ver+1,es:=b.es++es} (Zac _ _ _) (Ya4 _) (fun _ h=>by cases h) fun _=>⟨by simp,hroom,g2,.inr ⟨B,g3,rfl,?_⟩⟩⟩
        exact⟨_,_,_,setRow_heap w B cs _ b.T _ g4,by simp;omega⟩
       · -- a new row
        have h0:es.length≠0:=by omega
        rcases hA with hA|⟨ad,rfl,hA⟩
        ·exact absurd hA h0
        have hold:∀ p,p<b.es.length*b.k→∃ u,cs[p]? =some u∧w.cell? ((⟨B,0,none⟩:Addr).add p)=some u:=by
         intro p hp
         have hlt:p<cs.size:=by
          have:b.es.length*b.k≤cap*b.k:=Nat.mul_le_mul_right _ g1
          omega
         exact⟨cs[p],Yb5 hlt,by rw[Zfk,Nat.zero_add,Zcr g4,Yb5 hlt]⟩
        have hcsz:b.es.length*b.k≤cs.size:=by rw[g5];exact Nat.mul_le_mul_right _ g1
        have hr := run_append_grow (P := P) w T ty' ty.elem inf2 z ht.und ht2.info hz ⟨B, 0, none⟩ b.es.length cap (cs.toList.take (b.es.length * b.k)) (by simp [← ht2.size, hbk]; rw [← hbk]; omega) (fun j u hu => by
            rw[List.getElem?_take]at hu
            split at hu
            ·rename_i hj
             obtain⟨u',h5,h6⟩:=hold j hj
             have:cs[j]? =some u:=by simpa using hu
             rw[h5]at this
             cases this
             exact h6
            ·cases hu) ad es.length c news (by rw[hl,ht2.size]) hA (by omega) (by omega) (growslice_fits (by omega) hBytes)
        have hcap:=grownCap_ge w (b.es.length+es.length) cap ty.elem
        have hcapm:=grownCap_le_maxLen w (b.es.length+es.length) cap ty.elem (by unfold maxLen;omega)
        let cells:=(cs.toList.take (b.es.length*b.k)).toArray++news.toArray++Builtin.zeroCells z.cells (grownCap w (b.es.length+es.length) cap ty.elem-(b.es.length+es.length))
        have hnl:news.length=es.length*b.k:=by rw[hl,hbk]
        have hsize:cells.size=grownCap w (b.es.length+es.length) cap ty.elem*b.k:=by
         simp only[cells,Array.size_append,List.size_toArray,Yc1,Array.length_toList,size_zeroCells,hnl,hzs,hbk]
         rw[Nat.min_eq_left (by rw[← hbk];exact hcsz),← Nat.add_mul,← Nat.add_mul]
         congr 1
         omega
        refine⟨_,w.drew.alloc (.cells cells b.T),by rw[hr,hT],?_⟩
        obtain⟨s1,s2,s3⟩:=Zqt (blk':={b with ver:=ver+1,es:=b.es++es}) hM h1 (by simp;omega) cells (by have:=hM.fz id' b h1;simp;omega) hwid'
         (by rw[hsize];simp only[Yb9];exact Nat.mul_le_mul_right _ hcap)
         (fun i j d hd=>by
           simp only[cells]
           rw[Array.append_assoc]
           rcases ZdC hd with⟨hi,hd⟩|⟨hi,hd⟩
           ·obtain⟨u,hu,hr⟩:=g6 i j d hd
            refine⟨u,?_,hr⟩
            have:=ZiD hi (ZdH (hM.wid id' b h1) hd)
            rw[Array.getElem?_append_left (by simp;omega)]
            simp only[List.getElem?_toArray,List.getElem?_take,if_pos this]
            simpa using hu
           ·obtain⟨u,hu,hr⟩:=hcs _ j d hd
            refine⟨u,?_,hr⟩
            have hlt:=(Ya3.1 hu).1
            have e1:i*b.k+j=b.es.length*b.k+((i-b.es.length)*b.k+j):=by
             have:i=b.es.length+(i-b.es.length):=by omega
             rw[← Nat.add_assoc,← Nat.add_mul,← this]
            rw[Array.getElem?_append_right (by simp[e1];omega),e1]
            simp only[List.size_toArray,Yc1,Array.length_toList,Nat.min_eq_left (show b.es.length*b.k≤cs.size by omega),Nat.add_sub_cancel_left]
            rw[Array.getElem?_append_left (by simp;rw[hbk];exact hlt),hbk]
            simpa using hu)
         (Below.refl _ _).drew
        refine⟨_,s1,s2,s3,.ls _ _ _ _ _ {b with ver:=ver+1,es:=b.es++es} (Zac _ _ _) (Ya4 _) (fun _ h=>by cases h) fun _=>⟨by simp,hcap,hcapm,.inr ⟨_,Zac _ _ _,rfl,?_⟩⟩⟩
        exact⟨_,_,_,heap_alloc_new _ _,hsize⟩
     ·rename_i hnd
      split at h
      ·rename_i hT
       obtain⟨hdead,hT,hbk,hv0⟩:=hT
       subst hv0
       simp only[Ya1]at h
       subst h
       obtain⟨q1,q2,q3,q4⟩:=hok
       obtain⟨h1,h2⟩:=ZaZ hb
       obtain⟨n1,n2⟩:=hid id (by simp)
       obtain⟨a0,hex⟩:=ZwN hx hb
       obtain⟨a,cap,rfl,g1,g2,g3⟩:=Zpa hM hx hb
       have hcap0:cap=b.es.length:=by cases hex;rfl
       clear hex
       rcases g3 with⟨g3,rfl,rfl,hes0⟩|⟨B,cs,g3,rfl,g4,g5,g6⟩
       ·rw[hes0]at q2 q3 ⊢
        simp only[List.length_nil,Nat.zero_add,Yc8]at q2 q3 ⊢
        exact onto_nil id ⟨ty.elem,1,et.size,es,0,false⟩ _ [] q1 q2 q3 rfl rfl rfl rfl n2 (.inl n1) (fun h=>by cases h) rfl
       ·obtain⟨A,c,news,rfl,hsrc,hone,hcs⟩:=ZmR hM hy hes (fun e he=>(q1 e he).1) (fun e he=>(q1 e he).2)
        obtain⟨hl,hA⟩:=hsrc
        have hBytes:(b.es.length+es.length)*inf2.bytes≤140737488355328:=by
         have:(((b.es.length+es.length)*et.bytes:Nat):Int)≤140737488355328:=by rw[Int.natCast_mul];exact q2
         rw[ht2.bytes]at this
         omega
        have hwid':∀ (i:Nat)(e:List D),(b.es++es)[i]? =some e→e.length=b.k:=by
         intro i e he
         by_cases hi:i<b.es.length
         ·rw[Yc3 hi]at he;exact hM.wid id' b h1 i e he
         ·rw[Yc4 (by omega)]at he;rw[hbk];exact(q1 e (Ya7 he)).1
        have h0:es.length≠0:=by omega
        rcases hA with hA|⟨ad,rfl,hA⟩
        ·exact absurd hA h0
        have hold:∀ p,p<b.es.length*b.k→∃ u,cs[p]? =some u∧w.cell? ((⟨B,0,none⟩:Addr).add p)=some u:=by
         intro p hp
         have hlt:p<cs.size:=by
          have:b.es.length*b.k≤cap*b.k:=Nat.mul_le_mul_right _ g1
          omega
         exact⟨cs[p],Yb5 hlt,by rw[Zfk,Nat.zero_add,Zcr g4,Yb5 hlt]⟩
        have hcsz:b.es.length*b.k≤cs.size:=by rw[g5];exact Nat.mul_le_mul_right _ g1
        have hr := run_append_grow (P := P) w T ty' ty.elem inf2 z ht.und ht2.info hz ⟨B, 0, none⟩ b.es.length cap (cs.toList.take (b.es.length * b.k)) (by simp [← ht2.size, hbk]; rw [← hbk]; omega) (fun j u hu => by
            rw[List.getElem?_take]at hu
            split at hu
            ·rename_i hj
             obtain⟨u',h5,h6⟩:=hold j hj
             have:cs[j]? =some u:=by simpa using hu
             rw[h5]at this
             cases this
             exact h6
            ·cases hu) ad es.length c news (by rw[hl,ht2.size]) hA (by omega) (by omega) (growslice_fits (by omega) hBytes)
        have hcap:=grownCap_ge w (b.es.length+es.length) cap ty.elem
        have hcapm:=grownCap_le_maxLen w (b.es.length+es.length) cap ty.elem (by unfold maxLen;omega)
        let cells:=(cs.toList.take (b.es.length*b.k)).toArray++news.toArray++Builtin.zeroCells z.cells (grownCap w (b.es.length+es.length) cap ty.elem-(b.es.length+es.length))
        have hnl:news.length=es.length*b.k:=by rw[hl,hbk]
        have hsize:cells.size=grownCap w (b.es.length+es.length) cap ty.elem*b.k:=by
         simp only[cells,Array.size_append,List.size_toArray,Yc1,Array.length_toList,size_zeroCells,hnl,hzs,hbk]
         rw[Nat.min_eq_left (by rw[← hbk];exact hcsz),← Nat.add_mul,← Nat.add_mul]
         congr 1
         omega
        refine⟨_,w.drew.alloc (.cells cells ty.elem),by rw[hr],?_⟩
        have hca:cells.toList.toArray=cells:=rfl
        refine ZbU.new hM n1 n2 ⟨ty.elem,1,et.size,b.es++es,0,false⟩ cells.toList (Yb0 _) (by rw[← hbk];exact hwid')
         (by rw[← hbk];show(b.es++es).length*b.k≤cells.size;rw[hsize,Yb9];exact Nat.mul_le_mul_right _ hcap)
         (fun i j d hd=>by
           show ∃ u,cells.toList[i*et.size+j]? =some u∧_
           rw[← hbk,Array.getElem?_toList]
           simp only[cells]
           rw[Array.append_assoc]
           rcases ZdC hd with⟨hi,hd⟩|⟨hi,hd⟩
           ·obtain⟨u,hu,hr⟩:=g6 i j d hd
            refine⟨u,?_,hr⟩
            have:=ZiD hi (ZdH (hM.wid id' b h1) hd)
            rw[Array.getElem?_append_left (by simp;omega)]
            simp only[List.getElem?_toArray,List.getElem?_take,if_pos this]
            simpa using hu
           ·obtain⟨u,hu,hr⟩:=hcs _ j d hd
            refine⟨u,?_,hr⟩
            have hlt:=(Ya3.1 hu).1
            have e1:i*b.k+j=b.es.length*b.k+((i-b.es.length)*b.k+j):=by
             have:i=b.es.length+(i-b.es.length):=by omega
             rw[← Nat.add_assoc,← Nat.add_mul,← this]
            rw[Array.getElem?_append_right (by simp[e1];omega),e1]
            simp only[List.size_toArray,Yc1,Array.length_toList,Nat.min_eq_left (show b.es.length*b.k≤cs.size by omega),Nat.add_sub_cancel_left]
            rw[Array.getElem?_append_left (by simp;rw[hbk];exact hlt),hbk]
            simpa using hu)
         (Below.refl _ _).drew (fun β' w' hb' hw'=>?_)
        refine .ls _ _ _ _ _ ⟨ty.elem,1,et.size,b.es++es,0,false⟩ (Zac _ _ _) (Ya4 _) (fun _ h=>by cases h) fun _=>⟨by simp,hcap,hcapm,.inr ⟨_,hb',rfl,?_⟩⟩
        exact⟨_,_,_,hw',by show cells.size=_;rw[hsize,hbk]⟩
      ·cases h
    ·cases h
   ·cases h
  ·cases h
 ·cases h
end
end ifl
end Go.Proofs.YtiincpioidnciaaGreat
