/-
  Values as data: what a value reads as in a world, where memory of the call's own has names.
-/
import Derived.Test.YtiincpioidnciaaGreatVLib
import Derived.Laws.CopyRow
import Derived.Laws.MakeOwn
import Derived.Laws.Append
import Derived.Laws.AppendOwn
import Derived.Laws.OwnMore
namespace Go.Proofs.YtiincpioidnciaaGreat
set_option linter.unusedVariables false
set_option linter.unusedSimpArgs false
set_option linter.unusedSectionVars false
open Go Go.RowKit
class Ifl where
 i:Bool
 r:Bool
@[reducible] def Ifl.on : Ifl := ⟨true, true⟩
@[reducible] def Ifl.off : Ifl := ⟨false, true⟩
@[reducible] def Ifl.it : Ifl := ⟨false, false⟩
section ifl
variable [Ifl]
inductive D where
 | v (x:Value)
 | nil
 | agg (l:List D)
 | tup (l:List D)
 | sl (es:List (List D))
 | cl (es:List (List D))
 | ep (es:List (List D)) (i off:Nat)
 | ls (id ver:Nat)
 | lp (id ver i off:Nat)
 | clo (f:FuncId) (l:List D)
 | junk
deriving Inhabited
structure Blk where
 T:TypeId
 ver:Nat
 k:Nat
 es:List (List D)
 fz:Nat
 dead:Bool
abbrev Mem:=Nat→Option Blk
abbrev Bet:=Nat→Option Nat
def cellAt(es:List (List D))(i j:Nat):Option D:=(es[i]?).bind (·[j]?)
def ZaA(w:World)(b n:Nat):Prop:=∃ cs T fr,w.heap[b]? =some (.cells cs T fr)∧cs.size=n
def Zeg(w:World)(b:Nat):Nat ⊕ Obj→Prop
 | .inl n=>ZaA w b n
 | .inr o=>(∀ cs T fr,o ≠ .cells cs T fr)∧w.heap[b]? =some o
section
variable (S:Nat→Nat→Prop) (w:World)
inductive RepI:Bet→Mem→Value→D→Prop where
 | v {β m} (x:Value):RepI β m x (.v x)
 | nil {β m}:RepI β m (.slice none 0 0) .nil
 | agg {β m} (vs:List Value) (l:List D) (hl:vs.length=l.length) (h:∀ (i:Nat)(x:Value)(d:D),vs[i]? =some x→l[i]? =some d→RepI β m x d):RepI β m (.agg vs.toArray) (.agg l)
 | tup {β m} (vs:List Value) (l:List D) (hl:vs.length=l.length) (h:∀ (i:Nat)(x:Value)(d:D),vs[i]? =some x→l[i]? =some d→RepI β m x d):RepI β m (.tuple vs.toArray) (.tup l)
 | sl0 {β m} (a:Option Addr) (cap:Nat) (hc:cap≤maxLen):RepI β m (.slice a 0 cap) (.sl [])
 | sl {β m} (b off cap k : Nat) (es : List (List D)) (val : Nat → Nat → Value) (h1 : es.length ≤ cap) (h2 : cap ≤ maxLen) (h3 : ∀ (i : Nat) (e : List D), es[i]? = some e → e.length = k)
     (h4:∀ (i j:Nat)(d:D),cellAt es i j=some d→S b (off+i*k+j)∧w.cell? ⟨b,off+i*k+j,none⟩=some (val i j))
     (h5:∀ (i j:Nat)(d:D),cellAt es i j=some d→RepI (fun _=>none) (fun _=>none) (val i j) d):RepI β m (.slice (some ⟨b,off,none⟩) es.length cap) (.sl es)
 | cl {β m} (a:Option Addr) (es:List (List D)) (h:RepI (fun _=>none) (fun _=>none) (.slice a es.length es.length) (.sl es)):RepI β m (.slice a es.length es.length) (.cl es)
 | ep {β m} (b off k i o : Nat) (es : List (List D)) (val : Nat → Nat → Value) (h3 : ∀ (i : Nat) (e : List D), es[i]? = some e → e.length = k)
     (h4:∀ (i j:Nat)(d:D),cellAt es i j=some d→S b (off+i*k+j)∧w.cell? ⟨b,off+i*k+j,none⟩=some (val i j))
     (h5:∀ (i j:Nat)(d:D),cellAt es i j=some d→RepI (fun _=>none) (fun _=>none) (val i j) d):RepI β m (.pointer (some ⟨b,off+i*k+o,none⟩)) (.ep es i o)
 | ls {β m} (a : Option Addr) (n cap id ver : Nat) (blk : Blk) (hm : m id = some blk) (hv : ver ≤ blk.ver) (hx : ver = blk.ver → ver = 0 → cap = n)
     (h:ver=blk.ver→n=blk.es.length∧n≤cap∧cap≤maxLen∧((β id=none∧a=none∧cap=0)∨∃ b,β id=some b∧a=some ⟨b,0,none⟩∧ZaA w b (cap*blk.k))):RepI β m (.slice a n cap) (.ls id ver)
 | lp {β m} (b p : Nat) (id ver i o : Nat) (blk : Blk) (hm : m id = some blk) (hv : ver ≤ blk.ver)
     (h:ver=blk.ver→β id=some b∧p=i*blk.k+o):RepI β m (.pointer (some ⟨b,p,none⟩)) (.lp id ver i o)
 | clo {β m} (f:FuncId) (vs:List Value) (l:List D) (hl:vs.length=l.length) (h:∀ (i:Nat)(x:Value)(d:D),vs[i]? =some x→l[i]? =some d→RepI β m x d):RepI β m (.func (.func f) #[] vs.toArray) (.clo f l)
 | junk {β m} (x:Value):RepI β m x .junk
end
abbrev Rep(β:Bet)(m:Mem)(S:Nat→Nat→Prop)(w:World)(x:Value)(d:D):Prop:=RepI S w β m x d
abbrev noB:Bet:=fun _=>none
abbrev noM:Mem:=fun _=>none
structure Zah (β:Bet) (m:Mem) (w:World) (β':Bet) (m':Mem) (w':World):Prop where
 blk:∀ id x,m id=some x→∃ y,m' id=some y∧x.ver≤y.ver∧(y.ver=x.ver→y.k=x.k∧y.es.length=x.es.length∧β' id=β id)
 cap:∀ b n,Zeg w b n→Zeg w' b n
def Zac(S:Nat→Nat→Prop)(w:World)(S':Nat→Nat→Prop)(w':World):Prop:=∀ b o u,S b o→w.cell? ⟨b,o,none⟩=some u→S' b o∧w'.cell? ⟨b,o,none⟩=some u
theorem Zah.refl(β:Bet)(m:Mem)(w:World):Zah β m w β m w:=⟨fun _ x h=>⟨x,h,Ya4 _,fun _=>⟨rfl,rfl,rfl⟩⟩,fun _ _ h=>h⟩
theorem Zah.trans{β m w β1 m1 w1 β2 m2 w2}(h:Zah β m w β1 m1 w1)(k:Zah β1 m1 w1 β2 m2 w2):Zah β m w β2 m2 w2:=by
 refine⟨fun id x hx=>?_,fun b n hn=>k.cap _ _ (h.cap _ _ hn)⟩
 obtain⟨y,hy,hv,he⟩:=h.blk id x hx
 obtain⟨z,hz,hv2,he2⟩:=k.blk id y hy
 refine⟨z,hz,Yc7 hv hv2,fun e=>?_⟩
 obtain⟨e1,e2,e3⟩:=he (by omega)
 obtain⟨f1,f2,f3⟩:=he2 (by omega)
 exact⟨f1.trans e1,f2.trans e2,f3.trans e3⟩
theorem Zac.refl(S:Nat→Nat→Prop)(w:World):Zac S w S w:=fun _ _ _ h k=>⟨h,k⟩
theorem Zac.trans{S w S1 w1 S2 w2}(h:Zac S w S1 w1)(k:Zac S1 w1 S2 w2):Zac S w S2 w2:=fun b o u h1 h2=>let ⟨a,c⟩:=h b o u h1 h2;k b o u a c
structure ZcW (β:Bet) (m:Mem) (w:World) (β':Bet) (m':Mem) (w':World):Prop where
 blk:∀ id x,m id=some x→∃ y,m' id=some y∧x.ver≤y.ver∧(y.ver=x.ver→y.k=x.k∧y.es.length=x.es.length∧β' id=β id)
 cap:∀ b n,ZaA w b n→ZaA w' b n
theorem Rep.mono0{β m S w β' m' S' w'}{x:Value}{d:D}(hm:ZcW β m w β' m' w')(hs:Zac S w S' w')(h:Rep β m S w x d):Rep β' m' S' w' x d:=by
 induction h generalizing β' m' with
 | v x=>exact .v x
 | nil=>exact .nil
 | agg vs l hl _ ih=>exact .agg vs l hl fun i x d h1 h2=>ih i x d h1 h2 hm
 | tup vs l hl _ ih=>exact .tup vs l hl fun i x d h1 h2=>ih i x d h1 h2 hm
 | sl0 a cap hc=>exact .sl0 a cap hc
 | sl b off cap k es val h1 h2 h3 h4 _ ih=>exact .sl b off cap k es val h1 h2 h3 (fun i j d hd=>hs _ _ _ (h4 i j d hd).1 (h4 i j d hd).2) fun i j d hd=>ih i j d hd ⟨fun _ _ h=>(by cases h),hm.cap⟩
 | cl a es _ ih=>exact .cl a es (ih ⟨fun _ _ h=>(by cases h),hm.cap⟩)
 | ep b off k i o es val h3 h4 _ ih=>exact .ep b off k i o es val h3 (fun i j d hd=>hs _ _ _ (h4 i j d hd).1 (h4 i j d hd).2) fun i j d hd=>ih i j d hd ⟨fun _ _ h=>(by cases h),hm.cap⟩
 | ls a n cap id ver blk hb hv hx h =>
   obtain⟨y,hy,hv2,he⟩:=hm.blk id blk hb
   refine .ls a n cap id ver y hy (Yc7 hv hv2) (fun e=>hx (by omega)) fun e=>?_
   have e':ver=blk.ver:=by omega
   obtain⟨e1,e2,e3⟩:=he (by omega)
   obtain⟨h1,h2,h3,h4⟩:=h e'
   refine⟨h1.trans e2.symm,h2,h3,?_⟩
   rcases h4 with⟨h4,h5⟩|⟨b,h4,h5,h6⟩
   ·exact .inl ⟨e3.trans h4,h5⟩
   ·exact .inr ⟨b,e3.trans h4,h5,by rw[e1];exact hm.cap _ _ h6⟩
 | lp b p id ver i o blk hb hv h =>
   obtain⟨y,hy,hv2,he⟩:=hm.blk id blk hb
   refine .lp b p id ver i o y hy (Yc7 hv hv2) fun e=>?_
   have e':ver=blk.ver:=by omega
   obtain⟨e1,e2,e3⟩:=he (by omega)
   obtain⟨h4,h5⟩:=h e'
   exact⟨e3.trans h4,by rw[e1];exact h5⟩
 | clo f vs l hl _ ih=>exact .clo f vs l hl fun i x d h1 h2=>ih i x d h1 h2 hm
 | junk x=>exact .junk x
theorem Rep.mono{β m S w β' m' S' w'}{x:Value}{d:D}(hm:Zah β m w β' m' w')(hs:Zac S w S' w')(h:Rep β m S w x d):Rep β' m' S' w' x d:=h.mono0 ⟨hm.blk,fun b n hr=>hm.cap b (.inl n) hr⟩ hs
theorem Rep.lift{β m S w}{x:Value}{d:D}(h:Rep noB noM S w x d):Rep β m S w x d:=h.mono ⟨fun _ _ h=>(by cases h),fun _ _ h=>h⟩ (Zac.refl _ _)
section
variable {β:Bet} {m:Mem} {S:Nat→Nat→Prop} {w:World} {x:Value}
theorem Rep.inv_v{y:Value}(h:Rep β m S w x (.v y)):x=y:=by cases h;rfl
theorem Rep.inv_cl{es:List (List D)}(h:Rep β m S w x (.cl es)):∃ a,x = .slice a es.length es.length∧Rep noB noM S w x (.sl es):=by cases h with|cl a es h=>exact⟨a,rfl,h⟩
theorem Rep.inv_nil(h:Rep β m S w x .nil):x = .slice none 0 0:=by cases h;rfl
theorem Rep.inv_agg{l:List D}(h:Rep β m S w x (.agg l)):∃ vs:List Value,x = .agg vs.toArray∧vs.length=l.length∧∀ (i:Nat)(y:Value)(d:D),vs[i]? =some y→l[i]? =some d→Rep β m S w y d:=by cases h;exact⟨_,rfl,by assumption,by assumption⟩
theorem Rep.inv_tup{l:List D}(h:Rep β m S w x (.tup l)):∃ vs:List Value,x = .tuple vs.toArray∧vs.length=l.length∧∀ (i:Nat)(y:Value)(d:D),vs[i]? =some y→l[i]? =some d→Rep β m S w y d:=by cases h;exact⟨_,rfl,by assumption,by assumption⟩
theorem Rep.inv_clo{f:FuncId}{l:List D}(h:Rep β m S w x (.clo f l)):∃ vs:List Value,x = .func (.func f) #[] vs.toArray∧vs.length=l.length∧∀ (i:Nat)(y:Value)(d:D),vs[i]? =some y→l[i]? =some d→Rep β m S w y d:=by cases h;exact⟨_,rfl,by assumption,by assumption⟩
def ZeO(S:Nat→Nat→Prop)(w:World)(b off k:Nat)(es:List (List D)):Prop :=
 (∀ (i:Nat)(e:List D),es[i]? =some e→e.length=k)∧∀ (i j:Nat)(d:D),cellAt es i j=some d→∃ u,S b (off+i*k+j)∧w.cell? ⟨b,off+i*k+j,none⟩=some u∧Rep noB noM S w u d
theorem Rep.inv_ep{es:List (List D)}{i o:Nat}(h:Rep β m S w x (.ep es i o)):∃ b off k,x = .pointer (some ⟨b,off+i*k+o,none⟩)∧ZeO S w b off k es:=by
 cases h with
 | ep b off k i o es val h3 h4 h5=>exact⟨b,off,k,rfl,h3,fun i j d hd=>⟨val i j,(h4 i j d hd).1,(h4 i j d hd).2,h5 i j d hd⟩⟩
theorem Rep.inv_ls{id ver:Nat}(h:Rep β m S w x (.ls id ver)):∃ a n cap blk,x = .slice a n cap∧m id=some blk∧ver≤blk.ver ∧
 (ver=blk.ver→n=blk.es.length∧n≤cap∧cap≤maxLen∧((β id=none∧a=none∧cap=0)∨∃ b,β id=some b∧a=some ⟨b,0,none⟩∧ZaA w b (cap*blk.k))):=by
 cases h with
 | ls a n cap id ver blk hb hv hx h=>exact⟨a,n,cap,blk,rfl,hb,hv,h⟩
theorem Rep.inv_lsx{id ver:Nat}(h:Rep β m S w x (.ls id ver)):∃ a n cap blk,x = .slice a n cap∧m id=some blk∧ver≤blk.ver∧(ver=blk.ver→ver=0→cap=n) ∧
 (ver=blk.ver→n=blk.es.length∧n≤cap∧cap≤maxLen∧((β id=none∧a=none∧cap=0)∨∃ b,β id=some b∧a=some ⟨b,0,none⟩∧ZaA w b (cap*blk.k))):=by
 cases h with
 | ls a n cap id ver blk hb hv hx h=>exact⟨a,n,cap,blk,rfl,hb,hv,hx,h⟩
theorem Rep.inv_lp{id ver i o:Nat}(h:Rep β m S w x (.lp id ver i o)):∃ b p blk,x = .pointer (some ⟨b,p,none⟩)∧m id=some blk∧ver≤blk.ver∧(ver=blk.ver→β id=some b∧p=i*blk.k+o):=by
 cases h with
 | lp b p id ver i o blk hb hv h=>exact⟨b,p,blk,rfl,hb,hv,h⟩
theorem ZeR{b off k cap:Nat}{es:List (List D)}(h:ZeO S w b off k es)(h1:es.length≤cap)(h2:cap≤maxLen):Rep β m S w (.slice (some ⟨b,off,none⟩) es.length cap) (.sl es):=by
 refine .sl b off cap k es (fun i j=>(w.cell? ⟨b,off+i*k+j,none⟩).getD undef) h1 h2 h.1 (fun i j d hd=>?_) (fun i j d hd=>?_)
 ·obtain⟨u,h3,h4,h5⟩:=h.2 i j d hd
  exact⟨h3,by rw[h4];rfl⟩
 ·obtain⟨u,h3,h4,h5⟩:=h.2 i j d hd
  rw[h4];exact h5
theorem ZeS{b off k:Nat}{es:List (List D)}(h:ZeO S w b off k es)(i o:Nat):Rep β m S w (.pointer (some ⟨b,off+i*k+o,none⟩)) (.ep es i o):=by
 refine .ep b off k i o es (fun i j=>(w.cell? ⟨b,off+i*k+j,none⟩).getD undef) h.1 (fun i j d hd=>?_) (fun i j d hd=>?_)
 ·obtain⟨u,h3,h4,h5⟩:=h.2 i j d hd
  exact⟨h3,by rw[h4];rfl⟩
 ·obtain⟨u,h3,h4,h5⟩:=h.2 i j d hd
  rw[h4];exact h5
end
structure Env where
 S0:Nat→Nat→Prop
 w0:World
 fresh:∀ b o,w0.heap.size≤b→S0 b o
 ints:Ifl.i=true→∀ b cs fr o,w0.heap[b]? =some (.cells cs 3 fr)→S0 b o
def safe(E:Env)(β:Bet)(m:Mem)(b o:Nat):Prop:=E.S0 b o∧∀ id blk,m id=some blk→β id=some b→o<blk.fz*blk.k∨blk.dead=true
structure Zag (E:Env) (β:Bet) (m:Mem) (nx:Nat) (w:World):Prop where
 below:Below E.w0.heap.size E.w0 w
 lt:∀ id blk,m id=some blk→id<nx
 fz:∀ id blk,m id=some blk→blk.fz≤blk.es.length
 wid:∀ id blk,m id=some blk→∀ (i:Nat)(e:List D),blk.es[i]? =some e→e.length=blk.k
 non:∀ id blk,m id=some blk→β id=none→blk.es=[]
 row:∀ id blk b,m id=some blk→β id=some b→E.w0.heap.size≤b∧∃ cs,w.heap[b]? =some (.cells cs blk.T (0,0))∧blk.es.length*blk.k≤cs.size ∧
  ∀ (i j:Nat)(d:D),cellAt blk.es i j=some d→∃ u,cs[i*blk.k+j]? =some u∧Rep β m (safe E β m) w u d
 inj:∀ id1 id2 x y b,m id1=some x→m id2=some y→β id1=some b→β id2=some b→id1=id2
theorem Zaf{es:List (List D)}{i j:Nat}{d:D}:cellAt es i j=some d↔∃ e,es[i]? =some e∧e[j]? =some d:=by
 unfold cellAt
 cases es[i]? <;> simp
end ifl
section ifl
variable [Ifl]
def upd{α:Type}(f:Nat→α)(k:Nat)(x:α):Nat→α:=fun j=>if j=k then x else f j
theorem Zaa{α:Type}(f:Nat→α)(k:Nat)(x:α):upd f k x k=x:=by simp[upd]
theorem Zab{α:Type}(f:Nat→α){k j:Nat}(x:α)(h:j≠k):upd f k x j=f j:=by simp[upd,h]
def ZaX(E:Env)(β:Bet)(m:Mem)(nx:Nat)(w:World)(m':Mem)(v:Value)(d:D)(w':World):Prop :=
 ∃ β',Zag E β' m' nx w'∧Zah β m w β' m' w'∧Zac (safe E β m) w (safe E β' m') w'∧Rep β' m' (safe E β' m') w' v d
theorem ZaX.same{E β m nx w v d}(h:Zag E β m nx w)(hv:Rep β m (safe E β m) w v d):ZaX E β m nx w m v d w :=
 ⟨β,h,Zah.refl _ _ _,Zac.refl _ _,hv⟩
theorem Zag.mono_nx{E β m nx nx' w}(h:Zag E β m nx w)(hn:nx≤nx'):Zag E β m nx' w :=
 ⟨h.below,fun id b hb=>Nat.lt_of_lt_of_le (h.lt id b hb) hn,h.fz,h.wid,h.non,h.row,h.inj⟩
theorem Zag.none{E β m nx w}(h:Zag E β m nx w):m nx=none:=by
 cases hm:m nx with
 | none=>rfl
 | some b=>exact absurd (h.lt _ _ hm) (Nat.lt_irrefl _)
theorem Zb5{w:World}{b:Nat}{cs:Array Value}{T:TypeId}{fr:Nat×Nat}(h:w.heap[b]? =some (.cells cs T fr))(o:Nat):w.cell? ⟨b,o,none⟩=cs[o]?:=cell_of_row w b o cs T fr h
theorem ZdL{w:World}{b o:Nat}{u:Value}(h:w.cell? ⟨b,o,none⟩=some u):b<w.heap.size:=block_lt_of_cell h
theorem Zbl{w:World}{b n:Nat}(h:ZaA w b n):b<w.heap.size:=by
 obtain⟨cs,T,fr,h,_⟩:=h
 exact(Ya5.1 h).1
theorem Zco{w w':World}(h:∀ b,b<w.heap.size→w'.heap[b]? =w.heap[b]?){b n:Nat}(hr:ZaA w b n):ZaA w' b n:=by
 have hl:=Zbl hr
 obtain⟨cs,T,fr,hg,hn⟩:=hr
 exact⟨cs,T,fr,by rw[h b hl];exact hg,hn⟩
theorem ZbE{w w':World}(h:∀ b,b<w.heap.size→w'.heap[b]? =w.heap[b]?){b:Nat}{n:Nat ⊕ Obj}(hr:Zeg w b n):Zeg w' b n:=by
 cases n with
 | inl n=>exact Zco h hr
 | inr o=>exact⟨hr.1,by rw[h b (Ya5.1 hr.2).1];exact hr.2⟩
theorem Zcd{E β m nx w w'}(h:Zag E β m nx w)(hb:Below w.heap.size w w'):Zag E β m nx w'∧Zah β m w β m w'∧Zac (safe E β m) w (safe E β m) w':=by
 have hk:∀ b,b<w.heap.size→w'.heap[b]? =w.heap[b]?:=hb.block
 have hs:Zac (safe E β m) w (safe E β m) w':=fun b o u h1 h2=>⟨h1,(hb.cell (p:=⟨b,o,none⟩) (ZdL h2)).trans h2⟩
 have hm:Zah β m w β m w':=⟨fun _ x hx=>⟨x,hx,Ya4 _,fun _=>⟨rfl,rfl,rfl⟩⟩,fun b n hr=>ZbE hk hr⟩
 refine⟨⟨h.below.trans (hb.mono h.below.size),h.lt,h.fz,h.wid,h.non,fun id blk b h1 h2=>?_,h.inj⟩,hm,hs⟩
 obtain⟨h3,cs,h4,h5,h6⟩:=h.row id blk b h1 h2
 refine⟨h3,cs,by rw[hk b (Ya5.1 h4).1];exact h4,h5,fun i j d hd=>?_⟩
 obtain⟨u,h7,h8⟩:=h6 i j d hd
 exact⟨u,h7,h8.mono hm hs⟩
theorem Zfn{E β m nx w}(h:Zag E β m nx w){id:Nat}(hid:m id=none)(hlt:id<nx)(blk:Blk)(cs:Array Value)(hfz:blk.fz≤blk.es.length)
 (hwid:∀ (i:Nat)(e:List D),blk.es[i]? =some e→e.length=blk.k) (hsz:blk.es.length*blk.k≤cs.size)
 (hcs:∀ (i j:Nat)(d:D),cellAt blk.es i j=some d→∃ u,cs[i*blk.k+j]? =some u∧Rep β m (safe E β m) w u d) {w1:World} (hw1:Below w.heap.size w w1) :
 Zag E (upd β id (some w1.heap.size)) (upd m id (some blk)) nx (w1.alloc (.cells cs blk.T))∧Zah β m w (upd β id (some w1.heap.size)) (upd m id (some blk)) (w1.alloc (.cells cs blk.T)) ∧
  Zac (safe E β m) w (safe E (upd β id (some w1.heap.size)) (upd m id (some blk))) (w1.alloc (.cells cs blk.T)):=by
 have hB:Below w.heap.size w (w1.alloc (.cells cs blk.T)):=hw1.alloc hw1.size _
 have hk:∀ b,b<w.heap.size→(w1.alloc (.cells cs blk.T)).heap[b]? =w.heap[b]?:=hB.block
 have hne:∀ x y,m x=some y→x≠id:=fun x y hx e=>by rw[e,hid]at hx;cases hx
 have hm:Zah β m w (upd β id (some w1.heap.size)) (upd m id (some blk)) (w1.alloc (.cells cs blk.T)):=by
  refine⟨fun x y hx=>⟨y,by rw[Zab _ _ (hne x y hx)];exact hx,Ya4 _,fun _=>⟨rfl,rfl,by rw[Zab _ _ (hne x y hx)]⟩⟩,fun b n hr=>ZbE hk hr⟩
 have hs:Zac (safe E β m) w (safe E (upd β id (some w1.heap.size)) (upd m id (some blk))) (w1.alloc (.cells cs blk.T)):=by
  intro b o u h1 h2
  have hl:=ZdL h2
  refine⟨⟨h1.1,fun x y hx hy=>?_⟩,(hB.cell (p:=⟨b,o,none⟩) hl).trans h2⟩
  by_cases e:x=id
  ·subst e
   rw[Zaa]at hy
   simp only[Ya1]at hy
   have:=hw1.size
   omega
  ·rw[Zab _ _ e]at hx hy
   exact h1.2 x y hx hy
 have hblt:∀ x y b,m x=some y→β x=some b→b<w.heap.size:=fun x y b hx hb=>by
  obtain⟨_,cs,h4,_⟩:=h.row x y b hx hb
  exact(Ya5.1 h4).1
 refine⟨⟨h.below.trans (hB.mono h.below.size),?_,?_,?_,?_,?_,?_⟩,hm,hs⟩
 ·intro x y hx
  by_cases e:x=id
  ·subst e;exact hlt
  ·rw[Zab _ _ e]at hx;exact h.lt x y hx
 ·intro x y hx
  by_cases e:x=id
  ·subst e;rw[Zaa]at hx;cases hx;exact hfz
  ·rw[Zab _ _ e]at hx;exact h.fz x y hx
 ·intro x y hx
  by_cases e:x=id
  ·subst e;rw[Zaa]at hx;cases hx;exact hwid
  ·rw[Zab _ _ e]at hx;exact h.wid x y hx
 ·intro x y hx hb
  by_cases e:x=id
  ·subst e;rw[Zaa]at hb;cases hb
  ·rw[Zab _ _ e]at hx hb;exact h.non x y hx hb
 ·intro x y b hx hb
  by_cases e:x=id
  ·subst e
   rw[Zaa]at hx hb
   cases hx
   cases hb
   refine⟨Yc7 h.below.size hw1.size,cs,heap_alloc_new _ _,hsz,fun i j d hd=>?_⟩
   obtain⟨u,h1,h2⟩:=hcs i j d hd
   exact⟨u,h1,h2.mono hm hs⟩
  ·rw[Zab _ _ e]at hx hb
   obtain⟨h3,cs',h4,h5,h6⟩:=h.row x y b hx hb
   refine⟨h3,cs',by rw[hk b (hblt x y b hx hb)];exact h4,h5,fun i j d hd=>?_⟩
   obtain⟨u,h7,h8⟩:=h6 i j d hd
   exact⟨u,h7,h8.mono hm hs⟩
 ·intro x1 x2 y1 y2 b h1 h2 h3 h4
  by_cases e1:x1=id
  ·by_cases e2:x2=id
   ·rw[e1,e2]
   ·subst e1
    rw[Zaa]at h3
    rw[Zab _ _ e2]at h2 h4
    cases h3
    have:=hblt x2 y2 _ h2 h4
    have:=hw1.size
    omega
  ·by_cases e2:x2=id
   ·subst e2
    rw[Zaa]at h4
    rw[Zab _ _ e1]at h1 h3
    cases h4
    have:=hblt x1 y1 _ h1 h3
    have:=hw1.size
    omega
   ·rw[Zab _ _ e1]at h1 h3
    rw[Zab _ _ e2]at h2 h4
    exact h.inj x1 x2 y1 y2 b h1 h2 h3 h4
theorem ZcJ{E β m nx w}(h:Zag E β m nx w){id:Nat}{blk:Blk}(hm0:m id=some blk) :
 Zag E β (upd m id (some {blk with dead:=true})) nx w∧Zah β m w β (upd m id (some {blk with dead:=true})) w∧Zac (safe E β m) w (safe E β (upd m id (some {blk with dead:=true}))) w:=by
 have hm:Zah β m w β (upd m id (some {blk with dead:=true})) w:=by
  refine⟨fun x y hx=>?_,fun _ _ h=>h⟩
  by_cases e:x=id
  ·subst e
   rw[hm0]at hx;cases hx
   exact⟨_,Zaa _ _ _,Ya4 _,fun _=>⟨rfl,rfl,rfl⟩⟩
  ·exact⟨y,by rw[Zab _ _ e];exact hx,Ya4 _,fun _=>⟨rfl,rfl,rfl⟩⟩
 have hs:Zac (safe E β m) w (safe E β (upd m id (some {blk with dead:=true}))) w:=by
  intro b o u h1 h2
  refine⟨⟨h1.1,fun x y hx hy=>?_⟩,h2⟩
  by_cases e:x=id
  ·subst e;rw[Zaa]at hx;cases hx;exact .inr rfl
  ·rw[Zab _ _ e]at hx;exact h1.2 x y hx hy
 have hget:∀ x y,upd m id (some {blk with dead:=true}) x=some y→∃ z,m x=some z∧y.T=z.T∧y.k=z.k∧y.es=z.es∧y.fz=z.fz:=by
  intro x y hx
  by_cases e:x=id
  ·subst e;rw[Zaa]at hx;cases hx;exact⟨blk,hm0,rfl,rfl,rfl,rfl⟩
  ·rw[Zab _ _ e]at hx;exact⟨y,hx,rfl,rfl,rfl,rfl⟩
 refine⟨⟨h.below,?_,?_,?_,?_,?_,?_⟩,hm,hs⟩
 ·intro x y hx
  obtain⟨z,hz,_⟩:=hget x y hx
  exact h.lt x z hz
 ·intro x y hx
  obtain⟨z,hz,e1,e2,e3,e4⟩:=hget x y hx
  rw[e3,e4];exact h.fz x z hz
 ·intro x y hx
  obtain⟨z,hz,e1,e2,e3,e4⟩:=hget x y hx
  rw[e3,e2];exact h.wid x z hz
 ·intro x y hx hb
  obtain⟨z,hz,e1,e2,e3,e4⟩:=hget x y hx
  rw[e3];exact h.non x z hz hb
 ·intro x y b hx hb
  obtain⟨z,hz,e1,e2,e3,e4⟩:=hget x y hx
  obtain⟨h3,cs',h4,h5,h6⟩:=h.row x z b hz hb
  rw[e1,e2,e3]
  refine⟨h3,cs',h4,h5,fun i j d hd=>?_⟩
  obtain⟨u,h7,h8⟩:=h6 i j d hd
  exact⟨u,h7,h8.mono hm hs⟩
 ·intro x1 x2 y1 y2 b h1 h2 h3 h4
  obtain⟨z1,hz1,_⟩:=hget x1 y1 h1
  obtain⟨z2,hz2,_⟩:=hget x2 y2 h2
  exact h.inj x1 x2 z1 z2 b hz1 hz2 h3 h4
end ifl
section ifl
variable [Ifl]
def ZcP:Value→D
 | .slice none 0 0=>.nil
 | x=>.v x
def rd(t:Nat→D):Operand→D
 | .tmp k=>t k
 | .const x=>ZcP x
 | .global _=>.junk
 | .func f=>.clo f []
structure TyI where
 kind:Nat
 size:Nat
 bytes:Nat
 zero:Option (List D)
 elem:TypeId
 ik:Option IntKind
 fields:List (Nat×Nat×Bool)
def TyI.agg(i:TyI):Bool:=i.kind==1||i.kind==3
def Za5:TypeDesc→Nat
 | .struct _=>1
 | .slice _=>2
 | .array _ _=>3
 | .string=>4
 | .int _=>5
 | .bool=>6
 | _=>0
def ZdU(P:Program)(f:Field):Option (Nat×Nat×Bool) :=
 match P.info? f.type,P.underlying f.type with
 | some i,some d=>some (f.offset,i.size,Za5 d==1||Za5 d==3)
 | _,_=>none
def tyOf(P:Program)(t:TypeId):Option TyI :=
 match P.info? t,P.underlying t with
 | some i,some d=>some
   { kind:=Za5 d,size:=i.size,bytes:=i.bytes,zero:=i.zero.map fun z=>z.cells.toList.map ZcP
     elem:=match d with | .slice e=>e|_=>0
     ik:=match d with | .int k=>some k|_=>none
     fields:=match d with | .struct fs=>(fs.toList.map fun f=>(ZdU P f).getD (0,0,false))|_=>[]}
 | _,_=>none
structure Res where
 ok:Prop
 d:D
 rd:List Nat
 wr:List (Nat×Blk)
 new:List Nat
def ov(m:Mem):List (Nat×Blk)→Mem
 | []=>m
 | p ::l=>ov (upd m p.1 (some p.2)) l
abbrev Res.pure(d:D):Res:=⟨True,d,[],[],[]⟩
def D.isCell:D→Bool
 | .v x=>x.oneCell'
 | .agg _ | .tup _ | .junk=>false
 | _=>true
def D.cells? :D→Option (List D)
 | .agg l=>some l
 | .tup _=>none
 | .junk=>none
 | .v x=>if x.oneCell' then some [.v x]else none
 | d=>some [d]
def ldE(es:List (List D))(i off:Nat)(ty:TyI):Option D :=
 match es[i]? with
 | none=>none
 | some e=>if ty.agg then(if off+ty.size≤e.length then some (.agg ((e.drop off).take ty.size))else none)else e[off]?
def binD(op:BinOp)(x y:D):Option (Prop×D) :=
 match op,x,y with
 | .shr,.v (.int k a),.v (.int _ b)=>some (0≤b,.v (.int k (a.fdiv (2^min b.toNat k.bits))))
 | .shl,.v (.int k a),.v (.int _ b)=>some (0≤b,.v (.int k (k.wrap (a*2^min b.toNat k.bits))))
 | op, .v (.int k a), .v (.int k' b) => if k = k' then
     match op with
     | .add=>some (True,.v (.int k (k.wrap (a+b))))
     | .sub=>some (True,.v (.int k (k.wrap (a-b))))
     | .mul=>some (True,.v (.int k (k.wrap (a*b))))
     | .quo=>some (b≠0,.v (.int k (k.wrap (a.tdiv b))))
     | .rem=>some (b≠0,.v (.int k (a.tmod b)))
     | .eql=>some (True,.v (.bool (a==b)))
     | .neq=>some (True,.v (.bool (a !=b)))
     | .lss=>some (True,.v (.bool (decide (a<b))))
     | .leq=>some (True,.v (.bool (decide (a≤b))))
     | .gtr=>some (True,.v (.bool (decide (a>b))))
     | .geq=>some (True,.v (.bool (decide (a≥b))))
     | .or=>some (True,.v (.int k (k.wrap (BitVec.ofInt k.bits a ||| BitVec.ofInt k.bits b).toNat)))
     | .and=>some (True,.v (.int k (k.wrap (BitVec.ofInt k.bits a &&& BitVec.ofInt k.bits b).toNat)))
     | .xor=>some (True,.v (.int k (k.wrap (BitVec.ofInt k.bits a ^^^ BitVec.ofInt k.bits b).toNat)))
     | _=>none
   else none
 | op, .v (.string a), .v (.string b) =>
     match op with
     | .eql=>some (True,.v (.bool (a.toList==b.toList)))
     | .neq=>some (True,.v (.bool (!(a.toList==b.toList))))
     | .lss=>some (True,.v (.bool (Op.bytesLess a.toList b.toList)))
     | .add=>some (((a.size+b.size:Nat):Int)≤9223372036854775807,.v (.string (a++b)))
     | _=>none
 | _,_,_=>none
def unD(op:UnOp)(x:D):Option D :=
 match op,x with
 | .not,.v (.bool b)=>some (.v (.bool !b))
 | .neg,.v (.int k n)=>some (.v (.int k (k.wrap (0-n))))
 | _,_=>none
def eqTy(P:Program)(t:TypeId):Bool :=
 match P.underlying t with
 | some (.struct fs) => !P.stoodInHeld t && (!P.eqGuardType P.depth t && ((fs.toList.all fun f => f.name != "_" && (match P.underlying f.type with | some (.int .i64) => true | _ => false)) && (decide (fs.toList.map (·.offset) = List.range fs.toList.length) && decide ((P.info? t).map (·.size) = some fs.toList.length))))
 | _=>false
def eqL:List D→List D→Option Bool
 | [],[]=>some true
 | .v (.int .i64 a) ::l,.v (.int .i64 b) ::m=>(eqL l m).map fun c=>(a==b)&&c
 | _,_=>none
def Zf7(P:Program)(t:TypeId):Bool :=
 match P.underlying t with
 | some (.pointer _)=>true
 | _=>false
def Zgq(se ptr:Bool)(op:BinOp)(ty:TyI)(x y:D):Option D :=
 match op,x,y with
 | .eql,.ep _ _ _,.v (.pointer none)=>if ptr=true then some (.v (.bool false))else none
 | .neq,.ep _ _ _,.v (.pointer none)=>if ptr=true then some (.v (.bool true))else none
 | .eql,.lp _ _ _ _,.v (.pointer none)=>if ptr=true then some (.v (.bool false))else none
 | .neq,.lp _ _ _ _,.v (.pointer none)=>if ptr=true then some (.v (.bool true))else none
 | .eql,.v (.pointer p),.v (.pointer none)=>if ptr=true then some (.v (.bool p.isNone))else none
 | .neq,.v (.pointer p),.v (.pointer none)=>if ptr=true then some (.v (.bool (!p.isNone)))else none
 | .eql,.agg a,.agg b=>if se=true∧a.length=ty.size then(eqL a b).map fun c=>.v (.bool c)else none
 | .eql,.v (.bool a),.v (.bool b)=>if ty.kind=6 then some (.v (.bool (a==b)))else none
 | .neq,.v (.bool a),.v (.bool b)=>if ty.kind=6 then some (.v (.bool (!(a==b))))else none
 | .eql,.sl (_ ::_),.nil=>if ty.kind=2 then some (.v (.bool false))else none
 | _,_,_=>none
def Zas(m:Mem)(id ver:Nat):Option Blk :=
 match m id with
 | some b=>if ver=b.ver then some b else none
 | none=>none
def Zck(e:List D)(off:Nat)(c:List D):List D:=e.take off++c++e.drop (off+c.length)
def Zdg(ty:TyI)(x:D)(m:Mem):Option Res :=
 match x with
 | .ep es i off=>(ldE es i off ty).map .pure
 | .lp id ver i off=>match Zas m id ver with
   | some b=>(ldE b.es i off ty).map fun d=>⟨True,d,[id],[],[]⟩
   | none=>none
 | _=>none
def ZeP(ty:TyI)(x y:D)(m:Mem):Option Res :=
 match x,y.cells? with
 | .lp id ver i off,some c=>match Zas m id ver with
   | some b=>match b.es[i]? with
     | some e => if b.dead = false ∧ c.length = ty.size ∧ c.all D.isCell = true ∧ b.fz ≤ i ∧ off + c.length ≤ e.length then
         some ⟨True,.v undef,[id],[(id,{b with es:=b.es.set i (Zck e off c)})],[]⟩else none
     | none=>none
   | none=>none
 | _,_=>none
def ZbM(ty:TyI)(x:D)(f:Nat):Option Res :=
 match (if ty.kind=1 then ty.fields[f]? else none)with
 | some (o,n,_)=>if n=0 then none else match x with
   | .lp id ver i off=>some (.pure (.lp id ver i (off+o)))
   | .ep es i off=>some (.pure (.ep es i (off+o)))
   | _=>none
 | none=>none
def Ze2(ty:TyI)(x:D)(f:Nat):Option Res :=
 match (if ty.kind=1 then ty.fields[f]? else none),x with
 | some (o,n,ag),.agg l=>if n=0 then none else(if ag=true then(if o+n≤l.length then some (.agg ((l.drop o).take n))else none)else l[o]?).map .pure
 | _,_=>none
def ZbL(ty et:TyI)(x ix:D)(m:Mem):Option Res :=
 if ty.kind=2 then
  match ix with
  | .v (.int _ n)=>match x with
    | .sl es=>match es[n.toNat]? with
      | some e=>if e.length=et.size then some ⟨0≤n,.ep es n.toNat 0,[],[],[]⟩else none
      | none=>none
    | .ls id ver=>match Zas m id ver with
      | some b=>match b.es[n.toNat]? with
        | some e=>if e.length=et.size then some ⟨0≤n,.lp id ver n.toNat 0,[id],[],[]⟩else none
        | none=>none
      | none=>none
    | _=>none
  | _=>none
 else none
def Zd5(o:Option D)(dflt:Nat):Option Int :=
 match o with
 | none=>some dflt
 | some (.v (.int _ n))=>some n
 | _=>none
def ZeQ(et:TyI)(x:D)(lo hi:Option D):Option Res :=
 match x with
 | .sl es=>match Zd5 lo 0,Zd5 hi es.length with
   | some l,some h=>some ⟨(∀ e∈es,e.length=et.size)∧0≤l∧l≤h∧h≤es.length,.sl ((es.take h.toNat).drop l.toNat),[],[],[]⟩
   | _,_=>none
 | _=>none
def Zb9(x:D)(lo hi:Option D):Option Res :=
 match x with
 | .v (.string s)=>match Zd5 lo 0,Zd5 hi s.size with
   | some l,some h=>some ⟨0≤l∧l≤h∧h≤s.size,.v (.string (s.extract l.toNat h.toNat)),[],[],[]⟩
   | _,_=>none
 | _=>none
def ZeZ(ty:TyI)(x ix:D):Option Res :=
 if ty.kind=4 then
  match x,ix with
  | .v (.string s),.v (.int _ n)=>match s[n.toNat]? with
    | some b=>some ⟨0≤n,.v (.int .u8 b.toNat),[],[],[]⟩
    | none=>none
  | _,_=>none
 else none
def Zfv(place:Nat→Option (Nat×Nat))(c:List D):List (Nat×D)→Option (List D)
 | []=>some c
 | (i,x) ::rest=>match place i,x.cells? with
   | some (o,n),some y=>if y.length=n∧o+n≤c.length then Zfv place (Zck c o y) rest else none
   | _,_=>none
def Ze5(ty:TyI)(parts:List (Nat×D)):Option Res :=
 if ty.kind=1∧ty.fields.all (fun f=>f.2.1 !=0)=true then
  match ty.zero with
  | some z=>(Zfv (fun i=>(ty.fields[i]?).map fun f=>(f.1,f.2.1)) z parts).map fun c=>.pure (.agg c)
  | none=>none
 else none
def ZdZ(k:Nat):Nat→List (Nat×D)→Option (List (List D))
 | _,[]=>some []
 | n,(i,x) ::rest=>match x.cells? with
   | some y=>if i=n∧y.length=k then(ZdZ k (n+1) rest).map (y::·)else none
   | none=>none
def Zbw(ty et:TyI)(len:Nat)(parts:List (Nat×D))(nx:Nat):Option Res :=
 if ty.kind=2∧parts.length=len∧len*et.size≤16777216∧et.zero.isSome=true∧len≤9007199254740992 then
  match ZdZ et.size 0 parts with
  | some es=>some ⟨True,.ls nx 0,[],[(nx,⟨ty.elem,0,et.size,es,0,false⟩)],[nx]⟩
  | none=>none
 else none
def Ze6(T:TypeId)(ty:TyI)(nx:Nat):Option Res :=
 match ty.zero with
 | some z=>some ⟨True,.lp nx 0 0 0,[],[(nx,⟨T,0,z.length,[z],0,false⟩)],[nx]⟩
 | none=>none
def boxF(T:TypeId)(x:D)(nx:Nat):Option Res :=
 match x.cells? with
 | some c=>some ⟨True,.lp nx 0 0 0,[],[(nx,⟨T,0,c.length,[c],0,false⟩)],[nx]⟩
 | none=>none
def ZbK(ty et:TyI)(l c:D)(nx:Nat):Option Res :=
 if ty.kind=2 then
  match l,c,et.zero with
  | .v (.int _ l), .v (.int _ c), some z => if z.length = et.size then
      some ⟨0≤l∧l≤c∧(et.bytes:Int)*c≤140737488355328∧c≤9007199254740992,.ls nx 1,[],[(nx,⟨ty.elem,1,et.size,List.replicate l.toNat z,0,false⟩)],[nx]⟩else none
  | _,_,_=>none
 else none
def lenF(ty:TyI)(x:D)(m:Mem):Option Res :=
 match x with
 | .sl es=>if ty.kind=2 then some (.pure (.v (.int .i64 es.length)))else none
 | .nil=>if ty.kind=2 then some (.pure (.v (.int .i64 0)))else none
 | .ls id ver=>if ty.kind=2 then(match Zas m id ver with
   | some b=>some ⟨True,.v (.int .i64 b.es.length),[id],[],[]⟩
   | none=>none)else none
 | .v (.string s)=>if ty.kind=4 then some (.pure (.v (.int .i64 s.size)))else none
 | _=>none
def ZdY(m:Mem):D→Option (List (List D)×List Nat)
 | .sl es=>some (es,[])
 | .nil=>some ([],[])
 | .ls id ver=>match Zas m id ver with
   | some b=>some (b.es,[id])
   | none=>none
 | _=>none
def Zd9(ty et:TyI)(s x:D)(m:Mem)(nx:Nat):Option Res :=
 if ty.kind=2∧0<et.size∧(et.zero.map (·.length))=some et.size then
  match ZdY m x with
  | some (es,r)=>match s with
    | .nil => some ⟨(∀ e ∈ es, e.length = et.size ∧ e.all D.isCell = true) ∧ (es.length : Int) * et.bytes ≤ 140737488355328 ∧ (es.length : Int) ≤ 9007199254740992,
        .ls nx 1,r,[(nx,⟨ty.elem,1,et.size,es,0,false⟩)],[nx]⟩
    | .cl es0 => some ⟨(∀ e ∈ es0, e.length = et.size ∧ e.all D.isCell = true) ∧ (∀ e ∈ es, e.length = et.size ∧ e.all D.isCell = true) ∧ ((es0.length + es.length : Nat) : Int) * et.bytes ≤ 140737488355328 ∧ ((es0.length + es.length : Nat) : Int) ≤ 9007199254740992 ∧ 0 < es.length,
        .ls nx 1,r,[(nx,⟨ty.elem,1,et.size,es0++es,0,false⟩)],[nx]⟩
    | .ls id ver=>match Zas m id ver with
      | some b => if b.dead = false ∧ b.T = ty.elem ∧ b.k = et.size then
          some ⟨(∀ e∈es,e.length=et.size∧e.all D.isCell=true)∧((b.es.length+es.length:Nat):Int)*et.bytes≤140737488355328∧((b.es.length+es.length:Nat):Int)≤9007199254740992,
           .ls id (ver+1),id ::r,[(id,{b with ver:=ver+1,es:=b.es++es})],[]⟩
        else if b.dead=true∧b.T=ty.elem∧b.k=et.size∧ver=0 then
         some ⟨(∀ e∈es,e.length=et.size∧e.all D.isCell=true)∧((b.es.length+es.length:Nat):Int)*et.bytes≤140737488355328∧((b.es.length+es.length:Nat):Int)≤9007199254740992∧0<es.length,
          .ls nx 1,id ::r,[(nx,⟨ty.elem,1,et.size,b.es++es,0,false⟩)],[nx]⟩else none
      | none=>none
    | _=>none
  | none=>none
 else none
def Zcs(mx:Bool)(l:List D):Option Res :=
 match l with
 | [.v (.int k x),.v (.int k' y)]=>if k=k' then some (.pure (.v (.int k (if mx then(if y>x then y else x)else(if y<x then y else x)))))else none
 | _=>none
def ZcO(src dst:TyI)(x:D):Option Res :=
 match dst.ik,x with
 | some k,.v (.int _ n)=>if dst.kind=5∧src.kind=5 then some (.pure (.v (.int k (k.wrap n))))else none
 | _,_=>none
def opF(P:Program)(o:Op)(t:Nat→D)(m:Mem)(nx:Nat):Option Res :=
 match o with
 | .move x | .assign x=>some (.pure (rd t x))
 | .pick c a b=>match rd t c with
   | .v (.bool c)=>some (.pure (if c then rd t a else rd t b))
   | _=>none
 | .alloc T=>match tyOf P T with
   | some ty=>Ze6 T ty nx
   | none=>none
 | .box T x=>boxF T (rd t x) nx
 | .load T x=>match tyOf P T with
   | some ty=>Zdg ty (rd t x) m
   | none=>none
 | .store T x y=>match tyOf P T with
   | some ty=>ZeP ty (rd t x) (rd t y) m
   | none=>none
 | .fieldAddr T x f=>match tyOf P T with
   | some ty=>ZbM ty (rd t x) f
   | none=>none
 | .field T x f=>match tyOf P T with
   | some ty=>Ze2 ty (rd t x) f
   | none=>none
 | .indexAddr T x i=>match tyOf P T with
   | some ty=>match tyOf P ty.elem with
     | some et=>ZbL ty et (rd t x) (rd t i) m
     | none=>none
   | none=>none
 | .index T x i=>match tyOf P T with
   | some ty=>ZeZ ty (rd t x) (rd t i)
   | none=>none
 | .slice T x lo hi none=>match tyOf P T with
   | some ty => if ty.kind = 2 then (match tyOf P ty.elem with
       | some et=>ZeQ et (rd t x) (lo.map (rd t)) (hi.map (rd t))
       | none=>none)
     else if ty.kind=4 then Zb9 (rd t x) (lo.map (rd t)) (hi.map (rd t))else none
   | none=>none
 | .build T ps=>match tyOf P T with
   | some ty=>Ze5 ty (ps.toList.map fun p=>(p.1,rd t p.2))
   | none=>none
 | .buildSlice T n ps=>match tyOf P T with
   | some ty=>match tyOf P ty.elem with
     | some et=>Zbw ty et n (ps.toList.map fun p=>(p.1,rd t p.2)) nx
     | none=>none
   | none=>none
 | .makeSlice T l c=>match tyOf P T with
   | some ty=>match tyOf P ty.elem with
     | some et=>ZbK ty et (rd t l) (rd t c) nx
     | none=>none
   | none=>none
 | .extract x i=>match rd t x with
   | .tup l=>(l[i]?).map .pure
   | _=>none
 | .nilCheck x=>match rd t x with
   | .lp id ver i off=>some (.pure (.lp id ver i off))
   | .ep es i off=>some (.pure (.ep es i off))
   | _=>none
 | .unOp op _ x=>(unD op (rd t x)).map .pure
 | .binOp op T x y _=>match binD op (rd t x) (rd t y)with
   | some (q,d)=>some ⟨q,d,[],[],[]⟩
   | none=>match tyOf P T with
     | some ty=>(Zgq (eqTy P T) (Zf7 P T) op ty (rd t x) (rd t y)).map .pure
     | none=>none
 | .convert a b x=>match tyOf P a,tyOf P b with
   | some src,some dst=>ZcO src dst (rd t x)
   | _,_=>none
 | .makeFunc (.func f) first cap=>if first.size=0 then some (.pure (.clo f (cap.toList.map (rd t))))else none
 | .call {callee:=.builtin .len,args,argTypes}=>match args.toList,argTypes[0]? with
   | [x],some T=>match tyOf P T with
     | some ty=>lenF ty (rd t x) m
     | none=>none
   | _,_=>none
 | .call {callee:=.builtin .append,args,argTypes}=>match args.toList,argTypes.toList with
   | [x,y],[T,U]=>if T=U then match tyOf P T with
     | some ty=>match tyOf P ty.elem with
       | some et=>Zd9 ty et (rd t x) (rd t y) m nx
       | none=>none
     | none=>none else none
   | _,_=>none
 | .call {callee:=.builtin .max,args,argTypes:=_}=>Zcs true (args.toList.map (rd t))
 | .call {callee:=.builtin .min,args,argTypes:=_}=>Zcs false (args.toList.map (rd t))
 | _=>none
end ifl
section ifl
variable [Ifl]
theorem ZeM(b o n:Nat):(⟨b,o,none⟩:Addr).add n=⟨b,o+n,none⟩:=by unfold Addr.add;split<;>simp_all
structure TyAt (P:Program) (T:TypeId) (ty:TyI) (i:TypeInfo) (d:TypeDesc):Prop where
 info:P.info? T=some i
 und:P.underlying T=some d
 kind:ty.kind=Za5 d
 size:ty.size=i.size
 bytes:ty.bytes=i.bytes
 zero:ty.zero=i.zero.map fun z=>z.cells.toList.map ZcP
 elem:∀ e,d = .slice e→ty.elem=e
 ik:∀ k,ty.ik=some k→d = .int k
 flds:∀ fs,d = .struct fs→ty.fields=fs.toList.map fun f=>(ZdU P f).getD (0,0,false)
theorem tyAt{P:Program}{T:TypeId}{ty:TyI}(h:tyOf P T=some ty):∃ i d,TyAt P T ty i d:=by
 unfold tyOf at h
 split at h
 ·rename_i i d hi hd
  simp only[Ya1]at h
  subst h
  refine⟨i,d,hi,hd,rfl,rfl,rfl,rfl,?_,?_,?_⟩
  ·rintro e rfl;rfl
  ·intro k hk
   cases d<;>simp at hk
   subst hk;rfl
  ·rintro fs rfl;rfl
 ·cases h
section
variable {P:Program} {T:TypeId} {ty:TyI} {i:TypeInfo} {d:TypeDesc}
theorem TyAt.run_isAgg(h:TyAt P T ty i d)(w:World):(isAgg T).run P w = .ok ty.agg w:=by
 unfold isAgg
 simp only[Sem.run_bind,run_underlying h.und,Result.andThen_ok]
 unfold TyI.agg
 rw[h.kind]
 cases d<;>rfl
theorem TyAt.run_size(h:TyAt P T ty i d)(w:World):(sizeOf T).run P w = .ok ty.size w:=by
 simp[sizeOf,typeInfo,h.info,h.size]
theorem TyAt.struct(h:TyAt P T ty i d)(hk:ty.kind=1):∃ fs,d = .struct fs:=by
 rw[h.kind]at hk
 cases d<;>simp[Za5]at hk
 exact⟨_,rfl⟩
theorem TyAt.slice(h:TyAt P T ty i d)(hk:ty.kind=2):d = .slice ty.elem:=by
 rw[h.kind]at hk
 cases d<;>simp[Za5]at hk
 rw[h.elem _ rfl]
theorem TyAt.string(h:TyAt P T ty i d)(hk:ty.kind=4):d = .string:=by
 rw[h.kind]at hk
 cases d<;>simp[Za5]at hk
 rfl
theorem TyAt.int(h:TyAt P T ty i d)(hk:ty.kind=5):∃ k,d = .int k:=by
 rw[h.kind]at hk
 cases d<;>simp[Za5]at hk
 exact⟨_,rfl⟩
theorem TyAt.bool(h:TyAt P T ty i d)(hk:ty.kind=6):d = .bool:=by
 rw[h.kind]at hk
 cases d<;>simp[Za5]at hk
 rfl
end
section
variable {P:Program} {β:Bet} {m:Mem} {S:Nat→Nat→Prop} {w:World}
theorem ZeY{T:TypeId}{ty:TyI}(hty:tyOf P T=some ty){es:List (List D)}{b base k i off:Nat}{d:D}(hw:∀ (i:Nat)(e:List D),es[i]? =some e→e.length=k)
 (hc:∀ (i j:Nat)(d:D),cellAt es i j=some d→∃ u,w.cell? ⟨b,base+i*k+j,none⟩=some u∧Rep β m S w u d) (h:ldE es i off ty=some d) :
 ∃ u,(loadVar T ⟨b,base+i*k+off,none⟩).run P w = .ok u w∧Rep β m S w u d:=by
 obtain⟨inf,de,ht⟩:=tyAt hty
 unfold ldE at h
 split at h
 ·cases h
 ·rename_i e he
  unfold loadVar
  simp only[Sem.run_bind,ht.run_isAgg,Result.andThen_ok]
  split at h
  ·rename_i hag
   rw[if_pos (by simpa using hag)]
   split at h
   ·rename_i hlen
    simp only[Ya1]at h
    subst h
    have hcell:∀ j,j<ty.size→∃ u d,e[off+j]? =some d∧w.cell? ⟨b,base+i*k+(off+j),none⟩=some u∧Rep β m S w u d:=by
     intro j hj
     have hlt:off+j<e.length:=by omega
     obtain⟨u,h1,h2⟩:=hc i (off+j) e[off+j] (Zaf.2 ⟨e,he,Ya0 hlt⟩)
     exact⟨u,_,Ya0 hlt,h1,h2⟩
    let f:Nat→Value:=fun j=>(w.cell? ⟨b,base+i*k+off+j,none⟩).getD undef
    have hf:∀ j,j<ty.size→w.cell? ((⟨b,base+i*k+off,none⟩:Addr).add j)=some (f j):=by
     intro j hj
     obtain⟨u,d,h0,h1,h2⟩:=hcell j hj
     rw[ZeM]
     simp only[f,Nat.add_assoc]at h1 ⊢
     rw[h1];rfl
    have hl:=run_loadCells (P:=P) w ⟨b,base+i*k+off,none⟩ ty.size f hf
    simp only[Sem.run_bind,ht.run_size,Result.andThen_ok,hl,Sem.run_pure]
    refine⟨_,rfl,.agg _ _ (by simp;omega) (fun j x d hx hd=>?_)⟩
    rw[List.getElem?_take]at hd
    split at hd
    ·rename_i hj
     rw[List.getElem?_drop]at hd
     obtain⟨u,d',h0,h1,h2⟩:=hcell j hj
     rw[hd]at h0
     cases h0
     rw[Yb8,List.getElem?_range hj]at hx
     simp only[Yd0,Ya1,f]at hx
     rw[Nat.add_assoc,h1]at hx
     simp only[Option.getD_some]at hx
     subst hx
     exact h2
    ·cases hd
   ·cases h
  ·rename_i hag
   rw[if_neg (by simpa using hag)]
   obtain⟨u,h1,h2⟩:=hc i off d (Zaf.2 ⟨e,he,h⟩)
   refine⟨u,?_,h2⟩
   simp[load,Sem.run,h1]
def Reps(β:Bet)(m:Mem)(S:Nat→Nat→Prop)(w:World)(vs:List Value)(ds:List D):Prop :=
 vs.length=ds.length∧∀ (i:Nat)(y:Value)(d:D),vs[i]? =some y→ds[i]? =some d→Rep β m S w y d
theorem Reps.nil:Reps β m S w [] []:=⟨rfl,by simp⟩
theorem Reps.cons{x:Value}{d:D}{vs:List Value}{ds:List D}(h:Rep β m S w x d)(hs:Reps β m S w vs ds):Reps β m S w (x ::vs) (d ::ds):=by
 refine⟨by simp[hs.1],fun i y d' hy hd=>?_⟩
 cases i with
 | zero=>simp at hy hd;subst hy;subst hd;exact h
 | succ i=>exact hs.2 i y d' (by simpa using hy) (by simpa using hd)
theorem Reps.append{vs us:List Value}{ds es:List D}(h:Reps β m S w vs ds)(k:Reps β m S w us es):Reps β m S w (vs++us) (ds++es):=by
 refine⟨by simp[h.1,k.1],fun i y d hy hd=>?_⟩
 by_cases hi:i<vs.length
 ·rw[Yc3 hi]at hy
  rw[Yc3 (by rw[← h.1];exact hi)]at hd
  exact h.2 i y d hy hd
 ·rw[Yc4 (by omega)]at hy
  rw[Yc4 (by rw[← h.1];omega),← h.1]at hd
  exact k.2 _ y d hy hd
theorem Reps.take{vs:List Value}{ds:List D}(h:Reps β m S w vs ds)(n:Nat):Reps β m S w (vs.take n) (ds.take n):=by
 refine⟨by simp[h.1],fun i y d hy hd=>?_⟩
 rw[List.getElem?_take]at hy hd
 split at hy
 ·rw[if_pos (by assumption)]at hd;exact h.2 i y d hy hd
 ·cases hy
theorem Reps.drop{vs:List Value}{ds:List D}(h:Reps β m S w vs ds)(n:Nat):Reps β m S w (vs.drop n) (ds.drop n):=by
 refine⟨by simp[h.1],fun i y d hy hd=>?_⟩
 rw[List.getElem?_drop]at hy hd
 exact h.2 _ y d hy hd
theorem Reps.get{vs:List Value}{ds:List D}(h:Reps β m S w vs ds){i:Nat}{d:D}(hd:ds[i]? =some d):∃ y,vs[i]? =some y∧Rep β m S w y d:=by
 have hi:i<vs.length:=by rw[h.1];exact(Ya3.1 hd).1
 exact⟨vs[i],Ya0 hi,h.2 i _ d (Ya0 hi) hd⟩
theorem Reps.mono{β' m' S' w'}{vs:List Value}{ds:List D}(hm:Zah β m w β' m' w')(hs:Zac S w S' w')(h:Reps β m S w vs ds):Reps β' m' S' w' vs ds:=⟨h.1,fun i y d hy hd=>(h.2 i y d hy hd).mono hm hs⟩
theorem Reps.rep_agg{vs:List Value}{ds:List D}(h:Reps β m S w vs ds):Rep β m S w (.agg vs.toArray) (.agg ds):=.agg _ _ h.1 h.2
theorem Reps.rep_tup{vs:List Value}{ds:List D}(h:Reps β m S w vs ds):Rep β m S w (.tuple vs.toArray) (.tup ds):=.tup _ _ h.1 h.2
end
end ifl
section ifl
variable [Ifl]
theorem Zan{m:Mem}{id ver:Nat}{b:Blk}(h:Zas m id ver=some b):m id=some b∧ver=b.ver:=by
 unfold Zas at h
 split at h
 ·rename_i b' hb
  split at h
  ·simp only[Ya1]at h;subst h;exact⟨hb,by assumption⟩
  ·cases h
 ·cases h
def Runs(P:Program)(E:Env)(β:Bet)(m:Mem)(nx:Nat)(w:World)(s:Sem Value)(r:Res):Prop :=
 ∃ v w',s.run P w = .ok v w'∧ZaX E β m nx w (ov m r.wr) v r.d w'
theorem Runs.pure{P E β m nx w}{s:Sem Value}{r:Res}(hM:Zag E β m nx w)(hw:r.wr=[]){v:Value}(hr:s.run P w = .ok v w)(hv:Rep β m (safe E β m) w v r.d):Runs P E β m nx w s r :=
 ⟨v,w,hr,by rw[hw];exact ZaX.same hM hv⟩
section
variable {P:Program} {E:Env} {β:Bet} {m:Mem} {nx:Nat} {w:World}
theorem Zfo(hM:Zag E β m nx w){x:Value}{id ver i off:Nat}{b:Blk}(hx:Rep β m (safe E β m) w x (.lp id ver i off))(hb:Zas m id ver=some b) :
 ∃ B cs,β id=some B∧x = .pointer (some ⟨B,i*b.k+off,none⟩)∧w.heap[B]? =some (.cells cs b.T (0,0))∧b.es.length*b.k≤cs.size ∧
  (∀ (i j:Nat)(d:D),cellAt b.es i j=some d→∃ u,cs[i*b.k+j]? =some u∧Rep β m (safe E β m) w u d):=by
 obtain⟨h1,h2⟩:=Zan hb
 obtain⟨B,p,b',rfl,h3,h4,h5⟩:=hx.inv_lp
 rw[h1]at h3
 cases h3
 obtain⟨h6,rfl⟩:=h5 h2
 obtain⟨_,cs,h7,h8,h9⟩:=hM.row id b B h1 h6
 exact⟨B,cs,h6,rfl,h7,h8,h9⟩
theorem Zga(hM:Zag E β m nx w){x:Value}{id ver:Nat}{b:Blk}(hx:Rep β m (safe E β m) w x (.ls id ver))(hb:Zas m id ver=some b) :
 ∃ a cap,x = .slice a b.es.length cap∧b.es.length≤cap∧cap≤maxLen∧((β id=none∧a=none∧cap=0∧b.es=[])∨∃ B cs,β id=some B∧a=some ⟨B,0,none⟩∧w.heap[B]? =some (.cells cs b.T (0,0))∧cs.size=cap*b.k ∧
  (∀ (i j:Nat)(d:D),cellAt b.es i j=some d→∃ u,cs[i*b.k+j]? =some u∧Rep β m (safe E β m) w u d)):=by
 obtain⟨h1,h2⟩:=Zan hb
 obtain⟨a,n,cap,b',rfl,h3,h4,h5⟩:=hx.inv_ls
 rw[h1]at h3
 cases h3
 obtain⟨rfl,h7,h8,h9⟩:=h5 h2
 refine⟨a,cap,rfl,h7,h8,?_⟩
 rcases h9 with⟨g1,g2,g3⟩|⟨B,g1,g2,g3⟩
 ·exact .inl ⟨g1,g2,g3,hM.non id b h1 g1⟩
 ·obtain⟨_,cs,h10,h11,h12⟩:=hM.row id b B h1 g1
  obtain⟨cs',T',fr',g4,g5⟩:=g3
  rw[h10]at g4
  cases g4
  exact .inr ⟨B,cs,g1,g2,h10,g5,h12⟩
end
end ifl
section ifl
variable [Ifl]
section
variable {P:Program} {E:Env} {β:Bet} {m:Mem} {nx:Nat} {w:World}
theorem ZaX.new(hM:Zag E β m nx w){id:Nat}(hid:m id=none)(hlt:id<nx)(blk:Blk)(vs:List Value)(hfz:blk.fz≤blk.es.length)
 (hwid:∀ (i:Nat)(e:List D),blk.es[i]? =some e→e.length=blk.k) (hsz:blk.es.length*blk.k≤vs.length)
 (hcs:∀ (i j:Nat)(d:D),cellAt blk.es i j=some d→∃ u,vs[i*blk.k+j]? =some u∧Rep β m (safe E β m) w u d) {w1:World} (hw1:Below w.heap.size w w1) {v:Value} {d:D}
 (hv:∀ β' w',β' id=some w1.heap.size→w'.heap[w1.heap.size]? =some (.cells vs.toArray blk.T (0,0))→Rep β' (upd m id (some blk)) (safe E β' (upd m id (some blk))) w' v d) :
 ZaX E β m nx w (ov m [(id,blk)]) v d (w1.alloc (.cells vs.toArray blk.T)):=by
 obtain⟨h1,h2,h3⟩:=Zfn hM hid hlt blk vs.toArray hfz hwid (by simpa using hsz) (fun i j d hd=>by
  obtain⟨u,h1,h2⟩:=hcs i j d hd
  exact⟨u,by simpa using h1,h2⟩) hw1
 exact⟨_,h1,h2,h3,hv _ _ (Zaa _ _ _) (heap_alloc_new _ _)⟩
end
end ifl
section ifl
variable [Ifl]
section
variable {P:Program} {E:Env} {β:Bet} {m:Mem} {nx:Nat} {w:World} {S:Nat→Nat→Prop}
end
end ifl
section ifl
variable [Ifl]
section
variable {P:Program} {E:Env} {β:Bet} {m:Mem} {nx:Nat} {w:World} {S:Nat→Nat→Prop}
end
end ifl
section ifl
variable [Ifl]
section
variable {P:Program} {E:Env} {β:Bet} {m:Mem} {nx:Nat} {w:World} {S:Nat→Nat→Prop}
theorem Zbp(hM:Zag E β m nx w){id:Nat}(hlt:id<nx)(blk:Blk)(he:blk.es=[])(hfz:blk.fz=0)
 (hid:m id=none∨∃ b,m id=some b∧b.ver<blk.ver∧β id=none) :
 Zag E (upd β id none) (upd m id (some blk)) nx w∧Zah β m w (upd β id none) (upd m id (some blk)) w∧Zac (safe E β m) w (safe E (upd β id none) (upd m id (some blk))) w:=by
 have hm:Zah β m w (upd β id none) (upd m id (some blk)) w:=by
  refine⟨fun x y hx=>?_,fun _ _ h=>h⟩
  by_cases e:x=id
  ·subst e
   rcases hid with h|⟨b,h1,h2,h3⟩
   ·rw[h]at hx;cases hx
   ·rw[h1]at hx;cases hx
    exact⟨blk,Zaa _ _ _,Nat.le_of_lt h2,fun e=>by omega⟩
  ·exact⟨y,by rw[Zab _ _ e];exact hx,Ya4 _,fun _=>⟨rfl,rfl,by rw[Zab _ _ e]⟩⟩
 have hs:Zac (safe E β m) w (safe E (upd β id none) (upd m id (some blk))) w:=by
  intro b o u h1 h2
  refine⟨⟨h1.1,fun x y hx hy=>?_⟩,h2⟩
  by_cases e:x=id
  ·subst e;rw[Zaa]at hy;cases hy
  ·rw[Zab _ _ e]at hx hy;exact h1.2 x y hx hy
 refine⟨⟨hM.below,?_,?_,?_,?_,?_,?_⟩,hm,hs⟩
 ·intro x y hx
  by_cases e:x=id
  ·subst e;exact hlt
  ·rw[Zab _ _ e]at hx;exact hM.lt x y hx
 ·intro x y hx
  by_cases e:x=id
  ·subst e;rw[Zaa]at hx;cases hx;rw[hfz];exact Yb0 _
  ·rw[Zab _ _ e]at hx;exact hM.fz x y hx
 ·intro x y hx i e' he'
  by_cases e:x=id
  ·subst e;rw[Zaa]at hx;cases hx;rw[he]at he';simp at he'
  ·rw[Zab _ _ e]at hx;exact hM.wid x y hx i e' he'
 ·intro x y hx hb
  by_cases e:x=id
  ·subst e;rw[Zaa]at hx;cases hx;exact he
  ·rw[Zab _ _ e]at hx hb;exact hM.non x y hx hb
 ·intro x y b hx hb
  by_cases e:x=id
  ·subst e;rw[Zaa]at hb;cases hb
  ·rw[Zab _ _ e]at hx hb
   obtain⟨h3,cs',h4,h5,h6⟩:=hM.row x y b hx hb
   refine⟨h3,cs',h4,h5,fun i j d hd=>?_⟩
   obtain⟨u,h7,h8⟩:=h6 i j d hd
   exact⟨u,h7,h8.mono hm hs⟩
 ·intro x1 x2 y1 y2 b h1 h2 h3 h4
  by_cases e1:x1=id
  ·subst e1;rw[Zaa]at h3;cases h3
  ·by_cases e2:x2=id
   ·subst e2;rw[Zaa]at h4;cases h4
   ·rw[Zab _ _ e1]at h1 h3
    rw[Zab _ _ e2]at h2 h4
    exact hM.inj x1 x2 y1 y2 b h1 h2 h3 h4
end
end ifl
end Go.Proofs.YtiincpioidnciaaGreat
