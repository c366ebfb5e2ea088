/-
  The walk over data: a range over a function.
-/
import Derived.Test.YtiincpioidnciaaGreatWLib
import Derived.Test.YtiincpioidnciaaGreatWT01
import Derived.RangeFuncKeeps
import Derived.OrdersIn
namespace Go.Proofs.YtiincpioidnciaaGreat
set_option linter.unusedVariables false
set_option linter.unusedSimpArgs false
set_option linter.unusedSectionVars false
open Go Go.RowKit
section ifl
variable [Ifl]
theorem Za7.size{β m w β' m' w'}(h:Za7 β m w β' m' w'):w.heap.size≤w'.heap.size:=by
 rcases Nat.eq_zero_or_pos w.heap.size with e|e
 ·omega
 ·have hl:w.heap.size-1<w.heap.size:=by omega
  have ho:w.heap[w.heap.size-1]? =some w.heap[w.heap.size-1]:=Yb5 hl
  have:w.heap.size-1<w'.heap.size:=by
   generalize hq:w.heap[w.heap.size-1]=o at ho
   by_cases hc:∃ cs T fr,o = .cells cs T fr
   ·obtain⟨cs,T,fr,rfl⟩:=hc
    exact ZjB (h.cap _ (.inl cs.size) ⟨cs,T,fr,ho,rfl⟩)
   ·exact(Ya5.1 (h.cap _ (.inr o) ⟨fun cs T fr e=>hc ⟨cs,T,fr,e⟩,ho⟩).2).1
  omega
theorem ZdE.of_mem{b0:Nat}{w:World}:∀ {ds:List Deferred},ZdE b0 ds w→∀ e∈ds,∃ D,e={target:=.collected D,args:=#[]}∧w.heap[D]? =some (.deferred (some []))
 | [],_,_,he=>(by cases he)
 | d ::ds,⟨⟨D,h1,_,h3⟩,_,h5⟩,e,he=>by
   rcases List.mem_cons.1 he with rfl|he
   ·exact⟨D,h1,h3⟩
   ·exact ZdE.of_mem h5 e he
theorem Zqd{w:World}{D:Nat}{o o':Obj}(hd:w.heap[D]? =some o)(ho:o.isCells=false) :
 (∀ (b:Nat)(x:Obj),w.heap[b]? =some x→x.isCells=true→(w.putObj D o').heap[b]? =some x)∧(∀ b k,Zd7 w b k→Zd7 (w.putObj D o') b k) ∧
   ∀ b o u,w.cell? ⟨b,o,none⟩=some u→(w.putObj D o').cell? ⟨b,o,none⟩=some u:=by
 have hcells:∀ (b:Nat)(x:Obj),w.heap[b]? =some x→x.isCells=true→(w.putObj D o').heap[b]? =some x:=fun b x hb hx=>by
  rw[World.putObj_heap_other (fun e=>by subst e;rw[hd]at hb;cases hb;rw[ho]at hx;cases hx)]
  exact hb
 refine⟨hcells,fun b k ⟨cs,T,fr,h1,h2⟩=>⟨cs,T,fr,hcells b _ h1 rfl,h2⟩,fun b q u hu=>?_⟩
 by_cases e:b=D
 ·subst e
  cases o<;>first|(cases ho;done)|simp[World.cell?,hd]at hu
 ·rw[World.cell?_of_block (w:=w) (a:=⟨b,q,none⟩) (World.putObj_heap_other e)]
  exact hu
theorem Zl2{E:Env}{β:Bet}{m:Mem}{nx:Nat}{w:World}(hM:ZaK E β m nx w){D:Nat}{o:Obj}(o':Obj)(hD:E.w0.heap.size≤D)(hd:w.heap[D]? =some o)(ho:o.isCells=false) :
 ZaK E β m nx (w.putObj D o')∧Zrh β m w β m (w.putObj D o')∧Zaw (safe E β m) w (safe E β m) (w.putObj D o'):=by
 obtain⟨hcells,hc,hcell⟩:=Zqd (o':=o') hd ho
 have hs:Zaw (safe E β m) w (safe E β m) (w.putObj D o'):=fun b o u h1 h2=>⟨h1,hcell b o u h2⟩
 have hm0:Zrh β m w β m (w.putObj D o'):=⟨fun _ x hx=>⟨x,hx,Ya4 _,fun _=>⟨rfl,rfl,rfl⟩⟩,hc⟩
 refine⟨⟨?_,hM.lt,hM.fz,hM.wid,hM.non,fun id blk b h1 h2=>?_,hM.inj⟩,hm0,hs⟩
 ·exact hM.below.trans ((Below.refl E.w0.heap.size w).grown (grownBy_putObj' w D _) (by have:=(Ya5.1 hd).1;have:=hM.below.size;omega) (fun k e=>by cases e;omega))
 ·obtain⟨h3,cs,h4,h5,h6⟩:=hM.row id blk b h1 h2
  refine⟨h3,cs,hcells b _ h4 rfl,h5,fun i j d hd'=>?_⟩
  obtain⟨u,h7,h8⟩:=h6 i j d hd'
  exact⟨u,h7,h8.mono0 hm0 hs⟩
theorem Za7.putObj{β m w0 β' m' w}(h:Za7 β m w0 β' m' w){D:Nat}{o:Obj}(o':Obj)(hD:w0.heap.size≤D)(hd:w.heap[D]? =some o)(ho:o.isCells=false):Za7 β m w0 β' m' (w.putObj D o'):=by
 obtain⟨_,hc,_⟩:=Zqd (o':=o') hd ho
 refine⟨h.blk,fun b k hk=>?_⟩
 have hlt:b<w0.heap.size:=by
  cases k with
  | inl k=>exact ZjB hk
  | inr o=>exact(Ya5.1 hk.2).1
 have hb:(w.putObj D o').heap[b]? =w.heap[b]?:=World.putObj_heap_other (by omega)
 have:=h.cap b k hk
 cases k with
 | inl k=>exact hc b k this
 | inr o=>exact⟨this.1,by rw[hb];exact this.2⟩
section
variable {P:Program} {E:Env} {B:Base} {n:Nat} {β:Bet} {s:St} {a:Act} {w:World}
theorem RelA.putObj(hB:E.w0.heap.size≤B.w.heap.size)(h:RelA E B n β s a w){D:Nat}{o:Obj}(o':Obj)(hD:B.w.heap.size≤D)(hd:w.heap[D]? =some o)(ho:o.isCells=false)(hds:ZdE B.w.heap.size a.defers (w.putObj D o')) :
 RelA E B n β s a (w.putObj D o'):=by
 obtain⟨h1,h2,h3⟩:=Zl2 h.mem o' (Yc7 hB hD) hd ho
 exact⟨h1,fun k hk=>(h.tmp k hk).mono0 h2 h3,h.width,hds,h.le.putObj o' hD hd ho,h.sle.trans h3,h.lo⟩
end
def Ze1(S:Nat→Nat→Prop)(w:World):Prop:=∀ b o,w.heap.size≤b→S b o
def Zpv(s s':St):Prop:=∀ E B n β a w,RelA E B n β s a w→∃ β',RelA E B n β' s' a w∧Zaw (safe E β s.m) w (safe E β' s'.m) w
theorem Zpv.trans{a b c:St}(h:Zpv a b)(k:Zpv b c):Zpv a c:=fun E B n β x w hr=>by
 obtain⟨β1,h1,h2⟩:=h E B n β x w hr
 obtain⟨β2,h3,h4⟩:=k E B n β1 x w h1
 exact⟨β2,h3,h2.trans h4⟩
theorem ZwU{s:St}(l:List (Nat×D))(bl:List (Nat×Blk))(nx:Nat)(ht:∀ p∈l,s.t p.1=p.2)(hm:∀ p∈bl,s.m p.1=some p.2)(hok:∀ p∈l,okD (fun id=>(bl.map (·.1)).contains id) p.2=true)
 (hbk:∀ p∈bl,Zb8 (fun id=>(bl.map (·.1)).contains id) p.2) (hnx:∀ p∈bl,p.1<nx) (hlo:s.lo=0∨∀ id,id<s.lo→(bl.map (·.1)).contains id=true):Zpv s ⟨tabT l,tabM bl,nx,s.lo⟩:=by
 intro E B nn β a w h
 have hM:=h.mem
 have hk:∀ id,(bl.map (·.1)).contains id=true→tabM bl id=s.m id:=by
  intro id hid
  rcases Zg5 bl id with⟨_,h1⟩|⟨b,h1,h2⟩
  ·exact absurd (List.contains_iff_mem.1 hid) h1
  ·rw[h2];exact(hm _ h1).symm
 have hget:∀ id b,tabM bl id=some b→s.m id=some b∧(id,b)∈bl:=by
  intro id b hb
  rcases Zg5 bl id with⟨h1,_⟩|⟨b',h1,h2⟩
  ·rw[h1]at hb;cases hb
  ·rw[h2]at hb;cases hb;exact⟨hm _ h1,h1⟩
 have hs:Zaw (safe E β s.m) w (safe E β (tabM bl)) w:=fun b o u h1 h2=>⟨⟨h1.1,fun id blk h3 h4=>h1.2 id blk (hget id blk h3).1 h4⟩,h2⟩
 refine⟨β,⟨⟨hM.below,?_,?_,?_,?_,?_,?_⟩,?_,h.width,h.defers,?_,h.sle.trans hs,h.lo⟩,hs⟩
 ·intro id b hb;exact hnx _ (hget id b hb).2
 ·intro id b hb;exact hM.fz id b (hget id b hb).1
 ·intro id b hb;exact hM.wid id b (hget id b hb).1
 ·intro id b hb;exact hM.non id b (hget id b hb).1
 ·intro id b c hb hc
  obtain⟨h3,cs',h4,h5,h6⟩:=hM.row id b c (hget id b hb).1 hc
  refine⟨h3,cs',h4,h5,fun i j d hd=>?_⟩
  obtain⟨u,h7,h8⟩:=h6 i j d hd
  obtain⟨e,he,hj⟩:=Zak.1 hd
  exact⟨u,h7,Zix hk hs d u (Zhm (hbk _ (hget id b hb).2 e (Ya7 he)) d (Ya7 hj)) h8⟩
 ·intro x1 x2 y1 y2 c h1 h2 h3 h4
  exact hM.inj x1 x2 y1 y2 c (hget _ _ h1).1 (hget _ _ h2).1 h3 h4
 ·intro k hk'
  rcases Zf1 l k with h1|⟨d,h1,h2⟩
  ·simp only[h1];exact .junk _
  ·simp only[h2]
   have:=h.tmp k hk'
   rw[ht _ h1]at this
   exact Zix hk hs d _ (hok _ h1) this
 ·refine⟨fun id x hx=>?_,h.le.cap⟩
  obtain⟨y,h1,h2,h3⟩:=h.le.blk id x hx
  have hid:=h.lo id x hx
  have hkeep:(bl.map (·.1)).contains id=true:=by
   rcases hlo with h0|h0
   ·omega
   ·exact h0 id hid
  exact⟨y,(hk id hkeep).trans h1,h2,h3⟩
def Zyt{X:Type}(P:Program)(gf:FuncId)(ds:List D)(enc:X→D)(xs:List X):Prop:=ZeX P gf ∧
 ∀ (l:Nat)(S:Nat→Nat→Prop)(W:World)(vs:List Value) (J:(Nat→Nat→Prop)→List X→World→Prop),Ze1 S W→Reps noB noM S W vs ds →
  (∀ S L A B,J S L A→Below A.heap.size A B→J S L B) →
  (∀ S L x t v W',L++x ::t=xs→J S L W'→Ze1 S W'→Rep noB noM S W' v (enc x)→YieldAt Fence.wide 0 P l #[v] W' fun e W''=>e = .returned (.bool true)∧∃ S',J S' (L++[x]) W''∧Ze1 S' W''∧Zaw S W' S' W'') →
  J S [] W→CallsIn Fence.wide 0 P gf (#[.func (.yield l) #[] #[]]++vs.toArray) W fun e W'=>(∃ v,e = .returned v)∧∃ S',J S' xs W'
theorem ZiL{E:Env}{S:Nat→Nat→Prop}{D:Nat}{r:Loop}{W':World}:Zkw E fun β m W=>W.heap[D+1]? =some (.loop r)∧W.heap[D]? =some (.deferred (some []))∧Zaw S W' (safe E β m) W:=by
 rintro β m w β' m' w' h1 h2 ⟨t1,t2,t3⟩
 exact⟨(h1.cap _ (.inr _) ⟨fun _ _ _ e=>(by cases e),t1⟩).2,(h1.cap _ (.inr _) ⟨fun _ _ _ e=>(by cases e),t2⟩).2,t3.trans h2⟩
theorem ZsB{P:Program}{n:Nat}{Q:Exit→St→Prop}{s:St}{g:Operand}{p:Tmp}{assign body:Code}{gf:FuncId}{ds ds':List D}{X:Type}(enc:X→D)(xs:List X)(l:List (Nat×D))(bl:List X→List (Nat×Blk))(nx lo:Nat)
 (hle:StLe s ⟨tabT l,tabM (bl []),nx,lo⟩) (hfg:ZdV n g=true) (hg:rd (tabT l) g = .clo gf ds) (hds:toDs ds=some ds') (hI:Zyt P gf ds' enc xs) (hp:p<n)
 (hrg:Ifl.r=true) (hround:∀ L x t,L++x ::t=xs→AWR P n assign (fun e s1=>e = .normal∧AWR P n body (fun e s2=>e = .normal∧Zpv s2 ⟨tabT [],tabM (bl (L++[x])),nx,nx⟩) s1) ⟨upd (tabT l) p (enc x),tabM (bl L),nx,nx⟩)
 (hend:Q .normal ⟨tabT l,tabM (bl xs),nx,lo⟩):AWP P n (.rangeFunc g #[p] assign body) Q s:=by
 intro E B β a w hr
 obtain⟨β1,h1⟩:=hle E B n β a w hr
 have hv:Rep β1 (tabM (bl [])) (safe E β1 (tabM (bl []))) w (a.eval g) (rd (tabT l) g):=Ziw fun k hk=>h1.tmp k (by rw[hk]at hfg;simpa[ZdV]using hfg)
 rw[hg]at hv
 obtain⟨vs,hev,hvs⟩:=hv.inv_clo
 refine(wpIn_wide (n:=0)).1 (wpIn_rangeFunc fun fn hfn=>?_)
 obtain⟨rec,hrec⟩:∃ rec:LoopState→Option Code→Loop,rec=fun st pe=>{state:=st,pending:=pe,fn,tmps:=a.tmps,params:=#[p],assign,body,defers:=w.heap.size}:=⟨_,rfl⟩
 obtain⟨W1,hW1⟩:∃ W1,(w.alloc (.deferred (some []))).alloc (.loop (rec .ready none))=W1:=⟨_,rfl⟩
 have hL1:W1.heap[w.heap.size+1]? =some (.loop (rec .ready none)):=by
  rw[← hW1];have:=World.alloc_heap_new (w.alloc (.deferred (some []))) (.loop (rec .ready none));rwa [World.size_alloc]at this
 have hK1:W1.heap[w.heap.size]? =some (.deferred (some [])):=by
  rw[← hW1];exact(Below.heap_alloc _ _ _ (by simp)).trans (World.alloc_heap_new w _)
 have hb1:Below w.heap.size w W1:=by rw[← hW1];exact((Below.refl _ w).alloc (Ya4 _) _).alloc (by simp) _
 have hsz1:W1.heap.size=w.heap.size+2:=by rw[← hW1];simp
 obtain⟨gfn,gc,hgf,hgc,hnm⟩:=hI.1
 have hBw:B.w.heap.size≤w.heap.size:=h1.le.size
 have hE0:E.w0.heap.size≤w.heap.size:=h1.mem.below.size
 obtain⟨hM1,hm1,hs1⟩:=ZeI h1.mem hb1
 refine⟨w.heap.size+1,[{target:=.collected w.heap.size,args:=#[]}],W1,{target:=.fn (.func gf) vs.toArray,args:=#[.func (.yield (w.heap.size+1)) #[] #[]]},W1,gf,
  #[.func (.yield (w.heap.size+1)) #[] #[]]++vs.toArray,W1,?_,?_,fun _ _=>trivial,?_,fun e=>(by cases e),?_⟩
 ·rw[← hW1,hrec];exact run_enterLoop_outer _ _ _ _ _
 ·simp only[resolve,hev]
  simp[go_sem]
 ·have hnm' : ¬ gfn.name = "runtime.NumGoroutine" := by simpa using hnm
  simp[invoke,callFunc,hgf,hnm',hgc]
 ·refine(hI.2 (w.heap.size+1) (safe E β1 (tabM (bl []))) W1 vs
   (fun S L W=>∃ β',S=safe E β' (tabM (bl L))∧ZaK E β' (tabM (bl L)) nx W∧Za7 β1 (tabM (bl [])) w β' (tabM (bl L)) W∧Zaw (safe E β1 (tabM (bl []))) w (safe E β' (tabM (bl L))) W ∧
     W.heap[w.heap.size+1]? =some (.loop (rec .ready none))∧W.heap[w.heap.size]? =some (.deferred (some [])))
   (Zf6 hM1) (Zfy _ _ _ hds (Reps.mono hm1 hs1 hvs)) ?_ ?_ ⟨β1,rfl,hM1,hm1,hs1,hL1,hK1⟩).mono ?_
  ·rintro S L A C ⟨β',j0,j1,j2,j3,j4,j5⟩ hb
   obtain⟨g1,g2,g3⟩:=ZeI j1 hb
   exact⟨β',j0,g1,j2.trans g2,j3.trans g3,(hb.block _ (Ya5.1 j4).1).trans j4,(hb.block _ (Ya5.1 j5).1).trans j5⟩
  ·rintro S L x t v W hpre ⟨β',rfl,j1,j2,j3,j4,j5⟩ _ hv
   have hy:=run_yield (P:=P) (args:=#[v]) j4 (by rw[hrec];rfl)
   rw[hrec]at hy
   have ha1:(#[p].zip #[v]).foldl (fun(t:Array Value) (q:Tmp×Value)=>t.setIfInBounds q.1 q.2) a.tmps=a.tmps.setIfInBounds p v:=by simp
   refine⟨_,_,_,_,hy,roundIn_of_wpIn trivial ?_⟩
   have hrel:RelA E ⟨β1,tabM (bl []),w⟩ n β' ⟨upd (tabT l) p (enc x),tabM (bl L),nx,nx⟩ {tmps:=a.tmps.setIfInBounds p v,defers:=[]} W:=by
    refine⟨j1,fun k hk=>?_,by simp[h1.width],trivial,j2,j3,h1.mem.lt⟩
    have hw:=h1.width
    show Rep β' (tabM (bl L)) (safe E β' (tabM (bl L))) W (Act.eval _ (.tmp k)) (upd (tabT l) p (enc x) k)
    by_cases e:k=p
    ·subst e
     rw[show(upd (tabT l) k (enc x)) k=enc x from Zac _ _ _]
     have:Act.eval {tmps:=a.tmps.setIfInBounds k v,defers:=[]} (.tmp k)=v:=by simp[Act.eval,Array.getD_eq_getD_getElem?,hw,hk]
     rw[this]
     exact hv.mono ⟨fun _ _ h=>(by cases h),fun _ _ h=>h⟩ (Zaw.refl _ _)
    ·rw[show(upd (tabT l) p (enc x)) k=tabT l k from Zab _ _ e]
     have:Act.eval {tmps:=a.tmps.setIfInBounds p v,defers:=[]} (.tmp k)=a.eval (.tmp k):=by simp[Act.eval,Array.getD_eq_getD_getElem?,Array.getElem?_setIfInBounds_ne (Ne.symm e)]
     rw[this]
     exact(h1.tmp k hk).mono j2 j3
   have hA:=hround L x t hpre (w.heap.size+1) E (fun β m W2=>W2.heap[w.heap.size+1]? =some (.loop (rec .ready none))∧W2.heap[w.heap.size]? =some (.deferred (some []))∧Zaw (safe E β' (tabM (bl L))) W (safe E β m) W2) ZiL _ _ _ _ hrel ⟨j4,j5,Zaw.refl _ _⟩
   simp only at hy ⊢
   rw[ha1]
   refine wpIn_mono hA ?_
   rintro e a2 W2 ⟨s2,β2,r2,⟨t1,t2,t3⟩,rfl,hbody⟩
   refine⟨_,run_beginRound t1 (by rw[hrec]),?_⟩
   have hlt:w.heap.size+1<W2.heap.size:=(Ya5.1 t1).1
   obtain⟨q1,q2,q3⟩:=Zl2 r2.mem (.loop {rec .ready none with state:=.busy}) (by omega:E.w0.heap.size≤w.heap.size+1) t1 rfl
   have hm2:ZdE w.heap.size a2.defers (W2.putObj (w.heap.size+1) (.loop {rec .ready none with state:=.busy})):=r2.defers.mono fun D _ hD=>by
    rw[World.putObj_heap_other (fun e=>by subst e;rw[t1]at hD;cases hD)];exact hD
   have r3:=r2.putObj (B:=⟨β1,tabM (bl []),w⟩) hE0 (.loop {rec .ready none with state:=.busy}) (Nat.le_succ _) t1 rfl hm2
   refine wpIn_mono (hbody (w.heap.size+1) E (fun β m W2=>W2.heap[w.heap.size+1]? =some (.loop {rec .ready none with state:=.busy})∧W2.heap[w.heap.size]? =some (.deferred (some []))∧Zaw (safe E β' (tabM (bl L))) W (safe E β m) W2) ZiL _ _ _ _ r3
    ⟨World.putObj_heap_same hlt,(World.putObj_heap_other (by omega)).trans t2,t3.trans q3⟩) ?_
   rintro e a3 W3 ⟨s3,β3,r4,⟨u1,u2,u3⟩,rfl,hle3⟩
   obtain⟨β4,r5,hsl4⟩:=hle3 _ _ _ _ _ _ r4
   have hlt3:w.heap.size+1<W3.heap.size:=(Ya5.1 u1).1
   have hend:=run_endRound (P:=P) none u1
   obtain⟨z1,z2,z3⟩:=Zl2 r5.mem (.loop {rec .ready none with state:=.ready,pending:=none}) (by omega:E.w0.heap.size≤w.heap.size+1) u1 rfl
   refine⟨_,_,hend,rfl,safe E β4 (tabM (bl (L++[x]))),⟨β4,rfl,z1,r5.le.putObj _ (Nat.le_succ _) u1 rfl,r5.sle.trans z3,?_,(World.putObj_heap_other (by omega)).trans u2⟩,Zf6 z1,?_⟩
   ·refine(World.putObj_heap_same hlt3).trans ?_
    rw[hrec];rfl
   ·refine Zaw.trans u3 (Zaw.trans ?_ z3)
    exact hsl4
  ·rintro e W2 ⟨⟨v,rfl⟩,S',β',rfl,j1,j2,j3,j4,j5⟩
   have hlt:w.heap.size+1<W2.heap.size:=(Ya5.1 j4).1
   have hend':=run_endLoop (P:=P) j4 (by rw[hrec];simp)
   refine⟨_,_,hend',?_⟩
   rw[show(rec .ready none).pending=none by rw[hrec]]
   obtain⟨z1,z2,z3⟩:=Zl2 j1 (.loop {rec .ready none with state:=.exhausted,pending:=none}) (by omega:E.w0.heap.size≤w.heap.size+1) j4 rfl
   refine⟨⟨tabT l,tabM (bl xs),nx,lo⟩,β',⟨z1,fun k hk=>((h1.tmp k hk).mono j2 j3).mono0 z2 z3,h1.width,?_,(h1.le.trans j2).putObj _ (by omega) j4 rfl,(h1.sle.trans j3).trans z3,h1.lo⟩,hend⟩
   refine⟨⟨w.heap.size,rfl,⟨hBw,hrg⟩,(World.putObj_heap_other (by omega)).trans j5⟩,?_,?_⟩
   ·intro d hd e
    obtain⟨D,e2,e3⟩:=h1.defers.of_mem d hd
    rw[e]at e2
    simp only[Deferred.mk.injEq,Target.collected.injEq,and_true]at e2
    have:=(Ya5.1 e3).1
    omega
   ·refine(h1.defers.le j2).mono fun D _ hD=>?_
    rw[World.putObj_heap_other (fun e=>by subst e;rw[j4]at hD;cases hD)];exact hD
end ifl
section ifl
variable [Ifl]
theorem wp_in{P:Program}{o:Oper}{a:Act}{w:World}{K:Act→World→Prop}{Q:Exit→Act→World→Prop}(h:o.wp P a w K Q):o.wpIn Fence.wide 0 P a w K Q:=by
 unfold Oper.wp at h
 refine⟨fun _ _=>trivial,?_⟩
 rw[show Fence.wide.round=none from rfl,Oper.semAt_none]
 generalize (execOp a.eval o).run P w=r at *
 cases r with
 | ok n w' =>
   cases n<;>simp only[Oper.upon,Oper.uponIn]at h ⊢<;>first
    | exact h
    | exact⟨fun e=>(by cases e),callsIn_wide.2 h⟩
    | exact⟨fun e=>(by cases e),(fun c cs _=>let ⟨v,w',r,s⟩:=h c cs;⟨v,w',r,stepsIn_wide.2 s⟩)⟩
 | halt x w'=>cases x<;>simp only[Oper.upon,Oper.uponIn]at h ⊢<;>exact h
section
variable {P:Program} {l:List Oper} {o:Oper}
end
end ifl
local instance iflIt:Ifl:=Ifl.it
theorem Rep.monoS{β:Bet}{m:Mem}{S S':Nat→Nat→Prop}{w w':World}{x:Value}{d:D}(hm:∀ id,m id=none)(hs:Zaw S w S' w')(h:Rep β m S w x d):Rep β m S' w' x d:=by
 induction h with
 | v x=>exact .v x
 | nil=>exact .nil
 | agg vs l hl _ ih=>exact .agg vs l hl fun i x d h1 h2=>ih i x d h1 h2 hm
 | tup vs l hl _ ih=>exact .tup vs l hl fun i x d h1 h2=>ih i x d h1 h2 hm
 | sl0 a cap hc=>exact .sl0 a cap hc
 | sl b off cap k es val h1 h2 h3 h4 _ ih=>exact .sl b off cap k es val h1 h2 h3 (fun i j d hd=>hs _ _ _ (h4 i j d hd).1 (h4 i j d hd).2) fun i j d hd=>ih i j d hd fun _=>rfl
 | cl a es _ ih=>exact .cl a es (ih fun _=>rfl)
 | ep b off k i o es val h3 h4 _ ih=>exact .ep b off k i o es val h3 (fun i j d hd=>hs _ _ _ (h4 i j d hd).1 (h4 i j d hd).2) fun i j d hd=>ih i j d hd fun _=>rfl
 | ls a n cap id ver blk hb hv hx h=>rw[hm id]at hb;cases hb
 | lp b p id ver i o blk hb hv h=>rw[hm id]at hb;cases hb
 | clo f vs l hl _ ih=>exact .clo f vs l hl fun i x d h1 h2=>ih i x d h1 h2 hm
 | junk x=>exact .junk x
structure SI where
 t:Nat→D
 I:(Nat→Nat→Prop)→World→Prop
structure RelI (S:Nat→Nat→Prop) (n:Nat) (s:SI) (a:Act) (w:World):Prop where
 tmp:∀ k,k<n→Rep noB noM S w (a.eval (.tmp k)) (s.t k)
 width:a.tmps.size=n
 defers:a.defers=[]
 fr:Ze1 S w
 inv:s.I S w
def PostI(n:Nat)(Q:Exit→SI→Prop)(e:Exit)(a:Act)(w:World):Prop:=e ≠ .outgrown∧∃ S s,RelI S n s a w∧Q e s
def AWI(P:Program)(n:Nat)(c:Code)(Q:Exit→SI→Prop)(s:SI):Prop :=
 ∀ S a w,RelI S n s a w→c.wpIn Fence.wide 0 P (PostI n Q) a w
def Stab(I:(Nat→Nat→Prop)→World→Prop):Prop:=∀ S A B,I S A→Below A.heap.size A B→I S B
def ZvN(K:SI→Prop)(Q:Exit→SI→Prop):Exit→SI→Prop
 | .normal,s=>K s
 | e,s=>Q e s
def Zmb(id:Nat)(Q:Exit→SI→Prop):Exit→SI→Prop
 | .exit id',s=>if id'=id then Q .normal s else Q (.exit id') s
 | e,s=>Q e s
section
variable {P:Program} {n:Nat} {Q:Exit→SI→Prop} {s:SI}
theorem Zuo(h:Q .normal s):AWI P n .skip Q s:=fun S a w hr=>wpIn_skip ⟨by simp,S,s,hr,h⟩
theorem Zup{id:Nat}(h:Q (.exit id) s):AWI P n (.exit id) Q s:=fun S a w hr=>wpIn_exit ⟨by simp,S,s,hr,h⟩
theorem jRet(h:Q .ret s):AWI P n .ret Q s:=fun S a w hr=>wpIn_ret ⟨by simp,S,s,hr,h⟩
theorem jSeq{x y:Code}(h:∀ K:SI→Prop,(∀ s,AWI P n y Q s→K s)→AWI P n x (ZvN K Q) s):AWI P n (.seq x y) Q s:=by
 intro S a w hr
 refine wpIn_seq (wpIn_mono (h _ (fun _ h=>h) S a w hr) ?_)
 rintro e a' w' ⟨ho,S',s',h1,h2⟩
 cases e with
 | normal=>exact h2 S' a' w' h1
 | _=>exact⟨ho,S',s',h1,h2⟩
theorem ZnB{id:Nat}{c:Code}(h:AWI P n c (Zmb id Q) s):AWI P n (.block id c) Q s:=by
 intro S a w hr
 refine wpIn_block (wpIn_mono (h S a w hr) ?_)
 rintro e a' w' ⟨ho,S',s',h1,h2⟩
 cases e with
 | exit id' =>
   simp only[Exit.inBlock,Zmb]at h2 ⊢
   split
   ·rename_i he;rw[if_pos he]at h2;exact⟨by simp,S',s',h1,h2⟩
   ·rename_i he;rw[if_neg he]at h2;exact⟨by simp,S',s',h1,h2⟩
 | _=>exact⟨ho,S',s',h1,h2⟩
theorem ZBn{c:Operand}{x y:Code}{b:Bool}(hf:ZdV n c=true)(hc:rd s.t c = .v (.bool b))(h1:b=true→AWI P n x Q s)(h2:b=false→AWI P n y Q s):AWI P n (.cond c x y) Q s:=by
 intro S a w hr
 have hv:Rep noB noM S w (a.eval c) (rd s.t c):=Ziw fun k hk=>hr.tmp k (by rw[hk]at hf;simpa[ZdV]using hf)
 rw[hc]at hv
 exact wpIn_cond_split hv.inv_v (fun hb=>h1 hb S a w hr) (fun hb=>h2 hb S a w hr)
def LeI(s s':SI):Prop:=(∀ k,s'.t k = .junk∨s'.t k=s.t k)∧∀ S w,s.I S w→s'.I S w
theorem LeI.rel{S:Nat→Nat→Prop}{s s':SI}(h:LeI s s'){a:Act}{w:World}(hr:RelI S n s a w):RelI S n s' a w :=
 ⟨fun k hk=>(h.1 k).elim (fun e=>by rw[e];exact .junk _) (fun e=>by rw[e];exact hr.tmp k hk),hr.width,hr.defers,hr.fr,h.2 S w hr.inv⟩
theorem Zum{s:SI}(l:List (Nat×D)){I:(Nat→Nat→Prop)→World→Prop}(hI:∀ S w,s.I S w→I S w)(h:∀ p∈l,s.t p.1=p.2):LeI s ⟨tabT l,I⟩:=by
 refine⟨fun k=>?_,hI⟩
 rcases Zf1 l k with e|⟨d,h1,h2⟩
 ·exact .inl e
 ·right
  rw[show(SI.mk (tabT l) I).t k=tabT l k from rfl,h2]
  exact(h _ h1).symm
theorem jLoop{c:Code}{X:Type}(H:X→SI)(Pre:X→Prop)(μ:X→Nat)(x0:X)(h0:Pre x0)(hs:LeI s (H x0))
 (h:∀ x,Pre x→AWI P n c (ZvN (fun s2=>∃ y,Pre y∧μ y<μ x∧LeI s2 (H y)) Q) (H x)):AWI P n (.loop c) Q s:=by
 intro S a w hr
 let p:Act→World→Nat→Prop:=fun a w k=>∃ S x,μ x=k∧Pre x∧RelI S n (H x) a w
 refine wpIn_loop (fun a w=>∃ k,p a w k) (fun a w=>Zj3 (p a w)) ⟨_,S,x0,rfl,h0,hs.rel hr⟩ ?_
 intro a w hI
 obtain⟨S,x,h1,h2,h3⟩:=(Zcb hI).1
 refine wpIn_mono (h x h2 S a w h3) ?_
 rintro e a' w' ⟨ho,S',s',h4,h5⟩
 cases e with
 | normal =>
   obtain⟨y,h6,h7,h8⟩:=h5
   have hp:p a' w' (μ y):=⟨S',y,rfl,h6,h8.rel h4⟩
   refine⟨⟨_,hp⟩,Nat.lt_of_le_of_lt ((Zcb ⟨_,hp⟩).2 _ hp) ?_⟩
   rw[← h1];exact h7
 | _=>exact⟨ho,S',s',h4,h5⟩
def envI(S:Nat→Nat→Prop)(w:World)(h:Ze1 S w):@Env Ifl.it:=@Env.mk Ifl.it S w h (fun e=>by cases e)
theorem RelI.up{S:Nat→Nat→Prop}{a:Act}{w:World}(h:RelI S n s a w):@RelA Ifl.it (envI S w h.fr) ⟨noB,noM,w⟩ n noB ⟨s.t,noM,0,0⟩ a w:=by
 refine @RelA.mk Ifl.it _ _ _ _ _ _ _ ⟨Below.refl _ _,fun _ _ h=>(by cases h),fun _ _ h=>(by cases h),fun _ _ h=>(by cases h),fun _ _ h=>(by cases h),fun _ _ _ h=>(by cases h),fun _ _ _ _ _ h=>(by cases h)⟩ (fun k hk=>?_) h.width ?_ (Za7.refl _ _ _) (Zaw.refl _ _) (fun _ _ h=>by cases h)
 ·exact(h.tmp k hk).mono (Za7.refl _ _ _) fun b o u h1 h2=>⟨⟨h1,fun _ _ h=>by cases h⟩,h2⟩
 ·rw[h.defers];exact trivial
theorem RelI.down{S:Nat→Nat→Prop}{w0 w:World}{a0 a:Act}(h:RelI S n s a0 w0){β:Bet}{t:Nat→D}{nx:Nat}(hI:Stab s.I)
 (hr:@RelA Ifl.it (envI S w0 h.fr) ⟨noB,noM,w0⟩ n β ⟨t,noM,nx,0⟩ a w):RelI S n ⟨t,s.I⟩ a w:=by
 have hb:Below w0.heap.size w0 w:=(@RelA.mem Ifl.it _ _ _ _ _ _ _ hr).below
 refine⟨fun k hk=>?_,@RelA.width Ifl.it _ _ _ _ _ _ _ hr,@ZdE.nil Ifl.it _ _ rfl _ (@RelA.defers Ifl.it _ _ _ _ _ _ _ hr),fun b o h1=>h.fr b o (Yc7 hb.size h1),hI _ _ _ h.inv hb⟩
 exact(@RelA.tmp Ifl.it _ _ _ _ _ _ _ hr k hk).mono ⟨fun _ _ h=>(by cases h),fun _ _ h=>h⟩ fun b o u h1 h2=>⟨h1.1,h2⟩
def endJ(I:Ifl)(J:(Nat→Nat→Prop)→World→Prop)(K:SI→Prop):Exit→St→Prop
 | .normal,s=>∃ t nx,@StLe I s ⟨t,noM,nx,0⟩∧K ⟨t,J⟩
 | _,_=>False
theorem Zdn(I:Ifl){J:(Nat→Nat→Prop)→World→Prop}{K:SI→Prop}{t:Nat→D}{nx:Nat}(h:K ⟨t,J⟩):endJ I J K .normal ⟨t,noM,nx,0⟩:=⟨t,nx,@StLe.refl I _,h⟩
theorem Zj6{c:Code}(hI:Stab s.I)(h:∀ (I:Ifl)(K:SI→Prop),(∀ s,Q .normal s→K s)→@AWP I P n c (endJ I s.I K) ⟨s.t,noM,0,0⟩):AWI P n c Q s:=by
 intro S a w hr
 refine wpIn_wide.2 (wp_mono (h Ifl.it _ (fun _ h=>h) _ _ _ a w hr.up) ?_)
 rintro e a' w' ⟨s',β',h1,h2⟩
 cases e with
 | normal =>
   obtain⟨t,nx,h2,h3⟩:=h2
   obtain⟨β2,h4⟩:=h2 _ _ _ _ _ _ h1
   exact⟨by simp,S,_,hr.down hI h4,h3⟩
 | _=>exact h2.elim
def JOp(P:Program)(n:Nat)(o:Oper)(s:SI)(K:SI→Prop):Prop :=
 ∀ S a w,RelI S n s a w→∀ (K':Act→World→Prop)(Q':Exit→Act→World→Prop),(∀ S' s' a' w',RelI S' n s' a' w'→K s'→K' a' w')→o.wpIn Fence.wide 0 P a w K' Q'
theorem jOp{o:Oper}{K:SI→Prop}(hI:Stab s.I)(hfit:Zbz n o=true)(h:∀ I:Ifl,@opA I P o ⟨s.t,noM,0,0⟩ fun s'=>∃ t nx,@StLe I s' ⟨t,noM,nx,0⟩∧K ⟨t,s.I⟩):JOp P n o s K:=by
 intro S a w hr K' Q' hK
 refine wp_in (@Zni Ifl.it _ _ _ _ _ _ _ _ _ _ _ _ hfit hr.up (h Ifl.it) fun s' β' a' w' h1 ⟨t,nx,h2,h3⟩=>?_)
 obtain⟨β2,h4⟩:=h2 _ _ _ _ _ _ h1
 exact hK _ _ _ _ (hr.down hI h4) h3
def ZxK(P:Program)(f:FuncId)(ds:List D)(I I':(Nat→Nat→Prop)→World→Prop)(d:D):Prop:=ZeX P f ∧
 ∀ S W vs,Ze1 S W→I S W→Reps noB noM S W vs ds→CallsIn Fence.wide 0 P f vs.toArray W fun e W'=>∃ v S',e = .returned v∧Rep noB noM S' W' v d∧I' S' W'∧Ze1 S' W'∧Zaw S W S' W'
theorem putI{S S':Nat→Nat→Prop}{a:Act}{w w':World}(hr:RelI S n s a w){dst:Option Tmp}{v:Value}{d:D}{I':(Nat→Nat→Prop)→World→Prop}(hv:Rep noB noM S' w' v d)(hI:I' S' w')(hn:Ze1 S' w')(hs:Zaw S w S' w') :
 RelI S' n ⟨Go.Proofs.YtiincpioidnciaaGreat.putT s.t dst d,I'⟩ (a.put dst v) w':=by
 refine⟨fun k hk=>?_,by cases dst<;>simp[Act.put,hr.width],by rw[Zf7];exact hr.defers,hn,hI⟩
 rw[eval_put (by rw[hr.width];exact hk)]
 cases dst with
 | none=>rw[if_neg (by simp)];exact(hr.tmp k hk).monoS (fun _=>rfl) hs
 | some j =>
   by_cases e:j=k
   ·subst e;rw[if_pos rfl];simp only[Go.Proofs.YtiincpioidnciaaGreat.putT,Zac];exact hv
   ·rw[if_neg (by simpa using e)]
    simp only[Go.Proofs.YtiincpioidnciaaGreat.putT,Zab _ _ (Ne.symm e)]
    exact(hr.tmp k hk).monoS (fun _=>rfl) hs
end
local instance iflIt2:Ifl:=Ifl.it
section
variable {P:Program} {n:Nat} {Q:Exit→SI→Prop} {s:SI}
theorem ZqD{c:Operand}{x y:Code}(hf:ZdV n c=true)(hc:rd s.t c = .v (.bool true))(h:AWI P n x Q s):AWI P n (.cond c x y) Q s:=ZBn hf hc (fun _=>h) (fun e=>by cases e)
theorem ZqE{c:Operand}{x y:Code}(hf:ZdV n c=true)(hc:rd s.t c = .v (.bool false))(h:AWI P n y Q s):AWI P n (.cond c x y) Q s:=ZBn hf hc (fun e=>by cases e) (fun _=>h)
theorem ZBm{o:Oper}{f x:Operand}{ats:Array TypeId}{l:Nat}{K:SI→Prop}{I':(Nat→Nat→Prop)→World→Prop}
 (ho:o.op = .call {callee:=.value f,args:=#[x],argTypes:=ats}) (hfit:ZdV n f=true) (hfx:ZdV n x=true) (hf:rd s.t f = .v (.func (.yield l) #[] #[]))
 (hY:∀ S w v,Ze1 S w→s.I S w→Rep noB noM S w v (rd s.t x)→YieldAt Fence.wide 0 P l #[v] w fun e w'=>e = .returned (.bool true)∧∃ S',I' S' w'∧Ze1 S' w'∧Zaw S w S' w')
 (hK:K ⟨Go.Proofs.YtiincpioidnciaaGreat.putT s.t o.dst (.v (.bool true)),I'⟩):JOp P n o s K:=by
 intro S a w hr K' Q' hKK
 have hv:Rep noB noM S w (a.eval f) (rd s.t f):=Ziw fun k hk=>hr.tmp k (by rw[hk]at hfit;simpa[ZdV]using hfit)
 have hx:Rep noB noM S w (a.eval x) (rd s.t x):=Ziw fun k hk=>hr.tmp k (by rw[hk]at hfx;simpa[ZdV]using hfx)
 rw[hf]at hv
 have hv:=hv.inv_v
 obtain⟨fn,tmps,assign,body,h1,h2⟩:=hY S w (a.eval x) hr.fr hr.inv hx
 refine⟨fun _ _=>trivial,?_⟩
 rw[show Fence.wide.round=none from rfl,Oper.semAt_none]
 have he:(execOp a.eval o).run P w = .ok (.round l fn tmps assign body) w:=by
  unfold execOp
  rw[ho]
  simp[resolve,hv,Deferred.ofValue,invoke,h1]
 rw[he,Oper.uponIn_round]
 refine⟨fun e=>(by cases e),RoundIn.mono h2 ?_⟩
 rintro e w' ⟨rfl,S',g1,g2,g3⟩
 exact hKK _ _ _ _ (putI hr (.v _) g1 g2 g3) hK
theorem jOpL{o:Oper}{K:SI→Prop}(hI:Stab s.I)(hfit:Zbz n o=true)(hg:o.guard=none)(h:∀ (I:Ifl)(KR:St→Prop),(∀ s',endJ I s.I K .normal s'→KR s')→@opsL I P [o.dst] [ZgG o] ⟨s.t,noM,0,0⟩ KR):JOp P n o s K:=by
 refine jOp hI hfit fun I=>?_
 have h4:=@Zdj I P #[o] _ [o] _ (h I _ fun _ h=>h)
 unfold opsA Zfq at h4
 rw[hg]at h4
 exact h4.1 rfl
theorem ZxK.inline {f : FuncId} {fn : Func} {c : Code} {ds : List D} {I I' : (Nat → Nat → Prop) → World → Prop} {d : D} (hf : P.funcs[f]? = some fn) (hb : fn.body = some c) (hnm : (fn.name == "runtime.NumGoroutine") = false)
 (hn:decide (ds.length≤fn.ntmps)=true) (Zr:fn.results.toList.all (ZiW fn.ntmps)=true)
 (h:∀ S0 W0,I S0 W0→AWI P fn.ntmps c (fun e s=>(e = .normal∨e = .ret)∧∃ ds',Zgt P ⟨s.t,noM,0,0⟩ fn.results.toList=some ds'∧oneD ds'=d∧∀ S w,s.I S w→I' S w∧Zaw S0 W0 S w) ⟨ZiV ds,fun S w=>I S w∧Zaw S0 W0 S w⟩):ZxK P f ds I I' d:=by
 refine⟨⟨fn,c,hf,hb,hnm⟩,fun S W vs hfr hI hvs=>?_⟩
 have hn:=of_decide_eq_true hn
 have hvl:vs.length=ds.length:=hvs.1
 refine callsIn_of_wp_marks hf hb trivial (wpIn_mono (h S W hI S _ W ⟨fun k hk=>?_,?_,rfl,hfr,hI,Zaw.refl _ _⟩) ?_)
 ·simp only[Act.eval,ZiV]
  by_cases hkv:k<vs.length
  ·have e:(vs.toArray++Array.replicate (fn.ntmps-vs.toArray.size) undef).getD k undef=vs[k]:=by
    rw[Array.getD_eq_getD_getElem?,Array.getElem?_append_left (by simpa using hkv)]
    simp[hkv]
   rw[e,Ya0 (by omega),Option.getD_some]
   exact hvs.2 k _ _ (Ya0 hkv) (Ya0 (by omega))
  ·have e:(vs.toArray++Array.replicate (fn.ntmps-vs.toArray.size) undef).getD k undef=undef:=by
    rw[Array.getD_eq_getD_getElem?,Array.getElem?_append_right (by simp;omega)]
    rw[Array.getElem?_replicate]
    split<;>rfl
   rw[e,List.getElem?_eq_none (by omega),Option.getD_none]
   exact .v _
 ·simp;omega
 ·rintro e a' w' ⟨ho,S',s',h1,he,ds',h2,rfl,h3⟩
  have done:LeavesInM Fence.wide 0 P fn a'.tmps (fun e W'=>∃ v S',e = .returned v∧Rep noB noM S' W' v (oneD ds')∧I' S' W'∧Ze1 S' W'∧Zaw S W S' W') a'.defers .returning w':=by
   rw[h1.defers]
   obtain⟨v,g3,g4⟩:=ZkT (P:=P) h1.up Zr h2
   obtain⟨i1,i2⟩:=h3 _ _ h1.inv
   exact⟨v,g3,v,S',rfl,g4.mono ⟨fun _ _ h=>(by cases h),fun _ _ h=>h⟩ fun b o u q1 q2=>⟨q1.1,q2⟩,i1,h1.fr,i2⟩
  rcases he with rfl|rfl
  ·exact done
  ·exact done
end
local instance iflIt3:Ifl:=Ifl.it
section
variable {P:Program} {n:Nat} {Q:Exit→SI→Prop} {s:SI}
def jOps(P:Program)(n:Nat):List Oper→SI→(SI→Prop)→Prop
 | [],s,K=>K s
 | o ::rest,s,K=>o.guard=none∧JOp P n o s fun s'=>jOps P n rest s' K
theorem ZnA{ops:Array Oper}{K:Exit→Act→World→Prop}:∀ (L:List Oper)(S:Nat→Nat→Prop)(s:SI)(a:Act)(w:World),RelI S n s a w→jOps P n L s (fun s'=>∀ S' a' w',RelI S' n s' a' w'→K .normal a' w')→wpListIn Fence.wide 0 P ops K L a w
 | [],S,s,a,w,hr,h=>h S a w hr
 | o ::rest,S,s,a,w,hr,⟨hg,h⟩=>by
   unfold wpListIn
   have hw:Region.wanted o (yielded ops a.tmps)=true:=by unfold Region.wanted;rw[hg]
   rw[hw,if_pos rfl]
   exact h S a w hr _ _ fun S' s' a' w' h1 h2=>ZnA rest S' s' a' w' h1 h2
theorem jList{id:Nat}{L:List Oper}(h:jOps P n L s (Q .normal)):AWI P n (.region id L.toArray false) Q s:=by
 intro S a w hr
 refine wpIn_region_lit (ZnA L S s a w hr ?_)
 have mono:∀ (L:List Oper)(s:SI)(K K':SI→Prop),(∀ s,K s→K' s)→jOps P n L s K→jOps P n L s K':=by
  intro L
  induction L with
  | nil=>intro s K K' hk h;exact hk s h
  | cons o rest ih =>
    intro s K K' hk h
    exact⟨h.1,fun S a w hr K2 Q2 hK2=>h.2 S a w hr K2 Q2 fun S' s' a' w' h1 h2=>hK2 S' s' a' w' h1 (ih s' K K' hk h2)⟩
 exact mono L s _ _ (fun s' h S' a' w' h1=>⟨by simp,S',s',h1,h⟩) h
end
end Go.Proofs.YtiincpioidnciaaGreat
