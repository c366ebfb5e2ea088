/-
  The walk over data: a range over a function.
-/
import Derived.Test.YtjeaacindikplaaGreatXLib
import Derived.Test.YtjeaacindikplaaGreatXT05
import Derived.RangeFuncKeeps
import Derived.OrdersIn
namespace Go.Proofs.YtjeaacindikplaaGreat
set_option linter.unusedVariables false
set_option linter.unusedSimpArgs false
set_option linter.unusedSectionVars false
open Go Go.RowKit
section ifl
variable [Ifl]
theorem Zbf.size{β m w β' m' w'}(h:Zbf β m w β' m' w'):w.heap.size≤w'.heap.size:=by
 rcases Nat.eq_zero_or_pos w.heap.size with e|e
 ·omega
 ·have hl:w.heap.size-1<w.heap.size:=by omega
  have ho:w.heap[w.heap.size-1]? =some w.heap[w.heap.size-1]:=Yb5 hl
  have:w.heap.size-1<w'.heap.size:=by
   generalize hq:w.heap[w.heap.size-1]=o at ho
   by_cases hc:∃ cs T fr,o = .cells cs T fr
   ·obtain⟨cs,T,fr,rfl⟩:=hc
    exact Zle (h.cap _ (.inl cs.size) ⟨cs,T,fr,ho,rfl⟩)
   ·exact(Ya5.1 (h.cap _ (.inr o) ⟨fun cs T fr e=>hc ⟨cs,T,fr,e⟩,ho⟩).2).1
  omega
theorem Zed.of_mem{b0:Nat}{w:World}:∀ {ds:List Deferred},Zed b0 ds w→∀ e∈ds,∃ D,e={target:=.collected D,args:=#[]}∧w.heap[D]? =some (.deferred (some []))
 | [],_,_,he=>(by cases he)
 | d ::ds,⟨⟨D,h1,_,h3⟩,_,h5⟩,e,he=>by
   rcases List.mem_cons.1 he with rfl|he
   ·exact⟨D,h1,h3⟩
   ·exact Zed.of_mem h5 e he
theorem Zsq{w:World}{D:Nat}{o o':Obj}(hd:w.heap[D]? =some o)(ho:o.isCells=false) :
 (∀ (b:Nat)(x:Obj),w.heap[b]? =some x→x.isCells=true→(w.putObj D o').heap[b]? =some x)∧(∀ b k,Zen w b k→Zen (w.putObj D o') b k) ∧
   ∀ b o u,w.cell? ⟨b,o,none⟩=some u→(w.putObj D o').cell? ⟨b,o,none⟩=some u:=by
 have hcells:∀ (b:Nat)(x:Obj),w.heap[b]? =some x→x.isCells=true→(w.putObj D o').heap[b]? =some x:=fun b x hb hx=>by
  rw[World.putObj_heap_other (fun e=>by subst e;rw[hd]at hb;cases hb;rw[ho]at hx;cases hx)]
  exact hb
 refine⟨hcells,fun b k ⟨cs,T,fr,h1,h2⟩=>⟨cs,T,fr,hcells b _ h1 rfl,h2⟩,fun b q u hu=>?_⟩
 by_cases e:b=D
 ·subst e
  cases o<;>first|(cases ho;done)|simp[World.cell?,hd]at hu
 ·rw[World.cell?_of_block (w:=w) (a:=⟨b,q,none⟩) (World.putObj_heap_other e)]
  exact hu
theorem ZnO{E:Env}{β:Bet}{m:Mem}{nx:Nat}{w:World}(hM:ZaU E β m nx w){D:Nat}{o:Obj}(o':Obj)(hD:E.w0.heap.size≤D)(hd:w.heap[D]? =some o)(ho:o.isCells=false) :
 ZaU E β m nx (w.putObj D o')∧ZtL β m w β m (w.putObj D o')∧ZaA (safe E β m) w (safe E β m) (w.putObj D o'):=by
 obtain⟨hcells,hc,hcell⟩:=Zsq (o':=o') hd ho
 have hs:ZaA (safe E β m) w (safe E β m) (w.putObj D o'):=fun b o u h1 h2=>⟨h1,hcell b o u h2⟩
 have hm0:ZtL β m w β m (w.putObj D o'):=⟨fun _ x hx=>⟨x,hx,Ya4 _,fun _=>⟨rfl,rfl,rfl⟩⟩,hc⟩
 refine⟨⟨?_,hM.lt,hM.fz,hM.wid,hM.non,fun id blk b h1 h2=>?_,hM.inj⟩,hm0,hs⟩
 ·exact hM.below.trans ((Below.refl E.w0.heap.size w).grown (grownBy_putObj' w D _) (by have:=(Ya5.1 hd).1;have:=hM.below.size;omega) (fun k e=>by cases e;omega))
 ·obtain⟨h3,cs,h4,h5,h6⟩:=hM.row id blk b h1 h2
  refine⟨h3,cs,hcells b _ h4 rfl,h5,fun i j d hd'=>?_⟩
  obtain⟨u,h7,h8⟩:=h6 i j d hd'
  exact⟨u,h7,h8.mono0 hm0 hs⟩
theorem Zbf.putObj{β m w0 β' m' w}(h:Zbf β m w0 β' m' w){D:Nat}{o:Obj}(o':Obj)(hD:w0.heap.size≤D)(hd:w.heap[D]? =some o)(ho:o.isCells=false):Zbf β m w0 β' m' (w.putObj D o'):=by
 obtain⟨_,hc,_⟩:=Zsq (o':=o') hd ho
 refine⟨h.blk,fun b k hk=>?_⟩
 have hlt:b<w0.heap.size:=by
  cases k with
  | inl k=>exact Zle hk
  | inr o=>exact(Ya5.1 hk.2).1
 have hb:(w.putObj D o').heap[b]? =w.heap[b]?:=World.putObj_heap_other (by omega)
 have:=h.cap b k hk
 cases k with
 | inl k=>exact hc b k this
 | inr o=>exact⟨this.1,by rw[hb];exact this.2⟩
section
variable {P:Program} {E:Env} {B:Base} {n:Nat} {β:Bet} {s:St} {a:Act} {w:World}
theorem RelA.putObj(hB:E.w0.heap.size≤B.w.heap.size)(h:RelA E B n β s a w){D:Nat}{o:Obj}(o':Obj)(hD:B.w.heap.size≤D)(hd:w.heap[D]? =some o)(ho:o.isCells=false)(hds:Zed B.w.heap.size a.defers (w.putObj D o')) :
 RelA E B n β s a (w.putObj D o'):=by
 obtain⟨h1,h2,h3⟩:=ZnO h.mem o' (Yc7 hB hD) hd ho
 exact⟨h1,fun k hk=>(h.tmp k hk).mono0 h2 h3,h.width,hds,h.le.putObj o' hD hd ho,h.sle.trans h3,h.lo⟩
end
def ZfN(S:Nat→Nat→Prop)(w:World):Prop:=∀ b o,w.heap.size≤b→S b o
def Zqa(s s':St):Prop:=∀ E B n β a w,RelA E B n β s a w→∃ β',RelA E B n β' s' a w∧ZaA (safe E β s.m) w (safe E β' s'.m) w
theorem Zqa.trans{a b c:St}(h:Zqa a b)(k:Zqa b c):Zqa a c:=fun E B n β x w hr=>by
 obtain⟨β1,h1,h2⟩:=h E B n β x w hr
 obtain⟨β2,h3,h4⟩:=k E B n β1 x w h1
 exact⟨β2,h3,h2.trans h4⟩
theorem Zs0{s:St}(l:List (Nat×D))(bl:List (Nat×Blk))(nx:Nat)(ht:∀ p∈l,s.t p.1=p.2)(hm:∀ p∈bl,s.m p.1=some p.2)(hok:∀ p∈l,okD (fun id=>(bl.map (·.1)).contains id) p.2=true)
 (hbk:∀ p∈bl,Zav (fun id=>(bl.map (·.1)).contains id) p.2) (hnx:∀ p∈bl,p.1<nx) (hlo:s.lo=0∨∀ id,id<s.lo→(bl.map (·.1)).contains id=true):Zqa s ⟨tabT l,tabM bl,nx,s.lo⟩:=by
 intro E B nn β a w h
 have hM:=h.mem
 have hk:∀ id,(bl.map (·.1)).contains id=true→tabM bl id=s.m id:=by
  intro id hid
  rcases Ziv bl id with⟨_,h1⟩|⟨b,h1,h2⟩
  ·exact absurd (List.contains_iff_mem.1 hid) h1
  ·rw[h2];exact(hm _ h1).symm
 have hget:∀ id b,tabM bl id=some b→s.m id=some b∧(id,b)∈bl:=by
  intro id b hb
  rcases Ziv bl id with⟨h1,_⟩|⟨b',h1,h2⟩
  ·rw[h1]at hb;cases hb
  ·rw[h2]at hb;cases hb;exact⟨hm _ h1,h1⟩
 have hs:ZaA (safe E β s.m) w (safe E β (tabM bl)) w:=fun b o u h1 h2=>⟨⟨h1.1,fun id blk h3 h4=>h1.2 id blk (hget id blk h3).1 h4⟩,h2⟩
 refine⟨β,⟨⟨hM.below,?_,?_,?_,?_,?_,?_⟩,?_,h.width,h.defers,?_,h.sle.trans hs,h.lo⟩,hs⟩
 ·intro id b hb;exact hnx _ (hget id b hb).2
 ·intro id b hb;exact hM.fz id b (hget id b hb).1
 ·intro id b hb;exact hM.wid id b (hget id b hb).1
 ·intro id b hb;exact hM.non id b (hget id b hb).1
 ·intro id b c hb hc
  obtain⟨h3,cs',h4,h5,h6⟩:=hM.row id b c (hget id b hb).1 hc
  refine⟨h3,cs',h4,h5,fun i j d hd=>?_⟩
  obtain⟨u,h7,h8⟩:=h6 i j d hd
  obtain⟨e,he,hj⟩:=Zal.1 hd
  exact⟨u,h7,Zj6 hk hs d u (ZiN (hbk _ (hget id b hb).2 e (Ya7 he)) d (Ya7 hj)) h8⟩
 ·intro x1 x2 y1 y2 c h1 h2 h3 h4
  exact hM.inj x1 x2 y1 y2 c (hget _ _ h1).1 (hget _ _ h2).1 h3 h4
 ·intro k hk'
  rcases Zg7 l k with h1|⟨d,h1,h2⟩
  ·simp only[h1];exact .junk _
  ·simp only[h2]
   have:=h.tmp k hk'
   rw[ht _ h1]at this
   exact Zj6 hk hs d _ (hok _ h1) this
 ·refine⟨fun id x hx=>?_,h.le.cap⟩
  obtain⟨y,h1,h2,h3⟩:=h.le.blk id x hx
  have hid:=h.lo id x hx
  have hkeep:(bl.map (·.1)).contains id=true:=by
   rcases hlo with h0|h0
   ·omega
   ·exact h0 id hid
  exact⟨y,(hk id hkeep).trans h1,h2,h3⟩
def ZBK{X:Type}(P:Program)(gf:FuncId)(ds:List D)(enc:X→D)(xs:List X):Prop:=ZfK P gf ∧
 ∀ (l:Nat)(S:Nat→Nat→Prop)(W:World)(vs:List Value) (J:(Nat→Nat→Prop)→List X→World→Prop),ZfN S W→Reps noB noM S W vs ds →
  (∀ S L A B,J S L A→Below A.heap.size A B→J S L B) →
  (∀ S L x t v W',L++x ::t=xs→J S L W'→ZfN S W'→Rep noB noM S W' v (enc x)→YieldAt Fence.wide 0 P l #[v] W' fun e W''=>e = .returned (.bool true)∧∃ S',J S' (L++[x]) W''∧ZfN S' W''∧ZaA S W' S' W'') →
  J S [] W→CallsIn Fence.wide 0 P gf (#[.func (.yield l) #[] #[]]++vs.toArray) W fun e W'=>(∃ v,e = .returned v)∧∃ S',J S' xs W'
theorem Zke{E:Env}{S:Nat→Nat→Prop}{D:Nat}{r:Loop}{W':World}:Zl3 E fun β m W=>W.heap[D+1]? =some (.loop r)∧W.heap[D]? =some (.deferred (some []))∧ZaA S W' (safe E β m) W:=by
 rintro β m w β' m' w' h1 h2 ⟨t1,t2,t3⟩
 exact⟨(h1.cap _ (.inr _) ⟨fun _ _ _ e=>(by cases e),t1⟩).2,(h1.cap _ (.inr _) ⟨fun _ _ _ e=>(by cases e),t2⟩).2,t3.trans h2⟩
theorem Zu6{P:Program}{n:Nat}{Q:Exit→St→Prop}{s:St}{g:Operand}{p:Tmp}{assign body:Code}{gf:FuncId}{ds ds':List D}{X:Type}(enc:X→D)(xs:List X)(l:List (Nat×D))(bl:List X→List (Nat×Blk))(nx lo:Nat)
 (hle:StLe s ⟨tabT l,tabM (bl []),nx,lo⟩) (hfg:Zd8 n g=true) (hg:rd (tabT l) g = .clo gf ds) (hds:toDs ds=some ds') (hI:ZBK P gf ds' enc xs) (hp:p<n)
 (hrg:Ifl.r=true) (hround:∀ L x t,L++x ::t=xs→AWR P n assign (fun e s1=>e = .normal∧AWR P n body (fun e s2=>e = .normal∧Zqa s2 ⟨tabT [],tabM (bl (L++[x])),nx,nx⟩) s1) ⟨upd (tabT l) p (enc x),tabM (bl L),nx,nx⟩)
 (hend:Q .normal ⟨tabT l,tabM (bl xs),nx,lo⟩):AWP P n (.rangeFunc g #[p] assign body) Q s:=by
 intro E B β a w hr
 obtain⟨β1,h1⟩:=hle E B n β a w hr
 have hv:Rep β1 (tabM (bl [])) (safe E β1 (tabM (bl []))) w (a.eval g) (rd (tabT l) g):=ZiH fun k hk=>h1.tmp k (by rw[hk]at hfg;simpa[Zd8]using hfg)
 rw[hg]at hv
 obtain⟨vs,hev,hvs⟩:=hv.inv_clo
 refine(wpIn_wide (n:=0)).1 (wpIn_rangeFunc fun fn hfn=>?_)
 obtain⟨rec,hrec⟩:∃ rec:LoopState→Option Code→Loop,rec=fun st pe=>{state:=st,pending:=pe,fn,tmps:=a.tmps,params:=#[p],assign,body,defers:=w.heap.size}:=⟨_,rfl⟩
 obtain⟨W1,hW1⟩:∃ W1,(w.alloc (.deferred (some []))).alloc (.loop (rec .ready none))=W1:=⟨_,rfl⟩
 have hL1:W1.heap[w.heap.size+1]? =some (.loop (rec .ready none)):=by
  rw[← hW1];have:=World.alloc_heap_new (w.alloc (.deferred (some []))) (.loop (rec .ready none));rwa [World.size_alloc]at this
 have hK1:W1.heap[w.heap.size]? =some (.deferred (some [])):=by
  rw[← hW1];exact(Below.heap_alloc _ _ _ (by simp)).trans (World.alloc_heap_new w _)
 have hb1:Below w.heap.size w W1:=by rw[← hW1];exact((Below.refl _ w).alloc (Ya4 _) _).alloc (by simp) _
 have hsz1:W1.heap.size=w.heap.size+2:=by rw[← hW1];simp
 obtain⟨gfn,gc,hgf,hgc,hnm⟩:=hI.1
 have hBw:B.w.heap.size≤w.heap.size:=h1.le.size
 have hE0:E.w0.heap.size≤w.heap.size:=h1.mem.below.size
 obtain⟨hM1,hm1,hs1⟩:=Zfs h1.mem hb1
 refine⟨w.heap.size+1,[{target:=.collected w.heap.size,args:=#[]}],W1,{target:=.fn (.func gf) vs.toArray,args:=#[.func (.yield (w.heap.size+1)) #[] #[]]},W1,gf,
  #[.func (.yield (w.heap.size+1)) #[] #[]]++vs.toArray,W1,?_,?_,fun _ _=>trivial,?_,fun e=>(by cases e),?_⟩
 ·rw[← hW1,hrec];exact run_enterLoop_outer _ _ _ _ _
 ·simp only[resolve,hev]
  simp[go_sem]
 ·have hnm' : ¬ gfn.name = "runtime.NumGoroutine" := by simpa using hnm
  simp[invoke,callFunc,hgf,hnm',hgc]
 ·refine(hI.2 (w.heap.size+1) (safe E β1 (tabM (bl []))) W1 vs
   (fun S L W=>∃ β',S=safe E β' (tabM (bl L))∧ZaU E β' (tabM (bl L)) nx W∧Zbf β1 (tabM (bl [])) w β' (tabM (bl L)) W∧ZaA (safe E β1 (tabM (bl []))) w (safe E β' (tabM (bl L))) W ∧
     W.heap[w.heap.size+1]? =some (.loop (rec .ready none))∧W.heap[w.heap.size]? =some (.deferred (some [])))
   (Zhb hM1) (Zgs _ _ _ hds (Reps.mono hm1 hs1 hvs)) ?_ ?_ ⟨β1,rfl,hM1,hm1,hs1,hL1,hK1⟩).mono ?_
  ·rintro S L A C ⟨β',j0,j1,j2,j3,j4,j5⟩ hb
   obtain⟨g1,g2,g3⟩:=Zfs j1 hb
   exact⟨β',j0,g1,j2.trans g2,j3.trans g3,(hb.block _ (Ya5.1 j4).1).trans j4,(hb.block _ (Ya5.1 j5).1).trans j5⟩
  ·rintro S L x t v W hpre ⟨β',rfl,j1,j2,j3,j4,j5⟩ _ hv
   have hy:=run_yield (P:=P) (args:=#[v]) j4 (by rw[hrec];rfl)
   rw[hrec]at hy
   have ha1:(#[p].zip #[v]).foldl (fun(t:Array Value) (q:Tmp×Value)=>t.setIfInBounds q.1 q.2) a.tmps=a.tmps.setIfInBounds p v:=by simp
   refine⟨_,_,_,_,hy,roundIn_of_wpIn trivial ?_⟩
   have hrel:RelA E ⟨β1,tabM (bl []),w⟩ n β' ⟨upd (tabT l) p (enc x),tabM (bl L),nx,nx⟩ {tmps:=a.tmps.setIfInBounds p v,defers:=[]} W:=by
    refine⟨j1,fun k hk=>?_,by simp[h1.width],trivial,j2,j3,h1.mem.lt⟩
    have hw:=h1.width
    show Rep β' (tabM (bl L)) (safe E β' (tabM (bl L))) W (Act.eval _ (.tmp k)) (upd (tabT l) p (enc x) k)
    by_cases e:k=p
    ·subst e
     rw[show(upd (tabT l) k (enc x)) k=enc x from Zae _ _ _]
     have:Act.eval {tmps:=a.tmps.setIfInBounds k v,defers:=[]} (.tmp k)=v:=by simp[Act.eval,Array.getD_eq_getD_getElem?,hw,hk]
     rw[this]
     exact hv.mono ⟨fun _ _ h=>(by cases h),fun _ _ h=>h⟩ (ZaA.refl _ _)
    ·rw[show(upd (tabT l) p (enc x)) k=tabT l k from Zac _ _ e]
     have:Act.eval {tmps:=a.tmps.setIfInBounds p v,defers:=[]} (.tmp k)=a.eval (.tmp k):=by simp[Act.eval,Array.getD_eq_getD_getElem?,Array.getElem?_setIfInBounds_ne (Ne.symm e)]
     rw[this]
     exact(h1.tmp k hk).mono j2 j3
   have hA:=hround L x t hpre (w.heap.size+1) E (fun β m W2=>W2.heap[w.heap.size+1]? =some (.loop (rec .ready none))∧W2.heap[w.heap.size]? =some (.deferred (some []))∧ZaA (safe E β' (tabM (bl L))) W (safe E β m) W2) Zke _ _ _ _ hrel ⟨j4,j5,ZaA.refl _ _⟩
   simp only at hy ⊢
   rw[ha1]
   refine wpIn_mono hA ?_
   rintro e a2 W2 ⟨s2,β2,r2,⟨t1,t2,t3⟩,rfl,hbody⟩
   refine⟨_,run_beginRound t1 (by rw[hrec]),?_⟩
   have hlt:w.heap.size+1<W2.heap.size:=(Ya5.1 t1).1
   obtain⟨q1,q2,q3⟩:=ZnO r2.mem (.loop {rec .ready none with state:=.busy}) (by omega:E.w0.heap.size≤w.heap.size+1) t1 rfl
   have hm2:Zed w.heap.size a2.defers (W2.putObj (w.heap.size+1) (.loop {rec .ready none with state:=.busy})):=r2.defers.mono fun D _ hD=>by
    rw[World.putObj_heap_other (fun e=>by subst e;rw[t1]at hD;cases hD)];exact hD
   have r3:=r2.putObj (B:=⟨β1,tabM (bl []),w⟩) hE0 (.loop {rec .ready none with state:=.busy}) (Nat.le_succ _) t1 rfl hm2
   refine wpIn_mono (hbody (w.heap.size+1) E (fun β m W2=>W2.heap[w.heap.size+1]? =some (.loop {rec .ready none with state:=.busy})∧W2.heap[w.heap.size]? =some (.deferred (some []))∧ZaA (safe E β' (tabM (bl L))) W (safe E β m) W2) Zke _ _ _ _ r3
    ⟨World.putObj_heap_same hlt,(World.putObj_heap_other (by omega)).trans t2,t3.trans q3⟩) ?_
   rintro e a3 W3 ⟨s3,β3,r4,⟨u1,u2,u3⟩,rfl,hle3⟩
   obtain⟨β4,r5,hsl4⟩:=hle3 _ _ _ _ _ _ r4
   have hlt3:w.heap.size+1<W3.heap.size:=(Ya5.1 u1).1
   have hend:=run_endRound (P:=P) none u1
   obtain⟨z1,z2,z3⟩:=ZnO r5.mem (.loop {rec .ready none with state:=.ready,pending:=none}) (by omega:E.w0.heap.size≤w.heap.size+1) u1 rfl
   refine⟨_,_,hend,rfl,safe E β4 (tabM (bl (L++[x]))),⟨β4,rfl,z1,r5.le.putObj _ (Nat.le_succ _) u1 rfl,r5.sle.trans z3,?_,(World.putObj_heap_other (by omega)).trans u2⟩,Zhb z1,?_⟩
   ·refine(World.putObj_heap_same hlt3).trans ?_
    rw[hrec];rfl
   ·refine ZaA.trans u3 (ZaA.trans ?_ z3)
    exact hsl4
  ·rintro e W2 ⟨⟨v,rfl⟩,S',β',rfl,j1,j2,j3,j4,j5⟩
   have hlt:w.heap.size+1<W2.heap.size:=(Ya5.1 j4).1
   have hend':=run_endLoop (P:=P) j4 (by rw[hrec];simp)
   refine⟨_,_,hend',?_⟩
   rw[show(rec .ready none).pending=none by rw[hrec]]
   obtain⟨z1,z2,z3⟩:=ZnO j1 (.loop {rec .ready none with state:=.exhausted,pending:=none}) (by omega:E.w0.heap.size≤w.heap.size+1) j4 rfl
   refine⟨⟨tabT l,tabM (bl xs),nx,lo⟩,β',⟨z1,fun k hk=>((h1.tmp k hk).mono j2 j3).mono0 z2 z3,h1.width,?_,(h1.le.trans j2).putObj _ (by omega) j4 rfl,(h1.sle.trans j3).trans z3,h1.lo⟩,hend⟩
   refine⟨⟨w.heap.size,rfl,⟨hBw,hrg⟩,(World.putObj_heap_other (by omega)).trans j5⟩,?_,?_⟩
   ·intro d hd e
    obtain⟨D,e2,e3⟩:=h1.defers.of_mem d hd
    rw[e]at e2
    simp only[Deferred.mk.injEq,Target.collected.injEq,and_true]at e2
    have:=(Ya5.1 e3).1
    omega
   ·refine(h1.defers.le j2).mono fun D _ hD=>?_
    rw[World.putObj_heap_other (fun e=>by subst e;rw[j4]at hD;cases hD)];exact hD
end ifl
section ifl
variable [Ifl]
theorem ZDQ{P:Program}{o:Oper}{a:Act}{w:World}{K:Act→World→Prop}{Q:Exit→Act→World→Prop}(h:o.wp P a w K Q):o.wpIn Fence.wide 0 P a w K Q:=by
 unfold Oper.wp at h
 refine⟨fun _ _=>trivial,?_⟩
 rw[show Fence.wide.round=none from rfl,Oper.semAt_none]
 generalize (execOp a.eval o).run P w=r at *
 cases r with
 | ok n w' =>
   cases n<;>simp only[Oper.upon,Oper.uponIn]at h ⊢<;>first
    | exact h
    | exact⟨fun e=>(by cases e),callsIn_wide.2 h⟩
    | exact⟨fun e=>(by cases e),(fun c cs _=>let ⟨v,w',r,s⟩:=h c cs;⟨v,w',r,stepsIn_wide.2 s⟩)⟩
 | halt x w'=>cases x<;>simp only[Oper.upon,Oper.uponIn]at h ⊢<;>exact h
theorem Zku{P:Program}{ops:Array Oper}{md:Region.Mode}{Q:Exit→Act→World→Prop}(hno:¬ LetsOut Q):∀ (fuel:Nat)(listed:Array Bool)(a:Act)(w:World),wpAny P md ops Q fuel listed a w→wpAnyIn Fence.wide 0 P md ops Q fuel listed a w
 | 0,_,_,_,h=>h
 | fuel+1,listed,a,w,h=>by
   refine⟨h.1,fun i hi=>?_⟩
   have h2:=h.2 i hi
   unfold wpOp at h2
   unfold wpOpIn
   cases ho:ops[i]? with
   | none=>rw[ho]at h2;exact Zku hno fuel _ _ _ h2
   | some o =>
     rw[ho]at h2
     simp only at h2 ⊢
     split
     ·rename_i hw
      rw[if_pos hw]at h2
      rcases h2 with h2|h2
      ·exact Oper.wpIn_mono (fun a w h=>Zku hno fuel _ a w h) (ZDQ h2)
      ·exact absurd h2.2 hno
     ·rename_i hw
      rw[if_neg hw]at h2
      exact⟨fun _ _=>trivial,Zku hno fuel _ _ _ h2⟩
def Zra(P:Program)(o:Oper)(Q:Exit→Act→World→Prop)(e:Exit)(a:Act)(w:World):Prop:=(e = .normal∧o.wpIn Fence.wide 0 P a w (Q .normal) Q)∨(e ≠ .normal∧Q e a w)
theorem ZgN{P:Program}{o:Oper}{Q:Exit→Act→World→Prop}{e:Exit}{a:Act}{w:World}(h:Zra P o Q e a w)(he:e ≠ .normal):Q e a w:=by
 rcases h with⟨h,_⟩|⟨_,h⟩
 ·exact absurd h he
 ·exact h
theorem ZpB{P:Program}{o:Oper}{Q:Exit→Act→World→Prop}(h:LetsOut (Zra P o Q)):LetsOut Q:=by
 obtain⟨a,w,h⟩:=h
 exact⟨a,w,ZgN h (by intro e;cases e)⟩
theorem ZyP{P:Program}{o p:Oper}{Q:Exit→Act→World→Prop}{K K':Act→World→Prop}{a:Act}{w:World}(h:∀ a w,K a w→K' a w)(hh:p.wpIn Fence.wide 0 P a w K (Zra P o Q)):p.wpIn Fence.wide 0 P a w K' Q:=by
 unfold Oper.wpIn at *
 refine⟨hh.1,?_⟩
 have hh:=hh.2
 generalize (p.semAt Fence.wide.round a.eval).run P w=r at *
 cases r with
 | ok n w' =>
   cases n<;>simp only[Oper.uponIn]at hh ⊢ <;>
    first
     | exact h _ _ hh
     | exact ⟨hh.1, CallsIn.mono hh.2 (fun e w'' he => by
         cases e<;>first
          | exact h _ _ he
          | exact ZgN he (by intro e;cases e)
          | exact ZpB he)⟩
     | exact ⟨hh.1, RoundIn.mono hh.2 (fun e w'' he => by
         cases e<;>first
          | exact h _ _ he
          | exact ZgN he (by intro e;cases e)
          | exact ZpB he)⟩
     | exact⟨hh.1,RowsIn.mono hh.2 (fun _ _ he=>h _ _ he)⟩
 | halt x w' =>
   cases x<;>simp only[Oper.uponIn]at hh ⊢<;>first
    | exact ZgN hh (by intro e;cases e)
    | exact hh
section
variable {P:Program} {l:List Oper} {o:Oper}
theorem Zp7{Q:Exit→Act→World→Prop}(okA:Zqd l.toArray)(okB:Zqd (l++[o]).toArray)(hl:ZuH (l++[o]).toArray l o=true) :
 ∀ (fuel:Nat)(listed:Array Bool)(a:Act)(w:World),listed.size=l.length→(∀ (i:Nat)(p:Oper),(l.toArray)[i]? =some p→listed[i]? =some true→∀ e∈p.after,Region.binds .any e=true→listed[e.on]? =some true) →
  wpAnyIn Fence.wide 0 P .any l.toArray (Zra P o Q) fuel listed a w→wpAnyIn Fence.wide 0 P .any (l++[o]).toArray Q (fuel+1) (listed.push false) a w:=by
 simp only[ZuH,Ya2,Ya6,Yd2,List.contains_iff_mem]at hl
 obtain⟨⟨hg,hreach⟩,hgs⟩:=hl
 have hgn:o.guard=none:=by simpa using hg
 have szA:l.toArray.size=l.length:=by simp
 have szB:(l++[o]).toArray.size=l.length+1:=by simp
 have noB:∀ (listed:Array Bool),listed.size=l.length→Region.ready .any (l++[o]).toArray (listed.push false)≠[]:=by
  intro listed hs h
  have:=Zo6 okB (by simp;omega) h l.length (by omega)
  rw[Array.getElem?_push,if_pos (by omega)]at this
  cases this
 -- the last operation, when all others are carried out
 have lastOp:∀ (fuel:Nat)(listed:Array Bool)(a:Act)(w:World),listed.size=l.length→(∀ i,i<l.length→listed[i]? =some true)→Zra P o Q .normal a w→wpOpIn Fence.wide 0 P (l++[o]).toArray Q l.length (wpAnyIn Fence.wide 0 P .any (l++[o]).toArray Q fuel ((listed.push false).setIfInBounds l.length true)) a w:=by
  intro fuel listed a w hs hall hq
  unfold wpOpIn
  rw[Zk5]
  simp only[Region.wanted,hgn,if_true]
  rcases hq with⟨_,hq⟩|⟨hq,_⟩
  ·refine Oper.wpIn_mono (fun a' w' h=>?_) hq
   have hr:Region.ready .any (l++[o]).toArray ((listed.push false).setIfInBounds l.length true)=[]:=by
    refine Zo7 (by simp;omega) fun i hi=>?_
    by_cases e:i=l.length
    ·subst e
     rw[Array.getElem?_setIfInBounds_self]
     simp;omega
    ·rw[Array.getElem?_setIfInBounds_ne (by omega),ZfW (by omega)]
     exact hall i (by omega)
   cases fuel with
   | zero=>exact⟨hr,h⟩
   | succ f=>exact⟨fun _=>h,fun i hi=>by rw[hr]at hi;cases hi⟩
  ·exact absurd rfl hq
 intro fuel
 induction fuel with
 | zero =>
   intro listed a w hs hc hA
   refine⟨fun h=>absurd h (noB listed hs),fun i hi=>?_⟩
   obtain⟨hrA,hq⟩:=hA
   have hall:=Zo6 okA (by omega) hrA
   obtain⟨hun,p,hp,hdep⟩:=mem_ready.1 hi
   have hip:=(Ya5.1 hp).1
   by_cases e:i=l.length
   ·subst e
    exact lastOp 0 listed a w hs (fun i hi=>hall i (by omega)) hq
   ·exfalso
    have:=(ZbC (d:=true) (show i<listed.size by omega)).2 (hall i (by omega))
    rw[Zln (by omega),this]at hun
    cases hun
 | succ fuel ih =>
   intro listed a w hs hc hA
   refine⟨fun h=>absurd h (noB listed hs),fun i hi=>?_⟩
   obtain⟨hqA,hopA⟩:=hA
   obtain⟨hun,p,hp,hdep⟩:=mem_ready.1 hi
   have hip:=(Ya5.1 hp).1
   have hdep':∀ e∈p.after,Region.binds .any e=true→e.on<i∧listed[e.on]? =some true:=by
    intro e he hb
    have hlt:=okB.back i p hp e he hb
    have h1:=hdep e he hb
    rw[Zln (by omega)]at h1
    exact⟨hlt,(ZbC (by omega)).1 h1⟩
   by_cases hie:i=l.length
   ·subst hie
    rw[Zk5]at hp
    cases hp
    have hall:∀ j,j<l.length→listed[j]? =some true:=by
     intro j hj
     have h1:=ZgE (ops:=(l++[o]).toArray) (listed:=listed.push false) (fun k q hk hq e he hb=>?_) Zk5 (fun e he hb=>?_) j (hreach j hj)
     ·rwa [ZfW (by omega)]at h1
     ·have hkl:k<l.length:=by
       rcases Nat.lt_or_ge k l.length with h|h
       ·exact h
       ·have hk2:=(Ya5.1 hk).1
        obtain rfl:k=l.length:=by omega
        rw[Array.getElem?_push,if_pos (by omega)]at hq
        cases hq
      rw[Zkz hkl]at hk
      rw[ZfW (by omega)]at hq
      have hlt:=okA.back k q hk e he hb
      rw[ZfW (by omega)]
      exact hc k q hk hq e he hb
     ·have h2:=hdep' e he hb
      rw[ZfW (by omega)]
      exact h2.2
    exact lastOp (fuel+1) listed a w hs hall (hqA (Zo7 (by omega) fun i hi=>hall i (by omega)))
   ·have hil:i<l.length:=by omega
    rw[Zkz hil]at hp
    have hrA:i∈Region.ready .any l.toArray listed:=by
     refine mem_ready.2 ⟨by rw[← Zln (by omega)];exact hun,p,hp,fun e he hb=>(ZbC (by have:=hdep' e he hb;omega)).2 (hdep' e he hb).2⟩
    have h1:=hopA i hrA
    have hset:(listed.push false).setIfInBounds i true=(listed.setIfInBounds i true).push false:=by
     apply Array.ext_getElem?
     intro j
     by_cases hj:j=i
     ·subst hj
      have h1:((listed.push false).setIfInBounds j true)[j]? =some true:=by
       rw[Array.getElem?_setIfInBounds_self,if_pos (by simp;omega)]
      have h2:((listed.setIfInBounds j true).push false)[j]? =some true:=by
       rw[ZfW (by simp;omega),Array.getElem?_setIfInBounds_self,if_pos (by omega)]
      rw[h1,h2]
     ·rw[Array.getElem?_setIfInBounds_ne (Ne.symm hj),Array.getElem?_push,Array.getElem?_push,Array.getElem?_setIfInBounds_ne (Ne.symm hj)]
      simp
    have hK:∀ a' w',wpAnyIn Fence.wide 0 P .any l.toArray (Zra P o Q) fuel (listed.setIfInBounds i true) a' w'→wpAnyIn Fence.wide 0 P .any (l++[o]).toArray Q (fuel+1) ((listed.push false).setIfInBounds i true) a' w':=by
     intro a' w' h
     rw[hset]
     refine ih _ _ _ (by simpa using hs) (fun k q hk hq e he hb=>?_) h
     by_cases hki:k=i
     ·subst hki
      rw[hp]at hk;cases hk
      have h2:=hdep' e he hb
      rw[Array.getElem?_setIfInBounds_ne (by omega)]
      exact h2.2
     ·rw[Array.getElem?_setIfInBounds_ne (by omega)]at hq
      have h2:=hc k q hk hq e he hb
      by_cases hei:e.on=i
      ·rw[hei,Array.getElem?_setIfInBounds_self];simp;omega
      ·rw[Array.getElem?_setIfInBounds_ne (by omega)];exact h2
    have hw:Region.wanted p (yielded (l++[o]).toArray a.tmps)=Region.wanted p (yielded l.toArray a.tmps):=by
     unfold Region.wanted
     cases hpg:p.guard with
     | none=>rfl
     | some g =>
       obtain⟨g,b⟩:=g
       have hgl:=hgs p (by rw[List.getElem?_toArray]at hp;exact Ya7 hp)
       rw[hpg]at hgl
       simp only[decide_eq_true_eq]at hgl
       simp only[yielded,Zkz hgl]
    unfold wpOpIn at h1 ⊢
    rw[hp]at h1
    rw[Zkz hil,hp]
    simp only[hw]at h1 ⊢
    split
    ·rename_i hww
     rw[if_pos hww]at h1
     exact ZyP hK h1
    ·rename_i hww
     rw[if_neg hww]at h1
     exact⟨h1.1,hK _ _ h1.2⟩
end
end ifl
local instance iflIt:Ifl:=Ifl.it
theorem Rep.monoS{β:Bet}{m:Mem}{S S':Nat→Nat→Prop}{w w':World}{x:Value}{d:D}(hm:∀ id,m id=none)(hs:ZaA S w S' w')(h:Rep β m S w x d):Rep β m S' w' x d:=by
 induction h with
 | v x=>exact .v x
 | nil=>exact .nil
 | agg vs l hl _ ih=>exact .agg vs l hl fun i x d h1 h2=>ih i x d h1 h2 hm
 | tup vs l hl _ ih=>exact .tup vs l hl fun i x d h1 h2=>ih i x d h1 h2 hm
 | sl0 a cap hc=>exact .sl0 a cap hc
 | sl b off cap k es val h1 h2 h3 h4 _ ih=>exact .sl b off cap k es val h1 h2 h3 (fun i j d hd=>hs _ _ _ (h4 i j d hd).1 (h4 i j d hd).2) fun i j d hd=>ih i j d hd fun _=>rfl
 | cl a es _ ih=>exact .cl a es (ih fun _=>rfl)
 | ep b off k i o es val h3 h4 _ ih=>exact .ep b off k i o es val h3 (fun i j d hd=>hs _ _ _ (h4 i j d hd).1 (h4 i j d hd).2) fun i j d hd=>ih i j d hd fun _=>rfl
 | ls a n cap id ver blk hb hv hx h=>rw[hm id]at hb;cases hb
 | lp b p id ver i o blk hb hv h=>rw[hm id]at hb;cases hb
 | clo f vs l hl _ ih=>exact .clo f vs l hl fun i x d h1 h2=>ih i x d h1 h2 hm
 | junk x=>exact .junk x
structure SI where
 t:Nat→D
 I:(Nat→Nat→Prop)→World→Prop
structure RelI (S:Nat→Nat→Prop) (n:Nat) (s:SI) (a:Act) (w:World):Prop where
 tmp:∀ k,k<n→Rep noB noM S w (a.eval (.tmp k)) (s.t k)
 width:a.tmps.size=n
 defers:a.defers=[]
 fr:ZfN S w
 inv:s.I S w
def PostI(n:Nat)(Q:Exit→SI→Prop)(e:Exit)(a:Act)(w:World):Prop:=e ≠ .outgrown∧∃ S s,RelI S n s a w∧Q e s
def AWI(P:Program)(n:Nat)(c:Code)(Q:Exit→SI→Prop)(s:SI):Prop :=
 ∀ S a w,RelI S n s a w→c.wpIn Fence.wide 0 P (PostI n Q) a w
def Stab(I:(Nat→Nat→Prop)→World→Prop):Prop:=∀ S A B,I S A→Below A.heap.size A B→I S B
def ZBO(K:SI→Prop)(Q:Exit→SI→Prop):Exit→SI→Prop
 | .normal,s=>K s
 | e,s=>Q e s
def Zn3(id:Nat)(Q:Exit→SI→Prop):Exit→SI→Prop
 | .exit id',s=>if id'=id then Q .normal s else Q (.exit id') s
 | e,s=>Q e s
section
variable {P:Program} {n:Nat} {Q:Exit→SI→Prop} {s:SI}
theorem Zxk(h:Q .normal s):AWI P n .skip Q s:=fun S a w hr=>wpIn_skip ⟨by simp,S,s,hr,h⟩
theorem Zz6{id:Nat}(h:Q (.exit id) s):AWI P n (.exit id) Q s:=fun S a w hr=>wpIn_exit ⟨by simp,S,s,hr,h⟩
theorem jRet(h:Q .ret s):AWI P n .ret Q s:=fun S a w hr=>wpIn_ret ⟨by simp,S,s,hr,h⟩
theorem jSeq{x y:Code}(h:∀ K:SI→Prop,(∀ s,AWI P n y Q s→K s)→AWI P n x (ZBO K Q) s):AWI P n (.seq x y) Q s:=by
 intro S a w hr
 refine wpIn_seq (wpIn_mono (h _ (fun _ h=>h) S a w hr) ?_)
 rintro e a' w' ⟨ho,S',s',h1,h2⟩
 cases e with
 | normal=>exact h2 S' a' w' h1
 | _=>exact⟨ho,S',s',h1,h2⟩
theorem ZpD{id:Nat}{c:Code}(h:AWI P n c (Zn3 id Q) s):AWI P n (.block id c) Q s:=by
 intro S a w hr
 refine wpIn_block (wpIn_mono (h S a w hr) ?_)
 rintro e a' w' ⟨ho,S',s',h1,h2⟩
 cases e with
 | exit id' =>
   simp only[Exit.inBlock,Zn3]at h2 ⊢
   split
   ·rename_i he;rw[if_pos he]at h2;exact⟨by simp,S',s',h1,h2⟩
   ·rename_i he;rw[if_neg he]at h2;exact⟨by simp,S',s',h1,h2⟩
 | _=>exact⟨ho,S',s',h1,h2⟩
theorem ZES{c:Operand}{x y:Code}{b:Bool}(hf:Zd8 n c=true)(hc:rd s.t c = .v (.bool b))(h1:b=true→AWI P n x Q s)(h2:b=false→AWI P n y Q s):AWI P n (.cond c x y) Q s:=by
 intro S a w hr
 have hv:Rep noB noM S w (a.eval c) (rd s.t c):=ZiH fun k hk=>hr.tmp k (by rw[hk]at hf;simpa[Zd8]using hf)
 rw[hc]at hv
 exact wpIn_cond_split hv.inv_v (fun hb=>h1 hb S a w hr) (fun hb=>h2 hb S a w hr)
def LeI(s s':SI):Prop:=(∀ k,s'.t k = .junk∨s'.t k=s.t k)∧∀ S w,s.I S w→s'.I S w
theorem LeI.rel{S:Nat→Nat→Prop}{s s':SI}(h:LeI s s'){a:Act}{w:World}(hr:RelI S n s a w):RelI S n s' a w :=
 ⟨fun k hk=>(h.1 k).elim (fun e=>by rw[e];exact .junk _) (fun e=>by rw[e];exact hr.tmp k hk),hr.width,hr.defers,hr.fr,h.2 S w hr.inv⟩
theorem Zxg{s:SI}(l:List (Nat×D)){I:(Nat→Nat→Prop)→World→Prop}(hI:∀ S w,s.I S w→I S w)(h:∀ p∈l,s.t p.1=p.2):LeI s ⟨tabT l,I⟩:=by
 refine⟨fun k=>?_,hI⟩
 rcases Zg7 l k with e|⟨d,h1,h2⟩
 ·exact .inl e
 ·right
  rw[show(SI.mk (tabT l) I).t k=tabT l k from rfl,h2]
  exact(h _ h1).symm
theorem jLoop{c:Code}{X:Type}(H:X→SI)(Pre:X→Prop)(μ:X→Nat)(x0:X)(h0:Pre x0)(hs:LeI s (H x0))
 (h:∀ x,Pre x→AWI P n c (ZBO (fun s2=>∃ y,Pre y∧μ y<μ x∧LeI s2 (H y)) Q) (H x)):AWI P n (.loop c) Q s:=by
 intro S a w hr
 let p:Act→World→Nat→Prop:=fun a w k=>∃ S x,μ x=k∧Pre x∧RelI S n (H x) a w
 refine wpIn_loop (fun a w=>∃ k,p a w k) (fun a w=>ZlE (p a w)) ⟨_,S,x0,rfl,h0,hs.rel hr⟩ ?_
 intro a w hI
 obtain⟨S,x,h1,h2,h3⟩:=(Zcr hI).1
 refine wpIn_mono (h x h2 S a w h3) ?_
 rintro e a' w' ⟨ho,S',s',h4,h5⟩
 cases e with
 | normal =>
   obtain⟨y,h6,h7,h8⟩:=h5
   have hp:p a' w' (μ y):=⟨S',y,rfl,h6,h8.rel h4⟩
   refine⟨⟨_,hp⟩,Nat.lt_of_le_of_lt ((Zcr ⟨_,hp⟩).2 _ hp) ?_⟩
   rw[← h1];exact h7
 | _=>exact⟨ho,S',s',h4,h5⟩
def envI(S:Nat→Nat→Prop)(w:World)(h:ZfN S w):@Env Ifl.it:=@Env.mk Ifl.it S w h (fun e=>by cases e)
theorem RelI.up{S:Nat→Nat→Prop}{a:Act}{w:World}(h:RelI S n s a w):@RelA Ifl.it (envI S w h.fr) ⟨noB,noM,w⟩ n noB ⟨s.t,noM,0,0⟩ a w:=by
 refine @RelA.mk Ifl.it _ _ _ _ _ _ _ ⟨Below.refl _ _,fun _ _ h=>(by cases h),fun _ _ h=>(by cases h),fun _ _ h=>(by cases h),fun _ _ h=>(by cases h),fun _ _ _ h=>(by cases h),fun _ _ _ _ _ h=>(by cases h)⟩ (fun k hk=>?_) h.width ?_ (Zbf.refl _ _ _) (ZaA.refl _ _) (fun _ _ h=>by cases h)
 ·exact(h.tmp k hk).mono (Zbf.refl _ _ _) fun b o u h1 h2=>⟨⟨h1,fun _ _ h=>by cases h⟩,h2⟩
 ·rw[h.defers];exact trivial
theorem RelI.down{S:Nat→Nat→Prop}{w0 w:World}{a0 a:Act}(h:RelI S n s a0 w0){β:Bet}{t:Nat→D}{nx:Nat}(hI:Stab s.I)
 (hr:@RelA Ifl.it (envI S w0 h.fr) ⟨noB,noM,w0⟩ n β ⟨t,noM,nx,0⟩ a w):RelI S n ⟨t,s.I⟩ a w:=by
 have hb:Below w0.heap.size w0 w:=(@RelA.mem Ifl.it _ _ _ _ _ _ _ hr).below
 refine⟨fun k hk=>?_,@RelA.width Ifl.it _ _ _ _ _ _ _ hr,@Zed.nil Ifl.it _ _ rfl _ (@RelA.defers Ifl.it _ _ _ _ _ _ _ hr),fun b o h1=>h.fr b o (Yc7 hb.size h1),hI _ _ _ h.inv hb⟩
 exact(@RelA.tmp Ifl.it _ _ _ _ _ _ _ hr k hk).mono ⟨fun _ _ h=>(by cases h),fun _ _ h=>h⟩ fun b o u h1 h2=>⟨h1.1,h2⟩
def endJ(I:Ifl)(J:(Nat→Nat→Prop)→World→Prop)(K:SI→Prop):Exit→St→Prop
 | .normal,s=>∃ t nx,@StLe I s ⟨t,noM,nx,0⟩∧K ⟨t,J⟩
 | _,_=>False
theorem ZdS(I:Ifl){J:(Nat→Nat→Prop)→World→Prop}{K:SI→Prop}{t:Nat→D}{nx:Nat}(h:K ⟨t,J⟩):endJ I J K .normal ⟨t,noM,nx,0⟩:=⟨t,nx,@StLe.refl I _,h⟩
theorem ZjO{c:Code}(hI:Stab s.I)(h:∀ (I:Ifl)(K:SI→Prop),(∀ s,Q .normal s→K s)→@AWP I P n c (endJ I s.I K) ⟨s.t,noM,0,0⟩):AWI P n c Q s:=by
 intro S a w hr
 refine wpIn_wide.2 (wp_mono (h Ifl.it _ (fun _ h=>h) _ _ _ a w hr.up) ?_)
 rintro e a' w' ⟨s',β',h1,h2⟩
 cases e with
 | normal =>
   obtain⟨t,nx,h2,h3⟩:=h2
   obtain⟨β2,h4⟩:=h2 _ _ _ _ _ _ h1
   exact⟨by simp,S,_,hr.down hI h4,h3⟩
 | _=>exact h2.elim
def JOp(P:Program)(n:Nat)(o:Oper)(s:SI)(K:SI→Prop):Prop :=
 ∀ S a w,RelI S n s a w→∀ (K':Act→World→Prop)(Q':Exit→Act→World→Prop),(∀ S' s' a' w',RelI S' n s' a' w'→K s'→K' a' w')→o.wpIn Fence.wide 0 P a w K' Q'
theorem jOp{o:Oper}{K:SI→Prop}(hI:Stab s.I)(hfit:Za9 n o=true)(h:∀ I:Ifl,@opA I P o ⟨s.t,noM,0,0⟩ fun s'=>∃ t nx,@StLe I s' ⟨t,noM,nx,0⟩∧K ⟨t,s.I⟩):JOp P n o s K:=by
 intro S a w hr K' Q' hK
 refine ZDQ (@Zet Ifl.it _ _ _ _ _ _ _ _ _ _ _ _ hfit hr.up (h Ifl.it) fun s' β' a' w' h1 ⟨t,nx,h2,h3⟩=>?_)
 obtain⟨β2,h4⟩:=h2 _ _ _ _ _ _ h1
 exact hK _ _ _ _ (hr.down hI h4) h3
def Zu9(P:Program)(f:FuncId)(ds:List D)(I I':(Nat→Nat→Prop)→World→Prop)(d:D):Prop:=ZfK P f ∧
 ∀ S W vs,ZfN S W→I S W→Reps noB noM S W vs ds→CallsIn Fence.wide 0 P f vs.toArray W fun e W'=>∃ v S',e = .returned v∧Rep noB noM S' W' v d∧I' S' W'∧ZfN S' W'∧ZaA S W S' W'
theorem putI{S S':Nat→Nat→Prop}{a:Act}{w w':World}(hr:RelI S n s a w){dst:Option Tmp}{v:Value}{d:D}{I':(Nat→Nat→Prop)→World→Prop}(hv:Rep noB noM S' w' v d)(hI:I' S' w')(hn:ZfN S' w')(hs:ZaA S w S' w') :
 RelI S' n ⟨Go.Proofs.YtjeaacindikplaaGreat.putT s.t dst d,I'⟩ (a.put dst v) w':=by
 refine⟨fun k hk=>?_,by cases dst<;>simp[Act.put,hr.width],by rw[Zhg];exact hr.defers,hn,hI⟩
 rw[eval_put (by rw[hr.width];exact hk)]
 cases dst with
 | none=>rw[if_neg (by simp)];exact(hr.tmp k hk).monoS (fun _=>rfl) hs
 | some j =>
   by_cases e:j=k
   ·subst e;rw[if_pos rfl];simp only[Go.Proofs.YtjeaacindikplaaGreat.putT,Zae];exact hv
   ·rw[if_neg (by simpa using e)]
    simp only[Go.Proofs.YtjeaacindikplaaGreat.putT,Zac _ _ (Ne.symm e)]
    exact(hr.tmp k hk).monoS (fun _=>rfl) hs
end
local instance iflIt2:Ifl:=Ifl.it
section
variable {P:Program} {n:Nat} {Q:Exit→SI→Prop} {s:SI}
theorem Zs2{c:Operand}{x y:Code}(hf:Zd8 n c=true)(hc:rd s.t c = .v (.bool true))(h:AWI P n x Q s):AWI P n (.cond c x y) Q s:=ZES hf hc (fun _=>h) (fun e=>by cases e)
theorem Zs3{c:Operand}{x y:Code}(hf:Zd8 n c=true)(hc:rd s.t c = .v (.bool false))(h:AWI P n y Q s):AWI P n (.cond c x y) Q s:=ZES hf hc (fun e=>by cases e) (fun _=>h)
theorem ZEQ{o:Oper}{f x:Operand}{ats:Array TypeId}{l:Nat}{K:SI→Prop}{I':(Nat→Nat→Prop)→World→Prop}
 (ho:o.op = .call {callee:=.value f,args:=#[x],argTypes:=ats}) (hfit:Zd8 n f=true) (hfx:Zd8 n x=true) (hf:rd s.t f = .v (.func (.yield l) #[] #[]))
 (hY:∀ S w v,ZfN S w→s.I S w→Rep noB noM S w v (rd s.t x)→YieldAt Fence.wide 0 P l #[v] w fun e w'=>e = .returned (.bool true)∧∃ S',I' S' w'∧ZfN S' w'∧ZaA S w S' w')
 (hK:K ⟨Go.Proofs.YtjeaacindikplaaGreat.putT s.t o.dst (.v (.bool true)),I'⟩):JOp P n o s K:=by
 intro S a w hr K' Q' hKK
 have hv:Rep noB noM S w (a.eval f) (rd s.t f):=ZiH fun k hk=>hr.tmp k (by rw[hk]at hfit;simpa[Zd8]using hfit)
 have hx:Rep noB noM S w (a.eval x) (rd s.t x):=ZiH fun k hk=>hr.tmp k (by rw[hk]at hfx;simpa[Zd8]using hfx)
 rw[hf]at hv
 have hv:=hv.inv_v
 obtain⟨fn,tmps,assign,body,h1,h2⟩:=hY S w (a.eval x) hr.fr hr.inv hx
 refine⟨fun _ _=>trivial,?_⟩
 rw[show Fence.wide.round=none from rfl,Oper.semAt_none]
 have he:(execOp a.eval o).run P w = .ok (.round l fn tmps assign body) w:=by
  unfold execOp
  rw[ho]
  simp[resolve,hv,Deferred.ofValue,invoke,h1]
 rw[he,Oper.uponIn_round]
 refine⟨fun e=>(by cases e),RoundIn.mono h2 ?_⟩
 rintro e w' ⟨rfl,S',g1,g2,g3⟩
 exact hKK _ _ _ _ (putI hr (.v _) g1 g2 g3) hK
theorem jCall{o:Oper}{f:FuncId}{ds:List D}{I':(Nat→Nat→Prop)→World→Prop}{d:D}{K:SI→Prop}(hfit:Za9 n o=true)(hc:Zg2 o.op s.t=some (f,ds))(h:Zu9 P f ds s.I I' d)(hK:K ⟨Go.Proofs.YtjeaacindikplaaGreat.putT s.t o.dst d,I'⟩):JOp P n o s K:=by
 intro S a w hr K' Q' hKK
 have hop:∀ x∈o.op.operands.toList,Rep noB noM S w (a.eval x) (rd s.t x):=fun x hx=>ZiH fun k hk=>hr.tmp k (by
  unfold Za9 at hfit
  rw[Ya2]at hfit
  have:=Array.all_eq_true_iff_forall_mem.1 hfit.2 x (by simpa using hx)
  rw[hk]at this
  simpa[Zd8]using this)
 obtain⟨vs,h1,h2⟩:=ZhA (P:=P) hc h.1 hop
 refine⟨fun _ _=>trivial,?_⟩
 rw[show Fence.wide.round=none from rfl,Oper.semAt_none,h2,Oper.uponIn_enter]
 refine⟨fun e=>(by cases e),CallsIn.mono (h.2 S w vs hr.fr hr.inv h1) ?_⟩
 rintro e w' ⟨v,S',rfl,g1,g2,g3,g4⟩
 exact hKK _ _ _ _ (putI hr g1 g2 g3 g4) hK
theorem jOpL{o:Oper}{K:SI→Prop}(hI:Stab s.I)(hfit:Za9 n o=true)(hg:o.guard=none)(h:∀ (I:Ifl)(KR:St→Prop),(∀ s',endJ I s.I K .normal s'→KR s')→@opsL I P [o.dst] [ZhF o] ⟨s.t,noM,0,0⟩ KR):JOp P n o s K:=by
 refine jOp hI hfit fun I=>?_
 have h4:=@ZdN I P #[o] _ [o] _ (h I _ fun _ h=>h)
 unfold opsA Zgi at h4
 rw[hg]at h4
 exact h4.1 rfl
theorem Zu9.inline {f : FuncId} {fn : Func} {c : Code} {ds : List D} {I I' : (Nat → Nat → Prop) → World → Prop} {d : D} (hf : P.funcs[f]? = some fn) (hb : fn.body = some c) (hnm : (fn.name == "runtime.NumGoroutine") = false)
 (hn:decide (ds.length≤fn.ntmps)=true) (Zr:fn.results.toList.all (Zkr fn.ntmps)=true)
 (h:∀ S0 W0,I S0 W0→AWI P fn.ntmps c (fun e s=>(e = .normal∨e = .ret)∧∃ ds',ZhH P ⟨s.t,noM,0,0⟩ fn.results.toList=some ds'∧oneD ds'=d∧∀ S w,s.I S w→I' S w∧ZaA S0 W0 S w) ⟨Zkq ds,fun S w=>I S w∧ZaA S0 W0 S w⟩):Zu9 P f ds I I' d:=by
 refine⟨⟨fn,c,hf,hb,hnm⟩,fun S W vs hfr hI hvs=>?_⟩
 have hn:=of_decide_eq_true hn
 have hvl:vs.length=ds.length:=hvs.1
 refine callsIn_of_wp_marks hf hb trivial (wpIn_mono (h S W hI S _ W ⟨fun k hk=>?_,?_,rfl,hfr,hI,ZaA.refl _ _⟩) ?_)
 ·simp only[Act.eval,Zkq]
  by_cases hkv:k<vs.length
  ·have e:(vs.toArray++Array.replicate (fn.ntmps-vs.toArray.size) undef).getD k undef=vs[k]:=by
    rw[Array.getD_eq_getD_getElem?,Array.getElem?_append_left (by simpa using hkv)]
    simp[hkv]
   rw[e,Ya0 (by omega),Option.getD_some]
   exact hvs.2 k _ _ (Ya0 hkv) (Ya0 (by omega))
  ·have e:(vs.toArray++Array.replicate (fn.ntmps-vs.toArray.size) undef).getD k undef=undef:=by
    rw[Array.getD_eq_getD_getElem?,Array.getElem?_append_right (by simp;omega)]
    rw[Array.getElem?_replicate]
    split<;>rfl
   rw[e,List.getElem?_eq_none (by omega),Option.getD_none]
   exact .v _
 ·simp;omega
 ·rintro e a' w' ⟨ho,S',s',h1,he,ds',h2,rfl,h3⟩
  have done:LeavesInM Fence.wide 0 P fn a'.tmps (fun e W'=>∃ v S',e = .returned v∧Rep noB noM S' W' v (oneD ds')∧I' S' W'∧ZfN S' W'∧ZaA S W S' W') a'.defers .returning w':=by
   rw[h1.defers]
   obtain⟨v,g3,g4⟩:=Zmx (P:=P) h1.up Zr h2
   obtain⟨i1,i2⟩:=h3 _ _ h1.inv
   exact⟨v,g3,v,S',rfl,g4.mono ⟨fun _ _ h=>(by cases h),fun _ _ h=>h⟩ fun b o u q1 q2=>⟨q1.1,q2⟩,i1,h1.fr,i2⟩
  rcases he with rfl|rfl
  ·exact done
  ·exact done
end
local instance iflIt3:Ifl:=Ifl.it
section
variable {P:Program} {n:Nat} {Q:Exit→SI→Prop} {s:SI}
theorem ZBd{P:Program}{o:Oper}{Q:Exit→Act→World→Prop}(h:∀ a w,¬ Q .outgrown a w):∀ a w,¬ Zra P o Q .outgrown a w:=fun a w hh=>h a w (ZgN hh (by intro e;cases e))
theorem ZER{id:Nat}{l:List Oper}{o1 o2:Oper}(hm:P.follows .mixedOrders=true)(hd:Zks l.toArray=true)(hd1:Zks (l++[o1]).toArray=true)(hd2:Zks ((l++[o1])++[o2]).toArray=true)(hf:l.toArray.all (Za9 n)=true)
 (hL1:ZuH (l++[o1]).toArray l o1=true) (hL2:ZuH ((l++[o1])++[o2]).toArray (l++[o1]) o2=true) (hI:Stab s.I)
 (h:@runD Ifl.it P l.toArray l ⟨s.t,noM,0,0⟩ [] fun tr s'=>ZgF l.toArray (tr.map fun e=>(e.touch,ids e.wr))=true∧@ZhV Ifl.it l.toArray noM tr ∧
   ∃ t nx,@StLe Ifl.it s' ⟨t,noM,nx,0⟩∧JOp P n o1 ⟨t,s.I⟩ fun s2=>JOp P n o2 s2 (Q .normal)):AWI P n (.region id ((l++[o1])++[o2]).toArray true) Q s:=by
 intro S a w hr0
 have hr:=hr0.up
 obtain⟨evs,st,g1,g2,g3,g4,g5,g6⟩:=Zlc l _ [] h
 simp only[Yc8]at g4 g5
 have hsz:l.toArray.size=l.length:=by simp
 have T:Text P n l.toArray evs st:=by
  refine⟨Zht hd,hf,by rw[hsz];exact g2,fun i o ev ho he=>g3 i o ev (by simpa using ho) he,?_,g4,?_⟩
  ·rw[g1]
   intro id hid
   rfl
  ·rw[g1];exact g5
 have hmix:mixM (st 0).m evs (Array.replicate l.toArray.size false).toList=noM:=by
  have:=T.memAt 0 (Yb0 _)
  rw[show(Array.replicate l.toArray.size false).toList=(List.range l.toArray.size).map fun j=>decide (j<0) by simp[List.map_const'],← this,g1]
 refine wpIn_region_any hm ?_
 have hdr:Below w.heap.size w {w with drawn:=w.drawn+1}:=(Below.refl _ _).drew
 obtain⟨q1,q2,q3⟩:=Zfs hr.mem hdr
 have hpush:∀ (l:List Oper)(o:Oper),(Array.replicate (l++[o]).toArray.size false)=(Array.replicate l.toArray.size false).push false:=fun l o=>by
  rw[show(l++[o]).toArray.size=l.toArray.size+1 by simp,Array.replicate_succ]
 have hnone:∀ (l:List Oper)(i:Nat)(p:Oper),(l.toArray)[i]? =some p→(Array.replicate l.toArray.size false)[i]? =some true→∀ e∈p.after,Region.binds .any e=true→(Array.replicate l.toArray.size false)[e.on]? =some true:=by
  intro l i o _ hl
  rw[Array.getElem?_replicate]at hl
  split at hl
  ·simp at hl
  ·cases hl
 rw[hpush,show((l++[o1])++[o2]).toArray.size=(l++[o1]).length+1 by simp]
 refine Zp7 (Zht hd1) (Zht hd2) hL2 (l++[o1]).length (Array.replicate (l++[o1]).toArray.size false) a _ (by simp) (hnone _) ?_
 rw[hpush,show(l++[o1]).length=l.length+1 by simp]
 refine Zp7 (Zht hd) (Zht hd1) hL1 l.length (Array.replicate l.toArray.size false) a _ (by simp) (hnone _) ?_
 rw[← hsz]
 refine Zku (fun⟨a,w,h⟩=>ZBd (ZBd fun a w h=>h.1 rfl) a w h) _ _ _ _ ?_
 refine Ztr (B:=⟨noB,noM,w⟩) (E:=envI S w hr0.fr) T (fun β' a' w' h1=>?_) _ _ noB a _ ⟨by simp,?_,?_,?_,?_,?_,?_,hr.width,hr.defers.le q2,by rw[g1];exact hr.lo⟩ ?_
 ·rw[hsz]at h1
  obtain⟨t,nx,h2,h3⟩:=g6
  obtain⟨β2,h4⟩:=h2 _ _ _ _ _ _ h1
  refine .inl ⟨rfl,h3 S a' w' (hr0.down hI h4) _ _ fun S2 s2 a2 w2 h5 h6=>?_⟩
  refine .inl ⟨rfl,h6 S2 a2 w2 h5 _ _ fun S3 s3 a3 w3 h7 h8=>?_⟩
  exact⟨by simp,S3,s3,h7,h8⟩
 ·exact hnone _
 ·rw[hmix];exact q1.mono_nx (Yb0 _)
 ·rw[hmix];exact hr.le.trans q2
 ·rw[hmix];exact hr.sle.trans q3
 ·intro i o ev t _ hl
  rw[Array.getElem?_replicate]at hl
  split at hl
  ·simp at hl
  ·cases hl
 ·intro t ht _
  rw[hmix,g1]
  exact(hr.tmp t ht).mono q2 q3
 ·simp[List.countP_replicate]
theorem ZBm{id k:Nat}{L:List Oper}{o1 o2:Oper}(hk:L.length=k+2)(ho1:L[k]? =some o1)(ho2:L[k+1]? =some o2)(ds:List (Option Tmp))(hds:(L.take k).map (·.dst)=ds)(hm:P.follows .mixedOrders=true)
 (hd:Zks (L.take k).toArray=true) (hd1:Zks (L.take (k+1)).toArray=true) (hd2:Zks L.toArray=true) (hf:(L.take k).toArray.all (Za9 n)=true)
 (hL1:ZuH (L.take (k+1)).toArray (L.take k) o1=true) (hL2:ZuH L.toArray (L.take (k+1)) o2=true) (hI:Stab s.I)
 (h:∀ (I:Ifl)(KE:List Ev→St→Prop),(∀ tr s' t nx,ZgF (L.take k).toArray (tr.map fun e=>(e.touch,ids e.wr))=true→@ZhV I (L.take k).toArray noM tr→@StLe I s' ⟨t,noM,nx,0⟩→(JOp P n o1 ⟨t,s.I⟩ fun s2=>JOp P n o2 s2 (Q .normal))→KE tr s') →
   @runL I P ds ((L.take k).map ZhF) ⟨s.t,noM,0,0⟩ [] KE):AWI P n (.region id L.toArray true) Q s:=by
 have e2:=ZvK (k:=k+1) hk ho2
 have e1:L.take k++[o1]=L.take (k+1):=by
  have:=ZvK (L:=L.take (k+1)) (k:=k) (by rw[Yc1];omega) (o:=o1) (by rw[List.getElem?_take];simp[ho1])
  rwa [List.take_take,Nat.min_eq_left (Nat.le_succ k)]at this
 rw[← e1]at e2 hd1 hL1 hL2
 generalize L.take k=A at *
 subst e2
 refine ZER hm hd hd1 hd2 hf hL1 hL2 hI ?_
 subst hds
 exact Zem (ops:=A.toArray) A _ [] (h _ _ fun tr s' t nx h1 h2 h3 h4=>⟨h1,h2,t,nx,h3,h4⟩)
end
end Go.Proofs.YtjeaacindikplaaGreat
