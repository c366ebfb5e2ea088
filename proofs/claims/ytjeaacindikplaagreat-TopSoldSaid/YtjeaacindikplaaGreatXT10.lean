/-
  explain.sets: the iterator's rounds.
-/
import Derived.Test.YtjeaacindikplaaGreatXLib
import Derived.Test.YtjeaacindikplaaGreatXT09
import Derived.Test.YtjeaacindikplaaGreatXT01
import Derived.Test.YtjeaacindikplaaGreatXT03
import Derived.Test.YtjeaacindikplaaGreatXT07
import Derived.Test.YtjeaacindikplaaGreatXT08
import Derived.Test.YtjeaacindikplaaGreatXT00
namespace Go.Proofs.YtjeaacindikplaaGreat
set_option linter.unusedVariables false
set_option linter.unusedSimpArgs false
set_option linter.unusedSectionVars false
open Go Go.RowKit
theorem ZDV:tyOf Tryz.prog 172=some ⟨0,1,8,some [.v .nilFunc],0,none,[]⟩:=by kernel_rfl
theorem ZDU:tyOf Tryz.prog 223=some ⟨0,1,8,some [.v .nilFunc],0,none,[]⟩:=by kernel_rfl
attribute [local go_sem] ZDV ZDU ZBO Zn3
def outs:List Int→Nat→List Int→List (List Int)
 | _,0,p=>[p]
 | [],_+1,_=>[]
 | x ::t,r+1,p=>outs t r (p++[x])++outs t (r+1) p
theorem Zlt(t:List Int)(p:List Int):outs t 0 p=[p]:=by cases t<;>rfl
theorem Zwy{l:List Int}{i:Nat}{x:Int}(h:l[i]? =some x)(p:List Int)(r:Nat):outs (l.drop i) (r+1) p=outs (l.drop (i+1)) r (p++[x])++outs (l.drop (i+1)) (r+1) p:=by
 obtain⟨hi,rfl⟩:=Ya3.1 h
 rw[Yd7 hi]
 rfl
theorem Zzz(l:List Int)(p:List Int)(r:Nat):outs (l.drop l.length) (r+1) p=[]:=by rw[List.drop_length];rfl
def Zd9(n:Nat):D:=.ep [[dI n]] 0 0
def ZfI(yl:Nat):D:=.ep [[.v (.func (.yield yl) #[] #[])]] 0 0
def Zea(l:List Int):D:=.ep [[Zab l]] 0 0
def dd(yl:Nat)(l:List Int)(n:Nat):Nat→D
 | 0=>.junk
 | k+1=>.ep [[.clo 156 [Zd9 n,ZfI yl,Zea l,dd yl l n k]]] 0 0
theorem ZFn{yl n:Nat}{l:List Int}{xs:List (List Int)}{J:(Nat→Nat→Prop)→List (List Int)→World→Prop}(hJ:∀ S L A B,J S L A→Below A.heap.size A B→J S L B)(hl:l.length≤64)(hn64:n≤64)
 (hY:∀ S L x t v W,L++x ::t=xs→J S L W→ZfN S W→Rep noB noM S W v (Zab x)→YieldAt Fence.wide 0 Tryz.prog yl #[v] W fun e W'=>e = .returned (.bool true)∧∃ S',J S' (L++[x]) W'∧ZfN S' W'∧ZaA S W S' W') :
 ∀ (r k i:Nat)(p:List Int) (L T:List (List Int)),r≤k→p.length+r=n→i≤l.length→L++outs (l.drop i) r p++T=xs →
  Zu9 Tryz.prog 156 [dI i,Zab p,Zd9 n,ZfI yl,Zea l,dd yl l n k] (fun S=>J S L) (fun S=>J S (L++outs (l.drop i) r p)) (dB true):=by
 have hst:∀ L S0 W0,Stab fun S w=>J S L w∧ZaA S0 W0 S w:=fun L S0 W0 S A B h hb=>⟨hJ S L A B h.1 hb,h.2.trans fun b o u h1 h2=>⟨h1,(hb.cell (p:=⟨b,o,none⟩) (Zf1 h2)).trans h2⟩⟩
 have Zr:=Tryz.results156
 intro r
 induction r with
 | zero =>
   intro k i p L T hk hn hi hpre
   have hp:p.length≤64:=by omega
   rw[Zlt]at hpre ⊢
   have e1:((p.length:Nat):Int)=n:=by omega
   refine Zu9.inline Tryz.func156 rfl (by kernel_rfl) (by kernel_rfl) (by kernel_rfl) fun S0 W0 hI=>?_
   rw[Tryz.ntmps156]
   repeat(first
    | (refine hK _ ?_;clear hK;clear K)
    | (refine jSeq fun K hK=>?_)
    | (refine ZpD ?_)
    | (refine Zxk ?_)
    | (refine Zz6 ?_)
    | (refine jRet ?_)
    | (refine ZjO (hst _ _ _) fun I KR hR=>?_;refine aOps _ rfl (by kernel_rfl) ?_;simp only[go_sem,↓reduceIte,Zd9,ZfI,Zea];refine ZdS _ ?_;refine hR _ ?_;clear hR;clear KR)
    | (refine Zs2 rfl ?hc ?_;case hc=>simp only[go_sem,↓reduceIte,e1]))
   refine ZBm (k:=3) rfl rfl rfl _ rfl ZdX (by kernel_rfl) (by kernel_rfl) (by kernel_rfl) (by kernel_rfl) (by kernel_rfl) (by kernel_rfl) (hst _ _ _) fun I KE hE=>?_
   have kc:=ZDr p hp
   repeat(first
    | (simp only[go_sem,↓reduceIte])
    | ((with_reducible apply ZbR);(first|with_reducible assumption|assumption);rfl))
   refine hE _ _ _ _ (by kernel_rfl) (ZaC rfl) (StLe.refl _) ?_
   refine ZEQ (l:=yl) (I':=fun S w=>J S (L++[p]) w∧ZaA S0 W0 S w) rfl rfl rfl rfl ?_ ?_
   ·intro S w v hw hI hv
    obtain⟨fn,tmps,assign,body,h1,h2⟩:=hY S L p T v w (by simpa using hpre) hI.1 hw hv
    refine⟨fn,tmps,assign,body,h1,RoundIn.mono h2 ?_⟩
    rintro e w' ⟨rfl,S',g1,g2,g3⟩
    exact⟨rfl,S',⟨g1,hI.2.trans g3⟩,g2,g3⟩
   refine jOpL (hst _ _ _) (by kernel_rfl) rfl fun I KR hR=>?_
   simp only[go_sem,↓reduceIte]
   refine hR _ (ZdS _ ?_)
   clear hE;clear KE;clear hR;clear KR
   refine hK _ ?_;clear hK;clear K
   refine jRet ?_
   refine⟨.inr rfl,[dB true],?_,rfl,fun S w h=>h⟩
   simp only[go_sem,↓reduceIte,Zr]
 | succ r ih =>
   intro k i p L T hk hn hi hpre
   have hp:p.length≤64:=by omega
   obtain⟨k,rfl⟩:∃ k',k=k'+1:=⟨k-1,by omega⟩
   have e1:(((p.length:Nat):Int)==(n:Int))=false:=by simp;omega
   have kp:=ZFq p hp
   refine Zu9.inline Tryz.func156 rfl (by kernel_rfl) (by kernel_rfl) (by kernel_rfl) fun S0 W0 hI=>?_
   rw[Tryz.ntmps156]
   repeat(first
    | (refine hK _ ?_;clear hK;clear K)
    | (refine jSeq fun K hK=>?_)
    | (refine ZpD ?_)
    | (refine Zxk ?_)
    | (refine Zz6 ?_)
    | (refine jRet ?_)
    | (refine ZjO (hst _ _ _) fun I KR hR=>?_;refine aOps _ rfl (by kernel_rfl) ?_;simp only[go_sem,↓reduceIte,Zd9,ZfI,Zea];refine ZdS _ ?_;refine hR _ ?_;clear hR;clear KR)
    | (refine Zs2 rfl ?hc ?_;case hc=>simp only[go_sem,↓reduceIte,e1])
    | (refine Zs3 rfl ?hc ?_;case hc=>simp only[go_sem,↓reduceIte,e1]))
   refine jLoop (fun(x:Nat×List (List Int))=>⟨tabT [(1,Zab p),(2,Zd9 n),(3,ZfI yl),(4,Zea l),(5,dd yl l n (k+1)),(9,dI x.1)],fun S w=>J S (L++x.2) w∧ZaA S0 W0 S w⟩) (fun x=>i≤x.1∧x.1≤l.length∧x.2++outs (l.drop x.1) (r+1) p=outs (l.drop i) (r+1) p) (fun x=>l.length-x.1) (i,[]) ⟨Ya4 _,hi,rfl⟩ (Zxg _ (fun S w h=>by simpa using h) (by simp[go_sem,Zd9,ZfI,Zea,dI])) ?_
   rintro⟨j,E⟩ ⟨hj1,hj2,hE0⟩
   simp only at hj1 hj2 hE0
   by_cases h1:(j:Int)<l.length
   rotate_left
   ·obtain rfl:j=l.length:=by omega
    rw[Zzz,List.append_nil]at hE0
    subst hE0
    repeat(first
     | (refine hK _ ?_;clear hK;clear K)
     | (refine jSeq fun K hK=>?_)
     | (refine ZpD ?_)
     | (refine Zxk ?_)
     | (refine Zz6 ?_)
     | (refine jRet ?_)
     | (refine ZjO (hst _ _ _) fun I KR hR=>?_;refine aOps _ rfl (by kernel_rfl) ?_;simp only[go_sem,↓reduceIte,Zd9,ZfI,Zea];refine ZdS _ ?_;refine hR _ ?_;clear hR;clear KR)
     | (refine Zs2 rfl ?hc ?_;case hc=>simp only[go_sem,↓reduceIte,h1])
     | (refine Zs3 rfl ?hc ?_;case hc=>simp only[go_sem,↓reduceIte,h1]))
    simp only[go_sem,↓reduceIte]
    repeat(first
     | (refine hK _ ?_;clear hK;clear K)
     | (refine jSeq fun K hK=>?_)
     | (refine jRet ?_)
     | (refine ZjO (hst _ _ _) fun I KR hR=>?_;refine aOps _ rfl (by kernel_rfl) ?_;simp only[go_sem,↓reduceIte,Zd9,ZfI,Zea];refine ZdS _ ?_;refine hR _ ?_;clear hR;clear KR)
     | (clear hK;clear K))
    refine⟨.inr rfl,[dB true],?_,rfl,fun S w h=>h⟩
    simp only[go_sem,↓reduceIte,Zr]
   repeat(first
    | (refine hK _ ?_;clear hK;clear K)
    | (refine jSeq fun K hK=>?_)
    | (refine ZpD ?_)
    | (refine Zxk ?_)
    | (refine Zz6 ?_)
    | (refine jRet ?_)
    | (refine ZjO (hst _ _ _) fun I KR hR=>?_;refine aOps _ rfl (by kernel_rfl) ?_;simp only[go_sem,↓reduceIte,Zd9,ZfI,Zea];refine ZdS _ ?_;refine hR _ ?_;clear hR;clear KR)
    | (refine Zs2 rfl ?hc ?_;case hc=>simp only[go_sem,↓reduceIte,h1])
    | (refine Zs3 rfl ?hc ?_;case hc=>simp only[go_sem,↓reduceIte,h1]))
   obtain⟨x,hx⟩:=getE (l:=l) (k:=j) (by omega)
   have hstep:=Zwy hx p r
   have hx2:(l.map fun x=>[dI x])[j]? =some [dI x]:=by rw[Yb8,hx];rfl
   obtain⟨hw,hj0⟩:=ZaO j
   refine ZBm (k:=11) rfl rfl rfl _ rfl ZdX (by kernel_rfl) (by kernel_rfl) (by kernel_rfl) (by kernel_rfl) (by kernel_rfl) (by kernel_rfl) (hst _ _ _) fun I KE hE=>?_
   repeat(first
    | (simp only[go_sem,↓reduceIte,dd,hw,hx,h1,hj0])
    | ((with_reducible apply ZbR);(first|with_reducible assumption|assumption);rfl))
   refine⟨⟨by omega,by omega⟩,?_⟩
   have e2:(p.map fun x=>[dI x])++[[D.v (Value.int IntKind.i64 x)]]=(p++[x]).map fun x=>[dI x]:=by simp
   simp only[e2]
   refine hE _ _ (tabT [(1,Zab p),(2,Zd9 n),(3,ZfI yl),(4,Zea l),(5,dd yl l n (k+1)),(9,dI j),(25,.clo 156 [Zd9 n,ZfI yl,Zea l,dd yl l n k]),(27,dI ((j+1:Nat):Int)),(35,Zab (p++[x]))]) 0 (by kernel_rfl) (ZaC rfl) ?hle ?_
   case hle =>
    refine StLe.trans (Zdz 1 rfl) (StLe.trans (ZlF 35 4) ?_)
    show StLe _ ⟨tabT _,tabM [],0,0⟩
    refine Zak _ _ _ ?_ ?_ ?_ ?_ ?_ (.inl rfl)
    ·simp[go_sem,dd,Zd9,ZfI,Zea,Function.comp_def]
    all_goals simp[okD,okDs,dd,Zd9,ZfI,Zea]
    cases k<;>rfl
   have hc:=ih k (j+1) (p++[x]) (L++E) (outs (l.drop (j+1)) (r+1) p++T) (by omega) (by simp;omega) (by omega) (by rw[← hpre,← hE0,hstep];simp)
   refine jCall (f:=156) (ds:=[dI ((j+1:Nat):Int),Zab (p++[x]),Zd9 n,ZfI yl,Zea l,dd yl l n k]) (d:=dB true) (I':=fun S w=>J S (L++(E++outs (l.drop (j+1)) r (p++[x]))) w∧ZaA S0 W0 S w) (by kernel_rfl) (by simp only[go_sem,↓reduceIte]) ⟨hc.1,fun S W vs q1 q2 q3=>CallsIn.mono (hc.2 S W vs q1 q2.1 q3) ?_⟩ ?_
   ·rintro e w' ⟨v,S',rfl,g1,g2,g3,g4⟩
    exact⟨v,S',rfl,g1,⟨by rw[← Yd3];exact g2,q2.2.trans g4⟩,g3,g4⟩
   refine jOpL (hst _ _ _) (by kernel_rfl) rfl fun I KR hR=>?_
   simp only[go_sem,↓reduceIte]
   refine hR _ (ZdS _ ?_)
   clear hR;clear KR;clear hE;clear KE
   repeat(first
    | (refine hK _ ?_;clear hK;clear K)
    | (refine jSeq fun K hK=>?_)
    | (refine ZpD ?_)
    | (refine Zxk ?_)
    | (refine ZjO (hst _ _ _) fun I KR hR=>?_;refine aOps _ rfl (by kernel_rfl) ?_;simp only[go_sem,↓reduceIte,hw];refine ZdS _ ?_;refine hR _ ?_;clear hR;clear KR)
    | (refine Zs3 rfl ?hc ?_;case hc=>simp only[go_sem,↓reduceIte,h1]))
   refine⟨(j+1,E++outs (l.drop (j+1)) r (p++[x])),⟨by show i≤j+1;omega,by show j+1≤l.length;omega,?_⟩,by show l.length-(j+1)<l.length-j;omega,Zxg _ (fun S w h=>h) ?_⟩
   ·rw[← hE0,hstep];simp
   ·simp[ZaF,dI]
set_option maxRecDepth 20000 in
theorem ZEj(l:List Int)(n:Nat):Zaa Tryz.prog 100 [Zab l,dI n] (.clo 155 [Zd9 n,Zea l]):=by
 have Zr:=Tryz.results100
 refine inN Tryz.func100 rfl Tryz.ntmps100 fun I=>?_
 refine aGo Zr ?_
 repeat with_reducible intro K hK
 rfl
theorem ZBA{S:Nat→Nat→Prop}{W:World}{b yl n:Nat}{l:List Int}{x y z:Value}(hS:S b 0)(hc:W.cell? ⟨b,0,none⟩=some (.func (.func 156) #[] #[x,y,z,.pointer (some ⟨b,0,none⟩)]))
 (hx:Rep noB noM S W x (Zd9 n)) (hy:Rep noB noM S W y (ZfI yl)) (hz:Rep noB noM S W z (Zea l)):∀ k,Rep noB noM S W (.pointer (some ⟨b,0,none⟩)) (dd yl l n k)
 | 0=>.junk _
 | k+1=>by
   have ih:=ZBA hS hc hx hy hz k
   have hr:Reps noB noM S W [x,y,z,.pointer (some ⟨b,0,none⟩)] [Zd9 n,ZfI yl,Zea l,dd yl l n k]:=Reps.cons hx (Reps.cons hy (Reps.cons hz (Reps.cons ih Reps.nil)))
   have hclo:Rep noB noM S W (.func (.func 156) #[] #[x,y,z,.pointer (some ⟨b,0,none⟩)]) (.clo 156 [Zd9 n,ZfI yl,Zea l,dd yl l n k]):=.clo _ _ _ hr.1 hr.2
   have hrow:ZrG S W b 0 1 [[.clo 156 [Zd9 n,ZfI yl,Zea l,dd yl l n k]]]:=by
    refine⟨fun i e he=>?_,fun i j d hd=>?_⟩
    ·cases i with
     | zero=>simp at he;subst he;rfl
     | succ i=>simp at he
    ·obtain⟨e,he,hj⟩:=Zal.1 hd
     cases i with
     | zero =>
       simp at he
       subst he
       cases j with
       | zero=>simp at hj;subst hj;exact⟨_,hS,hc,hclo⟩
       | succ j=>simp at hj
     | succ i=>simp at he
   have:=ZmB (β:=noB) (m:=noM) hrow 0 0
   simpa[dd]using this
set_option maxRecDepth 20000
theorem ZvV(l:List Int)(n:Nat)(hl:l.length≤64)(hn:n≤64):ZBK Tryz.prog 155 [Zd9 n,Zea l] Zab (outs l n []):=by
 refine⟨⟨_,_,Tryz.func155,rfl,by kernel_rfl⟩,fun yl S W vs J hfr hvs hJ hY h0=>?_⟩
 obtain⟨x,z,rfl⟩:∃ x z,vs=[x,z]:=by
  match vs,hvs.1 with
  | [x,z],_=>exact⟨x,z,rfl⟩
 have hx:Rep noB noM S W x (Zd9 n):=hvs.2 0 _ _ rfl rfl
 have hz:Rep noB noM S W z (Zea l):=hvs.2 1 _ _ rfl rfl
 refine callsIn_wide.2 ?_
 go_enter Tryz.func155,Tryz.ntmps155
 go_wp2_with fail
 obtain⟨W1,e1⟩:∃ W1,W.alloc (.cells #[Value.func (Fn.yield yl) #[] #[]] 172)=W1:=⟨_,rfl⟩
 obtain⟨W2,e2⟩:∃ W2,W1.alloc (.cells #[Value.nilFunc] 223)=W2:=⟨_,rfl⟩
 have s1:W1.heap.size=W.heap.size+1:=by rw[← e1];simp
 have h1:W2.heap[W.heap.size+1]? =some (.cells #[Value.nilFunc] 223):=by rw[← e2,← s1];exact World.alloc_heap_new _ _
 have h2:W2.heap[W.heap.size]? =some (.cells #[Value.func (Fn.yield yl) #[] #[]] 172):=by
  rw[← e2,Below.heap_alloc _ _ _ (by omega),← e1];exact World.alloc_heap_new _ _
 have hf:W2.frozen? ⟨W.heap.size+1,0,none⟩=false:=by simp[World.frozen?,h1]
 rw[e1,e2,run_store _ _ _ _ _ rfl,Zb0 h1]
 simp only[List.getElem?_toArray,List.getElem?_cons_zero,hf]
 obtain⟨vd,ed⟩:∃ vd,Value.func (Fn.func 156) #[] #[x,Value.pointer (some ⟨W.heap.size,0,none⟩),z,Value.pointer (some ⟨W.heap.size+1,0,none⟩)]=vd:=⟨_,rfl⟩
 obtain⟨W3,e3⟩:∃ W3,W2.setCell ⟨W.heap.size+1,0,none⟩ vd=W3:=⟨_,rfl⟩
 have c3:W3.cell? ⟨W.heap.size+1,0,none⟩=some vd:=by
  rw[← e3];exact World.cell?_setCell_same W2 _ _ (by rw[Zb0 h1];rfl)
 have c4:W3.cell? ⟨W.heap.size,0,none⟩=some (Value.func (Fn.yield yl) #[] #[]):=by
  rw[← e3,World.cell?_setCell_other,Zb0 h2];rfl
  intro e;simp only[Addr.mk.injEq]at e;omega
 have hb3:Below W.heap.size W W3:=by
  rw[← e3,← e2,← e1];exact(((Below.refl _ W).alloc (Ya4 _) _).alloc (by simp) _).setCell (Nat.le_succ _) _
 have s3:W3.heap.size=W.heap.size+2:=by rw[← e3,← e2];simp[World.setCell,s1]
 rw[ed,e3]
 simp only[Bool.false_eq_true,if_false,Result.andThen_ok,Oper.upon_skip]
 have sS:∀ b o,W.heap.size≤b→S b o:=hfr
 have hm3:ZaA S W S W3:=fun b o u q1 q2=>⟨q1,(hb3.cell (p:=⟨b,o,none⟩) (Zf1 q2)).trans q2⟩
 have hx3:Rep noB noM S W3 x (Zd9 n):=hx.monoS (fun _=>rfl) hm3
 have hz3:Rep noB noM S W3 z (Zea l):=hz.monoS (fun _=>rfl) hm3
 have hy3:Rep noB noM S W3 (.pointer (some ⟨W.heap.size,0,none⟩)) (ZfI yl):=by
  have hrow:ZrG S W3 W.heap.size 0 1 [[.v (.func (.yield yl) #[] #[])]]:=by
   refine⟨fun i e he=>?_,fun i j d hd=>?_⟩
   ·cases i with
    | zero=>simp at he;subst he;rfl
    | succ i=>simp at he
   ·obtain⟨e,he,hj⟩:=Zal.1 hd
    cases i with
    | zero =>
      simp at he
      subst he
      cases j with
      | zero=>simp at hj;subst hj;exact⟨_,hfr _ _ (Ya4 _),c4,.v _⟩
      | succ j=>simp at hj
    | succ i=>simp at he
  have:=ZmB (β:=noB) (m:=noM) hrow 0 0
  simpa[ZfI]using this
 have hd3:=ZBA (k:=n) (hfr _ _ (Nat.le_succ _)) (by rw[c3,← ed]) hx3 hy3 hz3
 have hdn:=ZFn (yl:=yl) (n:=n) (l:=l) (xs:=outs l n []) (J:=J) hJ hl hn hY n n 0 [] [] [] (Ya4 _) (by simp) (Yb0 _) (by simp)
 have hcall:=hdn.2 S W3 [goInt 0,.slice none 0 0,x,.pointer (some ⟨W.heap.size,0,none⟩),z,.pointer (some ⟨W.heap.size+1,0,none⟩)] (fun b o hb=>hfr b o (Yc7 hb3.size hb)) (hJ _ _ _ _ h0 hb3) (Reps.cons (.v _) (Reps.cons (.sl0 _ _ (Yb0 _)) (Reps.cons hx3 (Reps.cons hy3 (Reps.cons hz3 (Reps.cons hd3 Reps.nil))))))
 subst ed
 go_wp2_with fail
 refine(callsIn_wide.1 hcall).mono ?_
 rintro e w' ⟨v,S',rfl,g1,g2,g3,g4⟩
 go_wp2_with fail
 exact bodyPost_end (results_none Tryz.results155 _ _ _) rfl ⟨⟨_,rfl⟩,S',by simpa using g2⟩
set_option maxRecDepth 100000
set_option maxHeartbeats 8000000
abbrev Zom(l:List (List Int)):D:=.sl (l.map fun x=>[Zab x])
def fewG(ex:List Int→Bool)(l:List Int):Nat→Nat→List (List Int)
 | 0,_=>[]
 | k+1,n=>if ((outs l n []).filter ex).isEmpty then fewG ex l k (n+1)else(outs l n []).filter ex
theorem Znw:∀ (t:List Int)(r:Nat)(p:List Int),∀ x∈outs t r p,x.length=p.length+r
 | t,0,p,x,h=>by rw[Zlt]at h;rw[List.mem_singleton.1 h];rfl
 | [],r+1,p,x,h=>by cases h
 | y ::t,r+1,p,x,h=>by
   rcases Yd5.1 h with h|h
   ·have:=Znw t r _ x h;simp at this;omega
   ·exact Znw t (r+1) p x h
theorem Znv:∀ (t:List Int)(r:Nat)(p:List Int),(outs t r p).length≤2^t.length
 | t,0,p=>by rw[Zlt];exact Nat.one_le_two_pow
 | [],r+1,p=>Yb0 _
 | y ::t,r+1,p=>by
   have h1:=Znv t r (p++[y])
   have h2:=Znv t (r+1) p
   simp only[outs,Yb9,List.length_cons,Nat.pow_succ];omega
theorem ZmI{l:List Int}{n:Nat}(h:l.length≤8):(outs l n []).length≤256:=Yc7 (Znv l n []) (Nat.pow_le_pow_right (by decide) h)
theorem ZAq(ex:List Int→Bool)(L:List (List Int))(x:List Int):(L++[x]).filter ex=if ex x then L.filter ex++[x]else L.filter ex:=by
 rw[List.filter_append]
 cases h:ex x<;>simp[h]
theorem lo7:∀ id,id<6→([0,1,2,3,4,5]:List Nat).contains id=true:=by
 intro id h
 have:id=0∨id=1∨id=2∨id=3∨id=4∨id=5:=by omega
 rcases this with rfl|rfl|rfl|rfl|rfl|rfl<;>rfl
theorem ZAz(t:TrD)(kind e:Int)(l:List Int)(he:e≠0)(k1:Zah Tryz.prog 99 [ZcL t,dI kind] (.tup [Zab l,dI e])) :
 Zah Tryz.prog 51 [ZcL t,dI kind,dB true] (.tup [Zom [],dI e]):=by
 have Zr:=Tryz.results51
 have h1:(e !=0)=true:=by simpa using he
 refine inC Tryz.func51 rfl Tryz.ntmps51 ?_
 refine aGo (cj2 Zr h1) ?_
 repeat with_reducible intro K hK
 rfl
theorem ZDo(t:TrD)(kind n0:Int)(l:List Int)(rs:List (List D))(ex:List Int→Bool)(hl:l.length≤8)
 (k1:Zah Tryz.prog 99 [ZcL t,dI kind] (.tup [Zab l,dI 0])) (k2:Zah Tryz.prog 40 [ZcL t,dI kind] (.tup [.agg [dI n0,.sl rs],dI 0]))
 (k3:∀ x:List Int,x.length≤8→Zah Tryz.prog 45 [ZcL t,.agg [dI n0,.sl rs],Zab x] (dB (ex x))) :
 Zah Tryz.prog 51 [ZcL t,dI kind,dB true] (.tup [Zom (fewG ex l (l.length+1) 0),dI 0]):=by
 have Zr:=Tryz.results51
 refine inC Tryz.func51 rfl Tryz.ntmps51 ?_
 refine aGo Zr ?_
 repeat with_reducible intro K hK
 refine aLe (ZdH 2 0 0 43 1 rfl rfl rfl) ?_
 simp only[go_sem]
 refine Zas (fun(x:Nat×List (List Int))=>[(1,dI kind),(2,dB true),(3,.lp 0 0 0 0),(8,Zab l),(9,dI 0),(10,.lp 1 0 0 0),(11,.lp 2 0 0 0),(12,dI x.1)])
  (fun x=>[(0,⟨32,0,10,[cTr t],0,false⟩),(1,⟨99,0,2,[[dI n0,.sl rs]],0,false⟩),(2,⟨54,0,1,[[.ls 3 x.1]],0,false⟩),(3,⟨43,x.1,1,x.2.map fun s=>[Zab s],0,false⟩)]) 4 0
  (fun x=>x.1≤l.length+1∧fewG ex l (l.length+1) 0=if x.2.isEmpty then fewG ex l (l.length+1-x.1) x.1 else x.2) (fun x=>l.length+2-x.1) (0,[]) ⟨by omega,rfl⟩ ?_ ?_
 ·exact leGo trivial
 rintro⟨n,out⟩ ⟨hn,hout⟩
 simp only at hn hout
 have hw:=ZtM n
 by_cases h1:(n:Int)≤l.length
 rotate_left
 ·have e0:fewG ex l (l.length+1) 0=out:=by
   rw[hout]
   split
   ·rename_i h
    rw[show l.length+1-n=0 by omega,List.isEmpty_iff.1 h];rfl
   ·rfl
  refine aGo (cj2 Zr h1) ?_
  repeat with_reducible intro K hK
  rw[Zao (fun _=>rfl),e0]
 cases hz:((out.length:Int)==0)
 ·have e0:fewG ex l (l.length+1) 0=out:=by
   rw[hout,if_neg]
   intro h
   rw[List.isEmpty_iff.1 h]at hz;cases hz
  refine aGo (cj3 Zr h1 hz) ?_
  repeat with_reducible intro K hK
  rw[Zao (fun _=>rfl),e0]
 obtain rfl:out=[]:=List.length_eq_zero_iff.1 (by simpa using hz)
 clear hz
 have ks:=ZEj l n
 refine aGo (cj2 Zr h1) ?_
 repeat with_reducible intro K hK
 refine aLe (ZdH 4 0 0 43 1 rfl rfl rfl) ?_
 simp only[go_sem]
 refine Zu6 Zab (outs l n []) [(1,dI kind),(2,dB true),(3,.lp 0 0 0 0),(8,Zab l),(9,dI 0),(10,.lp 1 0 0 0),(11,.lp 2 0 0 0),(12,dI n),(13,.lp 4 0 0 0),(47,.clo 155 [Zd9 n,Zea l])]
  (fun L=>[(0,⟨32,0,10,[cTr t],0,false⟩),(1,⟨99,0,2,[[dI n0,.sl rs]],0,false⟩),(2,⟨54,0,1,[[.ls 3 n]],0,false⟩),(3,⟨43,n,1,[],0,false⟩),
    (4,⟨54,0,1,[[.ls 5 (L.filter ex).length]],0,false⟩),(5,⟨43,(L.filter ex).length,1,(L.filter ex).map fun s=>[Zab s],0,false⟩)]) 6 0 ?hle rfl rfl rfl (ZvV l n (by omega) (by omega)) (by decide) rfl ?hround ?hend
 case hle =>
  clear hK Zr
  refine Zak _ _ _ ?_ ?_ ?_ ?_ ?_ (.inl rfl)<;>simp[go_sem,okD,okDs,Zav,Zd9,Zea]
 case hround =>
  intro L x T hL
  have hx8:x.length≤8:=by
   have:=Znw l n [] x (by rw[← hL];simp)
   simp at this;omega
  have kx:=k3 x hx8
  have hLn:(L.filter ex).length≤256:=by
   have h1:=Yb1 ex L
   have h2:=ZmI (l:=l) (n:=n) hl
   have h3:L.length≤(outs l n []).length:=by rw[← hL,Yb9];omega
   omega
  have eF:=ZAq ex L x
  clear k1 k2 k3 hK
  generalize L.filter ex=F at *
  have hresC:=Tryz.results101
  have hresI:=Tryz.results158
  cases hx:ex x
  ·rw[hx]at kx
   rw[hx,if_neg Yc5]at eF
   rw[eF]
   clear eF
   refine rGo Zr ?_
   intro K hK
   refine Zbq Tryz.func101 rfl (by kernel_rfl) (by kernel_rfl) (by kernel_rfl) ?_
   rw[Tryz.ntmps101]
   refine aGo hresC ?_
   repeat with_reducible intro K hK
   refine Zbq Tryz.func158 rfl (by kernel_rfl) (by kernel_rfl) (by kernel_rfl) ?_
   rw[Tryz.ntmps158]
   refine aGo hresI ?_
   repeat with_reducible intro K hK
   refine ZrD (fun _:Unit=>_) (fun _=>True) (fun _=>0) ⟨(),trivial,StLe.refl _⟩ ?_
   rintro _ _
   refine aGo (cj3 hresI hresC Zr) ?_
   repeat with_reducible intro K hK
   refine rGo Zr ?_
   show Zqa _ ⟨tabT [],tabM [(0,⟨32,0,10,[cTr t],0,false⟩),(1,⟨99,0,2,[[dI n0,.sl rs]],0,false⟩),(2,⟨54,0,1,[[.ls 3 n]],0,false⟩),(3,⟨43,n,1,[],0,false⟩),(4,⟨54,0,1,[[.ls 5 F.length]],0,false⟩),(5,⟨43,F.length,1,F.map fun s=>[Zab s],0,false⟩)],6,6⟩
   exact Zs0 [] _ 6 (by simp) (by simp[go_sem]) (by simp) (by simp[Zav,okDs,okD]) (by simp) (.inr lo7)
  ·rw[hx]at kx
   rw[hx,if_pos rfl]at eF
   rw[eF]
   clear eF
   refine rGo Zr ?_
   intro K hK
   refine Zbq Tryz.func101 rfl (by kernel_rfl) (by kernel_rfl) (by kernel_rfl) ?_
   rw[Tryz.ntmps101]
   refine aGo hresC ?_
   repeat with_reducible intro K hK
   refine Zbq Tryz.func158 rfl (by kernel_rfl) (by kernel_rfl) (by kernel_rfl) ?_
   rw[Tryz.ntmps158]
   refine aGo hresI ?_
   repeat with_reducible intro K hK
   refine ZrD (fun _:Unit=>_) (fun _=>True) (fun _=>0) ⟨(),trivial,StLe.refl _⟩ ?_
   rintro _ _
   refine aGo (cj3 hresI hresC Zr) ?_
   repeat with_reducible intro K hK
   refine rGo Zr ?_
   show Zqa _ ⟨tabT [],tabM [(0,⟨32,0,10,[cTr t],0,false⟩),(1,⟨99,0,2,[[dI n0,.sl rs]],0,false⟩),(2,⟨54,0,1,[[.ls 3 n]],0,false⟩),(3,⟨43,n,1,[],0,false⟩),(4,⟨54,0,1,[[.ls 5 (F.length+1)]],0,false⟩),(5,⟨43,F.length+1,1,(F++[x]).map fun s=>[Zab s],0,false⟩)],6,6⟩
   exact Zs0 [] _ 6 (by simp) (by simp[go_sem]) (by simp) (by simp[Zav,okDs,okD];rintro e (⟨a,_,rfl⟩|rfl)<;>rfl) (by simp) (.inr lo7)
 case hend =>
  have hF:((outs l n []).filter ex).length≤256:=Yc7 (Yb1 ex _) (ZmI hl)
  have hst:fewG ex l (l.length+1) 0=if ((outs l n []).filter ex).isEmpty then fewG ex l (l.length+1-(n+1)) (n+1)else(outs l n []).filter ex:=by
   rw[hout,List.isEmpty_nil,if_pos rfl,show l.length+1-n=(l.length+1-(n+1))+1 by omega];rfl
  generalize (outs l n []).filter ex=F at hF hst
  refine aGo (cj2 Zr hw) ?_
  repeat with_reducible intro K hK
  exact Zad (n+1,F) ⟨by show n+1≤l.length+1;omega,hst⟩ (by show l.length+2-(n+1)<l.length+2-n;omega) (by exact leGo trivial)
theorem Zh8:∀ (t:List Int)(r:Nat)(p:List Int),outs t r p=(Ze6 t r).map (p++·)
 | [],0,p=>by simp[outs,Ze6]
 | _ ::_,0,p=>by simp[outs,Ze6]
 | [],r+1,p=>by simp[outs,Ze6]
 | x ::t,r+1,p=>by
   simp only[outs,Ze6,List.map_append,List.map_map]
   rw[Zh8 t r,Zh8 t (r+1)]
   simp[Function.comp_def]
theorem Zzy(l:List Int)(n:Nat):outs l n []=Ze6 l n:=by rw[Zh8];simp
theorem ZBr(t:TrD)(kind:Int)(l:List Int):∀ k n,fewG (ZhL t kind) l k n=Zim t kind l k n
 | 0,_=>rfl
 | k+1,n=>by
   simp only[fewG,Zim]
   rw[Zzy,ZBr t kind l k (n+1)]
theorem ZyX(t:TrD)(kind:Int):(Zkm t kind).1.length≤8:=by
 unfold Zkm
 split
 ·split
  ·exact Yb0 _
  ·rename_i h
   rw[Yc0];omega
 ·exact Yb0 _
theorem ZAs{t:TrD}(h:TrOk t){kind:Int}(hk:ZnZ kind=true):Zah Tryz.prog 15 [ZcL t,dI kind] (.tup [Zom (ZgR t kind).1,dI (ZgR t kind).2]):=by
 have Zr:=Tryz.results15
 have k1:=ZtV h hk
 have hl:=ZyX t kind
 have k2:Zah Tryz.prog 51 [ZcL t,dI kind,dB true] (.tup [Zom (ZgR t kind).1,dI (ZgR t kind).2]):=by
  unfold ZgR
  by_cases he:(Zkm t kind).2=0
  ·rw[if_pos he]
   rw[he]at k1
   rw[← ZBr]
   exact ZDo t kind _ _ _ (ZhL t kind) hl k1 (h.sys hk) fun x hx=>ZuU h kind x (by omega)
  ·rw[if_neg he]
   exact ZAz t kind _ _ he k1
 generalize ZgR t kind=F at *
 obtain⟨a,b⟩:=F
 simp only at k2 ⊢
 refine inC Tryz.func15 rfl Tryz.ntmps15 ?_
 exact aGo Zr trivial
def isR(i:Nat)(r:ResD):Bool:=(r.is[i]?).getD false
theorem ld1_c(r:ResD)(i:Nat)(h:i<r.is.length):Zaa Tryz.prog 59 [.agg (cRes r),.ep [[dI i]] 0 0] (dB (isR i r)):=by
 have Zr:=Tryz.results59
 obtain⟨o,ho⟩:∃ o,r.is[i]? =some o:=⟨_,Ya0 h⟩
 have i0:(0:Int)≤i:=by omega
 unfold isR
 rw[ho]
 obtain⟨r0,r1,r2⟩:=r
 simp only at ho
 refine inN Tryz.func59 rfl Tryz.ntmps59 fun I=>?_
 exact aGo (cj3 Zr ho i0) trivial
abbrev cloL(i:Nat):D:=.clo 59 [.ep [[dI i]] 0 0]
theorem ldI_c(l:List ResD)(i:Nat)(hl:l.length≤4096)(h:∀ r∈l,i<r.is.length):Zaa Tryz.prog 111 [Zja l,cloL i] (dI (idxI (isR i) l)):=by
 have Zr:=Tryz.results111
 refine inN Tryz.func111 rfl Tryz.ntmps111 fun I=>?_
 refine aGo Zr ?_
 repeat with_reducible intro K hK
 refine Zas (fun(k:Nat)=>[(0,Zja l),(1,cloL i),(7,dI l.length),(8,dI k)]) (fun _=>[]) 0 0 (fun k=>k≤l.length∧(l.take k).any (isR i)=false) (fun k=>l.length-k) 0 ⟨by omega,rfl⟩ ?_ ?_
 ·exact leGo trivial
 ·rintro k ⟨hk,hn⟩
  obtain⟨hw,h0⟩:=ZaO k
  by_cases h1:(k:Int)<l.length
  ·obtain⟨r,hx⟩:=getE (l:=l) (k:=k) (by omega)
   have hc:=ld1_c r i (h r (Ya7 hx))
   cases h2:isR i r
   ·rw[h2]at hc
    refine aGo (cj4 Zr h0 h1 (cj2 hx hw)) ?_
    repeat with_reducible intro K hK
    exact Zad (k+1) ⟨by omega,Zdm hx hn h2⟩ (by omega) (by exact leGo trivial)
   ·rw[h2]at hc
    refine aGo (cj4 Zr h0 h1 (cj2 hx hw)) ?_
    repeat with_reducible intro K hK
    exact ZbA (Zrg hx hn h2).symm
  ·refine aGo (cj2 Zr h1) ?_
   repeat with_reducible intro K hK
   rw[Ya8 (by omega)]at hn
   exact ZbA (Zre hn).symm
theorem ZEP(l:List ResD)(i:Nat)(hl:l.length≤4096)(h:∀ r∈l,i<r.is.length):Zaa Tryz.prog 58 [Zja l,cloL i] (dB (hasR l i)):=by
 have Zr:=Tryz.results58
 have hc:=ldI_c l i hl h
 refine inN Tryz.func58 rfl Tryz.ntmps58 fun I=>?_
 refine aGo Zr ?_
 repeat with_reducible intro K hK
 exact Zaj (Zrf _ _)
theorem Zep(t:TrD)(f:FiD):(ZaN t f).length≤t.e.mv.length:=by
 unfold ZaN
 refine Yc7 (Yb1 _ _) ?_
 rw[Yc0]
 exact Zft _
structure FiOk (t:TrD) (find:Nat) (f:FiD):Prop where
 R:Zbd t
 S:SmQ t
 ta:ZbX t=0
 L:LenT t
 x:t.fi[find]? =some f
theorem FiOk.fits{t:TrD}{find:Nat}{f:FiD}(h:FiOk t find f):Zri t find=true:=by
 have:find<t.fi.length:=(Ya3.1 h.x).1
 simp only[Zri,h.ta,decide_true,Bool.true_and,Ya2,decide_eq_true_eq]
 omega
theorem FiOk.c{t:TrD}{find:Nat}{f:FiD}(h:FiOk t find f):Zaa Tryz.prog 56 [ZcL t,dI find] (dB true):=by
 have:=ZE4 t h.L find
 rwa [h.fits]at this
theorem FiOk.r{t:TrD}{find:Nat}{f:FiD}(h:FiOk t find f):Zah Tryz.prog 57 [ZcL t,dI find] (Zja (ZaN t f)):=Zv9 t h.R h.S h.ta h.L find f h.x
def orgA(l:List ResD)(k:Nat):List Nat:=(l.take k).map ResD.l
theorem ZwB(t:TrD)(find:Nat)(f:FiD)(h:FiOk t find f):Zah Tryz.prog 19 [ZcL t,dI find] (.tup [Zab (natI ((ZaN t f).map ResD.l)),dI 0]):=by
 have Zr:=Tryz.results19
 have k1:=h.c
 have k2:=h.r
 have s1:=h.S.n
 have ll:=Zep t f
 generalize ZaN t f=l at *
 refine inC Tryz.func19 rfl Tryz.ntmps19 ?_
 refine aGo Zr ?_
 repeat with_reducible intro K hK
 refine aLe (Zcs 6 3 1 rfl) ?_
 simp only[go_sem]
 refine Zas (fun(k:Nat)=>[(6,.ls 1 k),(15,Zja l),(16,dI l.length),(17,dI k)]) (fun k=>[(1,⟨3,k,1,(natI (orgA l k)).map fun x=>[dI x],0,false⟩)]) 2 0 (fun k=>k≤l.length) (fun k=>l.length-k) 0 (by omega) ?_ ?_
 ·have e0:natI (orgA l 0)=[]:=rfl
  refine Zak _ _ _ ?_ ?_ ?_ ?_ ?_ (.inl rfl)<;>simp[go_sem,okD,okDs,Zav,e0]
 rintro k hk
 obtain⟨hw,h0⟩:=ZaO k
 have lI:(natI (orgA l k)).length=k:=by simp[natI,orgA];omega
 by_cases h2:(k:Int)<l.length
 ·obtain⟨r,hx⟩:=getE (l:=l) (k:=k) (by omega)
  have eN:natI (orgA l (k+1))=natI (orgA l k)++[(r.l:Int)]:=by unfold orgA natI;rw[Yb4,hx];simp
  generalize natI (orgA l k)=A at *
  refine aGo (cj4 Zr h0 h2 (cj2 hx hw)) ?_
  repeat with_reducible intro K hK
  exact Zad (k+1) (by omega) (by omega) (by refine Zak _ _ _ ?_ ?_ ?_ ?_ ?_ (.inl rfl)<;>simp[go_sem,okD,okDs,Zav,eN]<;>(rintro e (⟨a,_,rfl⟩|rfl)<;>rfl))
 obtain rfl:k=l.length:=by omega
 have e1:orgA l l.length=l.map ResD.l:=by unfold orgA;rw[Yc2]
 refine aGo (cj2 Zr h2) ?_
 repeat with_reducible intro K hK
 rw[Zao (fun _=>rfl),e1]
def lM(l:List ResD)(n k:Nat):List Nat:=(List.range (min k n)).filter (hasR l)
def lP(l:List ResD)(n k:Nat):List Nat:=(List.range (k-n)).filter fun p=>hasR l (n+p)
theorem Zxi(l:List ResD)(n k:Nat):lM l n (k+1)=if k<n∧hasR l k=true then lM l n k++[k]else lM l n k:=by
 unfold lM
 by_cases h:k<n
 ·rw[show min (k+1) n=min k n+1 by omega,List.range_succ,List.filter_append,show min k n=k by omega]
  cases hr:hasR l k<;>simp[h,hr]
 ·rw[show min (k+1) n=min k n by omega,if_neg fun e=>h e.1]
theorem Zxh(l:List ResD)(n k:Nat):lP l n (k+1)=if n≤k∧hasR l k=true then lP l n k++[k-n]else lP l n k:=by
 unfold lP
 by_cases h:n≤k
 ·rw[show k+1-n=(k-n)+1 by omega,List.range_succ,List.filter_append]
  cases hr:hasR l k<;>simp[h,hr,show n+(k-n)=k by omega]
 ·rw[show k+1-n=k-n by omega,if_neg fun e=>h e.1]
theorem ZBl(l:List ResD)(n k:Nat):(lM l n k).length≤k:=by
 unfold lM
 refine Yc7 (Yb1 _ _) ?_
 rw[List.length_range];omega
theorem ZBk(l:List ResD)(n k:Nat):(lP l n k).length≤k:=by
 unfold lP
 refine Yc7 (Yb1 _ _) ?_
 rw[List.length_range];omega
theorem Zxb(t:TrD)(find:Nat)(f:FiD)(h:FiOk t find f):Zah Tryz.prog 18 [ZcL t,dI find] (.tup [Zab (natI (ZhU t f)),Zab (natI (Zgh t f)),dI 0]):=by
 have Zr:=Tryz.results18
 have hresL:=Zr
 have k1:=h.c
 have k2:=h.r
 have s1:=h.S.n
 have s2:=h.S.p
 have ll:=Zep t f
 have hlen:∀ r∈ZaN t f,r.is.length=t.e.mv.length+t.e.pl.length:=fun r hr=>by
  obtain⟨a,_,_,rfl⟩:=Zc5 h.R hr
  exact(Ze1 h.R f.k a).1
 have hs:IntKind.i64.wrap ((t.e.mv.length:Int)+t.e.pl.length)=(t.e.mv.length:Int)+t.e.pl.length:=Zax (by omega) (by omega)
 obtain⟨MM,hMM⟩:∃ M,ZhU t f=M:=⟨_,rfl⟩
 obtain⟨PP,hPP⟩:∃ P,Zgh t f=P:=⟨_,rfl⟩
 rw[hMM,hPP]
 unfold ZhU at hMM
 unfold Zgh at hPP
 generalize ZaN t f=l at *
 refine inC Tryz.func18 rfl Tryz.ntmps18 ?_
 refine aGo (cj3 Zr hresL hs) ?_
 repeat with_reducible intro K hK
 refine aLe (StLe.trans (Zcs 4 3 1 rfl) (Zcs 5 3 1 rfl)) ?_
 simp only[go_sem]
 refine Zas (fun(k:Nat)=>[(2,.lp 0 0 0 0),(4,.ls 1 (lM l t.e.mv.length k).length),(5,.ls 2 (lP l t.e.mv.length k).length),(7,dI t.e.mv.length),(8,Zja l),(26,dI ((t.e.mv.length:Int)+t.e.pl.length)),(27,dI k)]) (fun k=>[(0,⟨32,0,10,[cTr t],0,false⟩),(1,⟨3,(lM l t.e.mv.length k).length,1,(natI (lM l t.e.mv.length k)).map fun x=>[dI x],0,false⟩),(2,⟨3,(lP l t.e.mv.length k).length,1,(natI (lP l t.e.mv.length k)).map fun x=>[dI x],0,false⟩)]) 3 0 (fun k=>k≤t.e.mv.length+t.e.pl.length) (fun k=>t.e.mv.length+t.e.pl.length-k) 0 (by omega) ?_ ?_
 ·have e0:lM l t.e.mv.length 0=[]:=by simp[lM]
  have e1:lP l t.e.mv.length 0=[]:=by simp[lP]
  have e2:natI []=[]:=rfl
  refine Zak _ _ _ ?_ ?_ ?_ ?_ ?_ (.inl rfl)<;>simp[go_sem,okD,okDs,Zav,e0,e1,e2]<;>(rintro e (⟨a,_,rfl⟩|rfl)<;>rfl)
 rintro k hk
 obtain⟨hw,h0⟩:=ZaO k
 have eM:=Zxi l t.e.mv.length k
 have eP:=Zxh l t.e.mv.length k
 have nM:=ZBl l t.e.mv.length k
 have nP:=ZBk l t.e.mv.length k
 have sM:(natI (lM l t.e.mv.length k)).length=(lM l t.e.mv.length k).length:=by simp[natI]
 have sP:(natI (lP l t.e.mv.length k)).length=(lP l t.e.mv.length k).length:=by simp[natI]
 by_cases h2:(k:Int)<(t.e.mv.length:Int)+t.e.pl.length
 ·have kc:=ZEP l k (by omega) (fun r hr=>by rw[hlen r hr];omega)
  cases h3:hasR l k
  ·rw[h3]at eM eP kc
   rw[if_neg fun e=>by cases e.2]at eM eP
   refine aGo (cj4 Zr hresL h0 (cj2 h2 hw)) ?_
   repeat with_reducible intro K hK
   exact Zad (k+1) (by omega) (by omega) (by rw[eM,eP];refine Zak _ _ _ ?_ ?_ ?_ ?_ ?_ (.inl rfl)<;>simp[go_sem,okD,okDs,Zav]<;>(rintro e (⟨a,_,rfl⟩|rfl)<;>rfl))
  rw[h3]at eM eP kc
  by_cases h4:(k:Int)<t.e.mv.length
  ·rw[if_pos ⟨by omega,rfl⟩]at eM
   rw[if_neg fun e=>by omega]at eP
   have eN:natI (lM l t.e.mv.length (k+1))=natI (lM l t.e.mv.length k)++[(k:Int)]:=by rw[eM];simp[natI]
   have eL:(lM l t.e.mv.length (k+1)).length=(lM l t.e.mv.length k).length+1:=by rw[eM];simp
   refine aGo (cj4 Zr hresL h0 (cj4 h2 h4 hw sM)) ?_
   repeat with_reducible intro K hK
   exact Zad (k+1) (by omega) (by omega) (by rw[eP,eN,eL];refine Zak _ _ _ ?_ ?_ ?_ ?_ ?_ (.inl rfl)<;>simp[go_sem,okD,okDs,Zav]<;>(rintro e (⟨a,_,rfl⟩|rfl)<;>rfl))
  ·rw[if_neg fun e=>by omega]at eM
   rw[if_pos ⟨by omega,rfl⟩]at eP
   have hv:IntKind.i64.wrap ((k:Int)-t.e.mv.length)=(k:Int)-t.e.mv.length:=Zax (by omega) (by omega)
   have eN:natI (lP l t.e.mv.length (k+1))=natI (lP l t.e.mv.length k)++[(k:Int)-t.e.mv.length]:=by
    rw[eP]
    simp only[natI,List.map_append,List.map_cons,List.map_nil]
    rw[show(((k-t.e.mv.length:Nat)):Int)=(k:Int)-t.e.mv.length by omega]
   have eL:(lP l t.e.mv.length (k+1)).length=(lP l t.e.mv.length k).length+1:=by rw[eP];simp
   refine aGo (cj4 Zr hresL h0 (cj4 h2 h4 hw (cj2 hv sP))) ?_
   repeat with_reducible intro K hK
   exact Zad (k+1) (by omega) (by omega) (by rw[eM,eN,eL];refine Zak _ _ _ ?_ ?_ ?_ ?_ ?_ (.inl rfl)<;>simp[go_sem,okD,okDs,Zav]<;>(rintro e (⟨a,_,rfl⟩|rfl)<;>rfl))
 obtain rfl:k=t.e.mv.length+t.e.pl.length:=by omega
 have eM1:lM l t.e.mv.length (t.e.mv.length+t.e.pl.length)=MM:=by rw[← hMM];unfold lM;rw[show min (t.e.mv.length+t.e.pl.length) t.e.mv.length=t.e.mv.length by omega]
 have eP1:lP l t.e.mv.length (t.e.mv.length+t.e.pl.length)=PP:=by rw[← hPP];unfold lP;rw[show t.e.mv.length+t.e.pl.length-t.e.mv.length=t.e.pl.length by omega]
 clear eM eP
 rw[eM1,eP1]
 rw[eM1]at nM sM
 rw[eP1]at nP sP
 refine aGo (cj2 Zr h2) ?_
 repeat with_reducible intro K hK
 rw[Zao (fun _=>rfl),Zao (fun _=>rfl)]
def Zd6(e:EvD)(v:Int):Bool:=Zch e (mvAt e v.toNat).t==5
theorem ZvI(t:TrD)(R:Zbd t){v:Nat}(hv:v<t.e.mv.length):Zaa Tryz.prog 54 [dI v,.ep [cTr t] 0 0] (dB (!Zd6 t.e v)):=by
 have Zr:=Tryz.results54
 have hx:=ZiT (e:=t.e) (i:=v) hv
 obtain⟨f0,f1⟩:=(R.e.mv _ (ZkE hv)).t
 obtain⟨p,hp⟩:∃ p,t.e.pl[(mvAt t.e v).t.toNat]? =some p:=⟨_,Ya0 (by omega)⟩
 have v0:(0:Int)≤v:=by omega
 have eb:Zd6 t.e v=(p.k==5):=by unfold Zd6;rw[Int.toNat_natCast,ZjN hp]
 rw[eb]
 generalize mvAt t.e v=x at *
 refine inN Tryz.func54 rfl Tryz.ntmps54 fun I=>?_
 refine aGo (cj4 Zr hx hp (cj2 v0 f0)) ?_
 repeat with_reducible intro K hK
 exact Zaj rfl
structure Zmf (p:Int→Bool) (L:List Int) (j:Nat) (W:List Int):Prop where
 len:W.length=L.length
 hi:j≤L.length
 rest:W.drop j=L.drop j
 front:W.take ((L.take j).filter p).length=(L.take j).filter p
 lt:((L.take j).filter p).length<j
theorem Zmf.get{p:Int→Bool}{L W:List Int}{j:Nat}(h:Zmf p L j W):W[j]? =L[j]?:=by
 have:=congrArg (·[0]?) h.rest
 simpa[List.getElem?_drop]using this
theorem Zmf.skip{p:Int→Bool}{L W:List Int}{j:Nat}{v:Int}(h:Zmf p L j W)(hv:L[j]? =some v)(hp:p v=false):(L.take (j+1)).filter p=(L.take j).filter p∧Zmf p L (j+1) W:=by
 have e:(L.take (j+1)).filter p=(L.take j).filter p:=by rw[Yb4,hv,List.filter_append];simp[hp]
 have hj:=(Ya3.1 hv).1
 refine⟨e,h.len,by omega,?_,by rw[e];exact h.front,by rw[e];have:=h.lt;omega⟩
 rw[← List.drop_drop,← List.drop_drop,h.rest]
theorem Zmf.take{p:Int→Bool}{L W:List Int}{j:Nat}{v:Int}(h:Zmf p L j W)(hv:L[j]? =some v)(hp:p v=true):((L.take (j+1)).filter p).length=((L.take j).filter p).length+1∧Zmf p L (j+1) (W.set ((L.take j).filter p).length v):=by
 have e:(L.take (j+1)).filter p=(L.take j).filter p++[v]:=by rw[Yb4,hv,List.filter_append];simp[hp]
 have hj:=(Ya3.1 hv).1
 have hl:=h.lt
 have hw:=h.len
 refine⟨by rw[e];simp,by rw[List.length_set];exact h.len,by omega,?_,?_,by rw[e];simp;omega⟩
 ·rw[List.drop_set_of_lt (by omega),← List.drop_drop,← List.drop_drop,h.rest]
 ·rw[e,Yb9]
  show(W.set _ v).take (_+1)=_
  rw[Yb4,List.getElem?_set_self (by omega),List.take_set_of_le (Ya4 _),h.front]
  rfl
theorem Zya{p:Int→Bool}{L:List Int}{i:Nat}{v:Int}(hv:L[i]? =some v)(hp:p v=false)(ha:(L.take i).any (fun x=> !p x)=false):((L.take (i+1)).filter p).length=i∧Zmf p L (i+1) L:=by
 have hi:=(Ya3.1 hv).1
 have e0:(L.take i).filter p=L.take i:=List.filter_eq_self.2 fun x hx=>by
  have:=List.any_eq_false.1 ha x hx
  simpa using this
 have e:(L.take (i+1)).filter p=L.take i:=by rw[Yb4,hv,List.filter_append,e0];simp[hp]
 have hl:(L.take i).length=i:=by rw[Yc1];omega
 rw[e]
 refine⟨hl,rfl,by omega,rfl,by rw[e,hl],by rw[e,hl];omega⟩
theorem Zq1(e:EvD)(l:List Nat):natI (l.filter fun i=>Zch e (mvAt e i).t==5)=(natI l).filter (Zd6 e):=by
 unfold natI
 rw[List.filter_map]
 rfl
theorem ZA4(t:TrD)(find:Nat)(f:FiD)(h:FiOk t find f):Zah Tryz.prog 17 [ZcL t,dI find] (.tup [Zab (natI (Ziw t f)),dI 0]):=by
 have Zr:=Tryz.results17
 have hresL:=Tryz.results18
 have hresD:=Tryz.results55
 have hresI:=Tryz.results108
 have k1:=h.c
 have k2:=h.r
 have s1:=h.S.n
 have s2:=h.S.p
 have ll:=Zep t f
 have hlen:∀ r∈ZaN t f,r.is.length=t.e.mv.length+t.e.pl.length:=fun r hr=>by
  obtain⟨a,_,_,rfl⟩:=Zc5 h.R hr
  exact(Ze1 h.R f.k a).1
 have hs:IntKind.i64.wrap ((t.e.mv.length:Int)+t.e.pl.length)=(t.e.mv.length:Int)+t.e.pl.length:=Zax (by omega) (by omega)
 obtain⟨MM,hMM⟩:∃ M,ZhU t f=M:=⟨_,rfl⟩
 obtain⟨PP,hPP⟩:∃ P,Zgh t f=P:=⟨_,rfl⟩
 have hmem:∀ v∈natI MM,∃ u:Nat,v=u∧u<t.e.mv.length:=fun v hv=>by
  obtain⟨u,hu,rfl⟩:=Yc6.1 hv
  rw[← hMM]at hu
  exact⟨u,rfl,Yd2.1 (List.mem_filter.1 hu).1⟩
 rw[show Ziw t f=MM.filter fun i=>Zch t.e (mvAt t.e i).t==5 by unfold Ziw;rw[hMM],Zq1]
 unfold ZhU at hMM
 unfold Zgh at hPP
 generalize ZaN t f=l at *
 refine inC Tryz.func17 rfl Tryz.ntmps17 ?_
 refine aGo Zr ?_
 repeat with_reducible intro K hK
 refine Zbq Tryz.func18 rfl (by kernel_rfl) (by kernel_rfl) (by kernel_rfl) ?_
 rw[Tryz.ntmps18]
 refine aGo (cj3 Zr hresL hs) ?_
 repeat with_reducible intro K hK
 refine aLe (StLe.trans (Zcs 4 3 1 rfl) (Zcs 5 3 1 rfl)) ?_
 simp only[go_sem]
 refine Zas (fun(k:Nat)=>[(2,.lp 1 0 0 0),(4,.ls 2 (lM l t.e.mv.length k).length),(5,.ls 3 (lP l t.e.mv.length k).length),(7,dI t.e.mv.length),(8,Zja l),(26,dI ((t.e.mv.length:Int)+t.e.pl.length)),(27,dI k)]) (fun k=>[(0,⟨32,0,10,[cTr t],0,false⟩),(1,⟨32,0,10,[cTr t],0,false⟩),(2,⟨3,(lM l t.e.mv.length k).length,1,(natI (lM l t.e.mv.length k)).map fun x=>[dI x],0,false⟩),(3,⟨3,(lP l t.e.mv.length k).length,1,(natI (lP l t.e.mv.length k)).map fun x=>[dI x],0,false⟩)]) 4 1 (fun k=>k≤t.e.mv.length+t.e.pl.length) (fun k=>t.e.mv.length+t.e.pl.length-k) 0 (by omega) ?_ ?_
 ·have e0:lM l t.e.mv.length 0=[]:=by simp[lM]
  have e1:lP l t.e.mv.length 0=[]:=by simp[lP]
  have e2:natI []=[]:=rfl
  refine Zak _ _ _ ?_ ?_ ?_ ?_ ?_ (.inr fun id hid=>?_)<;>simp[go_sem,okD,okDs,Zav,e0,e1,e2]<;>first|(have:id<1:=hid;omega)|(rintro e (⟨a,_,rfl⟩|rfl)<;>rfl)
 rintro k hk
 obtain⟨hw,h0⟩:=ZaO k
 have eM:=Zxi l t.e.mv.length k
 have eP:=Zxh l t.e.mv.length k
 have nM:=ZBl l t.e.mv.length k
 have nP:=ZBk l t.e.mv.length k
 have sM:(natI (lM l t.e.mv.length k)).length=(lM l t.e.mv.length k).length:=by simp[natI]
 have sP:(natI (lP l t.e.mv.length k)).length=(lP l t.e.mv.length k).length:=by simp[natI]
 by_cases h2:(k:Int)<(t.e.mv.length:Int)+t.e.pl.length
 ·have kc:=ZEP l k (by omega) (fun r hr=>by rw[hlen r hr];omega)
  cases h3:hasR l k
  ·rw[h3]at eM eP kc
   rw[if_neg fun e=>by cases e.2]at eM eP
   refine aGo (cj4 Zr hresL h0 (cj2 h2 hw)) ?_
   repeat with_reducible intro K hK
   exact Zad (k+1) (by omega) (by omega) (by rw[eM,eP];refine Zak _ _ _ ?_ ?_ ?_ ?_ ?_ (.inr fun id hid=>?_)<;>simp[go_sem,okD,okDs,Zav]<;>first|(have:id<1:=hid;omega)|(rintro e (⟨a,_,rfl⟩|rfl)<;>rfl))
  rw[h3]at eM eP kc
  by_cases h4:(k:Int)<t.e.mv.length
  ·rw[if_pos ⟨by omega,rfl⟩]at eM
   rw[if_neg fun e=>by omega]at eP
   have eN:natI (lM l t.e.mv.length (k+1))=natI (lM l t.e.mv.length k)++[(k:Int)]:=by rw[eM];simp[natI]
   have eL:(lM l t.e.mv.length (k+1)).length=(lM l t.e.mv.length k).length+1:=by rw[eM];simp
   refine aGo (cj4 Zr hresL h0 (cj4 h2 h4 hw sM)) ?_
   repeat with_reducible intro K hK
   exact Zad (k+1) (by omega) (by omega) (by rw[eP,eN,eL];refine Zak _ _ _ ?_ ?_ ?_ ?_ ?_ (.inr fun id hid=>?_)<;>simp[go_sem,okD,okDs,Zav]<;>first|(have:id<1:=hid;omega)|(rintro e (⟨a,_,rfl⟩|rfl)<;>rfl))
  ·rw[if_neg fun e=>by omega]at eM
   rw[if_pos ⟨by omega,rfl⟩]at eP
   have hv:IntKind.i64.wrap ((k:Int)-t.e.mv.length)=(k:Int)-t.e.mv.length:=Zax (by omega) (by omega)
   have eN:natI (lP l t.e.mv.length (k+1))=natI (lP l t.e.mv.length k)++[(k:Int)-t.e.mv.length]:=by
    rw[eP]
    simp only[natI,List.map_append,List.map_cons,List.map_nil]
    rw[show(((k-t.e.mv.length:Nat)):Int)=(k:Int)-t.e.mv.length by omega]
   have eL:(lP l t.e.mv.length (k+1)).length=(lP l t.e.mv.length k).length+1:=by rw[eP];simp
   refine aGo (cj4 Zr hresL h0 (cj4 h2 h4 hw (cj2 hv sP))) ?_
   repeat with_reducible intro K hK
   exact Zad (k+1) (by omega) (by omega) (by rw[eM,eN,eL];refine Zak _ _ _ ?_ ?_ ?_ ?_ ?_ (.inr fun id hid=>?_)<;>simp[go_sem,okD,okDs,Zav]<;>first|(have:id<1:=hid;omega)|(rintro e (⟨a,_,rfl⟩|rfl)<;>rfl))
 obtain rfl:k=t.e.mv.length+t.e.pl.length:=by omega
 have eM1:lM l t.e.mv.length (t.e.mv.length+t.e.pl.length)=MM:=by rw[← hMM];unfold lM;rw[show min (t.e.mv.length+t.e.pl.length) t.e.mv.length=t.e.mv.length by omega]
 have eP1:lP l t.e.mv.length (t.e.mv.length+t.e.pl.length)=PP:=by rw[← hPP];unfold lP;rw[show t.e.mv.length+t.e.pl.length-t.e.mv.length=t.e.pl.length by omega]
 clear eM eP
 rw[eM1,eP1]
 rw[eM1]at nM sM
 rw[eP1]at nP sP
 refine aGo (cj3 Zr hresL h2) ?_
 repeat with_reducible intro K hK
 have lL:(natI MM).length≤6:=by
  have e:=congrArg List.length hMM
  have:=Yb1 (fun i=>hasR l i) (List.range t.e.mv.length)
  rw[List.length_range]at this
  simp only[natI,Yc0]
  omega
 generalize MM.length=ver at *
 generalize natI MM=L at *
 refine Zbq Tryz.func55 rfl (by kernel_rfl) (by kernel_rfl) (by kernel_rfl) ?_
 rw[Tryz.ntmps55]
 refine aGo hresD ?_
 repeat with_reducible intro K hK
 refine Zbq Tryz.func108 rfl (by kernel_rfl) (by kernel_rfl) (by kernel_rfl) ?_
 rw[Tryz.ntmps108]
 refine aGo hresI ?_
 repeat with_reducible intro K hK
 refine aLe (Zdz 0 rfl) ?_
 clear hw h0 hk h2 hs
 refine Zas (fun(q:Nat)=>[(0,.ls 2 ver),(1,.clo 54 [.lp 0 0 0 0]),(6,.ls 2 ver),(7,dI L.length),(8,dI q)]) (fun _=>[(0,⟨32,0,10,[cTr t],0,true⟩),(1,⟨32,0,10,[cTr t],0,false⟩),(2,⟨3,ver,1,L.map fun x=>[dI x],0,false⟩),(3,⟨3,PP.length,1,(natI PP).map fun x=>[dI x],0,false⟩)]) 4 4 (fun q=>q≤L.length∧(L.take q).any (fun x=> !Zd6 t.e x)=false) (fun q=>L.length-q) 0 ⟨by omega,rfl⟩ ?_ ?_
 ·refine Zak _ _ _ ?_ ?_ ?_ ?_ ?_ (.inr fun id hid=>?_)<;>simp[go_sem,okD,okDs,Zav]<;>(have:id<4:=hid;omega)
 rintro q ⟨hq,ha⟩
 obtain⟨hw,q0⟩:=ZaO q
 by_cases hql:(q:Int)<L.length
 rotate_left
 ·rw[Ya8 (by omega)]at ha
  have e:L.filter (Zd6 t.e)=L:=List.filter_eq_self.2 fun x hx=>by
   have:=List.any_eq_false.1 ha x hx
   simpa using this
  refine aGo (cj4 Zr hresD hresI hql) ?_
  repeat with_reducible intro K hK
  rw[Zao (fun _=>rfl),e]
 obtain⟨v,hv⟩:=getE (l:=L) (k:=q) (by omega)
 obtain⟨u,rfl,hu⟩:=hmem v (Ya7 hv)
 have kc:=ZvI t h.R hu
 cases hkp:Zd6 t.e u
 rotate_left
 ·rw[hkp]at kc
  refine aGo (cj4 hresI hql q0 (cj2 hv hw)) ?_
  repeat with_reducible intro K hK
  exact Zad (q+1) ⟨by omega,Zdm hv ha (by rw[hkp];rfl)⟩ (by omega) (by refine Zak _ _ _ ?_ ?_ ?_ ?_ ?_ (.inr fun id hid=>?_)<;>simp[go_sem,okD,okDs,Zav]<;>(have:id<4:=hid;omega))
 rw[hkp]at kc
 have hpm:((q:Int) == -1)=false:=beq_eq_false_iff_ne.2 (by omega)
 obtain⟨hc,hok⟩:=Zya hv hkp ha
 refine aGo (cj4 hresI hresD hql (cj4 q0 hv hpm hw)) ?_
 repeat with_reducible intro K hK
 clear kc hpm hw q0 ha
 refine Zas (fun(x:Nat×List Int)=>[(0,.ls 2 ver),(1,.clo 54 [.lp 0 0 0 0]),(5,dI ((L.take x.1).filter (Zd6 t.e)).length),(6,dI x.1)]) (fun x=>[(0,⟨32,0,10,[cTr t],0,true⟩),(1,⟨32,0,10,[cTr t],0,false⟩),(2,⟨3,ver,1,x.2.map fun x=>[dI x],0,false⟩),(3,⟨3,PP.length,1,(natI PP).map fun x=>[dI x],0,false⟩)]) 4 4 (fun x=>Zmf (Zd6 t.e) L x.1 x.2) (fun x=>L.length-x.1) (q+1,L) hok ?_ ?_
 ·refine Zak _ _ _ ?_ ?_ ?_ ?_ ?_ (.inr fun id hid=>?_)<;>simp[go_sem,okD,okDs,Zav,hc]<;>(have:id<4:=hid;omega)
 rintro⟨j,W⟩ hD
 simp only at hD
 have wl:=hD.len
 have jl:=hD.hi
 have lt:=hD.lt
 have fr:=hD.front
 have hw:=ZtM j
 have hwc:IntKind.i64.wrap ((((L.take j).filter (Zd6 t.e)).length:Int)+1)=(((L.take j).filter (Zd6 t.e)).length:Int)+1:=Zax (by omega) (by omega)
 have j0:(0:Int)≤j:=by omega
 have c0:(0:Int)≤((L.take j).filter (Zd6 t.e)).length:=by omega
 have cz:(0:Nat)≤((L.take j).filter (Zd6 t.e)).length:=Yb0 _
 have cW:(((L.take j).filter (Zd6 t.e)).length:Int)<W.length:=by omega
 by_cases hjl:(j:Int)<W.length
 ·obtain⟨v,hv'⟩:=getE (l:=L) (k:=j) (by omega)
  have hvW:=hD.get.trans hv'
  obtain⟨u2,rfl,hu2⟩:=hmem v (Ya7 hv')
  have kc:=ZvI t h.R hu2
  cases hkp2:Zd6 t.e u2
  ·obtain⟨e,hD'⟩:=hD.skip hv' hkp2
   rw[hkp2]at kc
   have e:=congrArg List.length e
   generalize ((L.take j).filter (Zd6 t.e)).length=c at *
   refine aGo (cj4 hresD hjl j0 (cj2 hvW hw)) ?_
   repeat with_reducible intro K hK
   exact Zad (j+1,W) hD' (by show L.length-(j+1)<L.length-j;omega) (by rw[e];refine Zak _ _ _ ?_ ?_ ?_ ?_ ?_ (.inr fun id hid=>?_)<;>simp[go_sem,okD,okDs,Zav]<;>(have:id<4:=hid;omega))
  ·obtain⟨e,hD'⟩:=hD.take hv' hkp2
   rw[hkp2]at kc
   generalize ((L.take j).filter (Zd6 t.e)).length=c at *
   obtain⟨y,hy⟩:∃ y,W[c]? =some y:=⟨_,Ya0 (by omega)⟩
   have hset:(W.map fun x=>[dI x]).set c [dI u2]=(W.set c u2).map fun x=>[dI x]:=List.map_set.symm
   obtain⟨W2,hW2⟩:∃ W2,W.set c u2=W2:=⟨_,rfl⟩
   rw[hW2]at hset hD'
   refine aGo (cj4 hresD hjl j0 (cj4 c0 cz cW (cj4 hvW hy hset (cj2 hw hwc)))) ?_
   repeat with_reducible intro K hK
   exact Zad (j+1,W2) hD' (by show L.length-(j+1)<L.length-j;omega) (by rw[e];refine Zak _ _ _ ?_ ?_ ?_ ?_ ?_ (.inr fun id hid=>?_)<;>simp[go_sem,okD,okDs,Zav]<;>(have:id<4:=hid;omega))
 obtain rfl:j=L.length:=by omega
 have hi:((L.take L.length).filter (Zd6 t.e)).length<(W.map fun x=>[dI x]).length:=by rw[Yc0];omega
 repeat ((fail_if_success (with_reducible refine Zdl 11 ?_)); first
     | (refine hK _ ?_;clear hK;clear K)
     | (refine aSeq fun K hK=>?_)
     | (refine ZcJ ?_)
     | (refine ZeU ?_)
     | (refine ZeW ?_)
     | (refine aRet ?_)
     | (refine aOps _ rfl (by kernel_rfl) ?_)
     | (refine ZeV _ rfl ZdX (by kernel_rfl) (by kernel_rfl) fun KE hE=>?_)
     | (refine hE _ _ (by kernel_rfl) (ZaC rfl) ?_;clear hE;clear KE)
     | (refine hE _ _ (by kernel_rfl) (Za7 ?hi ?hj) ?_;(case hi=>(repeat(refine Zan rfl ?_));exact Zaq);(case hj=>simp);clear hE;clear KE)
     | (refine ZcH rfl ?hc ?_;case hc=>simp only[go_sem,↓reduceIte,hresD,hjl])
     | (refine ZcI rfl ?hc ?_;case hc=>simp only[go_sem,↓reduceIte,hresD,hjl])
     | (simp only[go_sem,↓reduceIte,hresD,hjl])
     | (refine And.intro ?ho ?_;(case ho=>omega))
     | (clear hK;clear K))
 refine ZDI (es:=W.map fun x=>[dI x]) rfl rfl rfl rfl rfl rfl rfl rfl rfl rfl rfl rfl (by kernel_rfl) (by kernel_rfl) (by decide) rfl rfl rfl hi ?_
 obtain⟨E,hE⟩:∃ E,clrE (W.map fun x=>[dI x]) ((L.take L.length).filter (Zd6 t.e)).length ((W.map fun x=>[dI x]).length-((L.take L.length).filter (Zd6 t.e)).length)=E:=⟨_,rfl⟩
 have eT:E.take ((L.take L.length).filter (Zd6 t.e)).length=((L.filter (Zd6 t.e)).map fun x=>[dI x]):=by
  rw[← hE,ZtE _ _ _ _ (Ya4 _),← List.map_take,fr,Yc2]
 have eL:E.length=W.length:=by rw[← hE,Zye,Yc0]
 have eW:∀ x∈E,x.length=1:=by
  rw[← hE]
  refine Zrr (p:=fun x=>x.length=1) rfl _ _ _ fun x hx=>?_
  obtain⟨u,_,rfl⟩:=Yc6.1 hx
  rfl
 have eC:∀ m,List.map (List.map (fzT false m 4)) E=E:=fun m=>by
  have:∀ x∈E,List.map (fzT false m 4) x=x:=by
   rw[← hE]
   refine Zrr (p:=fun x=>List.map (fzT false m 4) x=x) rfl _ _ _ fun x hx=>?_
   obtain⟨u,_,rfl⟩:=Yc6.1 hx
   rfl
  exact(List.map_congr_left (g:=id) this).trans (List.map_id _)
 rw[hE]
 clear hE hi hw hwc hD hok
 refine hK _ ?_
 clear hK
 simp only[go_sem]
 refine aLe ((Zdz 2 rfl).trans (ZlF 0 5)) ?_
 simp only[go_sem,fzT]
 have e1:((((L.take L.length).filter (Zd6 t.e)).length:Nat):Int)≤(E.length:Int):=by omega
 generalize ((L.take L.length).filter (Zd6 t.e)).length=c at *
 exact aGo (cj4 Zr hresD c0 (cj4 e1 eT eC eW)) trivial
theorem Znt(t:TrD)(find:Nat)(f:FiD)(h:FiOk t find f)(move:Nat)(hm:move<t.e.mv.length):Zaa Tryz.prog 69 [ZcL t,dI find,dI move] (dB true):=by
 have Zr:=Tryz.results69
 have k1:=h.c
 have h2:(move:Int)≥0:=by omega
 have h3:(move:Int)<t.e.mv.length:=by omega
 have h4:=h.S.n
 refine inN Tryz.func69 rfl Tryz.ntmps69 fun I=>?_
 exact aGo (cj3 Zr h2 h3) trivial
theorem ZtN(t:TrD)(find:Nat)(f:FiD)(h:FiOk t find f)(move:Nat)(hm:move<t.e.mv.length)(hno:hasR (ZaN t f) move=false):Zah Tryz.prog 68 [ZcL t,dI find,dI move] (.tup [dI 0,.sl [],dB false]):=by
 have Zr:=Tryz.results68
 have k1:=Znt t find f h move hm
 have k2:=h.r
 have s1:=h.S.n
 have ll:=Zep t f
 have hlen:∀ r∈ZaN t f,r.is.length=t.e.mv.length+t.e.pl.length:=fun r hr=>by
  obtain⟨a,_,_,rfl⟩:=Zc5 h.R hr
  exact(Ze1 h.R f.k a).1
 generalize ZaN t f=l at *
 refine inC Tryz.func68 rfl Tryz.ntmps68 ?_
 refine aGo Zr ?_
 repeat with_reducible intro K hK
 refine Zas (fun(k:Nat)=>[(2,dI move),(6,dI 0),(7,.nil),(8,dB false),(18,Zja l),(19,dI l.length),(20,dI k)]) (fun _=>[]) 1 0 (fun k=>k≤l.length) (fun k=>l.length-k) 0 (by omega) ?_ ?_
 ·refine Zak _ _ _ ?_ ?_ ?_ ?_ ?_ (.inl rfl)<;>simp[go_sem,okD,okDs,Zav]
 rintro k hk
 obtain⟨hw,h0⟩:=ZaO k
 have m0:(0:Int)≤move:=by omega
 by_cases h2:(k:Int)<l.length
 ·obtain⟨r,hx⟩:=getE (l:=l) (k:=k) (by omega)
  have hr:=Ya7 hx
  have hrl:=hlen r hr
  obtain⟨o,ho⟩:∃ o,r.is[move]? =some o:=⟨_,Ya0 (by omega)⟩
  have:o=false:=by
   have:=List.any_eq_false.1 hno r hr
   rw[ho]at this
   cases o
   ·rfl
   ·exact absurd rfl this
  subst this
  obtain⟨r0,r1,r2⟩:=r
  simp only at ho
  refine aGo (cj4 Zr h0 h2 (cj4 m0 hx ho hw)) ?_
  repeat with_reducible intro K hK
  exact Zad (k+1) (by omega) (by omega) (by refine Zak _ _ _ ?_ ?_ ?_ ?_ ?_ (.inl rfl)<;>simp[go_sem,okD,okDs,Zav])
 obtain rfl:k=l.length:=by omega
 exact aGo (cj2 Zr h2) trivial
theorem ZwT(s:SysD)(v:Int)(y:List Zag)(hs:tnS s)(hy:tnFs y):Zah Tryz.prog 75 [encS s,dI v,Za0 y] (dB (ZdO s v y)):=by
 have Zr:=Tryz.results75
 have k1:=Zlw v (-1) (by decide) (by decide)
 rw[show((((-1:Int)):Int):Rat) = -1 from rfl]at k1
 have sg:smT (ZaX v (-1)):=⟨by show(1:Int)≤_;decide,fun t ht=>by rw[List.mem_singleton.1 ht];show(szF (ofQ (-1)):Int)≤_;decide +kernel⟩
 have k2:=ZAA s (ZaX v (-1)) y hs sg hy
 have zl:=ZyW (goal:=ZaX v (-1)) hs hy
 have k3:=ZeD (Zb5 s (ZaX v (-1)) y).1 (by omega)
 unfold ZdO
 generalize Zb5 s (ZaX v (-1)) y=q at *
 obtain⟨q1,q2⟩:=q
 simp only at k2 k3
 refine inC Tryz.func75 rfl Tryz.ntmps75 ?_
 cases q2
 ·exact aGo Zr trivial
 ·exact aGo Zr trivial
theorem ZuJ{v:Int}(h:0≤v):IntK 1 (ZaX v 1):=by
 obtain⟨n,rfl⟩:=Int.eq_ofNat_of_zero_le h
 exact ZpE n
theorem ZfY{v n:Int}(h0:0≤v)(h:v<n):Zai (ZaX v 1) n=true:=by
 obtain⟨k,rfl⟩:=Int.eq_ofNat_of_zero_le h0
 exact Zcj h (by decide)
section
variable {t:TrD} {find:Nat} {f:FiD} (h:FiOk t find f)
include h
theorem FiOk.only(kind:Int)(lift:Nat){v:Int}(h0:0≤v)(hv:v<t.e.mv.length):FitG (ZaG t kind lift) (oppT (ZaX v 1)) :=
 Zp8 h.R h.S kind lift _ 1 (Zdd (ZfY h0 hv)) ((ZuJ h0).opp (ZfY h0 hv) (by have:=h.S.n;omega)) (by decide)
theorem FiOk.muchC(kind:Int)(lift:Nat){v:Int}(h0:0≤v)(hv:v<t.e.mv.length):Zah Tryz.prog 72 [encS (ZaG t kind lift),Zbk (ZaX v 1)] (.tup [Za0 (maxX (ZaG t kind lift) (ZaX v 1)),Za0 (maxY (ZaG t kind lift) (ZaX v 1))]) :=
 ZBh _ _ (h.only kind lift h0 hv) ⟨by show(1:Int)≤_;decide,fun t ht=>by rw[List.mem_singleton.1 ht];show(szF (ofQ 1):Int)≤_;decide +kernel⟩
theorem FiOk.posC(kind:Int)(lift:Nat){v:Int}(h0:0≤v)(hv:v<t.e.mv.length):Zah Tryz.prog 74 [Zbk (ZaX v 1),Za0 (maxX (ZaG t kind lift) (ZaX v 1))] (dB (posD (ZaX v 1) (maxX (ZaG t kind lift) (ZaX v 1)))):=by
 have hX:=ZEN (h.only kind lift h0 hv) (ZfY h0 hv) (Znf h.R kind lift)
 have sX:smFs (maxX (ZaG t kind lift) (ZaX v 1)):=⟨by have:=hX.l;have:=h.S.n;have:(ZaG t kind lift).n=t.e.mv.length:=rfl;omega,fun f hf=>by have:=hX.z f hf;show(szF f:Int)≤4194304;omega⟩
 have sg:smT (ZaX v 1):=⟨by show(1:Int)≤_;decide,fun t ht=>by rw[List.mem_singleton.1 ht];show(szF (ofQ 1):Int)≤_;decide +kernel⟩
 exact ZmC _ _ sg sX (ZrM sg sX)
theorem FiOk.yTn(kind:Int)(lift:Nat){v:Int}(h0:0≤v)(hv:v<t.e.mv.length):tnFs (maxY (ZaG t kind lift) (ZaX v 1)):=by
 unfold maxY
 rw[Zee (Zc8 h.R kind lift) (ZfY h0 hv)]
 split
 ·exact⟨by simp,fun f hf=>by cases hf⟩
 ·exact(h.only kind lift h0 hv).tn.2.2.1
theorem FiOk.sTn(kind:Int)(lift:Nat):tnS (ZaG t kind lift):=by
 obtain⟨a,b⟩:=Zrz h.R h.S kind lift
 refine⟨by omega,fun w hw=>?_⟩
 obtain⟨c,d,e⟩:=b w hw
 exact⟨⟨by omega,fun t ht=>by have:=e t ht;show(szF t.f:Int)≤262144;omega⟩,by show(szF w.v:Int)≤262144;omega⟩
theorem FiOk.liftC:Zaa Tryz.prog 70 [Zfd t.e] (Zab (natI (Zaw t.e))):=Zsp t.e h.R.e
end
abbrev ZxY(l:List (List Zag)):D:=.sl (l.map fun y=>[Za0 y])
theorem ZCq(t:TrD)(find:Nat)(f:FiD)(h:FiOk t find f)(move:Nat)(hm:move<t.e.mv.length)(hno:hasR (ZaN t f) move=false):Zah Tryz.prog 26 [ZcL t,dI find,dI move] (.tup [ZxY (Zgf t f move),dB true]):=by
 have Zr:=Tryz.results26
 have k1:=Znt t find f h move hm
 have k2:=ZtN t find f h move hm hno
 have k3:=h.liftC
 have s1:=h.S.n
 have ll:=Zft t.e
 have hx:=h.x
 have f0:(0:Int)≤find:=by omega
 obtain⟨⟨v0,v1⟩,-,-⟩:=h.R.fi f (Ya7 hx)
 have m0:(0:Int)≤move:=by omega
 have m1:(move:Int)<t.e.mv.length:=by omega
 obtain⟨kind,ekind⟩:∃ k,f.k=k:=⟨_,rfl⟩
 obtain⟨v,ev⟩:∃ k,f.v=k:=⟨_,rfl⟩
 rw[ev]at v0 v1
 refine inC Tryz.func26 rfl Tryz.ntmps26 ?_
 refine aGo Zr ?_
 repeat with_reducible intro K hK
 refine aLe (Zcs 11 33 1 rfl) ?_
 simp only[go_sem]
 have lI:(natI (Zaw t.e)).length=(Zaw t.e).length:=by simp[natI]
 obtain⟨A,eA⟩:∃ A:Nat→List (List Zag),A=fun k=>((Zaw t.e).take k).map (ZiI t f move):=⟨_,rfl⟩
 have A0:A 0=[]:=by rw[eA];rfl
 have Al:∀ k,k≤(Zaw t.e).length→(A k).length=k:=fun k hk=>by rw[eA];simp;omega
 refine Zas (fun(k:Nat)=>[(1,dI find),(2,dI move),(3,.lp 0 0 0 0),(11,.ls 1 k),(12,Zab (natI (Zaw t.e))),(37,Zab (natI (Zaw t.e))),(38,dI (Zaw t.e).length),(39,dI k)]) (fun k=>[(0,⟨32,0,10,[cTr t],0,false⟩),(1,⟨33,k,1,(A k).map fun y=>[Za0 y],0,false⟩)]) 2 0 (fun k=>k≤(Zaw t.e).length) (fun k=>(Zaw t.e).length-k) 0 (by omega) ?_ ?_
 ·refine Zak _ _ _ ?_ ?_ ?_ ?_ ?_ (.inl rfl)<;>simp[go_sem,okD,okDs,Zav,A0,lI]
 rintro k hk
 obtain⟨hw,h0⟩:=ZaO k
 have la:=Al k hk
 by_cases h2:(k:Int)<(Zaw t.e).length
 rotate_left
 ·obtain rfl:k=(Zaw t.e).length:=by omega
  have e1:A (Zaw t.e).length=Zgf t f move:=by rw[eA];simp only;rw[Yc2];rfl
  refine aGo (cj2 Zr h2) ?_
  repeat with_reducible intro K hK
  rw[Zao (fun _=>rfl),e1]
 obtain⟨lift,hl⟩:∃ x,(Zaw t.e)[k]? =some x:=⟨_,Ya0 (by omega)⟩
 have hl2:(natI (Zaw t.e))[k]? =some (lift:Int):=by unfold natI;rw[Yb8,hl];rfl
 have q1:=ZrA t h.R h.ta h.L find f hx lift
 have q2:=Zlw v 1 (by decide) (by decide)
 have q3:=Zlw move 1 (by decide) (by decide)
 rw[show(((1:Int)):Rat)=1 from rfl]at q2 q3
 have q4:=h.muchC f.k lift v0 v1
 have q5:=h.muchC f.k lift m0 m1
 have q6:=h.posC f.k lift v0 v1
 have eN:A (k+1)=A k++[ZiI t f move lift]:=by rw[eA];simp only;rw[Yb4,hl];simp
 unfold ZiI at eN
 rw[ev]at eN
 generalize ZaG t f.k lift=s at *
 generalize natI (Zaw t.e)=L at *
 generalize A k=B at *
 generalize maxX s (ZaX v 1)=X at *
 generalize maxY s (ZaX v 1)=Y at *
 generalize maxX s (ZaX move 1)=X2 at *
 generalize maxY s (ZaX move 1)=Y2 at *
 generalize ZaX v 1=G at *
 generalize ZaX move 1=G2 at *
 cases hp:posD G X
 ·rw[hp]at q6 eN
  rw[if_neg Yc5]at eN
  refine aGo (cj4 Zr h0 h2 (cj4 hl2 hx ev (cj3 f0 la hw))) ?_
  repeat with_reducible intro K hK
  exact Zad (k+1) (by omega) (by omega) (by refine Zak _ _ _ ?_ ?_ ?_ ?_ ?_ (.inl rfl)<;>simp[go_sem,okD,okDs,Zav,eN]<;>(rintro e (⟨a,_,rfl⟩|rfl)<;>rfl))
 ·rw[hp]at q6 eN
  rw[if_pos rfl]at eN
  refine ZrE (n:=13) ⟨⟩ (cj4 Zr h0 h2 (cj4 hl2 hx ev (cj3 f0 la hw))) ?_
  repeat with_reducible intro K hK
  refine aLe (Zak [(1,dI find),(2,dI move),(3,.lp 0 0 0 0),(11,.ls 1 k),(12,Zab L),(17,Za0 Y2),(37,Zab L),(38,dI (Zaw t.e).length),(39,dI k)] [(0,⟨32,0,10,[cTr t],0,false⟩),(1,⟨33,k,1,B.map fun y=>[Za0 y],0,false⟩)] 2 ?_ ?_ ?_ ?_ ?_ (.inl rfl)) ?_
  iterate 5 (simp[go_sem,okD,okDs,Zav])
  refine aGo (cj2 la hw) ?_
  repeat with_reducible intro K hK
  exact Zad (k+1) (by omega) (by omega) (by refine Zak _ _ _ ?_ ?_ ?_ ?_ ?_ (.inl rfl)<;>simp[go_sem,okD,okDs,Zav,eN]<;>(rintro e (⟨a,_,rfl⟩|rfl)<;>rfl))
def clrP(t:TrD)(f:FiD)(move:Nat)(p:Nat×List Zag):Bool:=ZdO (ZaG t f.k p.1) f.v p.2||ZdO (ZaG t f.k p.1) move p.2
theorem ZtF(t:TrD)(find:Nat)(f:FiD)(h:FiOk t find f)(move:Nat)(hm:move<t.e.mv.length)(proof:List (List Zag))(hp:∀ y∈proof,tnFs y)(hpl:proof.length≤4096):Zah Tryz.prog 28 [ZcL t,dI find,dI move,ZxY proof] (dB (Zis t f move proof)):=by
 have Zr:=Tryz.results28
 have k1:=Znt t find f h move hm
 have k3:=h.liftC
 have s1:=h.S.n
 have ll:=Zft t.e
 have hx:=h.x
 have f0:(0:Int)≤find:=by omega
 obtain⟨v,ev⟩:∃ k,f.v=k:=⟨_,rfl⟩
 have lI:(natI (Zaw t.e)).length=(Zaw t.e).length:=by simp[natI]
 by_cases h1:proof.length=(Zaw t.e).length
 rotate_left
 ·have h1':((proof.length:Int) !=((natI (Zaw t.e)).length:Int))=true:=by rw[lI];simp;omega
  refine inC Tryz.func28 rfl Tryz.ntmps28 ?_
  refine aGo (cj2 Zr h1') ?_
  repeat with_reducible intro K hK
  exact Zaj (by simp[Zis,h1])
 have h1':((proof.length:Int) !=((natI (Zaw t.e)).length:Int))=false:=by rw[lI];simp;omega
 have eC:Zis t f move proof=((Zaw t.e).zip proof).all (clrP t f move):=by
  unfold Zis
  rw[h1,decide_eq_true rfl,Bool.true_and];rfl
 rw[eC]
 refine inC Tryz.func28 rfl Tryz.ntmps28 ?_
 refine aGo (cj2 Zr h1') ?_
 repeat with_reducible intro K hK
 refine Zas (fun(k:Nat)=>[(1,dI find),(2,dI move),(3,ZxY proof),(4,.lp 0 0 0 0),(9,Zab (natI (Zaw t.e))),(26,Zab (natI (Zaw t.e))),(27,dI (Zaw t.e).length),(28,dI k)]) (fun k=>[(0,⟨32,0,10,[cTr t],0,false⟩)]) 1 0 (fun k=>k≤(Zaw t.e).length∧(((Zaw t.e).zip proof).take k).all (clrP t f move)=true) (fun k=>(Zaw t.e).length-k) 0 ⟨by omega,rfl⟩ ?_ ?_
 ·refine Zak _ _ _ ?_ ?_ ?_ ?_ ?_ (.inl rfl)<;>simp[go_sem,okD,okDs,Zav,lI]
 rintro k ⟨hk,ha⟩
 obtain⟨hw,h0⟩:=ZaO k
 by_cases h2:(k:Int)<(Zaw t.e).length
 rotate_left
 ·rw[Ya8 (by rw[List.length_zip];omega)]at ha
  refine aGo (cj2 Zr h2) ?_
  repeat with_reducible intro K hK
  exact Zaj ha.symm
 obtain⟨lift,hl⟩:∃ x,(Zaw t.e)[k]? =some x:=⟨_,Ya0 (by omega)⟩
 have hl2:(natI (Zaw t.e))[k]? =some (lift:Int):=by unfold natI;rw[Yb8,hl];rfl
 obtain⟨y,hy⟩:∃ y,proof[k]? =some y:=⟨_,Ya0 (by omega)⟩
 have hz:((Zaw t.e).zip proof)[k]? =some (lift,y):=by rw[List.getElem?_zip_eq_some];exact⟨hl,hy⟩
 have q1:=ZrA t h.R h.ta h.L find f hx lift
 have q2:=ZwT (ZaG t f.k lift) v y (h.sTn f.k lift) (hp y (Ya7 hy))
 have q3:=ZwT (ZaG t f.k lift) move y (h.sTn f.k lift) (hp y (Ya7 hy))
 have eP:clrP t f move (lift,y)=(ZdO (ZaG t f.k lift) v y||ZdO (ZaG t f.k lift) move y):=by rw[← ev];rfl
 generalize ZaG t f.k lift=s at *
 cases n1:ZdO s v y
 rotate_left
 ·rw[n1]at q2 eP
  refine aGo (cj4 Zr h0 h2 (cj4 hl2 hx hy (cj3 ev f0 hw))) ?_
  repeat with_reducible intro K hK
  exact Zad (k+1) ⟨by omega,ZaW hz ha (by rw[eP];rfl)⟩ (by omega) (by refine Zak _ _ _ ?_ ?_ ?_ ?_ ?_ (.inl rfl)<;>simp[go_sem,okD,okDs,Zav])
 cases n2:ZdO s move y
 rotate_left
 ·rw[n1,n2]at eP
  rw[n1]at q2
  rw[n2]at q3
  refine aGo (cj4 Zr h0 h2 (cj4 hl2 hx hy (cj3 ev f0 hw))) ?_
  repeat with_reducible intro K hK
  exact Zad (k+1) ⟨by omega,ZaW hz ha (by rw[eP];rfl)⟩ (by omega) (by refine Zak _ _ _ ?_ ?_ ?_ ?_ ?_ (.inl rfl)<;>simp[go_sem,okD,okDs,Zav])
 rw[n1,n2]at eP
 rw[n1]at q2
 rw[n2]at q3
 refine aGo (cj4 Zr h0 h2 (cj4 hl2 hx hy (cj3 ev f0 hw))) ?_
 repeat with_reducible intro K hK
 exact Zaj (ZeP hz (by rw[eP];rfl)).symm
theorem ZFk:LenT exT:=⟨⟨by decide,by decide,by decide,by decide,by decide⟩,by decide,by decide⟩
theorem ZBx:TrOk exT:=⟨ZbI,ZAw,ZFk,⟨by decide,by decide,by decide,by decide⟩,by decide⟩
theorem ZlU:FiOk exT 0 exF:=⟨ZbI,⟨by decide,by decide,by decide,by decide⟩,ZAw,ZFk,rfl⟩
theorem Zsr{t:TrD}{find:Nat}{f:FiD}(h:FiOk t find f){move:Nat}(hm:move<t.e.mv.length):∀ y∈Zgf t f move,tnFs y:=by
 intro y hy
 obtain⟨lift,_,rfl⟩:=Yc6.1 hy
 have hv:=(h.R.fi f (Ya7 h.x)).1
 unfold ZiI
 split
 ·exact h.yTn f.k lift (by omega) (by omega)
 ·exact h.yTn f.k lift hv.1 hv.2
theorem Zqh:Zah Tryz.prog 5 [] (dB true):=by
 have Zr:=Tryz.results5
 have k1:=Zl5
 have k2:=Zmh ZBx (kind:=0) (by decide)
 have k3:=Zxb exT 0 exF ZlU
 have k4:=ZA4 exT 0 exF ZlU
 have k5:=ZCq exT 0 exF ZlU 4 (by decide) (by rw[ZxS];exact ZBv)
 have k6:=ZAs ZBx (kind:=0) (by decide)
 have pl:(Zgf exT exF 4).length≤4096:=by unfold Zgf;rw[Yc0];exact(by decide +kernel:(Zaw exE).length≤4096)
 have c1:=ZtF exT 0 exF ZlU 4 (by decide) (Zgf exT exF 4) (Zsr ZlU (by decide)) pl
 have c2:=ZtF exT 0 exF ZlU 3 (by decide) (Zgf exT exF 4) (Zsr ZlU (by decide)) pl
 rw[Ztk.1]at c1
 rw[Ztk.2]at c2
 rw[ZpR,ZxR]at k3
 rw[ZDj]at k4
 rw[ZFi]at k6
 obtain⟨a,b,ev,ha,hb,_,_⟩:=ZlR
 rw[ev]at k2
 have s1:=Zno [0,2,3] [0,2,3] (by decide) (by decide)
 have s2:=Zno [4,5] [4,5] (by decide) (by decide)
 have s3:=Zno [3] [3] (by decide) (by decide)
 have s4:=Zno [0] [0] (by decide) (by decide)
 have b1:(([0,2,3]:List Int)==[0,2,3])=true:=by decide
 have b2:(([4,5]:List Int)==[4,5])=true:=by decide
 have b3:(([3]:List Int)==[3])=true:=by decide
 have b4:(([0]:List Int)==[0])=true:=by decide
 rw[b1]at s1
 rw[b2]at s2
 rw[b3]at s3
 rw[b4]at s4
 generalize Zgf exT exF 4=pr at *
 generalize exT=X at *
 refine inC Tryz.func5 rfl Tryz.ntmps5 ?_
 exact aGo (cj3 Zr ha hb) trivial
theorem Zp5(b:List Int)(f:Nat):∀ (k:Nat)(l:List Nat),(Zmd b f k l).length≤l.length+k
 | 0,l=>Ya4 _
 | k+1,l=>by
   unfold Zmd
   split
   ·omega
   ·have:=Zp5 b f k (((b[l.headD 0]?).getD 0).toNat ::l)
    rw[List.length_cons]at this
    omega
theorem ZxG{e:EvD}{blk:Nat→Bool}:∀ (l:List Nat)(a:Nat),a<e.mv.length→Fol e blk (a ::l)→∀ m∈a ::l,m<e.mv.length
 | [],a,ha,_,m,hm=>by rw[List.mem_singleton.1 hm];exact ha
 | b ::l,a,ha,h,m,hm=>by
   rcases List.mem_cons.1 hm with rfl|hm
   ·exact ha
   ·exact ZxG l b h.1.n h.2 m hm
theorem Zst{e:EvD}{blk:Nat→Bool}{from' dst:Nat}(hf:from'<e.mv.length)(hd:dst<e.mv.length):(∀ m∈Zdo e blk from' dst,m<e.mv.length)∧(Zdo e blk from' dst).length≤e.mv.length+1:=by
 unfold Zdo
 split
 ·exact⟨fun m hm=>(by cases hm),by simp⟩
 split
 ·exact⟨fun m hm=>(by cases hm),by simp⟩
 ·rename_i hs
  obtain⟨I,_⟩:=Zyu (dst:=dst) (e.mv.length+1) (ZcO e.mv.length from') 0 (Zk4 (blk:=blk) hf) (fun m hm=>by cases hm) (by omega)
  obtain⟨l',h1,h2⟩:=I.backOk e.mv.length dst [] ((I.seen dst hd).1 hs) (by omega) trivial
  have hl:=Zp5 (bfsQ e blk dst (e.mv.length+1) (ZcO e.mv.length from') 0).1 from' e.mv.length [dst]
  rw[h1]at hl ⊢
  exact⟨ZxG l' from' hf h2,by simpa[Nat.add_comm]using hl⟩
theorem ZsF(l:List Nat)(i:Nat):(natI l).any (fun y=>y==(i:Int))=l.contains i:=by
 rw[Bool.eq_iff_iff,List.any_eq_true,List.contains_iff_mem]
 unfold natI
 constructor
 ·rintro⟨y,hy,he⟩
  obtain⟨x,hx,rfl⟩:=Yc6.1 hy
  have : x = i := by have h2 : (x : Int) = i := by simpa using he
                     omega
  subst this;exact hx
 ·intro h;exact⟨_,Yc6.2 ⟨i,h,rfl⟩,by simp⟩
def bkK(n:Nat)(b:Nat→Bool)(k:Nat):List Bool:=(List.range n).map fun i=>if i<k then b i else false
theorem Zrv(n:Nat)(b:Nat→Bool)(k:Nat):(bkK n b k).length=n:=by simp[bkK]
theorem ZAS(n:Nat)(b:Nat→Bool):bkK n b 0=List.replicate n false:=by
 unfold bkK
 apply List.ext_getElem<;>simp
theorem ZAT(e:EvD)(b:Nat→Bool):bkK e.mv.length b e.mv.length=blkL e b:=by
 unfold bkK blkL
 refine List.map_congr_left fun i hi=>?_
 rw[if_pos (Yd2.1 hi)]
theorem ZDz(n:Nat)(b:Nat→Bool)(k:Nat):(bkK n b k).set k (b k)=bkK n b (k+1):=by
 apply List.ext_getElem?
 intro p
 rw[List.getElem?_set,Zrv]
 unfold bkK
 rw[Yb8,Yb8]
 by_cases hp:p<n
 ·rw[List.getElem?_range hp]
  by_cases h:k=p
  ·subst h;rw[if_pos rfl,if_pos hp];simp
  ·rw[if_neg h]
   simp only[Yd0,Ya1]
   by_cases h2:p<k
   ·rw[if_pos h2,if_pos (by omega)]
   ·rw[if_neg h2,if_neg (by omega)]
 ·rw[List.getElem?_eq_none (by simpa using hp)]
  by_cases h:k=p
  ·rw[if_pos h,if_neg (by omega)];rfl
  ·rw[if_neg h];rfl
def bkD(n:Nat)(b:Nat→Bool)(k:Nat):List (List D):=(bkK n b k).map fun x=>[dB x]
theorem ZBC(keep:Nat→Bool)(n:Nat)(b:Nat→Bool)(k:Nat):∀ e∈bkD n b k,okDs keep e=true:=fun e he=>by
 obtain⟨x,_,rfl⟩:=Yc6.1 he
 rfl
theorem ZDB(n:Nat)(b:Nat→Bool)(k:Nat):(bkD n b k).length=n:=by unfold bkD;rw[Yc0,Zrv]
theorem ZFt{n:Nat}{b:Nat→Bool}{k i:Nat}(h:i<n):∃ y,(bkD n b k)[i]? =some [dB y]:=by
 obtain⟨y,hy⟩:∃ y,(bkK n b k)[i]? =some y:=⟨_,Ya0 (by rw[Zrv];omega)⟩
 exact⟨y,by unfold bkD;rw[Yb8,hy];rfl⟩
theorem ZDA(n:Nat)(b:Nat→Bool)(k:Nat):(bkD n b k).set k [dB (b k)]=bkD n b (k+1):=by unfold bkD;rw[← ZDz,List.map_set]
theorem ZAU(n:Nat)(b:Nat→Bool):List.replicate n [dB false]=bkD n b 0:=by unfold bkD;rw[ZAS,List.map_replicate]
theorem ZAV(e:EvD)(b:Nat→Bool):bkD e.mv.length b e.mv.length=(blkL e b).map fun x=>[dB x]:=by unfold bkD;rw[ZAT]
def ZcZ{α:Type}(p:α→Bool)(l:List α)(k:Nat):Bool:=(l.take k).any p
theorem Zj2{α:Type}{p:α→Bool}{l:List α}{k:Nat}{x:α}(h:l[k]? =some x):ZcZ p l (k+1)=(ZcZ p l k||p x):=by
 unfold ZcZ
 rw[Yb4,h,List.any_append]
 simp
theorem Zgt{α:Type}(p:α→Bool)(l:List α):ZcZ p l l.length=l.any p:=by unfold ZcZ;rw[Yc2]
set_option maxHeartbeats 16000000
theorem Zqu{t:TrD}{mv:Int}(h:ZfR t mv=true):(t.e.mv.length:Int)≤mv∧t.e.pl.length≤12∧t.e.ce.length≤10∧t.e.re.length≤4∧t.e.pu.length≤6∧t.fi.length≤6∧t.cl.length≤6∧t.e.h≤4:=by
 simp only[ZfR,Zdv,Ya2,Bool.not_eq_true',Bool.or_eq_false_iff,decide_eq_false_iff_not,decide_eq_true_eq]at h
 omega
theorem Zt9(t:TrD)(find:Int):Zah Tryz.prog 4 [ZcL t,dI find] (dB true):=by
 have Zr:=Tryz.results4
 have k0:=Zqh
 have k1:=ZvL t 6
 refine inC Tryz.func4 rfl Tryz.ntmps4 ?_
 cases h1:ZfR t 6
 ·rw[h1]at k1
  exact aGo Zr trivial
 rw[h1]at k1
 obtain⟨b1,b2,b3,b4,b5,b6,b7,_⟩:=Zqu h1
 have L:LenT t:=⟨⟨by omega,by omega,by omega,by omega,by omega⟩,by omega,by omega⟩
 have k2:=ZkY t L
 by_cases h2:ZbX t=0
 rotate_left
 ·have h2':(ZbX t !=0)=true:=by simpa using h2
  exact aGo (cj2 Zr h2') trivial
 rw[h2]at k2
 by_cases h3:find<0
 ·exact aGo (cj2 Zr h3) trivial
 by_cases h4:find≥t.fi.length
 ·exact aGo (cj3 Zr h3 h4) trivial
 obtain⟨fi,rfl⟩:∃ fi:Nat,find=fi:=⟨find.toNat,by omega⟩
 obtain⟨f,hfx⟩:∃ f,t.fi[fi]? =some f:=⟨_,Ya0 (by omega)⟩
 have R:=Znk h2
 have F:FiOk t fi f:=⟨R,⟨by omega,by omega,by omega,by omega⟩,h2,L,hfx⟩
 have c1:=ZA4 t fi f F
 have c2:=Zxb t fi f F
 have c3:=ZwB t fi f F
 have hsm:∀ i∈Ziw t f,i<t.e.mv.length:=fun i hi=>((ZkH R).1 hi).1
 have hom:∀ o∈(ZaN t f).map ResD.l,o<t.e.mv.length:=fun o ho=>by
  obtain⟨r,hr,rfl⟩:=Yc6.1 ho
  obtain⟨a,ha,_,rfl⟩:=Zc5 R hr
  exact ha
 have hsl:(Ziw t f).length≤6:=by
  unfold Ziw ZhU
  have h1:=Yb1 (fun i=>Zch t.e (mvAt t.e i).t==5) ((List.range t.e.mv.length).filter fun i=>hasR (ZaN t f) i)
  have h2:=Yb1 (fun i=>hasR (ZaN t f) i) (List.range t.e.mv.length)
  rw[List.length_range]at h2
  omega
 have hol:((ZaN t f).map ResD.l).length≤4096:=by rw[Yc0];have:=Zep t f;omega
 have hpl:(Zgh t f).length≤20:=by
  unfold Zgh
  have h2:=Yb1 (fun p=>hasR (ZaN t f) (t.e.mv.length+p)) (List.range t.e.pl.length)
  rw[List.length_range]at h2
  omega
 have hsb:=fun {p:Nat} {pl:PlD} (hp:t.e.pl[p]? =some pl) (hk:pl.k=5)=>Zt7 (f:=f) R hp hk
 have hsn:=fun {p:Nat} {pl:PlD} (hp:t.e.pl[p]? =some pl) (hk:pl.k≠5)=>Zy2 (f:=f) R hp hk
 have hfa:=fun {i:Nat} (hi:i∈Ziw t f)=>ZxD R hi
 have kb:=fun(i:Nat) (hi:i<t.e.mv.length)=>Zys t L f.k i hi
 have ki:=fun p:Int=>ZET t.e L.e p t.e.mv.length
 simp only[if_pos (ZhZ h2).1]at ki
 have hfi0:(0:Int)≤fi:=by omega
 obtain⟨b,hb⟩:∃ b,blkT t f.k=b:=⟨_,rfl⟩
 simp only[Zt8,ZxE,Zsu,hb]at hsb hsn hfa kb
 generalize Ziw t f=sold at *
 generalize (ZaN t f).map ResD.l=orgs at *
 generalize Zgh t f=places at *
 refine aGo (cj3 Zr h3 h4) ?_
 repeat with_reducible intro K hK
 clear k0 k1 k2 c1 c2 c3
 -- the moves that are blocked
 refine Zas (fun(k:Nat)=>[(1,dI fi),(2,.lp 0 0 0 0),(5,dB true),(6,.lp 1 0 0 0),(7,Zab (natI sold)),(10,Zab (natI places)),(12,Zab (natI orgs)),(14,.ls 2 1),(15,dI k)])
  (fun k=>[(0,⟨32,0,10,[cTr t],0,false⟩),(1,⟨28,0,8,[cEv t.e],0,false⟩),(2,⟨4,1,1,bkD t.e.mv.length b k,0,false⟩)]) 3 0 (fun k=>k≤t.e.mv.length) (fun k=>t.e.mv.length-k) 0 (Yb0 _) ?_ ?_
 ·have e0:=ZAU t.e.mv.length b
  refine Zak _ _ _ ?_ ?_ ?_ ?_ ?_ (.inl rfl)<;>simp[go_sem,okD,okDs,Zav,e0]<;>exact ZBC _ _ _ _
 rintro k hk
 have hw:IntKind.i64.wrap ((k:Int)+1)=((k+1:Nat):Int):=Zax (by omega) (by omega)
 have k0:(0:Int)≤k:=by omega
 have lB:=ZDB t.e.mv.length b k
 by_cases g1:(k:Int)<t.e.mv.length
 ·have kbk:=kb k (by omega)
  have hset:=ZDA t.e.mv.length b k
  obtain⟨y,hy⟩:=ZFt (n:=t.e.mv.length) (b:=b) (k:=k) (i:=k) (by omega)
  have z0:0≤k:=Yb0 _
  refine aGo (cj4 Zr g1 k0 (cj4 lB hy hfi0 (cj3 hfx z0 hw))) ?_
  repeat with_reducible intro K hK
  exact Zad (k+1) (by omega) (by omega) (by refine Zak _ _ _ ?_ ?_ ?_ ?_ ?_ (.inl rfl)<;>simp[go_sem,okD,okDs,Zav,hset]<;>exact ZBC _ _ _ _)
 obtain rfl:k=t.e.mv.length:=by omega
 have hfull:=ZAV t.e b
 have kp:=fun(o s:Nat) (ho:o<t.e.mv.length) (hs:s<t.e.mv.length)=>ZEy t.e b o s ho hs (by omega)
 have kfol:=fun(o s:Nat) (ho:o<t.e.mv.length) (hs:s<t.e.mv.length) (hne:Zdo t.e b o s≠[])=>ZxF t.e b (by omega) (Zdo t.e b o s) hne (Zst ho hs).1 (by have:=(Zst (blk:=b) ho hs).2;omega)
 have hfol:∀ o s,Zdo t.e b o s≠[]→Ze5 t.e b (Zdo t.e b o s)=folB t.e b none (Zdo t.e b o s):=fun o s h=>by
  unfold Ze5
  cases hp:Zdo t.e b o s with
  | nil=>exact absurd hp h
  | cons a l=>simp
 generalize blkL t.e b=bl at *
 clear kb
 rw[hfull]at lB
 rw[hfull]
 refine aGo (cj3 Zr g1 lB) ?_
 repeat with_reducible intro K hK
 refine aLe (Zdz 2 rfl) (aLe (ZlF 14 3) ?_)
 have hz:∀ (M:Mem)(n:Nat),List.map (List.map (fzT false M (n+1))) (bl.map fun x=>[dB x])=bl.map fun x=>[dB x]:=fun M n=>Zao (fun _=>rfl) _
 -- the places
 refine Zas (fun(p:Nat)=>[(5,dB true),(6,.lp 1 0 0 0),(7,Zab (natI sold)),(10,Zab (natI places)),(12,Zab (natI orgs)),(14,Zjd bl),(16,dI p)])
  (fun _=>[(1,⟨28,0,8,[cEv t.e],0,false⟩)]) 2 0 (fun p=>p≤t.e.pl.length) (fun p=>t.e.pl.length-p) 0 (Yb0 _) ?_ ?_
 ·refine Zak _ _ _ ?_ ?_ ?_ ?_ ?_ (.inl rfl)<;>simp[go_sem,okD,okDs,Zav,hz]
 clear hz hfull lB g1
 have lS:(natI sold).length=sold.length:=by simp[natI]
 have lP:(natI places).length=places.length:=by simp[natI]
 have lO:(natI orgs).length=orgs.length:=by simp[natI]
 obtain⟨sc,hsc⟩:∃ sc:Nat→Bool,(fun i=>sold.contains i)=sc:=⟨_,rfl⟩
 have kh:∀ x:Nat,Zaa Tryz.prog 22 [Zab (natI sold),dI x] (dB (sc x)):=fun x=>by
  have h:=ZEW (natI sold) x (by omega)
  rw[ZsF]at h
  rwa [← congrFun hsc x]
 have khp:∀ x:Nat,Zaa Tryz.prog 22 [Zab (natI places),dI x] (dB (places.contains x)):=fun x=>by
  have h:=ZEW (natI places) x (by omega)
  rwa [ZsF]at h
 simp only[hsc]at hsb hsn
 rintro p hp
 have hwp:IntKind.i64.wrap ((p:Int)+1)=((p+1:Nat):Int):=Zax (by omega) (by omega)
 have p0:(0:Int)≤p:=by omega
 by_cases q1:(p:Int)<t.e.pl.length
 ·obtain⟨pl,hpl'⟩:∃ pl,t.e.pl[p]? =some pl:=⟨_,Ya0 (by omega)⟩
  have kip:Zaa Tryz.prog 21 [Zfd t.e,dI p,dI t.e.mv.length] (Zab (natI (ZlK t.e p))):=ki p
  have hs1:pl.k=5→ZcZ sc (ZlK t.e p) (ZlK t.e p).length=places.contains p:=fun h=>by rw[Zgt];exact hsb hpl' h
  have hs2:pl.k≠5→ZcZ sc (ZlK t.e p) (ZlK t.e p).length=false:=fun h=>by rw[Zgt];exact hsn hpl' h
  have hil:(ZlK t.e p).length≤6:=by
   have h:=Yb1 (fun(i:Nat)=>decide ((i:Int)<(t.e.mv.length:Int))&&(mvAt t.e i).t==(p:Int)) (List.range t.e.mv.length)
   rw[List.length_range]at h
   have e:ZlK t.e p=(List.range t.e.mv.length).filter (fun(i:Nat)=>decide ((i:Int)<(t.e.mv.length:Int))&&(mvAt t.e i).t==(p:Int)):=rfl
   rw[e];omega
  generalize ZlK t.e p=into at *
  have lI:(natI into).length=into.length:=by simp[natI]
  have khpp:=khp p
  refine aGo (cj3 Zr q1 p0) ?_
  repeat with_reducible intro K hK
  refine Zas (fun(i:Nat)=>[(5,dB true),(6,.lp 1 0 0 0),(7,Zab (natI sold)),(10,Zab (natI places)),(12,Zab (natI orgs)),(14,Zjd bl),(16,dI p),(17,Zab (natI into)),(18,dB (ZcZ sc into i)),(19,dI i)])
   (fun _=>[(1,⟨28,0,8,[cEv t.e],0,false⟩)]) 2 0 (fun i=>i≤into.length) (fun i=>into.length-i) 0 (Yb0 _) ?_ ?_
  ·have e0:ZcZ sc into 0=false:=rfl
   exact leGo e0
  rintro i hi
  have hwi:IntKind.i64.wrap ((i:Int)+1)=((i+1:Nat):Int):=Zax (by omega) (by omega)
  have i0:(0:Int)≤i:=by omega
  by_cases u1:(i:Int)<into.length
  ·obtain⟨x,hx⟩:∃ x,into[i]? =some x:=⟨_,Ya0 (by omega)⟩
   have hxN:(natI into)[i]? =some (x:Int):=by unfold natI;rw[Yb8,hx];rfl
   have eK:=Zj2 (p:=sc) hx
   have khx:=kh x
   cases hs:ZcZ sc into i
   ·rw[hs,Bool.false_or]at eK
    refine aGo (cj4 Zr u1 i0 (cj3 lI hxN hwi)) ?_
    repeat with_reducible intro K hK
    exact Zad (i+1) (by omega) (by omega) (by exact leGo eK)
   ·rw[hs,Bool.true_or]at eK
    refine aGo (cj4 Zr u1 i0 (cj3 lI hxN hwi)) ?_
    repeat with_reducible intro K hK
    exact Zad (i+1) (by omega) (by omega) (by exact leGo eK)
  obtain rfl:i=into.length:=by omega
  by_cases v1:pl.k=5
  ·have v1':(pl.k==5)=true:=by rw[v1];rfl
   have v2':(pl.k !=5)=false:=by rw[v1];rfl
   rw[hs1 v1]
   cases hc:places.contains p
   ·rw[hc]at khpp
    refine aGo (cj4 Zr u1 lI (cj4 p0 hpl' v1' (cj2 v2' hwp))) ?_
    repeat with_reducible intro K hK
    exact Zad (p+1) (by omega) (by omega) (by exact leGo trivial)
   ·rw[hc]at khpp
    refine aGo (cj4 Zr u1 lI (cj4 p0 hpl' v1' (cj2 v2' hwp))) ?_
    repeat with_reducible intro K hK
    exact Zad (p+1) (by omega) (by omega) (by exact leGo trivial)
  ·have v1':(pl.k==5)=false:=by simpa using v1
   have v2':(pl.k !=5)=true:=by simpa using v1
   rw[hs2 v1]
   refine aGo (cj4 Zr u1 lI (cj4 p0 hpl' v1' (cj2 v2' hwp))) ?_
   repeat with_reducible intro K hK
   exact Zad (p+1) (by omega) (by omega) (by exact leGo trivial)
 obtain rfl:p=t.e.pl.length:=by omega
 clear hsb hsn kh khp ki
 refine aGo (cj2 Zr q1) ?_
 repeat with_reducible intro K hK
 -- the loads that are sold
 refine Zas (fun(i:Nat)=>[(5,dB true),(6,.lp 1 0 0 0),(7,Zab (natI sold)),(12,Zab (natI orgs)),(14,Zjd bl),(20,dI i)])
  (fun _=>[(1,⟨28,0,8,[cEv t.e],0,false⟩)]) 2 0 (fun i=>i≤sold.length) (fun i=>sold.length-i) 0 (Yb0 _) ?_ ?_
 ·exact leGo trivial
 rintro i hi
 have hwi:IntKind.i64.wrap ((i:Int)+1)=((i+1:Nat):Int):=Zax (by omega) (by omega)
 have i0:(0:Int)≤i:=by omega
 by_cases u1:(i:Int)<sold.length
 rotate_left
 ·exact aGo (cj3 Zr u1 lS) trivial
 obtain⟨s,hs⟩:∃ s,sold[i]? =some s:=⟨_,Ya0 (by omega)⟩
 have hsN:(natI sold)[i]? =some (s:Int):=by unfold natI;rw[Yb8,hs];rfl
 have hsmem:=Ya7 hs
 have hslt:=hsm s hsmem
 obtain⟨fo,hfo⟩:∃ fo:Nat→Bool,(fun o=> !(Zdo t.e b o s).isEmpty&&Ze5 t.e b (Zdo t.e b o s))=fo:=⟨_,rfl⟩
 have hfull:ZcZ fo orgs orgs.length=true:=by rw[Zgt,← hfo];exact hfa hsmem
 refine aGo (cj3 Zr u1 lS) ?_
 repeat with_reducible intro K hK
 refine Zas (fun(k:Nat)=>[(5,dB true),(6,.lp 1 0 0 0),(7,Zab (natI sold)),(12,Zab (natI orgs)),(14,Zjd bl),(20,dI i),(21,dB (ZcZ fo orgs k)),(22,dI k)])
  (fun _=>[(1,⟨28,0,8,[cEv t.e],0,false⟩)]) 2 0 (fun k=>k≤orgs.length) (fun k=>orgs.length-k) 0 (Yb0 _) ?_ ?_
 ·have e0:ZcZ fo orgs 0=false:=rfl
  exact leGo e0
 rintro k hk
 have hwk:IntKind.i64.wrap ((k:Int)+1)=((k+1:Nat):Int):=Zax (by omega) (by omega)
 have k0:(0:Int)≤k:=by omega
 by_cases w1:(k:Int)<orgs.length
 rotate_left
 ·obtain rfl:k=orgs.length:=by omega
  rw[hfull]
  refine aGo (cj4 Zr w1 lO hwi) ?_
  repeat with_reducible intro K hK
  exact Zad (i+1) (by omega) (by omega) (by exact leGo trivial)
 obtain⟨o,ho⟩:∃ o,orgs[k]? =some o:=⟨_,Ya0 (by omega)⟩
 have hoN:(natI orgs)[k]? =some (o:Int):=by unfold natI;rw[Yb8,ho];rfl
 have holt:=hom o (Ya7 ho)
 have kpo:=kp o s holt hslt
 have eK:=Zj2 (p:=fo) ho
 have hfoo:fo o=(!(Zdo t.e b o s).isEmpty&&Ze5 t.e b (Zdo t.e b o s)):=(congrFun hfo o).symm
 rw[hfoo]at eK
 by_cases hne:Zdo t.e b o s=[]
 ·rw[hne]at eK kpo
  have e1:(!([]:List Nat).isEmpty&&Ze5 t.e b [])=false:=rfl
  rw[e1,Bool.or_false]at eK
  have e2:natI []=[]:=rfl
  rw[e2]at kpo
  generalize ZcZ fo orgs k=T1 at *
  cases T1
  ·refine aGo (cj4 Zr w1 lO (cj4 k0 i0 hoN (cj2 hsN hwk))) ?_
   repeat with_reducible intro K hK
   exact Zad (k+1) (by omega) (by omega) (by exact leGo eK)
  ·refine aGo (cj4 Zr w1 lO (cj4 k0 i0 hoN (cj2 hsN hwk))) ?_
   repeat with_reducible intro K hK
   exact Zad (k+1) (by omega) (by omega) (by exact leGo eK)
 have kf:=kfol o s holt hslt hne
 have hF:=hfol o s hne
 have hie:(Zdo t.e b o s).isEmpty=false:=by rw[List.isEmpty_eq_false_iff];exact hne
 rw[hF,hie,Bool.not_false,Bool.true_and]at eK
 have hpos:((natI (Zdo t.e b o s)).length:Int)>0:=by
  cases hp:Zdo t.e b o s with
  | nil=>exact absurd hp hne
  | cons a l=>simp[natI]<;>omega
 generalize ZcZ fo orgs k=T1 at *
 generalize folB t.e b none (Zdo t.e b o s)=T2 at *
 generalize natI (Zdo t.e b o s)=PA at *
 cases T1
 ·rw[Bool.false_or]at eK
  refine aGo (cj4 Zr w1 lO (cj4 k0 i0 hoN (cj3 hsN hpos hwk))) ?_
  repeat with_reducible intro K hK
  exact Zad (k+1) (by omega) (by omega) (by exact leGo eK)
 ·rw[Bool.true_or]at eK
  refine aGo (cj4 Zr w1 lO (cj4 k0 i0 hoN (cj3 hsN hpos hwk))) ?_
  repeat with_reducible intro K hK
  exact Zad (k+1) (by omega) (by omega) (by exact leGo eK)
end Go.Proofs.YtjeaacindikplaaGreat
