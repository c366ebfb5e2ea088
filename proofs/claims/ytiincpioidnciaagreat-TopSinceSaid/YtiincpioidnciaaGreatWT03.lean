/-
  The walk of a round's body as far as it goes, as one rule (as aGo).
-/
import Derived.Test.YtiincpioidnciaaGreatWLib
import Derived.Test.YtiincpioidnciaaGreatWConv
import Derived.Test.YtiincpioidnciaaGreatWT02
import Derived.Shelf.Sort.Plain
import Derived.Shelf.Slices.In.SortNone
import Derived.Shelf.Slices.CompactI
import Derived.Shelf.SlSortCmp.WholeK
import Derived.Shelf.SlSortCmp.NoneTotal
import Derived.Shelf.SlicesG.Cmp
import Derived.Test.YtiincpioidnciaaGreatWT00
import Derived.Test.YtiincpioidnciaaGreatWT01
namespace Go.Proofs.YtiincpioidnciaaGreat
set_option linter.unusedVariables false
set_option linter.unusedSimpArgs false
set_option linter.unusedSectionVars false
open Go Go.RowKit
section ifl
variable [Ifl]
theorem rGo{F Y X:Prop}(f:F)(y:Y)(h:F→Keep Y→X:=by
 intro hf y
 repeat(first
  | (refine hI _ ?_;clear hI;clear KI)
  | (refine hK _ ?_;try clear hK;try clear K)
  | ((with_reducible apply useK);(with_reducible assumption))
  | (refine rSeq fun KI hI=>?_)
  | (refine ZAR ?_)
  | (refine rSkip ?_)
  | (refine rExit ?_)
  | (refine rOps _ rfl (by kernel_rfl) ?_)
  | (refine ZAO rfl ?hc ?_;case hc=>simp only[go_sem,↓reduceIte,beq_self_eq_true,bne_self_eq_false,hf])
  | (refine ZAP rfl ?hc ?_;case hc=>simp only[go_sem,↓reduceIte,beq_self_eq_true,bne_self_eq_false,hf])
  | ((with_reducible apply ZcU);(first|with_reducible assumption|assumption);rotate_left;(first|((repeat(refine Zap rfl ?_));exact Zas)|(refine Zdb ?_;(repeat(refine ZbO rfl ?_));exact ZbP _)))
  | ((with_reducible apply ZbH);(first|with_reducible assumption|assumption))
  | (simp only[go_sem,↓reduceIte,beq_self_eq_true,bne_self_eq_false,hf])
  | (refine And.intro ?ho ?_;(case ho=>omega))
  | (clear hI;clear KI))
 repeat(first|(revert hE;revert KE)|(revert hI;revert KI))
 first|done|exact y.out):X:=h f ⟨y⟩
end ifl
theorem Zaa.ofR{P:Program}{f:FuncId}{ds:List D}{d:D}(h:∀ I:Ifl,I.r=true→@Zar I P f ds noM 0 fun d' m' _=>fzT true m' 8 d'=d):Zaa P f ds d :=
 ⟨(h Ifl.off rfl).1,fun S w vs hf hvs=>@Zar.toC Ifl.off _ _ _ _ (h Ifl.off rfl) S w vs hf (fun e=>by cases e) hvs⟩
section
variable [Ifl]
theorem ZdD{P:Program}{n rid:Nat}{Q:Exit→St→Prop}{s:St}{o1 o2:Oper}{T e:TypeId}{es:List (List D)}(hu:P.underlying T=some (.slice e))
 (g1:o1.guard=none) (g2:o2.guard=none) (d1:o1.dst=some 3) (d2:o2.dst=some 4) (p1:o1.op = .move (.tmp 0)) (p2:o2.op = .binOp .eql T (.tmp 3) (.const (.slice none 0 0)) T)
 (hf1:Zbz n o1=true) (hn':decide (4<n)=true) (h0:s.t 0 = .sl es)
 (hnil:es=[]→Q .normal {s with t:=upd (upd s.t 3 (.sl es)) 4 (dB true)}) (hnot:Q .normal {s with t:=upd (upd s.t 3 (.sl es)) 4 (dB false)}) :
 AWP P n (.region rid #[o1,o2] false) Q s:=by
 have hn:4<n:=of_decide_eq_true hn'
 intro E B β a w hr
 refine wp_region_lit (l:=[o1,o2]) ?_
 refine wpList_plain g1 fun K1 hK1=>Zni (K:=fun s'=>s'={s with t:=upd s.t 3 (.sl es)}) hf1 hr ?_ ?_
 ·unfold opA
  rw[p1,d1]
  simp only[opF,rd,h0,Res.pure,putT,ov,List.length_nil,Nat.add_zero]
  exact⟨trivial,.inl trivial,trivial⟩
 rintro s1 β1 a1 w1 r1 rfl
 refine hK1 _ _ ?_
 have t3:Rep β1 s.m (safe E β1 s.m) w1 (a1.eval (.tmp 3)) (.sl es):=r1.tmp 3 (by omega)
 obtain⟨a,cap,e3,hc1,hc2,hcase⟩:=t3.inv_sl
 have hrun:(execOp a1.eval o2).run P w1 = .ok (.value (.bool a.isNone)) w1:=by
  unfold execOp
  rw[p2]
  have hb:=Lib.run_eql_slice_nil (P:=P) w1 T e a es.length cap 0 0 hu
  have ec:a1.eval (.const (.slice none 0 0)) = .slice none 0 0:=rfl
  simp only[e3,ec]
  simp[eqGuard,hb]
 refine wpList_plain g2 fun K2 hK2=>?_
 unfold Oper.wp
 rw[hrun]
 show K2 (a1.put o2.dst (.bool a.isNone)) w1
 refine hK2 _ _ (wpList_nil ?_)
 obtain⟨β3,r3⟩:=r1.put (dst:=o2.dst) (ZbU.same r1.mem (.v (.bool a.isNone)))
 rw[d2]at r3 ⊢
 cases a with
 | none =>
   have hes:es=[]:=by
    rcases hcase with h|⟨b,off,k,h,_⟩
    ·exact h
    ·cases h
   exact⟨_,β3,r3,hnil hes⟩
 | some A=>exact⟨_,β3,r3,hnot⟩
end
section ifl
variable [Ifl]
end ifl
open Go Go.RowKit Go.Shelf
set_option maxRecDepth 100000
theorem Zw1{w:World}{b:Nat}(f:Array Value→Array Value){cs:Array Value}{T:TypeId}{fr:Nat×Nat}(h:w.heap[b]? =some (.cells cs T fr)):(Sort.mapBlock w b f).heap[b]? =some (.cells (f cs) T fr):=by
 unfold Sort.mapBlock
 simp only[Array.getElem?_modify,if_true,h,Yd0,Sort.onCells]
theorem Zph{w:World}{b k:Nat}(f:Array Value→Array Value)(h:k≠b):(Sort.mapBlock w b f).heap[k]? =w.heap[k]?:=by
 unfold Sort.mapBlock
 simp only[Array.getElem?_modify,if_neg (Ne.symm h)]
theorem Zmc(w:World)(b:Nat)(f:Array Value→Array Value):(Sort.mapBlock w b f).heap.size=w.heap.size:=by
 unfold Sort.mapBlock;simp
theorem Zsf(w:World)(os:Array Obj):Below w.heap.size w (Sort.grow w os):=by
 refine⟨rfl,rfl,rfl,?_,fun k hk=>?_⟩
 ·unfold Sort.grow;simp
 ·unfold Sort.grow;simp only;exact Array.getElem?_append_left hk
section ifl
variable [Ifl]
theorem Zo8{α:Type}[Inhabited α](enc:α→Value){E β m nx w}(h:ZaK E β m nx w){id b:Nat}{blk blk':Blk}(hm0:m id=some blk)(hb0:β id=some b)(hfz:blk.fz=0)(hdead:blk.dead=false)(hT:blk'.T=blk.T)(hk:blk'.k=blk.k)(hz':blk'.fz=0)(hv:blk.ver≤blk'.ver)(hver:blk'.ver=blk.ver→blk'.es.length=blk.es.length)
 (vals:Array α) (hsz:blk'.es.length≤blk.es.length) (hwid:∀ (i:Nat)(e:List D),blk'.es[i]? =some e→e.length=blk.k)
 (hval:∀ (i j:Nat)(d:D),cellAt blk'.es i j=some d→∃ u,vals[i*blk.k+j]? =some u∧Rep β m (safe E β m) w (enc u) d)
 (n:Nat) (os:Array Obj) {w':World} (hw':w'=Sort.grow (Sort.putRow enc (Sort.ahead w n) b 0 vals) os) :
 ZaK E β (upd m id (some blk')) nx w'∧Za7 β m w β (upd m id (some blk')) w'∧Zaw (safe E β m) w (safe E β (upd m id (some blk'))) w':=by
 obtain⟨hB,cs,hcs,hlen,_⟩:=h.row id _ b hm0 hb0
 obtain⟨w1,e1⟩:∃ w1,Sort.putRow enc (Sort.ahead w n) b 0 vals=w1:=⟨_,rfl⟩
 have hw1:w1.heap[b]? =some (.cells (Sort.putCells enc 0 vals cs) blk.T (0,0)):=by rw[← e1];exact Zw1 (w:=Sort.ahead w n) _ hcs
 have hne:∀ k,k≠b→w1.heap[k]? =w.heap[k]?:=fun k hk=>by rw[← e1];exact Zph (w:=Sort.ahead w n) _ hk
 have hs1:w1.heap.size=w.heap.size:=by rw[← e1];exact Zmc (Sort.ahead w n) b _
 have hcell:∀ i j d,cellAt blk'.es i j=some d→∃ u,(Sort.putCells enc 0 vals cs)[i*blk.k+j]? =some u∧Rep β m (safe E β m) w u d:=fun i j d hd=>by
  obtain⟨u,hu,hr⟩:=hval i j d hd
  refine⟨enc u,?_,hr⟩
  have hi:=Zn8 hd
  have hj:=ZdH hwid hd
  have hlt:=ZiD hi hj
  have hmul:=Nat.mul_le_mul_right blk.k hsz
  have hul:=(Ya5.1 hu)
  obtain⟨hul,hue⟩:=hul
  unfold Sort.putCells
  rw[Array.getElem?_mapIdx,Yb5 (by omega),Yd0,if_pos ⟨Yb0 _,by omega⟩,Nat.sub_zero,getElem!_pos vals _ hul,hue]
 obtain ⟨k1, k2, k3⟩ := Zo7 (blk' := blk') (w' := w1) h hm0 hb0 (Sort.putCells enc 0 vals cs) hcs hdead hT hk hv (by omega) (by omega) hver (by unfold Sort.putCells; simp) (by
     have hmul:=Nat.mul_le_mul_right blk.k hsz
     have:(Sort.putCells enc 0 vals cs).size=cs.size:=by unfold Sort.putCells;simp
     rw[hk,this];omega) (fun o ho=>by rw[hfz]at ho;simp at ho) hwid hcell hw1 (fun k hk _=>hne k hk) (fun B hBb hBw=>⟨by rw[← e1];rfl,by rw[← e1];rfl,by rw[← e1];rfl,by omega,fun k hk=>hne k (by omega)⟩)
 rw[e1]at hw'
 subst hw'
 obtain⟨g1,g2,g3⟩:=ZeI k1 (Zsf w1 os)
 exact⟨g1,k2.trans g2,k3.trans g3⟩
abbrev ZbG(l:List Int):List (List D):=l.map fun x=>[dI x]
theorem Zn6{l:List Int}{i j:Nat}{d:D}(h:cellAt (ZbG l) i j=some d):∃ x,l[i]? =some x∧j=0∧d=dI x:=by
 obtain⟨e,he,hj⟩:=Zak.1 h
 rw[Yb8]at he
 cases hx:l[i]? with
 | none=>rw[hx]at he;cases he
 | some x =>
   rw[hx]at he
   obtain rfl:=Option.some.inj he
   cases j with
   | succ j=>simp at hj
   | zero=>exact⟨x,rfl,rfl,by simpa using hj.symm⟩
theorem Zls{l:List Int}{i:Nat}{e:List D}(h:(ZbG l)[i]? =some e):e.length=1:=by
 obtain⟨x,_,rfl⟩:=Yc6.1 (Ya7 h)
 rfl
theorem Zx9{E β m nx w}(h:ZaK E β m nx w){id b ver:Nat}{T:TypeId}{l:List Int}(hm:m id=some ⟨T,ver,1,ZbG l,0,false⟩)(hb:β id=some b):Sort.Holds (Value.int .i64) w b 0 l.toArray∧b<w.heap.size:=by
 obtain⟨_,cs,hcs,hlen,hcell⟩:=h.row id _ b hm hb
 refine⟨fun j hj=>?_,(Ya5.1 hcs).1⟩
 have hj':j<l.length:=by simpa using hj
 obtain⟨u,hu,hr⟩:=hcell j 0 (dI l[j]) (Zak.2 ⟨[dI l[j]],by simp[hj'],rfl⟩)
 have:=hr.inv_v
 subst this
 refine⟨?_,frozen_of_row w b _ cs T hcs⟩
 rw[Zcr hcs,show(0:Nat)+j=j*1+0 by omega,hu,getElem!_pos l.toArray j hj]
 rfl
abbrev ZiS(l:List Int):List Int:=l.mergeSort fun x y=>decide (x≤y)
theorem ZxM{α:Type}{f:Nat→Option α}{k:Nat}{x:α}(h:f k=some x):upd f k (some x)=f:=by
 funext j;unfold upd;split
 ·rename_i e;rw[e,h]
 ·rfl
theorem ZxQ{ρ:Ren}(L:Lays.n189 Tryz.prog ρ)(hf:ρ.f 189=63){m:Mem}{nx id ver:Nat}{l:List Int}(hm:m id=some ⟨3,ver,1,ZbG l,0,false⟩)(hl:l.length≤1000) :
 Zar Tryz.prog 63 [.ls id ver] m nx fun d m' nx'=>d = .tup []∧m'=upd m id (some ⟨3,ver,1,ZbG (ZiS l),0,false⟩)∧nx'=nx:=by
 refine⟨⟨_,_,Tryz.func63,rfl,by kernel_rfl⟩,fun E β w vs hM hvs=>?_⟩
 obtain⟨x,rfl⟩:∃ x,vs=[x]:=by
  match vs,hvs.1 with
  | [x],_=>exact⟨x,rfl⟩
 have hx:=hvs.2 0 x _ rfl rfl
 obtain⟨a,n0,cap,blk,rfl,hb,hv,hcase⟩:=hx.inv_ls
 rw[hm]at hb
 obtain rfl:=Option.some.inj hb
 obtain⟨c1,c2,c3,c4⟩:=hcase rfl
 simp only[Yc0]at c1
 subst c1
 have tup0:∀ {β m S w},Rep β m S w (.tuple #[]) (.tup []):=fun {β m S w}=>.tup [] [] rfl (fun i x d h=>by cases h)
 rcases c4 with⟨hbn,rfl,rfl⟩|⟨b,hbe,rfl,_⟩
 ·have hl0:=hM.non id _ hm hbn
  obtain rfl:l=[]:=List.length_eq_zero_iff.1 (by omega)
  have h:=Any.slices_Sort_int_none L none 0 w
  rw[hf]at h
  refine h.mono ?_
  rintro e w' ⟨rfl,rfl⟩
  refine⟨_,.tup [],m,nx,rfl,ZbU.same hM tup0,rfl,?_,rfl⟩
  have e0:ZiS []=[]:=by simp[ZiS]
  exact(ZxM (by rw[hm,e0])).symm
 ·obtain⟨hH,hlt⟩:=Zx9 hM hm hbe
  have h:=Any.slices_Sort_int L b 0 cap l w hH hlt (by omega)
  rw[hf]at h
  refine h.mono ?_
  rintro e w' ⟨rfl,n,os,hw'⟩
  have hlen:(ZiS l).length=l.length:=List.length_mergeSort l
  obtain⟨k1,k2,k3⟩:=Zo8 (Value.int .i64) hM (blk':=⟨3,ver,1,ZbG (ZiS l),0,false⟩) hm hbe rfl rfl rfl rfl rfl (Ya4 _) (fun _=>by simp) (ZiS l).toArray (by simp) (fun i e he=>Zls he) (fun i j d hd=>by
   obtain⟨x,hx,rfl,rfl⟩:=Zn6 hd
   exact⟨x,by simpa using hx,.v _⟩) n os hw'
  exact⟨_,.tup [],_,nx,rfl,⟨β,k1,k2,k3,tup0⟩,rfl,rfl,rfl⟩
theorem ZBM{E β m nx w}(hM:ZaK E β m nx w){id ver:Nat}{T:TypeId}(hm:m id=some ⟨T,ver,1,ZbG [],0,false⟩)(hb:β id=none):ZbU E β m nx w (upd m id (some ⟨T,ver+1,1,ZbG [],0,false⟩)) (.slice none 0 0) (.ls id (ver+1)) w:=by
 obtain⟨m',em⟩:∃ m',upd m id (some ⟨T,ver+1,1,ZbG [],0,false⟩)=m':=⟨_,rfl⟩
 have hml:Za7 β m w β m' w:=by
  refine⟨fun x y hx=>?_,fun _ _ h=>h⟩
  by_cases e:x=id
  ·subst e
   rw[hm]at hx;cases hx
   exact⟨_,by rw[← em,Zac],Nat.le_succ _,fun h=>by simp at h⟩
  ·exact⟨y,by rw[← em,Zab _ _ e];exact hx,Ya4 _,fun _=>⟨rfl,rfl,rfl⟩⟩
 have hget:∀ x y,m' x=some y→(x=id∧y.es=[]∧y.fz=0)∨m x=some y:=fun x y hx=>by
  rw[← em]at hx
  by_cases e:x=id
  ·subst e;rw[Zac]at hx;cases hx;exact .inl ⟨rfl,rfl,rfl⟩
  ·rw[Zab _ _ e]at hx;exact .inr hx
 have hs:Zaw (safe E β m) w (safe E β m') w:=by
  intro c o u h1 h2
  refine⟨⟨h1.1,fun x y hx hy=>?_⟩,h2⟩
  rcases hget x y hx with⟨rfl,_,_⟩|hx
  ·rw[hb]at hy;cases hy
  ·exact h1.2 x y hx hy
 rw[em]
 have hin:∀ x y,m' x=some y→∃ z,m x=some z:=fun x y hx=>by
  rcases hget x y hx with⟨rfl,_,_⟩|hx
  ·exact⟨_,hm⟩
  ·exact⟨_,hx⟩
 refine⟨β,⟨hM.below,?_,?_,?_,?_,?_,?_⟩,hml,hs,?_⟩
 ·intro x y hx
  obtain⟨z,hz⟩:=hin x y hx
  exact hM.lt x z hz
 ·intro x y hx
  rcases hget x y hx with⟨_,_,h⟩|hx
  ·omega
  ·exact hM.fz x y hx
 ·intro x y hx i e he
  rcases hget x y hx with⟨_,h,_⟩|hx
  ·rw[h]at he;simp at he
  ·exact hM.wid x y hx i e he
 ·intro x y hx hbx
  rcases hget x y hx with⟨_,h,_⟩|hx
  ·exact h
  ·exact hM.non x y hx hbx
 ·intro x y c hx hc
  rcases hget x y hx with⟨rfl,_,_⟩|hx
  ·rw[hb]at hc;cases hc
  ·obtain⟨h3,cs,h4,h5,h6⟩:=hM.row x y c hx hc
   refine⟨h3,cs,h4,h5,fun i j d hd=>?_⟩
   obtain⟨u,h7,h8⟩:=h6 i j d hd
   exact⟨u,h7,h8.mono hml hs⟩
 ·intro x1 x2 y1 y2 c h1 h2 h3 h4
  obtain⟨z1,hz1⟩:=hin x1 y1 h1
  obtain⟨z2,hz2⟩:=hin x2 y2 h2
  exact hM.inj x1 x2 z1 z2 c hz1 hz2 h3 h4
 ·exact .ls none 0 0 id (ver+1) ⟨T,ver+1,1,ZbG [],0,false⟩ (by rw[← em,Zac]) (Ya4 _) (fun _ h=>by simp at h) fun _=>⟨rfl,Ya4 _,Yb0 _,.inl ⟨hb,rfl,rfl⟩⟩
theorem Zu1{ρ:Ren}(L:Lays2.n20 Tryz.prog ρ)(hf:ρ.f 20=64){m:Mem}{nx id ver:Nat}{l:List Int}(hm:m id=some ⟨3,ver,1,ZbG l,0,false⟩)(hl:l.length≤1000)(hcl:(Lib.compact l).length≤l.length) :
 Zar Tryz.prog 64 [.ls id ver] m nx fun d m' nx'=>d = .ls id (ver+1)∧m'=upd m id (some ⟨3,ver+1,1,ZbG (Lib.compact l),0,false⟩)∧nx'=nx:=by
 refine⟨⟨_,_,Tryz.func64,rfl,by kernel_rfl⟩,fun E β w vs hM hvs=>?_⟩
 obtain⟨x,rfl⟩:∃ x,vs=[x]:=by
  match vs,hvs.1 with
  | [x],_=>exact⟨x,rfl⟩
 have hx:=hvs.2 0 x _ rfl rfl
 obtain⟨a,n0,cap,blk,rfl,hb,hv,hcase⟩:=hx.inv_ls
 rw[hm]at hb
 obtain rfl:=Option.some.inj hb
 obtain⟨c1,c2,c3,c4⟩:=hcase rfl
 simp only[Yc0]at c1
 subst c1
 rcases c4 with⟨hbn,rfl,rfl⟩|⟨b,hbe,rfl,hcap⟩
 ·have hl0:=hM.non id _ hm hbn
  obtain rfl:l=[]:=List.length_eq_zero_iff.1 (by omega)
  have h:=Any.slices_Compact_int_empty L none 0 w
  rw[hf]at h
  refine h.mono ?_
  rintro e w' ⟨rfl,rfl⟩
  refine⟨_,.ls id (ver+1),_,nx,rfl,?_,rfl,rfl,rfl⟩
  obtain⟨β',k1,k2,k3,k4⟩:=ZBM hM hm hbn
  exact⟨β',k1,k2,k3,k4⟩
 ·obtain⟨hH,hlt⟩:=Zx9 hM hm hbe
  have h:=Any.slices_Compact_int L b 0 cap l w hH (by omega) c2
  rw[hf]at h
  refine h.mono ?_
  rintro e w' ⟨rfl,n,hw'⟩
  obtain⟨V,eV⟩:∃ V:Array Int,(Lib.compact l++List.replicate (l.length-(Lib.compact l).length) 0).toArray=V:=⟨_,rfl⟩
  have hV:∀ i x,(Lib.compact l)[i]? =some x→V[i]? =some x:=fun i x hx=>by
   rw[← eV,List.getElem?_toArray,Yc3 (Ya3.1 hx).1];exact hx
  rw[eV]at hw'
  generalize Lib.compact l=C at *
  have hw2:w'=Sort.grow (Sort.putRow (Value.int .i64) (Sort.ahead w n) b 0 V) #[]:=by rw[Sort.grow_empty];exact hw'
  clear hw' eV
  obtain⟨k1,k2,k3⟩:=Zo8 (Value.int .i64) hM (blk':=⟨3,ver+1,1,ZbG C,0,false⟩) hm hbe rfl rfl rfl rfl rfl (Nat.le_succ _) (fun h=>absurd h (Nat.succ_ne_self ver)) V (by simpa using hcl) (fun i e he=>Zls he) (fun i j d hd=>by
   obtain⟨x,hx,rfl,rfl⟩:=Zn6 hd
   exact⟨x,by simpa using hV i x hx,.v _⟩) n #[] hw2
  refine⟨_,.ls id (ver+1),_,nx,rfl,⟨β,k1,k2,k3,?_⟩,rfl,rfl,rfl⟩
  refine .ls _ _ cap id (ver+1) _ (Zac _ _ _) (Ya4 _) (fun _ h=>by simp at h) fun _=>⟨by simp,by omega,c3,.inr ⟨b,hbe,rfl,?_⟩⟩
  exact k2.cap _ (.inl _) hcap
end ifl
def sortR:Go.Shelf.Ren:=⟨fun|125=>98|128=>137|129=>138|189=>63|215=>107|216=>134|257=>97|294=>128|295=>129|296=>130|297=>131|298=>132|299=>133|300=>135|301=>136|328=>173|329=>174|330=>175|331=>176|332=>177|343=>197|n=>n,fun|0=>0|3=>3|4=>4|5=>5|9=>9|28=>31|46=>157|51=>209|53=>156|131=>206|182=>201|183=>202|218=>239|222=>243|228=>261|229=>184|n=>n,fun n=>n⟩
theorem ZAF:Lays.n189 Tryz.prog sortR where
 mixed:=by kernel_rfl
 f125:=Tryz.func98.trans (congrArg some (by kernel_rfl))
 f128:=Tryz.func137.trans (congrArg some (by kernel_rfl))
 f129:=Tryz.func138.trans (congrArg some (by kernel_rfl))
 f189:=Tryz.func63.trans (congrArg some (by kernel_rfl))
 f215:=Tryz.func107.trans (congrArg some (by kernel_rfl))
 f216:=Tryz.func134.trans (congrArg some (by kernel_rfl))
 f257:=Tryz.func97.trans (congrArg some (by kernel_rfl))
 f294:=Tryz.func128.trans (congrArg some (by kernel_rfl))
 f295:=Tryz.func129.trans (congrArg some (by kernel_rfl))
 f296:=Tryz.func130.trans (congrArg some (by kernel_rfl))
 f297:=Tryz.func131.trans (congrArg some (by kernel_rfl))
 f298:=Tryz.func132.trans (congrArg some (by kernel_rfl))
 f299:=Tryz.func133.trans (congrArg some (by kernel_rfl))
 f300:=Tryz.func135.trans (congrArg some (by kernel_rfl))
 f301:=Tryz.func136.trans (congrArg some (by kernel_rfl))
 f328:=Tryz.func173.trans (congrArg some (by kernel_rfl))
 f329:=Tryz.func174.trans (congrArg some (by kernel_rfl))
 f330:=Tryz.func175.trans (congrArg some (by kernel_rfl))
 f331:=Tryz.func176.trans (congrArg some (by kernel_rfl))
 f332:=Tryz.func177.trans (congrArg some (by kernel_rfl))
 f343:=Tryz.func197.trans (congrArg some (by kernel_rfl))
 t0:=Tryz.underlying0
 a0:=Tryz.isAgg0
 z0:=Tryz.sizeOf0
 v0:=Tryz.zeroValue0
 t3:=Tryz.underlying3
 a3:=Tryz.isAgg3
 z3:=Tryz.sizeOf3
 v3:=Tryz.zeroValue3
 t4:=Tryz.underlying4
 a4:=Tryz.isAgg4
 z4:=Tryz.sizeOf4
 v4:=Tryz.zeroValue4
 t5:=Tryz.underlying5
 a5:=Tryz.isAgg5
 z5:=Tryz.sizeOf5
 v5:=Tryz.zeroValue5
 t9:=Tryz.underlying9
 a9:=Tryz.isAgg9
 z9:=Tryz.sizeOf9
 v9:=Tryz.zeroValue9
 t28:=Tryz.underlying31
 a28:=Tryz.isAgg31
 z28:=Tryz.sizeOf31
 v28:=Tryz.zeroValue31
 t46:=Tryz.underlying157
 a46:=Tryz.isAgg157
 z46:=Tryz.sizeOf157
 v46:=Tryz.zeroValue157
 t51:=Tryz.underlying209
 a51:=Tryz.isAgg209
 z51:=Tryz.sizeOf209
 v51:=Tryz.zeroValue209
 t53:=Tryz.underlying156
 a53:=Tryz.isAgg156
 z53:=Tryz.sizeOf156
 v53:=Tryz.zeroValue156
 t131:=Tryz.underlying206
 a131:=Tryz.isAgg206
 z131:=Tryz.sizeOf206
 v131:=Tryz.zeroValue206
 t182:=Tryz.underlying201
 a182:=Tryz.isAgg201
 z182:=Tryz.sizeOf201
 v182:=Tryz.zeroValue201
 t183:=Tryz.underlying202
 a183:=Tryz.isAgg202
 z183:=Tryz.sizeOf202
 v183:=Tryz.zeroValue202
 t218:=Tryz.underlying239
 a218:=Tryz.isAgg239
 z218:=Tryz.sizeOf239
 v218:=Tryz.zeroValue239
 t222:=Tryz.underlying243
 a222:=Tryz.isAgg243
 z222:=Tryz.sizeOf243
 v222:=Tryz.zeroValue243
 t228:=Tryz.underlying261
 a228:=Tryz.isAgg261
 z228:=Tryz.sizeOf261
 v228:=Tryz.zeroValue261
 t229:=Tryz.underlying184
 a229:=Tryz.isAgg184
 z229:=Tryz.sizeOf184
 v229:=Tryz.zeroValue184
def Zxs:Go.Shelf.Ren:=⟨fun|20=>64|n=>n,fun|0=>0|3=>3|4=>4|22=>31|n=>n,fun n=>n⟩
theorem Zxt:Lays2.n20 Tryz.prog Zxs where
 mixed:=by kernel_rfl
 f20:=Tryz.func64.trans (congrArg some (by kernel_rfl))
 t0:=Tryz.underlying0
 a0:=Tryz.isAgg0
 z0:=Tryz.sizeOf0
 v0:=Tryz.zeroValue0
 t3:=Tryz.underlying3
 a3:=Tryz.isAgg3
 z3:=Tryz.sizeOf3
 v3:=Tryz.zeroValue3
 t4:=Tryz.underlying4
 a4:=Tryz.isAgg4
 z4:=Tryz.sizeOf4
 v4:=Tryz.zeroValue4
 t22:=Tryz.underlying31
 a22:=Tryz.isAgg31
 z22:=Tryz.sizeOf31
 v22:=Tryz.zeroValue31
 i3:=by kernel_rfl
def ZAE:Go.Shelf.Ren:=⟨fun|6=>71|14=>106|15=>98|20=>145|21=>146|22=>147|23=>148|24=>149|25=>150|26=>151|27=>152|28=>137|29=>138|46=>185|47=>174|48=>175|49=>186|50=>187|57=>204|n=>n,fun|0=>0|3=>3|4=>4|5=>5|9=>9|22=>95|24=>144|25=>147|39=>157|45=>201|46=>202|50=>206|53=>209|55=>156|66=>239|70=>243|76=>261|77=>184|n=>n,fun n=>n⟩
theorem ZxR:SlLaysF0.n6 Tryz.prog ZAE where
 mixed:=by kernel_rfl
 f6:=⟨Tryz.f71.name,by kernel_rfl,Tryz.func71.trans (congrArg some (by kernel_rfl))⟩
 f14:=⟨Tryz.f106.name,by kernel_rfl,Tryz.func106.trans (congrArg some (by kernel_rfl))⟩
 f15:=Tryz.func98.trans (congrArg some (by kernel_rfl))
 f20:=⟨Tryz.f145.name,by kernel_rfl,Tryz.func145.trans (congrArg some (by kernel_rfl))⟩
 f21:=⟨Tryz.f146.name,by kernel_rfl,Tryz.func146.trans (congrArg some (by kernel_rfl))⟩
 f22:=⟨Tryz.f147.name,by kernel_rfl,Tryz.func147.trans (congrArg some (by kernel_rfl))⟩
 f23:=⟨Tryz.f148.name,by kernel_rfl,Tryz.func148.trans (congrArg some (by kernel_rfl))⟩
 f24:=⟨Tryz.f149.name,by kernel_rfl,Tryz.func149.trans (congrArg some (by kernel_rfl))⟩
 f25:=⟨Tryz.f150.name,by kernel_rfl,Tryz.func150.trans (congrArg some (by kernel_rfl))⟩
 f26:=⟨Tryz.f151.name,by kernel_rfl,Tryz.func151.trans (congrArg some (by kernel_rfl))⟩
 f27:=⟨Tryz.f152.name,by kernel_rfl,Tryz.func152.trans (congrArg some (by kernel_rfl))⟩
 f28:=Tryz.func137.trans (congrArg some (by kernel_rfl))
 f29:=Tryz.func138.trans (congrArg some (by kernel_rfl))
 f46:=⟨Tryz.f185.name,by kernel_rfl,Tryz.func185.trans (congrArg some (by kernel_rfl))⟩
 f47:=Tryz.func174.trans (congrArg some (by kernel_rfl))
 f48:=Tryz.func175.trans (congrArg some (by kernel_rfl))
 f49:=⟨Tryz.f186.name,by kernel_rfl,Tryz.func186.trans (congrArg some (by kernel_rfl))⟩
 f50:=⟨Tryz.f187.name,by kernel_rfl,Tryz.func187.trans (congrArg some (by kernel_rfl))⟩
 f57:=⟨Tryz.f204.name,by kernel_rfl,Tryz.func204.trans (congrArg some (by kernel_rfl))⟩
 t0:=Tryz.underlying0
 a0:=Tryz.isAgg0
 z0:=Tryz.sizeOf0
 v0:=Tryz.zeroValue0
 t3:=Tryz.underlying3
 a3:=Tryz.isAgg3
 z3:=Tryz.sizeOf3
 v3:=Tryz.zeroValue3
 t4:=Tryz.underlying4
 a4:=Tryz.isAgg4
 z4:=Tryz.sizeOf4
 v4:=Tryz.zeroValue4
 t5:=Tryz.underlying5
 a5:=Tryz.isAgg5
 z5:=Tryz.sizeOf5
 v5:=Tryz.zeroValue5
 t9:=Tryz.underlying9
 a9:=Tryz.isAgg9
 z9:=Tryz.sizeOf9
 v9:=Tryz.zeroValue9
 t22:=Tryz.underlying95
 a22:=Tryz.isAgg95
 z22:=Tryz.sizeOf95
 v22:=Tryz.zeroValue95
 t25:=Tryz.underlying147
 a25:=Tryz.isAgg147
 z25:=Tryz.sizeOf147
 v25:=Tryz.zeroValue147
 t39:=Tryz.underlying157
 a39:=Tryz.isAgg157
 z39:=Tryz.sizeOf157
 v39:=Tryz.zeroValue157
 t45:=Tryz.underlying201
 a45:=Tryz.isAgg201
 z45:=Tryz.sizeOf201
 v45:=Tryz.zeroValue201
 t46:=Tryz.underlying202
 a46:=Tryz.isAgg202
 z46:=Tryz.sizeOf202
 v46:=Tryz.zeroValue202
 t50:=Tryz.underlying206
 a50:=Tryz.isAgg206
 z50:=Tryz.sizeOf206
 v50:=Tryz.zeroValue206
 t53:=Tryz.underlying209
 a53:=Tryz.isAgg209
 z53:=Tryz.sizeOf209
 v53:=Tryz.zeroValue209
 t55:=Tryz.underlying156
 a55:=Tryz.isAgg156
 z55:=Tryz.sizeOf156
 v55:=Tryz.zeroValue156
 t66:=Tryz.underlying239
 a66:=Tryz.isAgg239
 z66:=Tryz.sizeOf239
 v66:=Tryz.zeroValue239
 t70:=Tryz.underlying243
 a70:=Tryz.isAgg243
 z70:=Tryz.sizeOf243
 v70:=Tryz.zeroValue243
 t76:=Tryz.underlying261
 a76:=Tryz.isAgg261
 z76:=Tryz.sizeOf261
 v76:=Tryz.zeroValue261
 t77:=Tryz.underlying184
 a77:=Tryz.isAgg184
 z77:=Tryz.sizeOf184
 v77:=Tryz.zeroValue184
def cmpIR:Go.Shelf.Ren:=⟨fun|5=>73|7=>107|n=>n,fun|3=>3|4=>4|22=>3|n=>n,fun n=>n⟩
theorem cmpIL:SlLaysC2.n5 Tryz.prog cmpIR where
 mixed:=by kernel_rfl
 f5:=⟨Tryz.f73.name,by kernel_rfl,Tryz.func73.trans (congrArg some (by kernel_rfl))⟩
 f7:=⟨Tryz.f107.name,by kernel_rfl,Tryz.func107.trans (congrArg some (by kernel_rfl))⟩
 t3:=Tryz.underlying3
 a3:=Tryz.isAgg3
 z3:=Tryz.sizeOf3
 v3:=Tryz.zeroValue3
 t4:=Tryz.underlying4
 a4:=Tryz.isAgg4
 z4:=Tryz.sizeOf4
 v4:=Tryz.zeroValue4
 t22:=Tryz.underlying3
 a22:=Tryz.isAgg3
 z22:=Tryz.sizeOf3
 v22:=Tryz.zeroValue3
def Zio:Type:={l:List Value // l.length=5∧(∀ v∈l,v.oneCell'=true)∧∃ z:Int,l.head? =some (.int .i64 z)}
instance :Inhabited Zio:=⟨⟨[.int .i64 0,.int .i64 0,.int .i64 0,.int .i64 0,.int .i64 0],rfl,by simp[Value.oneCell'],0,rfl⟩⟩
def Zio.key(x:Zio):Int:=match x.1.head? with
 | some (.int _ z)=>z
 | _=>0
abbrev ZnV(x:Zio):List Value:=x.1
abbrev Zu5(x y:Zio):Int:=Lib.compareInt x.key y.key
theorem ltTV(x y:Zio):ltOf Zu5 x y=decide (x.key<y.key):=by
 unfold ltOf Zu5 Lib.compareInt
 by_cases h1:x.key<y.key
 ·simp[h1]
 ·by_cases h2:y.key<x.key<;>simp[h1,h2]
theorem swoTV:Sort.SWO (ltOf Zu5) where
 irrefl x:=by rw[ltTV];simp
 trans x y z h1 h2:=by rw[ltTV]at *;simp at *;omega
 ntrans x y z h1 h2:=by rw[ltTV]at *;simp at *;omega
set_option maxHeartbeats 1000000 in
theorem cloTV(x y:Zio)(W:World):Calls Tryz.prog 72 #[.agg (ZnV x).toArray,.agg (ZnV y).toArray] W fun e w'=>e = .returned (.int .i64 (Zu5 x y))∧∃ q os',w'=Sort.grow (W.drewN q) os':=by
 obtain⟨l1,p1,q1,z1,r1⟩:=x
 obtain⟨l2,p2,q2,z2,r2⟩:=y
 obtain⟨a1,a2,a3,a4,a5,rfl⟩:∃ a b c d e,l1=[a,b,c,d,e]:=by
  match l1,p1 with
  | [a,b,c,d,e],_=>exact⟨a,b,c,d,e,rfl⟩
 obtain⟨b1,b2,b3,b4,b5,rfl⟩:∃ a b c d e,l2=[a,b,c,d,e]:=by
  match l2,p2 with
  | [a,b,c,d,e],_=>exact⟨a,b,c,d,e,rfl⟩
 obtain rfl:a1 = .int .i64 z1:=by simpa using r1
 obtain rfl:b1 = .int .i64 z2:=by simpa using r2
 show Calls Tryz.prog 72 #[.agg #[.int .i64 z1,a2,a3,a4,a5],.agg #[.int .i64 z2,b2,b3,b4,b5]] W fun e w'=>e = .returned (.int .i64 (Lib.compareInt z1 z2))∧∃ q os',w'=Sort.grow (W.drewN q) os'
 have hcon:=fun W'=>AnyG.cmp_Compare_int cmpIL z1 z2 W'
 change ∀ W',Calls Tryz.prog 73 _ _ _ at hcon
 generalize Lib.compareInt z1 z2=r at hcon ⊢
 clear p1 q1 r1 p2 q2 r2
 go_enter Tryz.func72,Tryz.ntmps72
 go_wp2_with (go_at_call 73;refine(hcon _).mono ?_;rintro e w' ⟨rfl,rfl⟩)
 go_ret
 exact⟨rfl,0,_,by rw[Sort.alloc_eq_grow,Sort.alloc_eq_grow,Sort.grow_grow];rfl⟩
theorem ZtJ{α β:Type}{f:α→β}{l l':List β}(h:l'.Perm l):∀ L:List α,L.map f=l→∃ L':List α,L'.Perm L∧L'.map f=l':=by
 induction h with
 | nil=>intro L hL;exact⟨L,List.Perm.refl _,hL⟩
 | cons x _ ih =>
   intro L hL
   match L,hL with
   | a ::L,hL =>
     simp only[List.map_cons,List.cons.injEq]at hL
     obtain⟨L',h1,h2⟩:=ih L hL.2
     exact⟨a ::L',h1.cons a,by simp[h2,hL.1]⟩
 | swap x y l =>
   intro L hL
   match L,hL with
   | a ::b ::L,hL =>
     simp only[List.map_cons,List.cons.injEq]at hL
     obtain⟨h1,h2,h3⟩:=hL
     exact⟨b ::a ::L,List.Perm.swap a b L,by simp[h1,h2,h3]⟩
 | trans _ _ ih1 ih2 =>
   intro L hL
   obtain⟨L1,h1,h2⟩:=ih2 L hL
   obtain⟨L2,h3,h4⟩:=ih1 L1 h2
   exact⟨L2,h3.trans h1,h4⟩
section ifl
variable [Ifl]
theorem ZyL{m:Mem}{nx id ver:Nat}{ts:List Zag}(hm:m id=some ⟨144,ver,5,ts.map cT,0,false⟩)(hl:ts.length≤1000) :
 Zar Tryz.prog 71 [.ls id ver,.clo 72 []] m nx fun d m' nx'=>d = .tup []∧nx'=nx∧∃ ts':List Zag,ts'.Perm ts∧(ts'.Pairwise fun a b=>a.v≤b.v)∧m'=upd m id (some ⟨144,ver,5,ts'.map cT,0,false⟩):=by
 refine⟨⟨_,_,Tryz.func71,rfl,by kernel_rfl⟩,fun E β w vs hM hvs=>?_⟩
 obtain⟨x,y,rfl⟩:∃ x y,vs=[x,y]:=by
  match vs,hvs.1 with
  | [x,y],_=>exact⟨x,y,rfl⟩
 have hx:=hvs.2 0 x _ rfl rfl
 obtain⟨fs,rfl,hfs,_⟩:=(hvs.2 1 y _ rfl rfl).inv_clo
 obtain rfl:fs=[]:=List.length_eq_zero_iff.1 hfs
 obtain⟨a,n0,cap,blk,rfl,hb,hv,hcase⟩:=hx.inv_ls
 rw[hm]at hb
 obtain rfl:=Option.some.inj hb
 obtain⟨c1,c2,c3,c4⟩:=hcase rfl
 simp only[Yc0]at c1
 subst c1
 have tup0:∀ {β m S w},Rep β m S w (.tuple #[]) (.tup []):=fun {β m S w}=>.tup [] [] rfl (fun i x d h=>by cases h)
 rcases c4 with⟨hbn,rfl,rfl⟩|⟨b,hbe,rfl,_⟩
 ·have hl0:=hM.non id _ hm hbn
  obtain rfl:ts=[]:=List.length_eq_zero_iff.1 (by omega)
  have h:=AnyF.slices_SortFunc_none ZxR none 0 (.func (.func 72) #[] #[]) w
  change Calls Tryz.prog 71 _ _ _ at h
  refine h.mono ?_
  rintro e w' ⟨rfl,rfl⟩
  refine⟨_,.tup [],m,nx,rfl,ZbU.same hM tup0,rfl,rfl,[],List.Perm.refl _,List.Pairwise.nil,?_⟩
  exact(ZxM hm).symm
 ·obtain⟨_,cs,hcs,hlen,hcell⟩:=hM.row id _ b hm hbe
  simp only[Yc0]at hlen
  have hx:∀ i:Nat,∃ x:Zio,∀ t,ts[i]? =some t→x.key=t.v∧∀ j,j<5→∃ u d,x.1[j]? =some u∧(cT t)[j]? =some d∧cs[i*5+j]? =some u∧Rep β m (safe E β m) w u d:=by
   intro i
   cases ht:ts[i]? with
   | none=>exact⟨default,fun t h=>by cases h⟩
   | some t =>
     have hat:∀ j d,(cT t)[j]? =some d→∃ u,cs[i*5+j]? =some u∧Rep β m (safe E β m) w u d:=fun j d hd=>hcell i j d (Zak.2 ⟨cT t,by rw[Yb8,ht];rfl,hd⟩)
     obtain⟨u0,g0,r0⟩:=hat 0 _ rfl
     obtain⟨u1,g1,r1⟩:=hat 1 _ rfl
     obtain⟨u2,g2,r2⟩:=hat 2 _ rfl
     obtain⟨u3,g3,r3⟩:=hat 3 _ rfl
     obtain⟨u4,g4,r4⟩:=hat 4 _ rfl
     have e0:=r0.inv_v
     have e1:=r1.inv_v
     have e3:=r3.inv_v
     obtain⟨a2,k2,e2,_⟩:=r2.inv_sl
     obtain⟨a4,k4,e4,_⟩:=r4.inv_sl
     refine⟨⟨[u0,u1,u2,u3,u4],rfl,?_,t.v,by rw[e0];rfl⟩,fun t' h=>?_⟩
     ·intro v hv
      simp only[List.mem_cons,List.not_mem_nil,or_false]at hv
      rcases hv with rfl|rfl|rfl|rfl|rfl
      ·rw[e0];rfl
      ·rw[e1];rfl
      ·rw[e2];rfl
      ·rw[e3];rfl
      ·rw[e4];rfl
     ·obtain rfl:=Option.some.inj h
      refine⟨by unfold Zio.key;simp[e0],fun j hj=>?_⟩
      match j,hj with
      | 0,_=>exact⟨u0,_,rfl,rfl,g0,r0⟩
      | 1,_=>exact⟨u1,_,rfl,rfl,g1,r1⟩
      | 2,_=>exact⟨u2,_,rfl,rfl,g2,r2⟩
      | 3,_=>exact⟨u3,_,rfl,rfl,g3,r3⟩
      | 4,_=>exact⟨u4,_,rfl,rfl,g4,r4⟩
  obtain⟨f,hf⟩:=Classical.axiomOfChoice hx
  obtain⟨d,ed⟩:∃ d:List Zio,(List.range ts.length).map f=d:=⟨_,rfl⟩
  have dl:d.length=ts.length:=by rw[← ed];simp
  have dget:∀ i,i<ts.length→d[i]? =some (f i):=fun i hi=>by rw[← ed];simp[hi]
  have hH:Sort.HoldsK ZnV 5 w b 0 d.toArray:=by
   intro q hq
   rw[Sort.size_flatK]at hq
   have hq':q<ts.length*5:=by simpa[dl]using hq
   refine⟨?_,frozen_of_row w b _ cs _ hcs⟩
   have hi:q / 5<ts.length:=by omega
   obtain⟨u,dd,g1,g2,g3,_⟩:=(hf (q / 5) ts[q / 5] (by simp[hi])).2 (q%5) (Nat.mod_lt _ (by decide))
   rw[Zcr hcs,Nat.zero_add,Sort.get_flatK _ _ _ _ hq]
   rw[show q=q / 5*5+q%5 by omega,g3]
   rw[show(q / 5*5+q%5) / 5=q / 5 by omega,show(q / 5*5+q%5)%5=q%5 by omega]
   have:d.toArray[q / 5]! =f (q / 5):=by
    rw[getElem!_pos d.toArray _ (by simp[dl,hi])]
    have:=dget _ hi
    rw[Ya0 (by omega)]at this
    simpa using this
   rw[this]
   simp only[_root_.id,ZnV,Ya1]
   rw[List.getElem!_eq_getElem?_getD,g1];rfl
  have hlt:b<w.heap.size:=(Ya5.1 hcs).1
  have eg:∀ args w,(callFunc 72 args).run Tryz.prog w = .ok (.enter 72 args) w:=enters_of Tryz.func72 (by kernel_rfl) rfl
  have h:=AnyQ.slices_SortFunc ZxR 5 Tryz.isAgg144 Tryz.sizeOf144 ZnV (fun x=>x.2.1) (fun x=>x.2.2.1) Zu5 swoTV 72 #[] b 0 cap d.toArray w eg (fun _ _ _ _ x y=>cloTV x y _) hH hlt (by simp[dl];omega)
  change Calls Tryz.prog 71 _ _ _ at h
  rw[show d.toArray.size=ts.length by simp[dl]]at h
  refine h.mono ?_
  rintro e w' ⟨rfl,d',n,os,⟨hps,_,hpp⟩,hsd,hw'⟩
  have ds':d'.size=ts.length:=by rw[hps];simp[dl]
  have hdd:d'.toList.Perm d:=by
   have h0:(List.take ts.length d'.toList).Perm (List.take ts.length d):=by simpa[dl,ds']using hpp
   rwa [Ya8 (by simp[ds']),Ya8 (by omega)]at h0
  obtain⟨L,hL1,hL2⟩:=ZtJ (f:=Prod.snd) hdd (ts.zip d) (List.map_snd_zip (by omega))
  have hmem:∀ (i:Nat)(t:Zag)(x:Zio),L[i]? =some (t,x)→x.key=t.v∧∀ j,j<5→∃ u dd,x.1[j]? =some u∧(cT t)[j]? =some dd∧Rep β m (safe E β m) w u dd:=fun i t x hi=>by
   have hz:(t,x)∈ts.zip d:=hL1.mem_iff.1 (Ya7 hi)
   obtain⟨k,hk⟩:=List.getElem?_of_mem hz
   rw[List.getElem?_zip_eq_some]at hk
   have hkl:=(Ya3.1 hk.1).1
   have:=dget k hkl
   rw[hk.2]at this
   obtain rfl:=Option.some.inj this
   obtain⟨g1,g2⟩:=hf k t hk.1
   refine⟨g1,fun j hj=>?_⟩
   obtain⟨u,dd,q1,q2,_,q4⟩:=g2 j hj
   exact⟨u,dd,q1,q2,q4⟩
  have Ll:L.length=ts.length:=by rw[hL1.length_eq,List.length_zip];omega
  have hd':∀ (i:Nat)(t:Zag)(x:Zio),L[i]? =some (t,x)→d'[i]? =some x:=fun i t x hi=>by
   have:(L.map Prod.snd)[i]? =some x:=by rw[Yb8,hi];rfl
   rw[hL2]at this
   simpa using this
  have hts:(L.map Prod.fst).Perm ts:=by
   have:=hL1.map Prod.fst
   rwa [List.map_fst_zip (by omega)]at this
  have hsort:(L.map Prod.fst).Pairwise fun a b=>a.v≤b.v:=by
   rw[List.pairwise_iff_getElem]
   intro i j hi hj hij
   simp only[Yc0]at hi hj
   simp only[List.getElem_map]
   obtain⟨t1,x1,e1⟩:∃ t x,L[i]=(t,x):=⟨_,_,rfl⟩
   obtain⟨t2,x2,e2⟩:∃ t x,L[j]=(t,x):=⟨_,_,rfl⟩
   have g1:L[i]? =some (t1,x1):=by rw[Ya0 hi,e1]
   have g2:L[j]? =some (t2,x2):=by rw[Ya0 hj,e2]
   have s:=hsd i j (Yb0 _) hij (by omega)
   obtain⟨_,y1⟩:=Ya5.1 (hd' i _ _ g1)
   obtain⟨_,y2⟩:=Ya5.1 (hd' j _ _ g2)
   rw[getElem!_pos d' i (by omega),getElem!_pos d' j (by omega),y1,y2,ltTV,(hmem _ _ _ g1).1,(hmem _ _ _ g2).1]at s
   rw[e1,e2]
   simpa using s
  have hwid:∀ (i:Nat)(e:List D),((L.map Prod.fst).map cT)[i]? =some e→e.length=5:=fun i e he=>by
   obtain⟨u,_,rfl⟩:=Yc6.1 (Ya7 he);rfl
  obtain⟨V,eV⟩:∃ V,Sort.flatK ZnV 5 d'=V:=⟨_,rfl⟩
  have hV:∀ (i j:Nat)(x:Zio)(u:Value),d'[i]? =some x→j<5→x.1[j]? =some u→V[i*5+j]? =some u:=fun i j x u hx hj hu=>by
   obtain⟨h1,y1⟩:=Ya5.1 hx
   have hlt2:i*5+j<d'.size*5:=by omega
   have:=Sort.get_flatK ZnV 5 d' (i*5+j) hlt2
   rw[getElem!_pos _ _ (by rw[Sort.size_flatK];exact hlt2)]at this
   rw[← eV,Yb5 (by rw[Sort.size_flatK];exact hlt2),this,show(i*5+j) / 5=i by omega,show(i*5+j)%5=j by omega,getElem!_pos d' i h1,y1]
   simp only[ZnV]
   rw[List.getElem!_eq_getElem?_getD,hu];rfl
  have hw2:w'=Sort.grow (Sort.putRow (_root_.id:Value→Value) (Sort.ahead w n) b 0 V) os:=by rw[← eV];exact hw'
  clear hw' eV h hH
  have hcl:∀ (i j:Nat)(dd:D),cellAt ((L.map Prod.fst).map cT) i j=some dd→∃ u,V[i*5+j]? =some u∧Rep β m (safe E β m) w (_root_.id u) dd:=fun i j dd hd=>by
   obtain⟨e,he,hj⟩:=Zak.1 hd
   have hj5:j<5:=by have:=(Ya3.1 hj).1;rw[hwid i e he]at this;exact this
   have hi:i<L.length:=by have:=(Ya3.1 he).1;simpa using this
   obtain⟨t,x,e1⟩:∃ t x,L[i]=(t,x):=⟨_,_,rfl⟩
   have g1:L[i]? =some (t,x):=by rw[Ya0 hi,e1]
   have he':e=cT t:=by
    rw[Yb8,Yb8,g1]at he
    exact(Option.some.inj he).symm
   subst he'
   obtain⟨u,d2,q1,q2,q3⟩:=(hmem _ _ _ g1).2 j hj5
   rw[hj]at q2
   obtain rfl:=Option.some.inj q2
   exact⟨u,hV i j x u (hd' i _ _ g1) hj5 q1,q3⟩
  obtain⟨k1,k2,k3⟩:=Zo8 (_root_.id:Value→Value) hM (blk':=⟨144,ver,5,(L.map Prod.fst).map cT,0,false⟩) hm hbe rfl rfl rfl rfl rfl (Ya4 _) (fun _=>by simp[Ll]) V (by simp[Ll]) hwid hcl n os hw2
  exact⟨_,.tup [],_,nx,rfl,⟨β,k1,k2,k3,tup0⟩,rfl,rfl,_,hts,hsort,rfl⟩
end ifl
def stN(e:EvD)(f:Nat→Rat)(p:Int)(n:Nat):Rat:=sumN n fun j=>if (mvAt e j).t=p then f j else if (mvAt e j).f=p then -(f j)else 0
structure SolT (t:TrD) (kind:Int) (f:Nat→Rat):Prop where
 pos:∀ i,i<t.e.mv.length→0≤f i
 st:∀ i,i<t.e.mv.length→ZkF t.e i=false→f i≤stN t.e f (mvAt t.e i).f i
 all:∀ i,i<t.e.mv.length→ZkF t.e i=false→(mvAt t.e i).a=true→f i=stN t.e f (mvAt t.e i).f i
 cap:∀ i,i<t.e.mv.length→(hiI t.e (mvAt t.e i)).2=true→f i≤qOf (hiI t.e (mvAt t.e i)).1
 fin:∀ i,i<t.e.mv.length→∀ g∈finK t kind i,(g:Rat)≤f i
 cle:∀ i,i<t.e.mv.length→0<cleK t kind i→f i=0
structure NextR (e:EvD) (blk:Nat→Bool) (j i:Nat):Prop where
 lt:j<i
 n:i<e.mv.length
 at':(mvAt e i).f=(mvAt e j).t
 blk:blk i=false
 all:∀ k,j<k→k<i→(mvAt e k).f=(mvAt e j).t→(mvAt e k).a=false
inductive Reach (e:EvD) (blk:Nat→Bool) (l:Nat):Nat→Prop
 | refl:Reach e blk l l
 | step {j i:Nat}:Reach e blk l j→NextR e blk j i→Reach e blk l i
theorem Zt9{e:EvD}{i:Nat}{x:MvD}(h:e.mv[i]? =some x):mvAt e i=x:=by unfold mvAt;rw[h];rfl
theorem ZlX{e:EvD}{i:Nat}(h:i<e.mv.length):mvAt e i∈e.mv:=by
 rw[Zt9 (Ya0 h)];exact List.getElem_mem h
section
variable {t:TrD} {kind:Int} {f:Nat→Rat} (R:Zfu t.e) (S:SolT t kind f)
include R
include S
end
def atG(x:List Zaf)(g:List Zag):Rat:=dotD g x
theorem Zuf{s:SysD}{goal:List Zag}{y:List Zaf}:(Zbe s goal y).2=true↔Zao s=true∧y.length=s.r.length∧okP y=true∧(s.r.zip y).all (fun p=>ZcM p.1 p.2)=true∧Zai goal s.n=true∧∀ v:Int,mixG (indI v) s.r y≤dotS (indI v) goal:=by
 rw[ZeK]
 simp only[Zcq,Ya2,ZcP]
 constructor
 ·rintro⟨⟨⟨a,b,c⟩,d⟩,e,f⟩
  refine⟨a,b,c,d,e,fun v=>?_⟩
  have:=(ZeZ (ZcG a y) (Zb6 e)).1 f v
  rwa [Zi7 a]at this
 ·rintro⟨a,b,c,d,e,f⟩
  refine⟨⟨⟨a,b,c⟩,d⟩,e,(ZeZ (ZcG a y) (Zb6 e)).2 fun v=>?_⟩
  rw[Zi7 a];exact f v
set_option maxHeartbeats 4000000
def tnF(f:Zaf):Prop:=(szF f:Int)≤262144
def tnT(l:List Zag):Prop:=(l.length:Int)≤64∧∀ t∈l,tnF t.f
def tnFs(l:List Zaf):Prop:=(l.length:Int)≤64∧∀ f∈l,tnF f
def tnW(w:RowD):Prop:=tnT w.t∧tnF w.v
def tnS(s:SysD):Prop:=(s.r.length:Int)≤64∧∀ w∈s.r,tnW w
theorem tnF.sm{f:Zaf}(h:tnF f):smF f:=by unfold tnF at h;unfold smF;omega
theorem tnT.sm{l:List Zag}(h:tnT l):smT l:=⟨by have:=h.1;omega,fun t ht=>(h.2 t ht).sm⟩
theorem tnFs.sm{l:List Zaf}(h:tnFs l):smFs l:=⟨by have:=h.1;omega,fun t ht=>(h.2 t ht).sm⟩
theorem tnW.sm{w:RowD}(h:tnW w):smW w:=⟨h.1.sm,h.2.sm⟩
theorem tnS.sm{s:SysD}(h:tnS s):smS s:=⟨by have:=h.1;omega,fun t ht=>(h.2 t ht).sm⟩
theorem ZlZ{s:SysD}{y:List Zaf}(h:Zgu s y=false):D.v (.bool false)=dB (Zgu s y):=Zaj h.symm
theorem ZuU(s:SysD)(y:List Zaf)(hs:smS s)(hy:smFs y):Zaa Tryz.prog 167 [encS s,ZbX y] (dB (Zgu s y)):=by
 refine Zae.toN ?_ rfl
 have Zr:=Tryz.results167
 have hl:=Zf4 hy
 have k1:=ZdR s hs
 cases h1:Zao s
 ·rw[h1]at k1
  refine inC Tryz.func167 rfl Tryz.ntmps167 ?_
  refine aGo Zr ?_
  repeat with_reducible intro K hK
  exact ZlZ (by simp[Zgu,h1])
 rw[h1]at k1
 cases h2:(y.length:Int) !=s.r.length
 rotate_left
 ·refine inC Tryz.func167 rfl Tryz.ntmps167 ?_
  refine aGo (cj2 Zr h2) ?_
  repeat with_reducible intro K hK
  exact ZlZ (by simp at h2;simp[Zgu];omega)
 have hn:(y.length:Int)=s.r.length:=by simpa using h2
 refine inC Tryz.func167 rfl Tryz.ntmps167 ?_
 refine aGo (cj2 Zr h2) ?_
 repeat with_reducible intro K hK
 refine ZaH (fun(k:Nat)=>[(18,ZbX y),(19,dI y.length),(20,dI k)]) (fun _=>[]) 0 0 (fun k=>k≤y.length∧(y.take k).all okF=true) (fun k=>y.length-k) 0 ⟨by omega,rfl⟩ ?_ ?_
 ·exact leGo trivial
 ·rintro k ⟨hk,hg⟩
  obtain⟨hw,h0⟩:=ZaS k
  by_cases h4:(k:Int)<y.length
  ·obtain⟨f,hx⟩:=getE (l:=y) (k:=k) (by omega)
   have k2:=Zck f (ZgH (hy.2 f (ZaJ hx)))
   cases h5:okF f
   ·rw[h5]at k2
    refine aGo (cj4 Zr h0 h4 (cj2 hx hw)) ?_
    repeat with_reducible intro K hK
    exact ZlZ (by simp only[Zgu,okP,ZcD hx h5,Bool.and_false])
   ·rw[h5]at k2
    refine aGo (cj4 Zr h0 h4 (cj2 hx hw)) ?_
    repeat with_reducible intro K hK
    exact Zah (k+1) ⟨by omega,ZaG hx hg h5⟩ (by omega) (by exact leGo trivial)
  ·rw[Ya8 (by omega)]at hg
   refine aGo (cj2 Zr h4) ?_
   repeat with_reducible intro K hK
   exact Zaj (by simp only[Zgu,okP,hg,h1,hn,decide_true,Bool.and_self])
theorem ZAf{α β:Type}{l:List α}{m:List β}{k:Nat}{x:α}{y:β}(hx:l[k]? =some x)(hy:m[k]? =some y):(l.zip m)[k]? =some (x,y):=by
 rw[List.getElem?_zip_eq_some];exact⟨hx,hy⟩
theorem ZuS(s:SysD)(y:List Zaf)(hs:smS s)(hy:smFs y):Zaa Tryz.prog 122 [encS s,ZbX y] (dB (Zcq s y)):=by
 refine Zae.toN ?_ rfl
 have Zr:=Tryz.results122
 have hl:=Zf4 hy
 have k1:=ZuU s y hs hy
 cases h1:Zgu s y
 ·rw[h1]at k1
  refine inC Tryz.func122 rfl Tryz.ntmps122 ?_
  refine aGo Zr ?_
  repeat with_reducible intro K hK
  exact Zaj (by simp[Zcq,h1])
 rw[h1]at k1
 obtain⟨hr,hlen,hok⟩:=ZcP.1 h1
 have hzl:(s.r.zip y).length=y.length:=by rw[List.length_zip];omega
 refine inC Tryz.func122 rfl Tryz.ntmps122 ?_
 refine aGo Zr ?_
 repeat with_reducible intro K hK
 refine ZaH (fun(k:Nat)=>[(2,.lp 0 0 0 0),(12,ZbX y),(13,dI y.length),(14,dI k)]) (fun _=>[(0,⟨88,0,2,[cS s],0,false⟩)]) 1 0 (fun k=>k≤y.length∧((s.r.zip y).take k).all (fun p=>ZcM p.1 p.2)=true) (fun k=>y.length-k) 0 ⟨by omega,rfl⟩ ?_ ?_
 ·exact leGo trivial
 ·rintro k ⟨hk,hg⟩
  obtain⟨hw,h0⟩:=ZaS k
  by_cases h4:(k:Int)<y.length
  ·obtain⟨f,hx⟩:=getE (l:=y) (k:=k) (by omega)
   obtain⟨w,hv⟩:=getE (l:=s.r) (k:=k) (by omega)
   have h4b:(k:Int)<s.r.length:=by omega
   have k2:=ZdT f (ZgH (hy.2 f (ZaJ hx)))
   have hz:=ZAf hv hx
   have bad:ZcM w f=false→D.v (.bool false)=dB (Zcq s y):=fun h=>Zaj (by unfold Zcq;rw[ZcD (p:=fun p:RowD×Zaf=>ZcM p.1 p.2) hz h,Bool.and_false])
   have good:ZcM w f=true→((s.r.zip y).take (k+1)).all (fun p=>ZcM p.1 p.2)=true:=fun h=>ZaG (p:=fun p:RowD×Zaf=>ZcM p.1 p.2) hz hg h
   cases h5:w.k==0
   ·cases h6:w.k==1
    ·refine aGo (cj4 Zr h0 h4 (cj4 h4b hx hv (cj3 hw h5 h6))) ?_
     repeat with_reducible intro K hK
     exact Zah (k+1) ⟨by omega,good (by simp[ZcM,h5,h6])⟩ (by omega) (by exact leGo trivial)
    ·by_cases h7:sgnD f>0
     ·refine aGo (cj4 Zr h0 h4 (cj4 h4b hx hv (cj4 hw h5 h6 h7))) ?_
      repeat with_reducible intro K hK
      exact bad (by simp[ZcM,h6];omega)
     ·refine aGo (cj4 Zr h0 h4 (cj4 h4b hx hv (cj4 hw h5 h6 h7))) ?_
      repeat with_reducible intro K hK
      exact Zah (k+1) ⟨by omega,good (by simp[ZcM,h5];omega)⟩ (by omega) (by exact leGo trivial)
   ·by_cases h7:sgnD f<0
    ·refine aGo (cj4 Zr h0 h4 (cj4 h4b hx hv (cj3 hw h5 h7))) ?_
     repeat with_reducible intro K hK
     exact bad (by simp[ZcM,h5];omega)
    ·have h6:(w.k==1)=false:=by simp at h5;simp[h5]
     refine aGo (cj4 Zr h0 h4 (cj4 h4b hx hv (cj3 hw h5 h7))) ?_
     repeat with_reducible intro K hK
     exact Zah (k+1) ⟨by omega,good (by simp[ZcM,h6];omega)⟩ (by omega) (by exact leGo trivial)
  ·have hg2:(s.r.zip y).all (fun p=>ZcM p.1 p.2)=true:=by rw[Ya8 (by omega)]at hg;exact hg
   refine aGo (cj2 Zr h4) ?_
   repeat with_reducible intro K hK
   exact Zaj (by simp only[Zcq,h1,hg2,Bool.and_self])
theorem ZBI(a b c:Rat)(za:(szQ a:Int)≤34359750000)(zb:(szQ b:Int)≤4194304)(zc:(szQ c:Int)≤4194304):Zae Tryz.prog 168 [encF (ofQ a),encF (ofQ b),encF (ofQ c)] (encF (ofQ (a+b*c))):=by
 have Zr:=Tryz.results168
 have k1:=ZAS b c (by omega) (by omega)
 have z:=ZfA b c
 have k2:=ZAT a (b*c) (by omega) (by omega)
 refine inC Tryz.func168 rfl Tryz.ntmps168 ?_
 exact aGo Zr trivial
open Classical in
noncomputable def ZiQ (a b:List Zag):Bool:=decide (Zdv a b)
theorem Ze0{a b:List Zag}:ZiQ a b=true↔Zdv a b:=by unfold ZiQ;simp only[decide_eq_true_eq]
structure ZBT where
 a:List Zag
 b:List Zag
 l:Int
def wkT(l:List Zag):Prop:=(l.length:Int)≤4096∧∀ t∈l,(szF t.f:Int)≤549755813888
theorem smT.wk{l:List Zag}(h:smT l):wkT l:=⟨h.1,fun t ht=>ZgH (h.2 t ht)⟩
theorem Zxp(n:Int)(a b:List Zag)(ha:Zai a n=true)(hb:Zai b n=true)(hs:wkT a)(hs2:wkT b):Zae Tryz.prog 124 [Zbr a,Zbr b] (dB (ZiQ a b)):=by
 have Zr:=Tryz.results124
 have hla:=hs.1
 have hlb:=hs2.1
 have kz:=ZfP 0 (by decide) (by decide)
 rw[Rat.intCast_zero]at kz
 have z0:(szF (ofQ 0):Int)≤549755813888:=by have:szQ 0≤4:=Zef 0 (by decide) (by decide);rw[Ze3];omega
 simp only[Zai,Ya2]at ha hb
 refine inC Tryz.func124 rfl Tryz.ntmps124 ?_
 refine aGo Zr ?_
 repeat with_reducible intro K hK
 refine ZaH (fun(x:ZBT)=>[(0,Zbr x.a),(1,Zbr x.b),(5,.lp 0 0 0 0)]) (fun x=>[(0,⟨35,0,4,[cF (ofQ 0)],0,false⟩)]) 1 0 (fun x=>goR n x.l x.a=true∧goR n x.l x.b=true∧(∀ t∈x.a,(szF t.f:Int)≤549755813888)∧(∀ t∈x.b,(szF t.f:Int)≤549755813888)∧x.a.length≤a.length∧x.b.length≤b.length∧(Zdv x.a x.b↔Zdv a b)) (fun x=>x.a.length+x.b.length) ⟨a,b,-1⟩ ⟨ha.2,hb.2,hs.2,hs2.2,Ya4 _,Ya4 _,Iff.rfl⟩ ?_ ?_
 ·exact leGo trivial
 ·rintro⟨a',b',l⟩ ⟨ga,gb,sa,sb,la,lb,hiff⟩
  dsimp only at ga gb sa sb la lb hiff ⊢
  match a',b',ga,gb,sa,sb,la,lb,hiff with
  | [],[],ga,gb,sa,sb,la,lb,hiff =>
    refine aGo Zr ?_
    repeat with_reducible intro K hK
    exact Zaj (Ze0.2 (hiff.1 Zvk)).symm
  | x ::a',[],ga,gb,sa,sb,la,lb,hiff =>
    simp only[List.length_cons,List.length_nil]at la lb
    have ga':=ZaN.1 ga
    have p1:((a'.length+1:Nat):Int)>0:=by omega
    have p2:(1:Int)≤((a'.length+1:Nat):Int):=by omega
    have p3:(((a'.length+1:Nat):Int)==0)=false:=by simp;omega
    have p4:(0:Int)<((a'.length+1:Nat):Int):=by omega
    have ox:=(Zeh ga'.2.2.1).1
    have kc:=ZcI x.f (ofQ 0) (sa x Yb7) z0
    rw[show cmpD x.f (ofQ 0)=sgQ (qOf x.f-0) by simp[cmpD,ox,Zbm,ZaM]]at kc
    have hb1:=Zku (b:=[]) ga (rfl:goR n x.v []=true)
    by_cases h5:sgQ (qOf x.f-0)>0
    ·refine aGo (cj4 Zr p1 p2 (cj4 p3 p4 h5 Zcy)) ?_
     repeat with_reducible intro K hK
     have hn:¬ Zdv a b:=fun h=>by have:=(hb1.1 (hiff.2 h)).1;rw[gt_iff_lt,Zds]at h5;grind
     refine Zaj ?_
     cases h:ZiQ a b
     ·rfl
     ·exact absurd (Ze0.1 h) hn
    ·refine aGo (cj4 Zr p1 p2 (cj4 p3 p4 h5 Zcy)) ?_
     repeat with_reducible intro K hK
     refine Zah ⟨a',[],x.v⟩ ⟨ga'.2.2.2,rfl,fun t ht=>sa t (Yb6 _ ht),sb,by dsimp only;omega,by dsimp only;omega,?_⟩ (by simp) (by exact leGo Zcy)
     rw[gt_iff_lt,Zds]at h5
     rw[← hiff,hb1]
     exact⟨fun h=>⟨by grind,h⟩,fun h=>h.2⟩
  | [],y ::b',ga,gb,sa,sb,la,lb,hiff =>
    simp only[List.length_cons,List.length_nil]at la lb
    have gb':=ZaN.1 gb
    have p1:((b'.length+1:Nat):Int)>0:=by omega
    have p2:(1:Int)≤((b'.length+1:Nat):Int):=by omega
    have p3:(((b'.length+1:Nat):Int)==0)=false:=by simp;omega
    have p4:(0:Int)<((b'.length+1:Nat):Int):=by omega
    have oy:=(Zeh gb'.2.2.1).1
    have kc:=ZcI (ofQ 0) y.f z0 (sb y Yb7)
    rw[show cmpD (ofQ 0) y.f=sgQ (0-qOf y.f) by simp[cmpD,oy,Zbm,ZaM]]at kc
    have hb1:=ZiP (a:=[]) (rfl:goR n y.v []=true) gb
    by_cases h5:sgQ (0-qOf y.f)>0
    ·refine aGo (cj4 Zr p1 p2 (cj4 p3 p4 h5 Zcy)) ?_
     repeat with_reducible intro K hK
     have hn:¬ Zdv a b:=fun h=>by have:=(hb1.1 (hiff.2 h)).1;rw[gt_iff_lt,Zds]at h5;grind
     refine Zaj ?_
     cases h:ZiQ a b
     ·rfl
     ·exact absurd (Ze0.1 h) hn
    ·refine aGo (cj4 Zr p1 p2 (cj4 p3 p4 h5 Zcy)) ?_
     repeat with_reducible intro K hK
     refine Zah ⟨[],b',y.v⟩ ⟨rfl,gb'.2.2.2,sa,fun t ht=>sb t (Yb6 _ ht),by dsimp only;omega,by dsimp only;omega,?_⟩ (by simp) (by exact leGo Zcy)
     rw[gt_iff_lt,Zds]at h5
     rw[← hiff,hb1]
     exact⟨fun h=>⟨by grind,h⟩,fun h=>h.2⟩
  | x ::a',y ::b',ga,gb,sa,sb,la,lb,hiff =>
    simp only[List.length_cons]at la lb
    have ga':=ZaN.1 ga
    have gb':=ZaN.1 gb
    have p1:((a'.length+1:Nat):Int)>0:=by omega
    have p2:(1:Int)≤((a'.length+1:Nat):Int):=by omega
    have p3:(((a'.length+1:Nat):Int)==0)=false:=by simp;omega
    have p4:(0:Int)<((a'.length+1:Nat):Int):=by omega
    have q1:((b'.length+1:Nat):Int)>0:=by omega
    have q2:(1:Int)≤((b'.length+1:Nat):Int):=by omega
    have q3:(((b'.length+1:Nat):Int)==0)=false:=by simp;omega
    have q4:(0:Int)<((b'.length+1:Nat):Int):=by omega
    have ox:=(Zeh ga'.2.2.1).1
    have oy:=(Zeh gb'.2.2.1).1
    have bad:¬ Zdv a b→D.v (.bool false)=dB (ZiQ a b):=fun hn=>Zaj (by
     cases h:ZiQ a b
     ·rfl
     ·exact absurd (Ze0.1 h) hn)
    by_cases h3:x.v≤y.v
    ·by_cases h4:y.v≤x.v
     ·have kc:=ZcI x.f y.f (sa x Yb7) (sb y Yb7)
      rw[show cmpD x.f y.f=sgQ (qOf x.f-qOf y.f) by simp[cmpD,ox,oy]]at kc
      have hb1:=Zsx ga gb (by omega)
      by_cases h5:sgQ (qOf x.f-qOf y.f)>0
      ·refine aGo (cj4 Zr p1 p2 (cj4 p3 p4 q1 (cj4 q2 q3 q4 (cj4 h3 h4 h5 Zcy)))) ?_
       repeat with_reducible intro K hK
       exact bad fun h=>by have:=(hb1.1 (hiff.2 h)).1;rw[gt_iff_lt,Zds]at h5;grind
      ·refine aGo (cj4 Zr p1 p2 (cj4 p3 p4 q1 (cj4 q2 q3 q4 (cj4 h3 h4 h5 Zcy)))) ?_
       repeat with_reducible intro K hK
       refine Zah ⟨a',b',x.v⟩ ⟨ga'.2.2.2,ZzH (by omega) gb'.2.2.2,fun t ht=>sa t (Yb6 _ ht),fun t ht=>sb t (Yb6 _ ht),by dsimp only;omega,by dsimp only;omega,?_⟩ (by simp;omega) (by exact leGo Zcy)
       rw[gt_iff_lt,Zds]at h5
       rw[← hiff,hb1]
       exact⟨fun h=>⟨by grind,h⟩,fun h=>h.2⟩
     ·have kc:=ZcI x.f (ofQ 0) (sa x Yb7) z0
      rw[show cmpD x.f (ofQ 0)=sgQ (qOf x.f-0) by simp[cmpD,ox,Zbm,ZaM]]at kc
      have gb2:goR n x.v (y ::b')=true:=ZaN.2 ⟨by omega,gb'.2⟩
      have hb1:=Zku ga gb2
      by_cases h5:sgQ (qOf x.f-0)>0
      ·refine aGo (cj4 Zr p1 p2 (cj4 p3 p4 q1 (cj4 q2 q3 q4 (cj4 h3 h4 h5 Zcy)))) ?_
       repeat with_reducible intro K hK
       exact bad fun h=>by have:=(hb1.1 (hiff.2 h)).1;rw[gt_iff_lt,Zds]at h5;grind
      ·refine aGo (cj4 Zr p1 p2 (cj4 p3 p4 q1 (cj4 q2 q3 q4 (cj4 h3 h4 h5 Zcy)))) ?_
       repeat with_reducible intro K hK
       refine Zah ⟨a',y ::b',x.v⟩ ⟨ga'.2.2.2,gb2,fun t ht=>sa t (Yb6 _ ht),sb,by dsimp only;omega,by simp only[List.length_cons];omega,?_⟩ (by simp) (by exact leGo Zcy)
       rw[gt_iff_lt,Zds]at h5
       rw[← hiff,hb1]
       exact⟨fun h=>⟨by grind,h⟩,fun h=>h.2⟩
    ·have h4:y.v≤x.v:=by omega
     have kc:=ZcI (ofQ 0) y.f z0 (sb y Yb7)
     rw[show cmpD (ofQ 0) y.f=sgQ (0-qOf y.f) by simp[cmpD,oy,Zbm,ZaM]]at kc
     have ga2:goR n y.v (x ::a')=true:=ZaN.2 ⟨by omega,ga'.2⟩
     have hb1:=ZiP ga2 gb
     by_cases h5:sgQ (0-qOf y.f)>0
     ·refine aGo (cj4 Zr p1 p2 (cj4 p3 p4 q1 (cj4 q2 q3 q4 (cj4 h3 h4 h5 Zcy)))) ?_
      repeat with_reducible intro K hK
      exact bad fun h=>by have:=(hb1.1 (hiff.2 h)).1;rw[gt_iff_lt,Zds]at h5;grind
     ·refine aGo (cj4 Zr p1 p2 (cj4 p3 p4 q1 (cj4 q2 q3 q4 (cj4 h3 h4 h5 Zcy)))) ?_
      repeat with_reducible intro K hK
      refine Zah ⟨x ::a',b',y.v⟩ ⟨ga2,gb'.2.2.2,sa,fun t ht=>sb t (Yb6 _ ht),by simp only[List.length_cons];omega,by dsimp only;omega,?_⟩ (by simp) (by exact leGo Zcy)
      rw[gt_iff_lt,Zds]at h5
      rw[← hiff,hb1]
      exact⟨fun h=>⟨by grind,h⟩,fun h=>h.2⟩
set_option maxHeartbeats 8000000
def tabL(n:Nat)(c:Nat→List D):List (List D):=(List.range n).map c
theorem Zc5(n:Nat)(c:Nat→List D):(tabL n c).length=n:=by simp[tabL]
theorem ZbA{n k:Nat}(c:Nat→List D)(h:k<n):(tabL n c)[k]? =some (c k):=by simp[tabL,h]
theorem Zb4{n:Nat}{c d:Nat→List D}(h:∀ u,u<n→c u=d u):tabL n c=tabL n d:=List.map_congr_left fun u hu=>h u (Yd2.1 hu)
theorem ZlA{n k:Nat}(c:Nat→List D)(x:List D):(tabL n c).set k x=tabL n (fun u=>if u=k then x else c u):=by
 apply List.ext_getElem
 ·simp[tabL]
 ·intro i h1 h2
  simp only[tabL,Yc0,List.length_range]at h2
  rw[List.getElem_set]
  simp only[tabL,List.getElem_map,List.getElem_range]
  by_cases e:k=i
  ·subst e;simp
  ·rw[if_neg e,if_neg (Ne.symm e)]
theorem ZyB(n:Nat)(z:List D):List.replicate n z=tabL n (fun _=>z):=by
 unfold tabL;rw[List.map_const',List.length_range]
abbrev zc:List D:=[dI 0,.nil,dI 0,.nil]
theorem ZuZ(a:Rat)(f g:Zaf)(hf:okF f=true)(hg:okF g=true)(za:(szQ a:Int)≤34359750000)(zf:smF f)(zg:smF g):Zae Tryz.prog 168 [encF (ofQ a),encF f,encF g] (encF (ofQ (a+qOf f*qOf g))):=by
 have:=ZBI a (qOf f) (qOf g) za (by rw[ZcY hf];exact zf) (by rw[ZcY hg];exact zg)
 rwa [← ZfK hf,← ZfK hg]at this
def Zgw(n k:Nat):List (List D):=tabL n (fun v=>if v<k then cF (ofQ 0)else zc)
theorem ZnP(n:Nat):Zgw n 0=List.replicate n zc:=by rw[ZyB];exact Zb4 fun u _=>by rw[if_neg (by omega)]
theorem Zjc(n k:Nat):(Zgw n k).length=n:=Zc5 _ _
theorem ZqO(n k:Nat):(Zgw n k).set k (cF (ofQ 0))=Zgw n (k+1):=by
 unfold Zgw
 rw[ZlA]
 refine Zb4 fun u _=>?_
 by_cases h:u=k
 ·rw[if_pos h,if_pos (by omega)]
 ·rw[if_neg h]
  by_cases h2:u<k
  ·rw[if_pos h2,if_pos (by omega)]
  ·rw[if_neg h2,if_neg (by omega)]
def ratL(n:Nat)(c:Nat→Rat):List (List D):=tabL n (fun v=>cF (ofQ (c v)))
theorem Zb7(n:Nat)(c:Nat→Rat):(ratL n c).length=n:=Zc5 _ _
theorem Za1{n k:Nat}(c:Nat→Rat)(h:k<n):(ratL n c)[k]? =some (cF (ofQ (c k))):=ZbA _ h
theorem Zdp{n k:Nat}(c:Nat→Rat)(q:Rat):(ratL n c).set k (cF (ofQ q))=ratL n (fun u=>if u=k then q else c u):=by
 unfold ratL
 rw[ZlA]
 refine Zb4 fun u _=>?_
 by_cases h:u=k<;>simp[h]
theorem ZaO{n:Nat}{c d:Nat→Rat}(h:∀ u,u<n→c u=d u):ratL n c=ratL n d:=Zb4 fun u hu=>by rw[h u hu]
theorem ZqP(n:Nat):Zgw n n=ratL n (fun _=>0):=Zb4 fun u hu=>by rw[if_pos hu]
theorem ZgB(n:Nat)(c:Nat→Rat)(keep:Nat→Bool):(∀ e,e∈ratL n c→okDs keep e=true)↔True:=by
 simp only[iff_true]
 intro e he
 obtain⟨v,_,rfl⟩:=Yc6.1 he
 rfl
theorem Zem(n k:Nat)(keep:Nat→Bool):(∀ e,e∈Zgw n k→okDs keep e=true)↔True:=by
 simp only[iff_true]
 intro e he
 obtain⟨v,_,rfl⟩:=Yc6.1 he
 split<;>rfl
def ZdM(s:SysD)(y:List Zaf)(k:Nat)(v:Nat):Rat:=mixG (indI v) (s.r.take k) (y.take k)
def ZhZ(s:SysD)(y:List Zaf)(k:Nat)(f:Zaf)(t:List Zag)(j:Nat)(v:Nat):Rat:=ZdM s y k v+qOf f*dotS (indI v) (t.take j)
theorem Zrt(s:SysD)(y:List Zaf)(k:Nat)(f:Zaf)(t:List Zag)(n:Nat):ratL n (ZhZ s y k f t 0)=ratL n (ZdM s y k):=ZaO fun u _=>by unfold ZhZ;rw[List.take_zero];simp only[dotS];grind
theorem Zfh{g:Int→Rat}{l:List Zag}{k:Nat}{t:Zag}(hx:l[k]? =some t):dotS g (l.take (k+1))=dotS g (l.take k)+qOf t.f*g t.v:=by
 rw[Yb4,hx,Option.toList_some,ZgW];simp only[dotS];grind
theorem Zru(s:SysD)(y:List Zaf)(k:Nat)(f:Zaf){l:List Zag}{j:Nat}{t:Zag}(ht:l[j]? =some t)(h0:0≤t.v)(n:Nat):(ratL n (ZhZ s y k f l j)).set t.v.toNat (cF (ofQ (ZhZ s y k f l j t.v.toNat+qOf f*qOf t.f)))=ratL n (ZhZ s y k f l (j+1)):=by
 rw[Zdp]
 refine ZaO fun u _=>?_
 unfold ZhZ
 rw[Zfh ht]
 simp only[indI]
 by_cases h:u=t.v.toNat
 ·rw[if_pos h,if_pos (by omega),h];grind
 ·rw[if_neg h,if_neg (by omega)];grind
theorem Zrr{s:SysD}{y:List Zaf}{k:Nat}{w:RowD}{f:Zaf}(hw:s.r[k]? =some w)(hf:y[k]? =some f)(n:Nat):ratL n (ZhZ s y k f w.t w.t.length)=ratL n (ZdM s y (k+1)):=ZaO fun u _=>by
 unfold ZhZ ZdM;rw[Zhs _ _ _ _ _ _ hw hf,Yc2]
theorem Zrs{s:SysD}{y:List Zaf}{k:Nat}{w:RowD}{f:Zaf}(hw:s.r[k]? =some w)(hf:y[k]? =some f)(h0:qOf f=0)(n:Nat):ratL n (ZdM s y (k+1))=ratL n (ZdM s y k):=ZaO fun u _=>by
 unfold ZdM;rw[Zhs _ _ _ _ _ _ hw hf,h0];grind
theorem Zrq(s:SysD)(y:List Zaf)(n:Nat):ratL n (ZdM s y 0)=ratL n (fun _=>0):=ZaO fun u _=>by unfold ZdM;rw[List.take_zero,Zga]
theorem ZyC(A:Rat)(f:Rat)(v:Int){B:Nat}:∀ (l:List Zag),(∀ t∈l,szF t.f≤B∧okF t.f=true)→∀ j,j≤l.length→szQ (A+f*dotS (indI v) (l.take j))≤szQ A+j*(szQ f+B+1):=by
 intro l hl j
 induction j with
 | zero =>
   intro _
   rw[List.take_zero,show A+f*dotS (indI v) []=A by simp only[dotS];grind]
   omega
 | succ j ih =>
   intro hj
   obtain⟨t,ht⟩:=getE (l:=l) (k:=j) (by omega)
   obtain⟨h1,h2⟩:=hl t (ZaJ ht)
   have i1:=ih (by omega)
   rw[Zfh ht,Nat.add_mul,Nat.one_mul]
   by_cases hv:t.v=v
   ·rw[show A+f*(dotS (indI v) (l.take j)+qOf t.f*indI v t.v)=(A+f*dotS (indI v) (l.take j))+f*qOf t.f by simp only[indI,if_pos hv];grind]
    have i2:=ZhY (A+f*dotS (indI v) (l.take j)) (f*qOf t.f)
    have i3:=ZfA f (qOf t.f)
    rw[ZcY h2]at i3
    omega
   ·rw[show A+f*(dotS (indI v) (l.take j)+qOf t.f*indI v t.v)=A+f*dotS (indI v) (l.take j) by simp only[indI,if_neg hv];grind]
    omega
theorem ZpI{A:Rat}{f:Zaf}{w:RowD}{n:Int}(v:Int)(hf:tnF f)(ho:okF f=true)(hw:tnT w.t)(hr:Zai w.t n=true){j:Nat}(hj:j≤w.t.length):(szQ (A+qOf f*dotS (indI v) (w.t.take j)):Int)≤szQ A+(j:Int)*524289:=by
 have h:=ZyC A (qOf f) v (B:=262144) w.t (fun t ht=>⟨by have:=hw.2 t ht;unfold tnF at this;omega,(ZaY hr ht).2.2.1⟩) j hj
 rw[ZcY ho]at h
 have h2:szF f≤262144:=by unfold tnF at hf;omega
 have h3:j*(szF f+262144+1)≤j*524289:=Nat.mul_le_mul_left _ (by omega)
 have:=Int.ofNat_le.2 (Yc7 h (Nat.add_le_add_left h3 _))
 simp only[Int.natCast_add,Int.natCast_mul]at this
 omega
theorem Zp5{s:SysD}(hr:Zao s=true){w:RowD}(hw:w∈s.r):Zai w.t s.n=true:=by
 have:=ZeA hr hw
 simp only[Zct,Ya2]at this
 exact this.1.1.1
theorem Zoo{s:SysD}{y:List Zaf}(hs:tnS s)(hy:tnFs y)(ho:okP y=true)(hr:Zao s=true)(v:Nat):∀ k,k≤y.length→k≤s.r.length→(szQ (ZdM s y k v):Int)≤4+(k:Int)*33554496:=by
 intro k
 induction k with
 | zero=>intro _ _;unfold ZdM;rw[List.take_zero,Zga];have:szQ 0≤4:=Zef 0 (by decide) (by decide);omega
 | succ k ih =>
   intro h1 h2
   obtain⟨f,hf⟩:=getE (l:=y) (k:=k) (by omega)
   obtain⟨w,hw⟩:=getE (l:=s.r) (k:=k) (by omega)
   have sw:=hs.2 w (ZaJ hw)
   have h3:=ZpI (A:=ZdM s y k v) v (hy.2 f (ZaJ hf)) (Ya6.1 ho f (ZaJ hf)) sw.1 (Zp5 hr (ZaJ hw)) (Ya4 _)
   have h4:=ih (by omega) (by omega)
   have h5:(w.t.length:Int)≤64:=sw.1.1
   have e:ZdM s y (k+1) v=ZdM s y k v+qOf f*dotS (indI v) (w.t.take w.t.length):=by unfold ZdM;rw[Zhs _ _ _ _ _ _ hw hf,Yc2]
   rw[e]
   omega
theorem ZpH{s:SysD}{y:List Zaf}(hs:tnS s)(hy:tnFs y)(ho:okP y=true)(hr:Zao s=true):∀ k,k≤y.length→k≤s.r.length→(szQ (mixV (s.r.take k) (y.take k)):Int)≤4+(k:Int)*524289:=by
 intro k
 induction k with
 | zero=>intro _ _;rw[List.take_zero,Zhr];have:szQ 0≤4:=Zef 0 (by decide) (by decide);omega
 | succ k ih =>
   intro h1 h2
   obtain⟨f,hf⟩:=getE (l:=y) (k:=k) (by omega)
   obtain⟨w,hw⟩:=getE (l:=s.r) (k:=k) (by omega)
   have h3:=ih (by omega) (by omega)
   have zf:(szF f:Int)≤262144:=hy.2 f (ZaJ hf)
   have zv:(szF w.v:Int)≤262144:=(hs.2 w (ZaJ hw)).2
   have o1:=Ya6.1 ho f (ZaJ hf)
   have o2:=(ZbC hr (ZaJ hw)).2.2.2
   rw[Zi6 _ _ _ _ _ hw hf]
   have i2:=ZhY (mixV (s.r.take k) (y.take k)) (qOf f*qOf w.v)
   have i3:=ZfA (qOf f) (qOf w.v)
   rw[ZcY o1,ZcY o2]at i3
   omega
def valQ(s:SysD)(y:List Zaf)(k:Nat):Rat:=mixV (s.r.take k) (y.take k)
theorem ZsO(s:SysD)(y:List Zaf):valQ s y 0=0:=by unfold valQ;rw[List.take_zero,Zhr]
theorem ZmD{s:SysD}{y:List Zaf}{k:Nat}{w:RowD}{f:Zaf}(hw:s.r[k]? =some w)(hf:y[k]? =some f):valQ s y (k+1)=valQ s y k+qOf f*qOf w.v:=Zi6 _ _ _ _ _ hw hf
theorem Zom{n:Nat}{c:Nat→Rat}(h:c n≠0):Zbg (n+1) c=Zbg n c++[⟨(n:Int),ofQ (c n)⟩]:=by rw[Zdg,if_neg h]
theorem ZmG{n:Nat}{c:Nat→Rat}(h:c n=0):Zbg (n+1) c=Zbg n c:=by rw[Zdg,if_pos h,List.append_nil]
theorem ZmF(c:Nat→Rat):Zbg 0 c=[]:=rfl
theorem ZBH(s:SysD)(y:List Zaf)(hs:tnS s)(hy:tnFs y):Zae Tryz.prog 123 [encS s,ZbX y] (.tup [Zbr (Zns s y).1,encF (Zns s y).2]):=by
 have Zr:=Tryz.results123
 have k1:=ZuU s y hs.sm hy.sm
 cases h1:Zgu s y
 ·rw[h1]at k1
  refine inC Tryz.func123 rfl Tryz.ntmps123 ?_
  rw[show Zns s y=([],zF) by simp[Zns,h1]]
  refine aGo Zr ?_
  repeat with_reducible intro K hK
  rfl
 rw[h1]at k1
 obtain⟨hr,hlen,hok⟩:=ZcP.1 h1
 have hn:=ZbL hr
 have hly:=hy.1
 have kz:=ZfP 0 (by decide) (by decide)
 rw[Rat.intCast_zero]at kz
 obtain⟨N,hN⟩:∃ N,s.n.toNat=N:=⟨_,rfl⟩
 have hNn:s.n=(N:Int):=by omega
 have hrep:List.replicate s.n.toNat [D.v (.int .i64 0),D.nil,D.v (.int .i64 0),D.nil]=Zgw N 0:=by rw[hN];exact(ZnP _).symm
 have hlf:=Zjc N 0
 have n0:=hn.1
 have n1:(24:Int)*s.n≤140737488355328:=by omega
 have n2:s.n≤9007199254740992:=by omega
 have n3:s.n≤s.n:=Int.le_refl _
 rw[show Zns s y=(mixT s y,ofQ (mixV s.r y)) by simp[Zns,h1]]
 have hmix:mixT s y=Zbg N (fun v=>mixG (indI v) s.r y):=by unfold mixT;rw[hN]
 rw[hmix]
 refine inC Tryz.func123 rfl Tryz.ntmps123 ?_
 refine aGo (cj4 Zr hrep hlf (cj4 n0 n1 n2 n3)) ?_
 repeat with_reducible intro K hK
 refine ZaH (fun(k:Nat)=>[(1,ZbX y),(2,.lp 0 0 0 0),(5,.lp 1 0 0 0),(6,.ls 2 1),(24,.ls 2 1),(25,dI N),(26,dI k)]) (fun k=>[(0,⟨88,0,2,[cS s],0,false⟩),(1,⟨35,0,4,[zc],0,false⟩),(2,⟨35,1,4,Zgw N k,0,false⟩)]) 3 0 (fun k=>k≤N) (fun k=>N-k) 0 (by omega) ?_ ?_
 ·exact leGo (cj2 ZgB Zem)
 ·rintro k hk
  obtain⟨hw,h0⟩:=ZaS k
  have hl:=Zjc N k
  by_cases h2:(k:Int)<N
  ·have hg:(Zgw N k)[k]? =some zc:=by unfold Zgw;rw[ZbA _ (by omega),if_neg (by omega)]
   have hset:=ZqO N k
   refine aGo (cj4 Zr h0 h2 (cj4 hw hl hg (cj2 hset Yb0))) ?_
   repeat with_reducible intro K hK
   exact Zah (k+1) (by omega) (by omega) (by exact leGo (cj2 ZgB Zem))
  ·obtain rfl:k=N:=by omega
   have hf0:Zgw k k=ratL k (ZdM s y 0):=(ZqP k).trans (Zrq s y k).symm
   have hv0:=ZsO s y
   rw[hf0]
   refine aGo (cj2 Zr h2) ?_
   repeat with_reducible intro K hK
   refine ZaH (fun(i:Nat)=>[(2,.lp 0 0 0 0),(5,.lp 1 0 0 0),(6,.ls 2 1),(8,.lp 3 0 0 0),(35,ZbX y),(36,dI y.length),(37,dI i)]) (fun i=>[(0,⟨88,0,2,[cS s],0,false⟩),(1,⟨35,0,4,[zc],0,false⟩),(2,⟨35,1,4,ratL k (ZdM s y i),0,false⟩),(3,⟨35,0,4,[cF (ofQ (valQ s y i))],0,false⟩)]) 4 0 (fun i=>i≤y.length) (fun i=>y.length-i) 0 (by omega) ?_ ?_
   ·exact leGo (cj3 ZgB Zem hv0)
   ·rintro i hi
    obtain⟨hwi,i0⟩:=ZaS i
    have hli:=Zb7 k (ZdM s y i)
    by_cases h3:(i:Int)<y.length
    ·obtain⟨f,hf⟩:=getE (l:=y) (k:=i) (by omega)
     obtain⟨w,hrw⟩:=getE (l:=s.r) (k:=i) (by omega)
     have h3b:(i:Int)<s.r.length:=by omega
     have tf:=hy.2 f (ZaJ hf)
     have tw:=hs.2 w (ZaJ hrw)
     have of:=Ya6.1 hok f (ZaJ hf)
     have ow:=(ZbC hr (ZaJ hrw)).2.2.2
     have rw':=Zp5 hr (ZaJ hrw)
     have ks:=ZdT f (ZgH tf.sm)
     cases h4:sgnD f==0
     rotate_left
     ·have q0:qOf f=0:=by
       have:sgnD f=0:=by simpa using h4
       simp only[sgnD,of,if_true]at this
       exact Ze7.1 this
      have e1:=Zrs hrw hf q0 k
      have e2:valQ s y (i+1)=valQ s y i:=by rw[ZmD hrw hf,q0];grind
      refine aGo (cj4 Zr i0 h3 (cj4 h3b hf hrw (cj2 hwi h4))) ?_
      repeat with_reducible intro K hK
      exact Zah (i+1) (by omega) (by omega) (by exact leGo (cj4 ZgB Zem e1 e2))
     ·refine aGo (cj4 Zr i0 h3 (cj4 h3b hf hrw (cj2 hwi h4))) ?_
      repeat with_reducible intro K hK
      have hj0:=Zrt s y i f w.t k
      have hlw:=tw.1.1
      refine ZaH (fun(j:Nat)=>[(2,.lp 0 0 0 0),(5,.lp 1 0 0 0),(6,.ls 2 1),(8,.lp 3 0 0 0),(9,dI i),(10,.lp 4 0 0 0),(35,ZbX y),(36,dI y.length),(37,dI i),(50,Zbr w.t),(51,dI w.t.length),(52,dI j)]) (fun j=>[(0,⟨88,0,2,[cS s],0,false⟩),(1,⟨35,0,4,[zc],0,false⟩),(2,⟨35,1,4,ratL k (ZhZ s y i f w.t j),0,false⟩),(3,⟨35,0,4,[cF (ofQ (valQ s y i))],0,false⟩),(4,⟨35,0,4,[cF f],0,false⟩)]) 5 0 (fun j=>j≤w.t.length) (fun j=>w.t.length-j) 0 (by omega) ?_ ?_
      ·exact leGo (cj3 ZgB Zem hj0)
      ·rintro j hj
       obtain⟨hwj,j0⟩:=ZaS j
       have hlj:=Zb7 k (ZhZ s y i f w.t j)
       by_cases h5:(j:Int)<w.t.length
       ·obtain⟨t,ht⟩:=getE (l:=w.t) (k:=j) (by omega)
        obtain⟨t0,t1,t2,_⟩:=ZaY rw' (ZaJ ht)
        rw[hNn]at t1
        have hg:=Za1 (n:=k) (ZhZ s y i f w.t j) (k:=t.v.toNat) (by omega)
        have hset:=Zru s y i f ht t0 k
        have z1:=Zoo hs hy hok hr t.v.toNat i hi (by omega)
        have z2:=ZpI (A:=ZdM s y i t.v.toNat) (n:=s.n) t.v.toNat tf of tw.1 rw' hj
        have ka:=ZuZ (ZhZ s y i f w.t j t.v.toNat) f t.f of t2 (by unfold ZhZ;omega) tf.sm (tw.1.2 t (ZaJ ht)).sm
        refine aGo (cj4 Zr j0 h5 (cj4 ht t0 t1 (cj4 hg hset hlj (cj2 hwj Yb0)))) ?_
        repeat with_reducible intro K hK
        exact Zah (j+1) (by omega) (by omega) (by exact leGo (cj2 ZgB Zem))
       ·obtain rfl:j=w.t.length:=by omega
        have e1:=Zrr hrw hf k
        have e2:=ZmD hrw hf
        have zv:=ZpH hs hy hok hr i hi (by omega)
        have ka:=ZuZ (valQ s y i) f w.v of ow (by unfold valQ;omega) tf.sm tw.2.sm
        refine aGo (cj4 Zr h5 i0 (cj3 h3b hrw hwi)) ?_
        repeat with_reducible intro K hK
        exact Zah (i+1) (by omega) (by omega) (by exact leGo (cj4 ZgB Zem e1 e2))
    ·obtain rfl:i=y.length:=by omega
     obtain⟨c,hc⟩:∃ c:Nat→Rat,(fun v:Nat=>mixG (indI v) s.r y)=c:=⟨_,rfl⟩
     have e1:ratL k (ZdM s y y.length)=ratL k c:=ZaO fun u _=>by
      rw[← hc];unfold ZdM;rw[hlen,Yc2,← hlen,Yc2]
     have e2:valQ s y y.length=mixV s.r y:=by unfold valQ;rw[hlen,Yc2,← hlen,Yc2]
     have zc':∀ u,(szQ (c u):Int)≤549755813888:=fun u=>by
      have h:=Zoo hs hy hok hr u y.length (Ya4 _) (by omega)
      unfold ZdM at h
      rw[hlen,Yc2,← hlen,Yc2]at h
      rw[← hc];dsimp only;omega
     rw[e1,e2]
     have hlc:=Zb7 k c
     refine aGo (cj3 Zr h3 hlc) ?_
     repeat with_reducible intro K hK
     refine aLe (Zd9 13 144 5 rfl) ?_
     have ht0:=ZmF c
     refine ZaH (fun(u:Nat)=>[(5,.lp 1 0 0 0),(8,.lp 3 0 0 0),(13,.ls 4 (Zbg u c).length),(80,.ls 2 1),(81,dI k),(82,dI u)]) (fun u=>[(1,⟨35,0,4,[zc],0,false⟩),(2,⟨35,1,4,ratL k c,0,false⟩),(3,⟨35,0,4,[cF (ofQ (mixV s.r y))],0,false⟩),(4,⟨144,(Zbg u c).length,5,(Zbg u c).map cT,0,false⟩)]) 5 0 (fun u=>u≤k) (fun u=>k-u) 0 (by omega) ?_ ?_
     ·exact leGo (cj3 ZgB Zem ht0)
     ·rintro u hu
      obtain⟨hwu,u0⟩:=ZaS u
      have htl:=Zjs c u
      by_cases h6:(u:Int)<k
      ·have hg:=Za1 c (show u<k by omega)
       have ks:=ZdT (ofQ (c u)) (by rw[Ze3];exact zc' u)
       rw[Zcw]at ks
       by_cases h7:c u=0
       ·have h8:(sgQ (c u) !=0)=false:=by simp[Ze7.2 h7]
        have e3:=ZmG h7
        refine aGo (cj4 Zr u0 h6 (cj4 hg hlc hwu h8)) ?_
        repeat with_reducible intro K hK
        exact Zah (u+1) (by omega) (by omega) (by exact leGo (cj3 ZgB Zem e3))
       ·have h8:(sgQ (c u) !=0)=true:=by simp[Ze7,h7]
        have e3:=Zom h7
        refine aGo (cj4 Zr u0 h6 (cj4 hg hlc hwu h8)) ?_
        repeat with_reducible intro K hK
        exact Zah (u+1) (by omega) (by omega) (by exact leGo (cj3 ZgB Zem e3))
      ·obtain rfl:u=k:=by omega
       refine aGo (cj2 Zr h6) ?_
       repeat with_reducible intro K hK
       rw[ZaF (fun _=>rfl),hc]
theorem Zvl{n:Nat}{a b:List Zag}(ha:Zai a n=true)(hb:Zai b n=true):ZiQ a b=ZhM n a b:=by
 rw[Bool.eq_iff_iff,Ze0,ZeZ ha hb]
theorem Zon{n:Nat}{c:Nat→Rat}{t:Zag}(h:t∈Zbg n c):∃ v,v<n∧t=⟨(v:Int),ofQ (c v)⟩:=by
 unfold Zbg at h
 obtain⟨v,hv,e⟩:=List.mem_filterMap.1 h
 split at e
 ·cases e
 ·cases e;exact⟨v,Yd2.1 hv,rfl⟩
theorem Zzu{s:SysD}{y:List Zaf}(hs:tnS s)(hy:tnFs y)(hm:Zgu s y=true):wkT (mixT s y):=by
 obtain⟨hr,hlen,hok⟩:=ZcP.1 hm
 have hn:=ZbL hr
 have hly:=hy.1
 refine⟨by have:=Zjs (fun v=>mixG (indI v) s.r y) s.n.toNat;unfold mixT;omega,fun t ht=>?_⟩
 obtain⟨v,_,rfl⟩:=Zon ht
 have h:=Zoo hs hy hok hr v y.length (Ya4 _) (by omega)
 unfold ZdM at h
 rw[hlen,Yc2,← hlen,Yc2]at h
 rw[Ze3]
 omega
theorem ZyD{s:SysD}{y:List Zaf}(hs:tnS s)(hy:tnFs y)(hm:Zgu s y=true):(szQ (mixV s.r y):Int)≤33554500:=by
 obtain⟨hr,hlen,hok⟩:=ZcP.1 hm
 have h:=ZpH hs hy hok hr y.length (Ya4 _) (by omega)
 have hly:=hy.1
 rw[hlen,Yc2,← hlen,Yc2]at h
 omega
theorem Zol{s:SysD}{goal:List Zag}{y:List Zaf}(h:(Zcq s y&&Zai goal s.n&&ZhM s.n.toNat (mixT s y) goal)=false):D.tup [encF zF,dB false]=D.tup [encF (Zbe s goal y).1,dB (Zbe s goal y).2]:=by
 unfold Zbe;rw[h];rfl
theorem ZqY(s:SysD)(goal:List Zag)(y:List Zaf)(hs:tnS s)(hg:smT goal)(hy:tnFs y):Zae Tryz.prog 90 [encS s,Zbr goal,ZbX y] (.tup [encF (Zbe s goal y).1,dB (Zbe s goal y).2]):=by
 have Zr:=Tryz.results90
 have k1:=ZuS s y hs.sm hy.sm
 have k2:=Zfa goal s.n hg
 cases h1:Zcq s y
 ·rw[h1]at k1
  refine inC Tryz.func90 rfl Tryz.ntmps90 ?_
  refine aGo Zr ?_
  repeat with_reducible intro K hK
  exact Zol (by rw[h1];rfl)
 rw[h1]at k1
 cases h2:Zai goal s.n
 ·rw[h2]at k2
  refine inC Tryz.func90 rfl Tryz.ntmps90 ?_
  refine aGo Zr ?_
  repeat with_reducible intro K hK
  exact Zol (by rw[h2];simp)
 rw[h2]at k2
 have hm:Zgu s y=true:=by simp only[Zcq,Ya2]at h1;exact h1.1
 obtain⟨hr,hlen,hok⟩:=ZcP.1 hm
 have k3:=ZBH s y hs hy
 rw[show Zns s y=(mixT s y,ofQ (mixV s.r y)) by simp[Zns,hm]]at k3
 have k4:=Zxp s.n.toNat (mixT s y) goal (ZcG hr y) (Zb6 h2) (Zzu hs hy hm) hg.wk
 rw[Zvl (ZcG hr y) (Zb6 h2)]at k4
 cases h3:ZhM s.n.toNat (mixT s y) goal
 ·rw[h3]at k4
  refine inC Tryz.func90 rfl Tryz.ntmps90 ?_
  refine aGo Zr ?_
  repeat with_reducible intro K hK
  exact Zol (by rw[h3,Bool.and_false])
 ·rw[h3]at k4
  refine inC Tryz.func90 rfl Tryz.ntmps90 ?_
  rw[show Zbe s goal y=(ofQ (mixV s.r y),true) by simp[Zbe,h1,h2,h3]]
  exact aGo Zr trivial
theorem ZvQ{s:SysD}{goal:List Zag}{y:List Zaf}(hs:tnS s)(hy:tnFs y):(szF (Zbe s goal y).1:Int)≤33554500:=by
 unfold Zbe
 split
 ·rename_i h
  simp only[Ya2,Zcq]at h
  exact ZyD hs hy h.1.1.1
 ·show(szF zF:Int)≤_
  decide
theorem Zsn(s:SysD)(y:List Zaf)(hs:tnS s)(hy:tnFs y):Zae Tryz.prog 93 [encS s,ZbX y] (dB (ZbM s y)):=by
 have Zr:=Tryz.results93
 have k1:=ZqY s [] y hs ⟨by decide,fun t ht=>by cases ht⟩ hy
 have z:=ZvQ (goal:=[]) hs hy
 have k2:=ZdT (Zbe s [] y).1 (by omega)
 have e:ZbM s y=((Zbe s [] y).2&&decide (sgnD (Zbe s [] y).1>0)):=rfl
 cases h:(Zbe s [] y).2
 ·rw[h]at k1
  refine inC Tryz.func93 rfl Tryz.ntmps93 ?_
  refine aGo Zr ?_
  repeat with_reducible intro K hK
  exact Zaj (by rw[e,h];rfl)
 ·rw[h]at k1
  refine inC Tryz.func93 rfl Tryz.ntmps93 ?_
  refine aGo Zr ?_
  repeat with_reducible intro K hK
  exact Zaj (by rw[e,h];rfl)
theorem ZeE{s:SysD}{goal:List Zag}{d:List Zaf}(h:rayD s goal d=false):D.v (.bool false)=dB (rayD s goal d):=Zaj h.symm
theorem ZBG(s:SysD)(goal:List Zag)(d:List Zaf)(hs:smS s)(hg:smT goal)(hd:smFs d):Zae Tryz.prog 95 [encS s,Zbr goal,ZbX d] (dB (rayD s goal d)):=by
 have Zr:=Tryz.results95
 have hl:=Zoz hs
 have hlx:=Zf4 hd
 have k1:=ZdR s hs
 have k2:=Zfa goal s.n hg
 cases h1:Zao s
 ·rw[h1]at k1
  refine inC Tryz.func95 rfl Tryz.ntmps95 ?_
  refine aGo Zr ?_
  repeat with_reducible intro K hK
  exact ZeE (by simp[rayD,h1])
 rw[h1]at k1
 cases h2:Zai goal s.n
 ·rw[h2]at k2
  refine inC Tryz.func95 rfl Tryz.ntmps95 ?_
  refine aGo Zr ?_
  repeat with_reducible intro K hK
  exact ZeE (by simp[rayD,h2])
 rw[h2]at k2
 cases h3:(d.length:Int) !=s.n
 rotate_left
 ·refine inC Tryz.func95 rfl Tryz.ntmps95 ?_
  refine aGo (cj2 Zr h3) ?_
  repeat with_reducible intro K hK
  exact ZeE (by simp at h3;simp[rayD,h3])
 have hn:(d.length:Int)=s.n:=by simpa using h3
 refine inC Tryz.func95 rfl Tryz.ntmps95 ?_
 refine aGo (cj2 Zr h3) ?_
 repeat with_reducible intro K hK
 refine ZaH (fun(k:Nat)=>[(1,Zbr goal),(2,ZbX d),(3,.lp 0 0 0 0),(33,ZbX d),(34,dI d.length),(35,dI k)]) (fun k=>[(0,⟨88,0,2,[cS s],0,false⟩)]) 1 0 (fun k=>k≤d.length∧(d.take k).all okF=true∧(d.take k).all (fun f=>decide (0≤sgnD f))=true) (fun k=>d.length-k) 0 ⟨by omega,rfl,rfl⟩ ?_ ?_
 ·exact leGo trivial
 ·rintro k ⟨hk,hg1,hg2⟩
  obtain⟨hw,h0⟩:=ZaS k
  by_cases h4:(k:Int)<d.length
  ·obtain⟨f,hx⟩:=getE (l:=d) (k:=k) (by omega)
   have k3:=ZdT f (ZgH (hd.2 f (ZaJ hx)))
   have k4:=Zck f (ZgH (hd.2 f (ZaJ hx)))
   cases h5:okF f
   ·rw[h5]at k4
    refine aGo (cj4 Zr h0 h4 (cj2 hx hw)) ?_
    repeat with_reducible intro K hK
    exact ZeE (by simp[rayD,okP,ZcD hx h5])
   rw[h5]at k4
   by_cases h6:sgnD f<0
   ·refine aGo (cj4 Zr h0 h4 (cj3 hx hw h6)) ?_
    repeat with_reducible intro K hK
    exact ZeE (by have:ZeH d=false:=ZcD hx (by simp;omega);simp[rayD,this])
   ·refine aGo (cj4 Zr h0 h4 (cj3 hx hw h6)) ?_
    repeat with_reducible intro K hK
    exact Zah (k+1) ⟨by omega,ZaG hx hg1 h5,ZaG hx hg2 (by simp;omega)⟩ (by omega) (by exact leGo trivial)
  ·rw[Ya8 (by omega)]at hg1 hg2
   refine aGo (cj2 Zr h4) ?_
   repeat with_reducible intro K hK
   refine ZaH (fun(k:Nat)=>[(1,Zbr goal),(2,ZbX d),(49,Zsm s.r),(50,dI s.r.length),(51,dI k)]) (fun k=>[]) 0 0 (fun k=>k≤s.r.length∧(s.r.take k).all (fun w=>ZdA w.k (sgQ (dotD w.t d)))=true) (fun k=>s.r.length-k) 0 ⟨by omega,rfl⟩ ?_ ?_
   ·exact leGo trivial
   ·rintro k ⟨hk,hr⟩
    obtain⟨hw,h0⟩:=ZaS k
    by_cases h4:(k:Int)<s.r.length
    ·obtain⟨w,hx⟩:=getE (l:=s.r) (k:=k) (by omega)
     obtain⟨h6,h7⟩:=ZnD h1 hn hx
     have sm:=hs.2 w (ZaJ hx)
     have k3:=Zi8 w.t d sm.1 hd
     rw[ZhW (by rw[h6,show okP d=true from hg1];rfl)]at k3
     have k4:=ZdT (ofQ (dotD w.t d)) (by have:=Zos w d sm.1 hd h6 hg1;omega)
     rw[Zcw]at k4
     have bad:ZdA w.k (sgQ (dotD w.t d))=false→D.v (.bool false)=dB (rayD s goal d):=fun h=>ZeE (by simp[rayD,ZcD (p:=fun w:RowD=>ZdA w.k (sgQ (dotD w.t d))) hx h])
     have good:ZdA w.k (sgQ (dotD w.t d))=true→(s.r.take (k+1)).all (fun w=>ZdA w.k (sgQ (dotD w.t d)))=true:=fun h=>ZaG (p:=fun w:RowD=>ZdA w.k (sgQ (dotD w.t d))) hx hr h
     generalize sgQ (dotD w.t d)=c at *
     by_cases g1:c<0
     ·have g3:¬ c>0:=by omega
      cases g2:w.k !=1
      ·refine aGo (cj4 Zr h0 h4 (cj4 hx hw g1 (cj2 g2 g3))) ?_
       repeat with_reducible intro K hK
       exact Zah (k+1) ⟨by omega,good (by simp at g2;simp[ZdA,g2];omega)⟩ (by omega) (by exact leGo trivial)
      ·refine aGo (cj4 Zr h0 h4 (cj4 hx hw g1 (cj2 g2 g3))) ?_
       repeat with_reducible intro K hK
       exact bad (by simp at g2;simp[ZdA,g2];omega)
     by_cases g3:c>0
     ·cases g2:w.k !=0
      ·refine aGo (cj4 Zr h0 h4 (cj4 hx hw g1 (cj2 g2 g3))) ?_
       repeat with_reducible intro K hK
       exact Zah (k+1) ⟨by omega,good (by simp at g2;simp[ZdA,g2];omega)⟩ (by omega) (by exact leGo trivial)
      ·refine aGo (cj4 Zr h0 h4 (cj4 hx hw g1 (cj2 g2 g3))) ?_
       repeat with_reducible intro K hK
       exact bad (by simp at g2;simp[ZdA,g2];omega)
     ·refine aGo (cj4 Zr h0 h4 (cj4 hx hw g1 g3)) ?_
      repeat with_reducible intro K hK
      exact Zah (k+1) ⟨by omega,good (by simp[ZdA];omega)⟩ (by omega) (by exact leGo trivial)
    ·rw[Ya8 (by omega)]at hr
     have k3:=Zi8 goal d hg hd
     rw[ZhW (by rw[hn,h2,show okP d=true from hg1];rfl)]at k3
     have k4:=ZdT (ofQ (dotD goal d)) (by have:=Zos ⟨goal,0,zF⟩ d hg hd (by rw[hn];exact h2) hg1;dsimp only at this;omega)
     rw[Zcw]at k4
     refine aGo (cj2 Zr h4) ?_
     repeat with_reducible intro K hK
     exact Zaj (by simp only[rayD,h1,h2,hn,okP,ZeH,hg1,hg2,hr,decide_true,Bool.and_self,Bool.true_and])
theorem Zxo(f:Zaf):Zaa Tryz.prog 94 [encF f] (dB (Zej f zF)):=by
 refine Zae.toN ?_ rfl
 have Zr:=Tryz.results94
 have e:Zej f zF=(f.p.s==0&&f.q.s==0&&((f.p.d.length:Int)==0)&&((f.q.d.length:Int)==0)):=by
  rw[Bool.eq_iff_iff,Zg7]
  cases f with|mk p q=>cases p with|mk a b=>cases q with|mk c d =>
  simp[zF,zB,List.length_eq_zero_iff]
  constructor
  ·rintro⟨⟨rfl,rfl⟩,rfl,rfl⟩;simp
  ·rintro⟨⟨⟨rfl,rfl⟩,h1⟩,h2⟩
   exact⟨⟨rfl,by simpa using h1⟩,rfl,by simpa using h2⟩
 rw[e]
 refine inC Tryz.func94 rfl Tryz.ntmps94 ?_
 cases h1:f.p.s==0
 ·exact aGo (cj2 Zr h1) trivial
 cases h2:f.q.s==0
 ·exact aGo (cj3 Zr h1 h2) trivial
 cases h3:(f.p.d.length:Int)==0
 ·exact aGo (cj4 Zr h1 h2 h3) trivial
 exact aGo (cj4 Zr h1 h2 h3) trivial
theorem isE{α:Type}(l:List α):l.isEmpty=((l.length:Int)==0):=by
 cases l with
 | nil=>rfl
 | cons x l=>simp;omega
def tnO(o:OptD):Prop:=tnF o.v∧tnFs o.x∧tnFs o.y∧tnFs o.d
theorem Zq0(s:SysD)(goal:List Zag)(o:OptD)(hs:tnS s)(hg:smT goal)(ho:tnO o):Zae Tryz.prog 57 [encS s,Zbr goal,encO o] (dB (Zcf s goal o)):=by
 have Zr:=Tryz.results57
 have k1:=ZdR s hs.sm
 have k2:=Zfa goal s.n hg
 cases h1:Zao s
 ·rw[h1]at k1
  refine inC Tryz.func57 rfl Tryz.ntmps57 ?_
  refine aGo Zr ?_
  repeat with_reducible intro K hK
  exact Zaj (by simp[Zcf,h1])
 rw[h1]at k1
 cases h2:Zai goal s.n
 ·rw[h2]at k2
  refine inC Tryz.func57 rfl Tryz.ntmps57 ?_
  refine aGo Zr ?_
  repeat with_reducible intro K hK
  exact Zaj (by simp[Zcf,h2])
 rw[h2]at k2
 have c1:=ZqY s goal o.y hs hg ho.2.2.1
 have c2:=Zi8 goal o.x hg ho.2.1.sm
 have c3:=ZwR s o.x hs.sm ho.2.1.sm
 have c4:=Zmf (Zcn goal o.x).1 o.v
 have c5:=Zmf (Zbe s goal o.y).1 o.v
 have c6:=Zsn s o.y hs ho.2.2.1
 have c7:=Zxo o.v
 have c8:=ZBG s goal o.d hs.sm hg ho.2.2.2.sm
 cases e0:o.k==0
 rotate_left
 ·have e0':o.k=0:=by simpa using e0
  have hd:Zcf s goal o=((Zbe s goal o.y).2&&ZaA s o.x&&Zej (Zcn goal o.x).1 o.v&&Zej (Zbe s goal o.y).1 o.v&&((o.d.length:Int)==0)):=by
   simp only[Zcf,h1,h2,e0',if_true,Bool.true_and,isE]
  rw[hd]
  refine inC Tryz.func57 rfl Tryz.ntmps57 ?_
  cases d1:(Zbe s goal o.y).2
  ·rw[d1]at c1
   exact aGo (cj2 Zr e0) trivial
  rw[d1]at c1
  cases d2:ZaA s o.x
  ·rw[d2]at c3
   exact aGo (cj2 Zr e0) trivial
  rw[d2]at c3
  cases d3:Zej (Zcn goal o.x).1 o.v
  ·rw[d3]at c4
   exact aGo (cj2 Zr e0) trivial
  rw[d3]at c4
  cases d4:Zej (Zbe s goal o.y).1 o.v
  ·rw[d4]at c5
   exact aGo (cj2 Zr e0) trivial
  rw[d4]at c5
  exact aGo (cj2 Zr e0) trivial
 have e0':¬ o.k=0:=by simpa using e0
 cases e1:o.k==1
 rotate_left
 ·have e1':o.k=1:=by simpa using e1
  have hd:Zcf s goal o=(ZbM s o.y&&((o.x.length:Int)==0)&&((o.d.length:Int)==0)&&Zej o.v zF):=by
   simp only[Zcf,h1,h2,e0',e1',if_true,if_false,Bool.true_and,isE]
   rfl
  rw[hd]
  refine inC Tryz.func57 rfl Tryz.ntmps57 ?_
  cases d1:ZbM s o.y
  ·rw[d1]at c6
   exact aGo (cj3 Zr e0 e1) trivial
  rw[d1]at c6
  cases d2:(o.x.length:Int)==0
  ·exact aGo (cj4 Zr e0 e1 d2) trivial
  cases d3:(o.d.length:Int)==0
  ·exact aGo (cj4 Zr e0 e1 (cj2 d2 d3)) trivial
  exact aGo (cj4 Zr e0 e1 (cj2 d2 d3)) trivial
 have e1':¬ o.k=1:=by simpa using e1
 cases e2:o.k==2
 rotate_left
 ·have e2':o.k=2:=by simpa using e2
  have hd:Zcf s goal o=(ZaA s o.x&&rayD s goal o.d&&((o.y.length:Int)==0)&&Zej o.v zF):=by
   simp only[Zcf,h1,h2,e2',if_true,Bool.true_and,isE]
   rfl
  rw[hd]
  refine inC Tryz.func57 rfl Tryz.ntmps57 ?_
  cases d1:ZaA s o.x
  ·rw[d1]at c3
   exact aGo (cj4 Zr e0 e1 e2) trivial
  rw[d1]at c3
  cases d2:rayD s goal o.d
  ·rw[d2]at c8
   exact aGo (cj4 Zr e0 e1 e2) trivial
  rw[d2]at c8
  cases d3:(o.y.length:Int)==0
  ·exact aGo (cj4 Zr e0 e1 (cj2 e2 d3)) trivial
  exact aGo (cj4 Zr e0 e1 (cj2 e2 d3)) trivial
 have e2':¬ o.k=2:=by simpa using e2
 refine inC Tryz.func57 rfl Tryz.ntmps57 ?_
 refine aGo (cj4 Zr e0 e1 e2) ?_
 repeat with_reducible intro K hK
 exact Zaj (by simp[Zcf,h1,h2,e0',e1',e2'])
end Go.Proofs.YtiincpioidnciaaGreat
