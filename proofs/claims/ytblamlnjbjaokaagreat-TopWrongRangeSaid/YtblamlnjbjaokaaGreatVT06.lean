/-
  The walk of a round's body as far as it goes, as one rule (as aGo).
-/
import Derived.Test.YtblamlnjbjaokaaGreatVLib
import Derived.Test.YtblamlnjbjaokaaGreatVConv
import Derived.Test.YtblamlnjbjaokaaGreatVT05
import Derived.Shelf.Sort.Plain
import Derived.Shelf.Slices.In.SortNone
import Derived.Shelf.Slices.CompactI
import Derived.Test.YtblamlnjbjaokaaGreatVT04
import Derived.Test.YtblamlnjbjaokaaGreatVT02
import Derived.Test.YtblamlnjbjaokaaGreatVT03
import Derived.Test.YtblamlnjbjaokaaGreatVT00
namespace Go.Proofs.YtblamlnjbjaokaaGreat
set_option linter.unusedVariables false
set_option linter.unusedSimpArgs false
set_option linter.unusedSectionVars false
open Go Go.RowKit
section ifl
variable [Ifl]
theorem rGo{F Y X:Prop}(f:F)(y:Y)(h:F→Keep Y→X:=by
 intro hf y
 repeat(first
  | (refine hI _ ?_;clear hI;clear KI)
  | (refine hK _ ?_;try clear hK;try clear K)
  | ((with_reducible apply useK);(with_reducible assumption))
  | (refine rSeq fun KI hI=>?_)
  | (refine ZyP ?_)
  | (refine rSkip ?_)
  | (refine rExit ?_)
  | (refine rOps _ rfl (by kernel_rfl) ?_)
  | (refine ZyM rfl ?hc ?_;case hc=>simp only[go_sem,↓reduceIte,beq_self_eq_true,bne_self_eq_false,hf])
  | (refine ZyN rfl ?hc ?_;case hc=>simp only[go_sem,↓reduceIte,beq_self_eq_true,bne_self_eq_false,hf])
  | ((with_reducible apply Zb9);(first|with_reducible assumption|assumption);rotate_left;(first|((repeat(refine Zal rfl ?_));exact Zar)|(refine Zcm ?_;(repeat(refine Zbp rfl ?_));exact Zbq _)))
  | ((with_reducible apply Zbl);(first|with_reducible assumption|assumption))
  | (simp only[go_sem,↓reduceIte,beq_self_eq_true,bne_self_eq_false,hf])
  | (refine And.intro ?ho ?_;(case ho=>omega))
  | (clear hI;clear KI))
 repeat(first|(revert hE;revert KE)|(revert hI;revert KI))
 first|done|exact y.out):X:=h f ⟨y⟩
end ifl
theorem Zaa.ofR{P:Program}{f:FuncId}{ds:List D}{d:D}(h:∀ I:Ifl,I.r=true→@Zas I P f ds noM 0 fun d' m' _=>fzT true m' 8 d'=d):Zaa P f ds d :=
 ⟨(h Ifl.off rfl).1,fun S w vs hf hvs=>@Zas.toC Ifl.off _ _ _ _ (h Ifl.off rfl) S w vs hf (fun e=>by cases e) hvs⟩
section
variable [Ifl]
theorem ZkY{P:Program}{n rid:Nat}{Q:Exit→St→Prop}{s:St}{o1 o2:Oper}{T e:TypeId}{es:List (List D)}(hu:P.underlying T=some (.slice e))
 (g1:o1.guard=none) (g2:o2.guard=none) (d1:o1.dst=some 3) (d2:o2.dst=some 4) (p1:o1.op = .move (.tmp 0)) (p2:o2.op = .binOp .eql T (.tmp 3) (.const (.slice none 0 0)) T)
 (hf1:ZaY n o1=true) (hn':decide (4<n)=true) (h0:s.t 0 = .sl es)
 (hnil:es=[]→Q .normal {s with t:=upd (upd s.t 3 (.sl es)) 4 (dB true)}) (hnot:Q .normal {s with t:=upd (upd s.t 3 (.sl es)) 4 (dB false)}) :
 AWP P n (.region rid #[o1,o2] false) Q s:=by
 have hn:4<n:=of_decide_eq_true hn'
 intro E B β a w hr
 refine wp_region_lit (l:=[o1,o2]) ?_
 refine wpList_plain g1 fun K1 hK1=>Zga (K:=fun s'=>s'={s with t:=upd s.t 3 (.sl es)}) hf1 hr ?_ ?_
 ·unfold opA
  rw[p1,d1]
  simp only[opF,rd,h0,Res.pure,putT,ov,List.length_nil,Nat.add_zero]
  exact⟨trivial,.inl trivial,trivial⟩
 rintro s1 β1 a1 w1 r1 rfl
 refine hK1 _ _ ?_
 have t3:Rep β1 s.m (safe E β1 s.m) w1 (a1.eval (.tmp 3)) (.sl es):=r1.tmp 3 (by omega)
 obtain⟨a,cap,e3,hc1,hc2,hcase⟩:=t3.inv_sl
 have hrun:(execOp a1.eval o2).run P w1 = .ok (.value (.bool a.isNone)) w1:=by
  unfold execOp
  rw[p2]
  have hb:=Lib.run_eql_slice_nil (P:=P) w1 T e a es.length cap 0 0 hu
  have ec:a1.eval (.const (.slice none 0 0)) = .slice none 0 0:=rfl
  simp only[e3,ec]
  simp[eqGuard,hb]
 refine wpList_plain g2 fun K2 hK2=>?_
 unfold Oper.wp
 rw[hrun]
 show K2 (a1.put o2.dst (.bool a.isNone)) w1
 refine hK2 _ _ (wpList_nil ?_)
 obtain⟨β3,r3⟩:=r1.put (dst:=o2.dst) (Zby.same r1.mem (.v (.bool a.isNone)))
 rw[d2]at r3 ⊢
 cases a with
 | none =>
   have hes:es=[]:=by
    rcases hcase with h|⟨b,off,k,h,_⟩
    ·exact h
    ·cases h
   exact⟨_,β3,r3,hnil hes⟩
 | some A=>exact⟨_,β3,r3,hnot⟩
end
section ifl
variable [Ifl]
theorem Zr3{E β m nx w}(h:Zay E β m nx w){w':World}(hB:Below w.heap.size w w'){g id nx':Nat}(hg:w.heap.size≤g)(hid:m id=none)(hnx:nx≤nx')(hlt:id<nx')(blk:Blk)(cs:Array Value)(hc:w'.heap[g]? =some (.cells cs blk.T (0,0)))
 (hfz:blk.fz≤blk.es.length) (hwid:∀ (i:Nat)(e:List D),blk.es[i]? =some e→e.length=blk.k) (hsz:blk.es.length*blk.k≤cs.size)
 (hcs:∀ (i j:Nat)(d:D),cellAt blk.es i j=some d→∃ u,cs[i*blk.k+j]? =some u∧d = .v u) (hTm:blk.T<mapT:=by decide) :
 Zay E (upd β id (some g)) (upd m id (some blk)) nx' w'∧ZaD β m w (upd β id (some g)) (upd m id (some blk)) w'∧Zao (safe E β m) w (safe E (upd β id (some g)) (upd m id (some blk))) w':=by
 have hk:∀ b,b<w.heap.size→w'.heap[b]? =w.heap[b]?:=hB.block
 have hne:∀ x y,m x=some y→x≠id:=fun x y hx e=>by rw[e,hid]at hx;cases hx
 have hm:ZaD β m w (upd β id (some g)) (upd m id (some blk)) w':=by
  refine⟨fun x y hx=>⟨y,by rw[Zad _ _ (hne x y hx)];exact hx,Ya4 _,fun _=>⟨rfl,rfl,by rw[Zad _ _ (hne x y hx)]⟩⟩,fun b n hr=>ZeX hk hr⟩
 have hs:Zao (safe E β m) w (safe E (upd β id (some g)) (upd m id (some blk))) w':=by
  intro b o u h1 h2
  have hl:=Zdq h2
  refine⟨⟨h1.1,fun x y hx hy=>?_⟩,(hB.cell (p:=⟨b,o,none⟩) hl).trans h2⟩
  by_cases e:x=id
  ·subst e
   rw[Zab]at hy
   simp only[Ya1]at hy
   have:b<w.heap.size:=hl
   omega
  ·rw[Zad _ _ e]at hx hy
   exact h1.2 x y hx hy
 have hblt:∀ x y b,m x=some y→β x=some b→b<w.heap.size:=fun x y b hx hb=>by
  obtain⟨_,cs,h4,_⟩:=h.row x y b hx hb
  exact(Ya5.1 h4).1
 refine⟨⟨h.below.trans (hB.mono h.below.size),?_,?_,?_,?_,?_,?_⟩,hm,hs⟩
 ·intro x y hx
  by_cases e:x=id
  ·subst e;exact hlt
  ·rw[Zad _ _ e]at hx;exact Nat.lt_of_lt_of_le (h.lt x y hx) hnx
 ·intro x y hx
  by_cases e:x=id
  ·subst e;rw[Zab]at hx;cases hx;exact hfz
  ·rw[Zad _ _ e]at hx;exact h.fz x y hx
 ·intro x y hx
  by_cases e:x=id
  ·subst e;rw[Zab]at hx;cases hx;exact hwid
  ·rw[Zad _ _ e]at hx;exact h.wid x y hx
 ·intro x y hx hb
  by_cases e:x=id
  ·subst e;rw[Zab]at hb;cases hb
  ·rw[Zad _ _ e]at hx hb;exact h.non x y hx hb
 ·intro x y b hx hb
  by_cases e:x=id
  ·subst e
   rw[Zab]at hx hb
   cases hx
   cases hb
   refine⟨Yc7 h.below.size hg,cs,by rw[ZdV hTm];exact hc,hsz,fun i j d hd=>?_⟩
   obtain⟨u,h1,rfl⟩:=hcs i j d hd
   exact⟨u,h1,.v _⟩
  ·rw[Zad _ _ e]at hx hb
   obtain⟨h3,cs',h4,h5,h6⟩:=h.row x y b hx hb
   refine⟨h3,cs',by rw[hk b (hblt x y b hx hb)];exact h4,h5,fun i j d hd=>?_⟩
   obtain⟨u,h7,h8⟩:=h6 i j d hd
   exact⟨u,h7,h8.mono hm hs⟩
 ·intro x1 x2 y1 y2 b h1 h2 h3 h4
  by_cases e1:x1=id
  ·by_cases e2:x2=id
   ·rw[e1,e2]
   ·subst e1
    rw[Zab]at h3
    rw[Zad _ _ e2]at h2 h4
    cases h3
    have:=hblt x2 y2 _ h2 h4
    omega
  ·by_cases e2:x2=id
   ·subst e2
    rw[Zab]at h4
    rw[Zad _ _ e1]at h1 h3
    cases h4
    have:=hblt x1 y1 _ h1 h3
    omega
   ·rw[Zad _ _ e1]at h1 h3
    rw[Zad _ _ e2]at h2 h4
    exact h.inj x1 x2 y1 y2 b h1 h2 h3 h4
end ifl
open Go Go.RowKit Go.Shelf
set_option maxRecDepth 100000
theorem ZuT{w:World}{b:Nat}(f:Array Value→Array Value){cs:Array Value}{T:TypeId}{fr:Nat×Nat}(h:w.heap[b]? =some (.cells cs T fr)):(Sort.mapBlock w b f).heap[b]? =some (.cells (f cs) T fr):=by
 unfold Sort.mapBlock
 simp only[Array.getElem?_modify,if_true,h,Yd0,Sort.onCells]
theorem Znx{w:World}{b k:Nat}(f:Array Value→Array Value)(h:k≠b):(Sort.mapBlock w b f).heap[k]? =w.heap[k]?:=by
 unfold Sort.mapBlock
 simp only[Array.getElem?_modify,if_neg (Ne.symm h)]
theorem ZkB(w:World)(b:Nat)(f:Array Value→Array Value):(Sort.mapBlock w b f).heap.size=w.heap.size:=by
 unfold Sort.mapBlock;simp
theorem Zqi(w:World)(os:Array Obj):Below w.heap.size w (Sort.grow w os):=by
 refine⟨rfl,rfl,rfl,?_,fun k hk=>?_⟩
 ·unfold Sort.grow;simp
 ·unfold Sort.grow;simp only;exact Array.getElem?_append_left hk
section ifl
variable [Ifl]
theorem Zxc{α:Type}[Inhabited α](enc:α→Value){E β m nx w}(h:Zay E β m nx w){id b:Nat}{blk blk':Blk}(hm0:m id=some blk)(hb0:β id=some b)(hfz:blk.fz=0)(hdead:blk.dead=false)(hT:blk'.T=blk.T)(hk:blk'.k=blk.k)(hz':blk'.fz=0)(hv:blk.ver≤blk'.ver)(hver:blk'.ver=blk.ver→blk'.es.length=blk.es.length)
 (vals:Array α) (hsz:blk'.es.length≤blk.es.length) (hwid:∀ (i:Nat)(e:List D),blk'.es[i]? =some e→e.length=blk.k)
 (hval:∀ (i j:Nat)(d:D),cellAt blk'.es i j=some d→∃ u,vals[i*blk.k+j]? =some u∧Rep β m (safe E β m) w (enc u) d)
 (n:Nat) (os:Array Obj) {w':World} (hw':w'=Sort.grow (Sort.putRow enc (Sort.ahead w n) b 0 vals) os) (hTm:blk.T<mapT:=by first|decide|(dsimp only[mapT];decide)) :
 Zay E β (upd m id (some blk')) nx w'∧ZaD β m w β (upd m id (some blk')) w'∧Zao (safe E β m) w (safe E β (upd m id (some blk'))) w':=by
 obtain⟨hB,cs,hcs,hlen,_⟩:=h.cells hm0 hb0 hTm
 obtain⟨w1,e1⟩:∃ w1,Sort.putRow enc (Sort.ahead w n) b 0 vals=w1:=⟨_,rfl⟩
 have hw1:w1.heap[b]? =some (.cells (Sort.putCells enc 0 vals cs) blk.T (0,0)):=by rw[← e1];exact ZuT (w:=Sort.ahead w n) _ hcs
 have hne:∀ k,k≠b→w1.heap[k]? =w.heap[k]?:=fun k hk=>by rw[← e1];exact Znx (w:=Sort.ahead w n) _ hk
 have hs1:w1.heap.size=w.heap.size:=by rw[← e1];exact ZkB (Sort.ahead w n) b _
 have hcell:∀ i j d,cellAt blk'.es i j=some d→∃ u,(Sort.putCells enc 0 vals cs)[i*blk.k+j]? =some u∧Rep β m (safe E β m) w u d:=fun i j d hd=>by
  obtain⟨u,hu,hr⟩:=hval i j d hd
  refine⟨enc u,?_,hr⟩
  have hi:=ZiK hd
  have hj:=Zcn hwid hd
  have hlt:=Zhd hi hj
  have hmul:=Nat.mul_le_mul_right blk.k hsz
  have hul:=(Ya5.1 hu)
  obtain⟨hul,hue⟩:=hul
  unfold Sort.putCells
  rw[Array.getElem?_mapIdx,Yb5 (by omega),Yd0,if_pos ⟨Yb0 _,by omega⟩,Nat.sub_zero,getElem!_pos vals _ hul,hue]
 obtain ⟨k1, k2, k3⟩ := Znj (blk' := blk') (w' := w1) h hm0 hb0 (Sort.putCells enc 0 vals cs) hcs hdead hT hk hv (by omega) (by omega) hver (by unfold Sort.putCells; simp) (by
     have hmul:=Nat.mul_le_mul_right blk.k hsz
     have:(Sort.putCells enc 0 vals cs).size=cs.size:=by unfold Sort.putCells;simp
     rw[hk,this];omega) (fun o ho=>by rw[hfz]at ho;simp at ho) hwid hcell hw1 (fun k hk _=>hne k hk) (fun B hBb hBw=>⟨by rw[← e1];rfl,by rw[← e1];rfl,by rw[← e1];rfl,by omega,fun k hk=>hne k (by omega)⟩)
 rw[e1]at hw'
 subst hw'
 obtain⟨g1,g2,g3⟩:=ZdK k1 (Zqi w1 os)
 exact⟨g1,k2.trans g2,k3.trans g3⟩
abbrev Zdj(l:List Int):List (List D):=l.map fun x=>[dI x]
theorem Zta{l:List Int}{i j:Nat}{d:D}(h:cellAt (Zdj l) i j=some d):∃ x,l[i]? =some x∧j=0∧d=dI x:=by
 obtain⟨e,he,hj⟩:=Zaf.1 h
 rw[Yb8]at he
 cases hx:l[i]? with
 | none=>rw[hx]at he;cases he
 | some x =>
   rw[hx]at he
   obtain rfl:=Option.some.inj he
   cases j with
   | succ j=>simp at hj
   | zero=>exact⟨x,rfl,rfl,by simpa using hj.symm⟩
theorem Zqx{l:List Int}{i:Nat}{e:List D}(h:(Zdj l)[i]? =some e):e.length=1:=by
 obtain⟨x,_,rfl⟩:=Yc6.1 (Ya7 h)
 rfl
theorem Zzk{E β m nx w}(h:Zay E β m nx w){id b ver:Nat}{T:TypeId}{l:List Int}(hm:m id=some ⟨T,ver,1,Zdj l,0,false⟩)(hb:β id=some b)(hTm:T<mapT:=by first|decide|(dsimp only[mapT];decide)):Sort.Holds (Value.int .i64) w b 0 l.toArray∧b<w.heap.size:=by
 obtain⟨_,cs,hcs,hlen,hcell⟩:=h.cells hm hb hTm
 refine⟨fun j hj=>?_,(Ya5.1 hcs).1⟩
 have hj':j<l.length:=by simpa using hj
 obtain⟨u,hu,hr⟩:=hcell j 0 (dI l[j]) (Zaf.2 ⟨[dI l[j]],by simp[hj'],rfl⟩)
 have:=hr.inv_v
 subst this
 refine⟨?_,frozen_of_row w b _ cs T hcs⟩
 rw[ZbU hcs,show(0:Nat)+j=j*1+0 by omega,hu,getElem!_pos l.toArray j hj]
 rfl
abbrev Zh3(l:List Int):List Int:=l.mergeSort fun x y=>decide (x≤y)
theorem Zyh{α:Type}{f:Nat→Option α}{k:Nat}{x:α}(h:f k=some x):upd f k (some x)=f:=by
 funext j;unfold upd;split
 ·rename_i e;rw[e,h]
 ·rfl
theorem ZyH{ρ:Ren}(L:Lays.n189 Tryz.prog ρ)(hf:ρ.f 189=123){m:Mem}{nx id ver:Nat}{l:List Int}(hm:m id=some ⟨3,ver,1,Zdj l,0,false⟩)(hl:l.length≤1000) :
 Zas Tryz.prog 123 [.ls id ver] m nx fun d m' nx'=>d = .tup []∧m'=upd m id (some ⟨3,ver,1,Zdj (Zh3 l),0,false⟩)∧nx'=nx:=by
 refine⟨⟨_,_,Tryz.func123,rfl,by kernel_rfl⟩,fun E β w vs hM hvs=>?_⟩
 obtain⟨x,rfl⟩:∃ x,vs=[x]:=by
  match vs,hvs.1 with
  | [x],_=>exact⟨x,rfl⟩
 have hx:=hvs.2 0 x _ rfl rfl
 obtain⟨a,n0,cap,blk,rfl,hb,hv,hcase⟩:=hx.inv_ls
 rw[hm]at hb
 obtain rfl:=Option.some.inj hb
 obtain⟨c1,c2,c3,c4⟩:=hcase rfl
 simp only[Yc0]at c1
 subst c1
 have tup0:∀ {β m S w},Rep β m S w (.tuple #[]) (.tup []):=fun {β m S w}=>.tup [] [] rfl (fun i x d h=>by cases h)
 rcases c4 with⟨hbn,rfl,rfl⟩|⟨b,hbe,rfl,_⟩
 ·have hl0:=hM.non id _ hm hbn
  obtain rfl:l=[]:=List.length_eq_zero_iff.1 (by omega)
  have h:=Any.slices_Sort_int_none L none 0 w
  rw[hf]at h
  refine h.mono ?_
  rintro e w' ⟨rfl,rfl⟩
  refine⟨_,.tup [],m,nx,rfl,Zby.same hM tup0,rfl,?_,rfl⟩
  have e0:Zh3 []=[]:=by simp[Zh3]
  exact(Zyh (by rw[hm,e0])).symm
 ·obtain⟨hH,hlt⟩:=Zzk hM hm hbe
  have h:=Any.slices_Sort_int L b 0 cap l w hH hlt (by omega)
  rw[hf]at h
  refine h.mono ?_
  rintro e w' ⟨rfl,n,os,hw'⟩
  have hlen:(Zh3 l).length=l.length:=List.length_mergeSort l
  obtain⟨k1,k2,k3⟩:=Zxc (Value.int .i64) hM (blk':=⟨3,ver,1,Zdj (Zh3 l),0,false⟩) hm hbe rfl rfl rfl rfl rfl (Ya4 _) (fun _=>by simp) (Zh3 l).toArray (by simp) (fun i e he=>Zqx he) (fun i j d hd=>by
   obtain⟨x,hx,rfl,rfl⟩:=Zta hd
   exact⟨x,by simpa using hx,.v _⟩) n os hw'
  exact⟨_,.tup [],_,nx,rfl,⟨β,k1,k2,k3,tup0⟩,rfl,rfl,rfl⟩
end ifl
def sortR:Go.Shelf.Ren:=⟨fun|125=>164|128=>189|129=>190|189=>123|215=>135|216=>186|257=>163|294=>180|295=>181|296=>182|297=>183|298=>184|299=>185|300=>187|301=>188|328=>198|329=>199|330=>200|331=>201|332=>202|343=>210|n=>n,fun|0=>0|3=>3|4=>4|5=>5|9=>9|28=>30|46=>232|51=>298|53=>231|131=>218|182=>291|183=>292|218=>307|222=>311|228=>323|229=>324|n=>n,fun n=>n⟩
theorem sortL:Lays.n189 Tryz.prog sortR where
 mixed:=by kernel_rfl
 f125:=Tryz.func164.trans (congrArg some (by kernel_rfl))
 f128:=Tryz.func189.trans (congrArg some (by kernel_rfl))
 f129:=Tryz.func190.trans (congrArg some (by kernel_rfl))
 f189:=Tryz.func123.trans (congrArg some (by kernel_rfl))
 f215:=Tryz.func135.trans (congrArg some (by kernel_rfl))
 f216:=Tryz.func186.trans (congrArg some (by kernel_rfl))
 f257:=Tryz.func163.trans (congrArg some (by kernel_rfl))
 f294:=Tryz.func180.trans (congrArg some (by kernel_rfl))
 f295:=Tryz.func181.trans (congrArg some (by kernel_rfl))
 f296:=Tryz.func182.trans (congrArg some (by kernel_rfl))
 f297:=Tryz.func183.trans (congrArg some (by kernel_rfl))
 f298:=Tryz.func184.trans (congrArg some (by kernel_rfl))
 f299:=Tryz.func185.trans (congrArg some (by kernel_rfl))
 f300:=Tryz.func187.trans (congrArg some (by kernel_rfl))
 f301:=Tryz.func188.trans (congrArg some (by kernel_rfl))
 f328:=Tryz.func198.trans (congrArg some (by kernel_rfl))
 f329:=Tryz.func199.trans (congrArg some (by kernel_rfl))
 f330:=Tryz.func200.trans (congrArg some (by kernel_rfl))
 f331:=Tryz.func201.trans (congrArg some (by kernel_rfl))
 f332:=Tryz.func202.trans (congrArg some (by kernel_rfl))
 f343:=Tryz.func210.trans (congrArg some (by kernel_rfl))
 t0:=Tryz.underlying0
 a0:=Tryz.isAgg0
 z0:=Tryz.sizeOf0
 v0:=Tryz.zeroValue0
 t3:=Tryz.underlying3
 a3:=Tryz.isAgg3
 z3:=Tryz.sizeOf3
 v3:=Tryz.zeroValue3
 t4:=Tryz.underlying4
 a4:=Tryz.isAgg4
 z4:=Tryz.sizeOf4
 v4:=Tryz.zeroValue4
 t5:=Tryz.underlying5
 a5:=Tryz.isAgg5
 z5:=Tryz.sizeOf5
 v5:=Tryz.zeroValue5
 t9:=Tryz.underlying9
 a9:=Tryz.isAgg9
 z9:=Tryz.sizeOf9
 v9:=Tryz.zeroValue9
 t28:=Tryz.underlying30
 a28:=Tryz.isAgg30
 z28:=Tryz.sizeOf30
 v28:=Tryz.zeroValue30
 t46:=Tryz.underlying232
 a46:=Tryz.isAgg232
 z46:=Tryz.sizeOf232
 v46:=Tryz.zeroValue232
 t51:=Tryz.underlying298
 a51:=Tryz.isAgg298
 z51:=Tryz.sizeOf298
 v51:=Tryz.zeroValue298
 t53:=Tryz.underlying231
 a53:=Tryz.isAgg231
 z53:=Tryz.sizeOf231
 v53:=Tryz.zeroValue231
 t131:=Tryz.underlying218
 a131:=Tryz.isAgg218
 z131:=Tryz.sizeOf218
 v131:=Tryz.zeroValue218
 t182:=Tryz.underlying291
 a182:=Tryz.isAgg291
 z182:=Tryz.sizeOf291
 v182:=Tryz.zeroValue291
 t183:=Tryz.underlying292
 a183:=Tryz.isAgg292
 z183:=Tryz.sizeOf292
 v183:=Tryz.zeroValue292
 t218:=Tryz.underlying307
 a218:=Tryz.isAgg307
 z218:=Tryz.sizeOf307
 v218:=Tryz.zeroValue307
 t222:=Tryz.underlying311
 a222:=Tryz.isAgg311
 z222:=Tryz.sizeOf311
 v222:=Tryz.zeroValue311
 t228:=Tryz.underlying323
 a228:=Tryz.isAgg323
 z228:=Tryz.sizeOf323
 v228:=Tryz.zeroValue323
 t229:=Tryz.underlying324
 a229:=Tryz.isAgg324
 z229:=Tryz.sizeOf324
 v229:=Tryz.zeroValue324
structure PkD where
 v:Int
 m:Int
abbrev cPk(p:PkD):List D:=[dI p.v,dI p.m]
abbrev Zfu(l:List PkD):D:=.sl (l.map cPk)
def okPk(e:EvD)(p:PkD):Bool:=decide (0≤p.v)&&(decide (p.v<e.mv.length)&&(decide (0≤p.m)&&decide (p.m<e.m)))
def varP(e:EvD)(p:PkD):Int:=p.v*e.m+p.m
def oneT(v:Int):Zaj:=⟨v,ofQ ((1:Int):Rat)⟩
abbrev Zf1(e:EvD)(ps:List PkD):List Int:=(ps.map (varP e)).mergeSort fun x y=>decide (x≤y)
set_option maxHeartbeats 16000000
theorem tyfYI:tyOf Tryz.prog 189=some ⟨0,1,8,some [.v .nilFunc],0,none,[]⟩:=by kernel_rfl
attribute [local go_sem] tyfYI ZtM ZkA
abbrev Ztb(l:List Int):D:=.ep [[Zah l]] 0 0
theorem Zyg{yl:Nat}{l:List Int}{J:(Nat→Nat→Prop)→List Int→World→Prop}(hJ:∀ S L A B,J S L A→Below A.heap.size A B→J S L B)(hl:(l.length:Int)≤1000000)
 (hY:∀ S L x t v W,L++x ::t=l→J S L W→Zd3 S W→Rep noB noM S W v (dI x)→YieldAt Fence.wide 0 Tryz.prog yl #[v] W fun e W'=>e = .returned (.bool true)∧∃ S',J S' (L++[x]) W'∧Zd3 S' W'∧Zao S W S' W') :
 ZvB Tryz.prog 124 [.v (.func (.yield yl) #[] #[]),Ztb l] (fun S=>J S []) (fun S=>J S l) (oneD []):=by
 have hst:∀ L S0 W0,Stab fun S w=>J S L w∧Zao S0 W0 S w:=fun L S0 W0 S A B h hb=>⟨hJ S L A B h.1 hb,h.2.trans fun b o u h1 h2=>⟨h1,(hb.cell (p:=⟨b,o,none⟩) (Zdq h2)).trans h2⟩⟩
 have Zr:=Tryz.results124
 refine ZvB.inline Tryz.func124 rfl (by kernel_rfl) (by kernel_rfl) (by kernel_rfl) fun S0 W0 hI=>?_
 rw[Tryz.ntmps124]
 repeat(first
  | (refine hK _ ?_;clear hK;clear K)
  | (refine jSeq fun K hK=>?_)
  | (refine ZlZ ?_)
  | (refine Zsj ?_)
  | (refine Zsk ?_)
  | (refine jRet ?_)
  | (refine Ziu (hst _ _ _) fun I KR hR=>?_;refine aOps _ rfl (by kernel_rfl) ?_;simp only[go_sem,↓reduceIte];refine ZcA _ ?_;refine hR _ ?_;clear hR;clear KR))
 refine jLoop (fun(i:Nat)=>⟨tabT [(0,.v (.func (.yield yl) #[] #[])),(5,Zah l),(6,dI l.length),(7,dI i)],fun S w=>J S (l.take i) w∧Zao S0 W0 S w⟩) (fun i=>i≤l.length) (fun i=>l.length-i) 0 (Yb0 _) (Zsf _ (fun S w h=>by simpa using h) (by simp[go_sem])) ?_
 rintro i hi
 by_cases h1:(i:Int)<l.length
 rotate_left
 ·obtain rfl:i=l.length:=by omega
  rw[Ya8 (Ya4 _)]
  repeat(first
   | (refine hK _ ?_;clear hK;clear K)
   | (refine jSeq fun K hK=>?_)
   | (refine ZlZ ?_)
   | (refine Zsj ?_)
   | (refine Zsk ?_)
   | (refine jRet ?_)
   | (refine Ziu (hst _ _ _) fun I KR hR=>?_;refine aOps _ rfl (by kernel_rfl) ?_;simp only[go_sem,↓reduceIte];refine ZcA _ ?_;refine hR _ ?_;clear hR;clear KR)
   | (refine ZoF rfl ?hc ?_;case hc=>simp only[go_sem,↓reduceIte,h1])
   | (refine ZoG rfl ?hc ?_;case hc=>simp only[go_sem,↓reduceIte,h1]))
  simp only[go_sem,↓reduceIte]
  have hw:True:=trivial
  repeat(first
   | (refine hK _ ?_;clear hK;clear K)
   | (refine jSeq fun K hK=>?_)
   | (refine ZlZ ?_)
   | (refine Zsj ?_)
   | (refine Zsk ?_)
   | (refine jRet ?_)
   | (refine Ziu (hst _ _ _) fun I KR hR=>?_;refine aOps _ rfl (by kernel_rfl) ?_;simp only[go_sem,↓reduceIte,hw];refine ZcA _ ?_;refine hR _ ?_;clear hR;clear KR)
   | (refine ZoF rfl ?hc ?_;case hc=>simp only[go_sem,↓reduceIte,h1])
   | (refine ZoG rfl ?hc ?_;case hc=>simp only[go_sem,↓reduceIte,h1])
   | (clear hK;clear K))
  refine⟨[],?_,rfl,fun S w h=>h⟩
  simp only[go_sem,↓reduceIte,Zr]
 obtain⟨x,hx⟩:=getE (l:=l) (k:=i) (by omega)
 obtain⟨hw,i0⟩:=Za6 i
 repeat(first
  | (refine hK _ ?_;clear hK;clear K)
  | (refine jSeq fun K hK=>?_)
  | (refine ZlZ ?_)
  | (refine Zsj ?_)
  | (refine Zsk ?_)
  | (refine jRet ?_)
  | (refine Ziu (hst _ _ _) fun I KR hR=>?_;refine aOps _ rfl (by kernel_rfl) ?_;simp only[go_sem,↓reduceIte,i0,hx];refine ZcA _ ?_;refine hR _ ?_;clear hR;clear KR)
  | (refine ZoF rfl ?hc ?_;case hc=>simp only[go_sem,↓reduceIte,h1])
  | (refine ZoG rfl ?hc ?_;case hc=>simp only[go_sem,↓reduceIte,h1]))
 have hts:l.take i++[x]=l.take (i+1):=by rw[Yb4,hx];rfl
 have hpre:l.take i++x ::l.drop (i+1)=l:=by
  obtain⟨h,e⟩:=Ya3.1 hx
  rw[← e,← Yd7 h,List.take_append_drop]
 refine jList ?_
 refine⟨rfl,jOpL (hst _ _ _) (by kernel_rfl) rfl fun I KR hR=>?_⟩
 simp only[go_sem,↓reduceIte]
 refine hR _ (ZcA _ ?_)
 clear hR;clear KR
 refine⟨rfl,jOpL (hst _ _ _) (by kernel_rfl) rfl fun I KR hR=>?_⟩
 simp only[go_sem,↓reduceIte]
 refine hR _ (ZcA _ ?_)
 clear hR;clear KR
 refine⟨rfl,Zzg (l:=yl) (I':=fun S w=>J S (l.take (i+1)) w∧Zao S0 W0 S w) rfl rfl rfl rfl ?_ ?_⟩
 ·intro S w v hw hI hv
  obtain⟨fn,tmps,assign,body,q1,q2⟩:=hY S (l.take i) x (l.drop (i+1)) v w hpre hI.1 hw hv
  refine⟨fn,tmps,assign,body,q1,RoundIn.mono q2 ?_⟩
  rintro e w' ⟨rfl,S',g1,g2,g3⟩
  exact⟨rfl,S',⟨by rw[← hts];exact g1,hI.2.trans g3⟩,g2,g3⟩
 refine⟨rfl,jOpL (hst _ _ _) (by kernel_rfl) rfl fun I KR hR=>?_⟩
 simp only[go_sem,↓reduceIte]
 refine hR _ (ZcA _ ?_)
 clear hR;clear KR
 show ZtM K _ .normal _
 simp only[go_sem,↓reduceIte]
 repeat(first
  | (refine hK _ ?_;clear hK;clear K)
  | (refine jSeq fun K hK=>?_)
  | (refine ZlZ ?_)
  | (refine Zsj ?_)
  | (refine Zsk ?_)
  | (refine jRet ?_)
  | (refine Ziu (hst _ _ _) fun I KR hR=>?_;refine aOps _ rfl (by kernel_rfl) ?_;simp only[go_sem,↓reduceIte,hw];refine ZcA _ ?_;refine hR _ ?_;clear hR;clear KR)
  | (refine ZoF rfl ?hc ?_;case hc=>simp only[go_sem,↓reduceIte,h1])
  | (refine ZoG rfl ?hc ?_;case hc=>simp only[go_sem,↓reduceIte,h1])
  | (clear hK;clear K))
 refine⟨i+1,by omega,by omega,Zsf _ (fun S w h=>h) (by simp[go_sem])⟩
theorem ZqU(l:List Int)(hl:(l.length:Int)≤1000000):Zwa Tryz.prog 124 [Ztb l] dI l:=by
 refine⟨⟨_,_,Tryz.func124,rfl,by kernel_rfl⟩,fun yl S W vs J hfr hvs hJ hY h0=>?_⟩
 have h:=(Zyg (yl:=yl) hJ hl hY).2 S W (.func (.yield yl) #[] #[] ::vs) hfr h0 (Reps.cons (.v _) hvs)
 rw[show #[Value.func (.yield yl) #[] #[]]++vs.toArray=(Value.func (.yield yl) #[] #[] ::vs).toArray by simp]
 refine CallsIn.mono h ?_
 rintro e W' ⟨v,S',rfl,_,g,_⟩
 exact⟨⟨v,rfl⟩,S',g⟩
theorem Zwf(l:List Int):Zaa Tryz.prog 76 [Zah l] (.clo 124 [Ztb l]):=by
 have Zr:=Tryz.results76
 refine inN Tryz.func76 rfl Tryz.ntmps76 fun I=>?_
 exact aGo (Y:=True) Zr trivial
theorem Zrg(l:List Int)(hl:l.length≤1000):Zaa Tryz.prog 75 [.clo 124 [Ztb l]] (Zah (Zh3 l)):=by
 have Zr:=Tryz.results75
 have hresC:=Tryz.results122
 have hresA:=Tryz.results162
 refine Zaa.ofR fun I hr=>Zas.inline Tryz.func75 rfl (by kernel_rfl) (by kernel_rfl) (by kernel_rfl) ?_
 rw[Tryz.ntmps75]
 refine aGo Zr ?_
 repeat with_reducible intro K hK
 refine Zfg Tryz.func122 rfl (by kernel_rfl) (by kernel_rfl) (by kernel_rfl) ?_
 rw[Tryz.ntmps122]
 refine aGo hresC ?_
 repeat with_reducible intro K hK
 refine Zfg Tryz.func162 rfl (by kernel_rfl) (by kernel_rfl) (by kernel_rfl) ?_
 rw[Tryz.ntmps162]
 refine aGo hresA ?_
 repeat with_reducible intro K hK
 refine aLe (Zku 0 0 0 3 1 rfl rfl rfl) ?_
 simp only[go_sem]
 refine ZqI dI l [(2,.lp 0 0 0 0),(6,.clo 124 [Ztb l])] (fun L=>[(0,⟨30,0,1,[[.ls 1 L.length]],0,false⟩),(1,⟨3,L.length,1,Zdj L,0,false⟩)]) 2 0 ?hle rfl rfl rfl (ZqU l (by omega)) (by decide) hr ?hround ?hend
 case hle =>
  refine Zcl _ _ _ ?_ ?_ ?_ ?_ ?_ (.inl rfl)<;>simp[go_sem,okD,okDs,Zcb]
 case hround =>
  intro L x T hL
  have hLl:L.length+1≤l.length:=by rw[← hL,Yb9,List.length_cons];omega
  refine rGo Zr ?_
  show ZnT _ ⟨tabT [],tabM [(0,⟨30,0,1,[[.ls 1 (L.length+1)]],0,false⟩),(1,⟨3,(L.length+1),1,Zdj (L++[x]),0,false⟩)],2,2⟩
  refine ZuL [] _ 2 (by simp) (by simp[go_sem]) (by simp) ?_ (by simp) (.inr fun id h=>by
   have h:id<2:=h
   have:id=0∨id=1:=by omega
   rcases this with rfl|rfl<;>rfl)
  intro p hp
  simp only[List.mem_cons,List.not_mem_nil,or_false]at hp
  rcases hp with rfl|rfl
  ·intro e he;obtain rfl:=List.mem_singleton.1 he;rfl
  ·intro e he;obtain⟨u,_,rfl⟩:=Yc6.1 he;rfl
 case hend =>
  refine aGo (cj3 hresA hresC Zr) ?_
  repeat with_reducible intro K hK
  refine ZdT (ZyH sortL rfl (l:=l) rfl (by omega)) ?_
  rintro d m' nx' ⟨rfl,rfl,rfl⟩
  refine aGo Zr ?_
  repeat with_reducible intro K hK
  rw[ZbI (fun _=>rfl)]
theorem ZyG(l:List Int)(hl:l.length≤1000):Zag Tryz.prog 35 [Zah l] (ZbT ((Zh3 l).map oneT)):=by
 have Zr:=Tryz.results35
 have k0:=Zwf l
 have k1:=Zrg l hl
 have k2:=Ziy 1 (by decide) (by decide)
 have hs:(Zh3 l).length≤1000:=by rw[List.length_mergeSort];exact hl
 generalize Zh3 l=S at k1 hs ⊢
 refine inC Tryz.func35 rfl Tryz.ntmps35 ?_
 refine aGo Zr ?_
 repeat with_reducible intro K hK
 refine aLe (Zis 3 171 5 rfl) ?_
 refine ZaE (fun(x:Nat×List Zaj)=>[(3,.ls 0 x.1),(9,Zah S),(10,dI S.length),(11,dI x.1)]) (fun x=>[(0,⟨171,x.1,5,x.2.map cT,0,false⟩)]) 1 0 (fun x=>x.1≤S.length∧x.2=(S.take x.1).map oneT) (fun x=>S.length-x.1) (0,[]) ⟨Yb0 _,rfl⟩ ?_ ?_
 ·exact leGo trivial
 rintro⟨k,Q⟩ ⟨hk,hQ⟩
 simp only at hk hQ
 obtain⟨hw,h0⟩:=Za6 k
 have hlQ:Q.length≤1000:=by rw[hQ,Yc0,Yc1];omega
 by_cases h1:(k:Int)<S.length
 ·obtain⟨v,hv⟩:∃ v,S[k]? =some v:=⟨_,Ya0 (by omega)⟩
  have hts:Q++[oneT v]=(S.take (k+1)).map oneT:=by rw[Yb4,hv,hQ];simp
  obtain⟨Z,eZ⟩:∃ Z,Q++[oneT v]=Z:=⟨_,rfl⟩
  have hZ:Q.map cT++[[dI v,dI (ofQ ((1:Int):Rat)).p.s,Zah (ofQ ((1:Int):Rat)).p.d,dI (ofQ ((1:Int):Rat)).q.s,Zah (ofQ ((1:Int):Rat)).q.d]]=Z.map cT:=by rw[← eZ,List.map_append];rfl
  rw[eZ]at hts
  refine aGo (cj4 Zr h0 h1 (cj3 hv hw hZ)) ?_
  repeat with_reducible intro K hK
  exact Zai (k+1,Z) ⟨by show k+1≤S.length;omega,hts⟩ (by show S.length-(k+1)<S.length-k;omega) (by exact leGo trivial)
 ·obtain rfl:k=S.length:=by omega
  refine aGo (cj2 Zr h1) ?_
  repeat with_reducible intro K hK
  rw[ZbI (fun _=>rfl),hQ,Ya8 (Ya4 _)]
theorem Zob(M:Int)(i:Nat)(b own more:Int):∀ k,(sumE M i b own more k).length≤k
 | 0=>Ya4 _
 | k+1=>by
   have:=Zob M i b own more k
   unfold sumE
   rw[Yb9]
   split
   ·simp;omega
   ·simp;omega
theorem sum_a[Ifl]{e:EvD}(Ri:Zd2 e){mk R O vR vO:Nat}{m:Mem}{nx:Nat}(h1:m mk=some (mkB e R vR O vO)){i:Nat}(hi:(i:Int)<e.mv.length){b own more:Int}(hb : -1000≤b∧b≤1000)(hm : -1000≤more∧more≤1000) :
 Zas Tryz.prog 159 [.lp mk 0 0 0,dI i,dI b,dI own,dI more] m nx fun d m' nx'=>d=ZbT (sumE e.m i b own more e.m.toNat)∧nx≤nx'∧∀ id,id<nx→m' id=m id:=by
 refine Zas.cl ⟨_,_,Tryz.func159,rfl,by kernel_rfl⟩ fun hcl=>?_
 have Zr:=Tryz.results159
 have hresV:=Tryz.results157
 have hM:=Ri.m
 have hL:=Ri.lm
 have lm:=(hcl _ _ h1).1
 have a1:mk≠nx:=by omega
 have mul1:(i:Int)*e.m≤1200:=by
  have:=Int.mul_le_mul (a:=(i:Int)) (b:=e.m) (c:=200) (d:=6) (by omega) (by omega) (by omega) (by omega)
  omega
 have mul0:0≤(i:Int)*e.m:=Int.mul_nonneg (by omega) (by omega)
 have wm:IntKind.i64.wrap ((i:Int)*e.m)=(i:Int)*e.m:=Zbb (by omega) (by omega)
 have eM:((e.m.toNat:Nat):Int)=e.m:=Int.toNat_of_nonneg (by omega)
 refine inA Tryz.func159 rfl Tryz.ntmps159 ?_
 refine aGoM (cj3 Zr h1 a1) ?_
 repeat with_reducible intro K hK
 refine aLe (Zis 11 171 5 rfl) ?_
 refine Zho (fun(k:Nat)=>[(0,.lp mk 0 0 0),(1,dI i),(2,dI b),(3,dI own),(4,dI more),(11,.ls nx (sumE e.m i b own more k).length),(18,dI e.m),(19,dI k)]) nx
  (fun k m1 nx1=>(k:Int)≤e.m∧nx<nx1∧m1 mk=some (mkB e R vR O vO)∧m1 nx=some ⟨171,(sumE e.m i b own more k).length,5,(sumE e.m i b own more k).map cT,0,false⟩∧∀ id,id<nx→m1 id=m id) (fun k=>e.m.toNat-k) 0 ?_ ?_ ?_ ?_
 ·refine⟨by show((0:Nat):Int)≤e.m;omega,Nat.lt_succ_self _,?_,?_,fun id h=>?_⟩
  ·exact(Zad _ _ a1).trans h1
  ·exact Zab _ _ _
  ·exact Zad _ _ (show id≠nx by omega)
 ·rfl
 ·simp[go_sem,sumE]
 ·rintro k m1 nx1 ⟨hk,hnx,eB,eT,hfr⟩
  obtain⟨hw,k0⟩:=Za6 k
  have wa:IntKind.i64.wrap ((i:Int)*e.m+k)=(i:Int)*e.m+k:=Zbb (by omega) (by omega)
  have wb:IntKind.i64.wrap (b+more)=b+more:=Zbb (by omega) (by omega)
  have ln:=Zob e.m i b own more k
  have es:sumE e.m i b own more (k+1)=sumE e.m i b own more k++(if cofE b own more k=0 then []else [⟨(i:Int)*e.m+k,ofQ (cofE b own more k:Rat)⟩]):=rfl
  have lml:((sumE e.m i b own more k).map cT).length=(sumE e.m i b own more k).length:=Yc0 ..
  generalize eL:sumE e.m i b own more k=L at eT ln es lml ⊢
  have x1:nx≠nx1:=by omega
  have x2:mk≠nx1:=by omega
  by_cases h2:(k:Int)<e.m
  ·by_cases ho:(k:Int)=own
   ·have hc:cofE b own more k=b+more:=if_pos ho
    rw[hc]at es
    have t1:((k:Int)==own)=true:=by simp[ho]
    by_cases hz:b+more=0
    ·rw[if_pos hz,List.append_nil]at es
     have t2:(b+more !=0)=false:=by simp[hz]
     refine aGoM (cj4 Zr eB t1 (cj4 wb h2 hw t2)) ?_
     repeat with_reducible intro K hK
     refine Za9 (k+1) ⟨by omega,hnx,eB,(by show _=some (Blk.mk _ (sumE e.m i b own more (k+1)).length _ ((sumE e.m i b own more (k+1)).map cT) _ _);rw[es];exact eT),hfr⟩ (by omega) rfl (by simp[go_sem,es,eL])
    ·rw[if_neg hz]at es
     have t2:(b+more !=0)=true:=by simp[hz]
     have kI:=ZeF (b+more) (by omega) (by omega)
     refine aGoM (cj4 Zr eB t1 (cj4 wb h2 hw t2)) ?_
     repeat with_reducible intro K hK
     refine Zfg Tryz.func157 rfl (by kernel_rfl) (by kernel_rfl) (by kernel_rfl) ?_
     rw[Tryz.ntmps157]
     refine aGoM (cj4 hresV eB wm wa) ?_
     repeat with_reducible intro K hK
     have q1:((L.length+1:Nat):Int)*72≤140737488355328:=by omega
     have q2:((L.length+1:Nat):Int)≤9007199254740992:=by omega
     refine aGoM (cj4 Zr eT x1 (cj4 lml hw q1 q2)) ?_
     repeat with_reducible intro K hK
     refine Za9 (k+1) ⟨by show((k+1:Nat):Int)≤e.m;omega,Nat.lt_succ_of_lt hnx,(Zad _ _ a1).trans ((Zad _ _ x2).trans eB),?_,fun id h=>(Zad _ _ (show id≠nx by omega)).trans ((Zad _ _ (show id≠nx1 by omega)).trans (hfr id h))⟩ (by omega) rfl (by simp[go_sem,es,eL])
     show _=some (Blk.mk _ (sumE e.m i b own more (k+1)).length _ ((sumE e.m i b own more (k+1)).map cT) _ _)
     rw[es,List.map_append,Yb9]
     exact Zab _ _ _
   ·have hc:cofE b own more k=b:=if_neg ho
    rw[hc]at es
    have t1:((k:Int)==own)=false:=by simp[ho]
    by_cases hz:b=0
    ·rw[if_pos hz,List.append_nil]at es
     have t2:(b !=0)=false:=by simp[hz]
     refine aGoM (cj4 Zr eB t1 (cj4 wb h2 hw t2)) ?_
     repeat with_reducible intro K hK
     refine Za9 (k+1) ⟨by omega,hnx,eB,(by show _=some (Blk.mk _ (sumE e.m i b own more (k+1)).length _ ((sumE e.m i b own more (k+1)).map cT) _ _);rw[es];exact eT),hfr⟩ (by omega) rfl (by simp[go_sem,es,eL])
    ·rw[if_neg hz]at es
     have t2:(b !=0)=true:=by simp[hz]
     have kI:=ZeF (b) (by omega) (by omega)
     refine aGoM (cj4 Zr eB t1 (cj4 wb h2 hw t2)) ?_
     repeat with_reducible intro K hK
     refine Zfg Tryz.func157 rfl (by kernel_rfl) (by kernel_rfl) (by kernel_rfl) ?_
     rw[Tryz.ntmps157]
     refine aGoM (cj4 hresV eB wm wa) ?_
     repeat with_reducible intro K hK
     have q1:((L.length+1:Nat):Int)*72≤140737488355328:=by omega
     have q2:((L.length+1:Nat):Int)≤9007199254740992:=by omega
     refine aGoM (cj4 Zr eT x1 (cj4 lml hw q1 q2)) ?_
     repeat with_reducible intro K hK
     refine Za9 (k+1) ⟨by show((k+1:Nat):Int)≤e.m;omega,Nat.lt_succ_of_lt hnx,(Zad _ _ a1).trans ((Zad _ _ x2).trans eB),?_,fun id h=>(Zad _ _ (show id≠nx by omega)).trans ((Zad _ _ (show id≠nx1 by omega)).trans (hfr id h))⟩ (by omega) rfl (by simp[go_sem,es,eL])
     show _=some (Blk.mk _ (sumE e.m i b own more (k+1)).length _ ((sumE e.m i b own more (k+1)).map cT) _ _)
     rw[es,List.map_append,Yb9]
     exact Zab _ _ _
  ·have ek:e.m.toNat=k:=by omega
   have ez:∀ M:Mem,List.map (List.map (fzT false M 4)) (L.map cT)=L.map cT:=fun M=>ZbI (fun _=>rfl) _
   refine aLe ((Zse nx eT).trans (Zsd 11 5)) ?_
   simp only[go_sem,fzT]
   refine aGoM (cj4 Zr h2 ez lml) ?_
   exact⟨by rw[ek,eL],by omega,fun id h=>by rw[if_neg (by omega)];exact hfr id h⟩
theorem ZtO[Ifl]{e:EvD}(Ri:Zd2 e){mk R O vR vO:Nat}{m:Mem}{nx:Nat}(h1:m mk=some (mkB e R vR O vO))(l1:mk<nx){i:Nat}(hi:(i:Int)<e.mv.length){b own more:Int}(hb : -1000≤b∧b≤1000)(hm : -1000≤more∧more≤1000) :
 EffC Tryz.prog 159 [.lp mk 0 0 0,dI i,dI b,dI own,dI more] m nx ⟨ZbT (sumE e.m i b own more e.m.toNat),[mk],[],false⟩ nx :=
 EffC.of ⟨_,_,Tryz.func159,rfl,by kernel_rfl⟩ (fun p hp=>by cases hp) fun m1 NX hN ht=>Zas.kept0 rfl (sum_a Ri ((ht mk (by simp)).trans h1) hi hb hm)
structure ZqK (e:EvD) (mk R O:Nat) (A:List RowD) (B:List OriD) (m:Mem) (nx:Nat) (l:List RoO) (m':Mem) (nx':Nat):Prop where
 n:nx≤nx'
 b:∃ VR VO,m' mk=some (mkB e R VR O VO)∧m' R=some (rwB VR (A++l.map (·.1)))∧m' O=some (orB VO (B++l.map (·.2)))
 f:∀ id,id<nx→id≠mk→id≠R→id≠O→m' id=m id
theorem ZhB{e:EvD}{i:Nat}(h:i<e.mv.length):e.mv[i]? =some (mvAt e i):=by unfold mvAt;rw[Ya0 h];rfl
theorem Zod(e:EvD)(i m:Nat):∀ k,(stkE e i m k).length≤k
 | 0=>Ya4 _
 | k+1=>by
   have:=Zod e i m k
   unfold stkE
   rw[Yb9]
   split
   ·simp;omega
   ·simp;omega
theorem Zwt[Ifl]{e:EvD}(Ri:Zd2 e){mk R O VR VO:Nat}{A:List RowD}{B:List OriD}{m:Mem}{nx:Nat}(h1:m mk=some (mkB e R VR O VO))(h2:m R=some (rwB VR A))(h3:m O=some (orB VO B))(n1:mk≠R)(n2:mk≠O)(n3:R≠O)
 {i:Nat} (hi:(i:Int)<e.mv.length) (hA:(A.length:Int)≤99990) (hB:(B.length:Int)≤99990) :
 Zas Tryz.prog 116 [.lp mk 0 0 0,dI i] m nx fun d m' nx'=>d=oneD []∧ZqK e mk R O A B m nx ((List.range e.m.toNat).map (Zb0 e i)) m' nx':=by
 refine Zas.cl ⟨_,_,Tryz.func116,rfl,by kernel_rfl⟩ fun hcl=>?_
 have Zr:=Tryz.results116
 have hresV:=Tryz.results157
 have hM:=Ri.m
 have hL:=Ri.lm
 have lm:=(hcl _ _ h1).1
 have lR:=(hcl _ _ h2).1
 have lO:=(hcl _ _ h3).1
 have a1:mk≠nx:=by omega
 have a2:R≠nx:=by omega
 have a3:O≠nx:=by omega
 have i0:(0:Int)≤i:=by omega
 have eM:((e.m.toNat:Nat):Int)=e.m:=Int.toNat_of_nonneg (by omega)
 have hx:=ZhB (e:=e) (i:=i) (by omega)
 have wi:=ZtD i
 have i1:(0:Int)≤(i:Int)+1:=by omega
 have i2:(i:Int)+1≤e.mv.length:=by omega
 have it:((i:Int)+1).toNat=i+1:=by omega
 obtain⟨x,ex⟩:∃ x,mvAt e i=x:=⟨_,rfl⟩
 rw[ex]at hx
 obtain⟨kd,hkd⟩:∃ kd:Int,(if x.a then(2:Int)else 0)=kd:=⟨_,rfl⟩
 have hS:∀ k,Zb0 e i k=(⟨stkE e i k (i+1),kd,ofQ 0⟩,⟨0,i,k,-1⟩):=fun k=>by unfold Zb0;rw[ex,hkd]
 refine inA Tryz.func116 rfl Tryz.ntmps116 ?_
 have body:∀ st:St,(∀ p∈[((0:Nat),D.lp mk 0 0 0),(1,dI i),(4,.lp nx 0 0 0),(5,dI kd),(25,dI e.m),(26,dI 0)],st.t p.1=p.2)→True:=fun _ _=>trivial
 cases ha:x.a
 all_goals
  rw[ha]at hkd
  simp at hkd
  refine aGoM (cj4 Zr h1 hx (cj4 i0 hi ha a1)) ?_
  repeat with_reducible intro K hK
  refine Zho (fun(k:Nat)=>[(0,.lp mk 0 0 0),(1,dI i),(4,.lp nx 0 0 0),(5,dI kd),(25,dI e.m),(26,dI k)]) nx
   (fun k m1 nx1=>(k:Int)≤e.m∧nx<nx1∧(∃ VR VO,m1 mk=some (mkB e R VR O VO)∧m1 R=some (rwB VR (A++((List.range k).map (Zb0 e i)).map (·.1)))∧m1 O=some (orB VO (B++((List.range k).map (Zb0 e i)).map (·.2))))∧m1 nx=some ⟨93,0,6,[cMv x],0,false⟩∧∀ id,id<nx→id≠mk→id≠R→id≠O→m1 id=m id) (fun k=>e.m.toNat-k) 0 ?_ ?_ ?_ ?_
  ·refine⟨by omega,Nat.lt_succ_self _,⟨VR,VO,?_,?_,?_⟩,?_,fun id g _ _ _=>?_⟩
   ·exact(Zad _ _ a1).trans ((Zad _ _ a1).trans h1)
   ·simp only[List.range_zero,List.map_nil,List.append_nil];exact(Zad _ _ a2).trans ((Zad _ _ a2).trans h2)
   ·simp only[List.range_zero,List.map_nil,List.append_nil];exact(Zad _ _ a3).trans ((Zad _ _ a3).trans h3)
   ·show upd _ _ _ nx=some (Blk.mk _ _ _ [[dI x.d,dI x.f,dI x.t,dI x.s,dI x.r,dB x.a]] _ _)
    rw[ha];exact Zab _ _ _
   ·exact(Zad _ _ (show id≠nx by omega)).trans (Zad _ _ (show id≠nx by omega))
  ·rfl
  ·simp[go_sem,hkd]
  rintro k m1 nx1 ⟨hk,hnx,⟨VR1,VO1,g1,g2,g3⟩,g4,hfr⟩
  obtain⟨hw,k0⟩:=Za6 k
  by_cases h5:(k:Int)<e.m
  rotate_left
  ·have ek:e.m.toNat=k:=by omega
   rw[ek]
   refine aGoM (cj2 Zr h5) ?_
   exact⟨by omega,⟨VR1,VO1,g1,g2,g3⟩,hfr⟩
  have eE:Zfv e.mv = .sl (e.mv.map cMv):=rfl
  refine aGoM (cj4 Zr g1 h5 (cj4 wi i1 i2 it)) ?_
  repeat with_reducible intro K hK
  refine aLe (Zis 7 171 5 rfl) ?_
  have hlT:(List.take (i+1) (List.map cMv e.mv)).length=i+1:=by rw[Yc1,Yc0];omega
  have hmin:min (i+1) e.mv.length=i+1:=by omega
  have b1:mk≠nx1:=by omega
  have b2:R≠nx1:=by omega
  have b3:O≠nx1:=by omega
  have b4:nx≠nx1:=by omega
  refine Zho (fun(j:Nat)=>[(0,.lp mk 0 0 0),(1,dI i),(4,.lp nx 0 0 0),(5,dI kd),(6,dI k),(7,.ls nx1 (stkE e i k j).length),(25,dI e.m),(26,dI k),(36,.sl (List.take (i+1) (List.map cMv e.mv))),(37,dI ((i:Int)+1)),(38,dI j)]) nx
   (fun j m2 nx2=>j≤i+1∧nx1<nx2∧m2 mk=some (mkB e R VR1 O VO1)∧m2 R=m1 R∧m2 O=m1 O∧m2 nx=some ⟨93,0,6,[cMv x],0,false⟩∧m2 nx1=some ⟨171,(stkE e i k j).length,5,(stkE e i k j).map cT,0,false⟩∧∀ id,id<nx1→m2 id=m1 id) (fun j=>i+1-j) 0 ?_ ?_ ?_ ?_
  ·refine⟨by omega,Nat.lt_succ_self _,(Zad _ _ b1).trans g1,Zad _ _ b2,Zad _ _ b3,(Zad _ _ b4).trans g4,Zab _ _ _,fun id g=>Zad _ _ (show id≠nx1 by omega)⟩
  ·rfl
  ·simp[go_sem,stkE,hmin]
  ·rintro j m2 nx2 ⟨hj,hnx2,q1,q2,q3,q4,qT,qf⟩
   obtain⟨hwj,j0⟩:=Za6 j
   have p3:((List.take (i+1) (List.map cMv e.mv)).length:Int)=(i:Int)+1:=by rw[hlT];omega
   by_cases p2:(j:Int)<(i:Int)+1
   ·have hyt:(List.take (i+1) (List.map cMv e.mv))[j]? =some (cMv (mvAt e j)):=by
     rw[List.getElem?_take,if_pos (by omega),Yb8,ZhB (by omega)];rfl
    have mul1:(j:Int)*e.m≤1200:=by
     have:=Int.mul_le_mul (a:=(j:Int)) (b:=e.m) (c:=200) (d:=6) (by omega) (by omega) (by omega) (by omega)
     omega
    have mul0:0≤(j:Int)*e.m:=Int.mul_nonneg (by omega) (by omega)
    have wm:IntKind.i64.wrap ((j:Int)*e.m)=(j:Int)*e.m:=Zbb (by omega) (by omega)
    have wa:IntKind.i64.wrap ((j:Int)*e.m+k)=(j:Int)*e.m+k:=Zbb (by omega) (by omega)
    have ln:=Zod e i k j
    have es:stkE e i k (j+1)=stkE e i k j++(if sgnE e i j=0 then []else [⟨(j:Int)*e.m+k,ofQ (sgnE e i j:Rat)⟩]):=rfl
    have lml:((stkE e i k j).map cT).length=(stkE e i k j).length:=Yc0 ..
    generalize eL:stkE e i k j=L at qT ln es lml ⊢
    have x1:mk≠nx2:=by omega
    have x2:nx≠nx2:=by omega
    have x3:nx1≠nx2:=by omega
    have x4:nx1≠nx2+1:=by omega
    have x5:nx2≠nx:=by omega
    have r1:((L.length+1:Nat):Int)*72≤140737488355328:=by omega
    have r2:((L.length+1:Nat):Int)≤9007199254740992:=by omega
    have sg:sgnE e i j=if (mvAt e j).f=x.f then -1 else if (mvAt e j).t=x.f then 1 else 0:=by unfold sgnE;rw[ex]
    generalize mvAt e j=y at hyt sg
    cases t1:(y.f==x.f)
    rotate_left
    ·have es0:sgnE e i j = -1:=by rw[sg,if_pos (by simpa using t1)]
     rw[es0,if_neg (by decide)]at es
     have kI:=ZeF (-1) (by decide) (by decide)
     have z1:((-1:Int) !=0)=true:=by decide
     refine aGoM (cj4 Zr q4 hyt (cj4 j0 p2 p3 (cj4 hwj x1 x2 (cj4 x3 x5 t1 z1)))) ?_
     repeat with_reducible intro K hK
     refine Zfg Tryz.func157 rfl (by kernel_rfl) (by kernel_rfl) (by kernel_rfl) ?_
     rw[Tryz.ntmps157]
     refine aGoM (cj4 hresV q1 wm (cj2 wa x1)) ?_
     repeat with_reducible intro K hK
     refine aGoM (cj4 Zr qT x4 (cj4 lml hwj r1 (cj2 r2 x3))) ?_
     repeat with_reducible intro K hK
     refine Za9 (j+1) ⟨by omega,(by show nx1<nx2+2;omega),?_,?_,?_,?_,?_,fun id h=>?_⟩ (by omega) rfl (by simp[go_sem,es,eL])
     ·show upd _ _ _ _=_;simp only[Zak];repeat(rw[if_neg (by omega)])
      exact q1
     ·show upd _ _ _ _=_;simp only[Zak];repeat(rw[if_neg (by omega)])
      exact q2
     ·show upd _ _ _ _=_;simp only[Zak];repeat(rw[if_neg (by omega)])
      exact q3
     ·show upd _ _ _ _=_;simp only[Zak];repeat(rw[if_neg (by omega)])
      exact q4
     ·show _=some (Blk.mk _ (stkE e i k (j+1)).length _ ((stkE e i k (j+1)).map cT) _ _)
      rw[es,List.map_append,Yb9]
      exact Zab _ _ _
     ·show upd _ _ _ _=_;simp only[Zak];repeat(rw[if_neg (by omega)])
      exact qf id h
    cases t2:(y.t==x.f)
    rotate_left
    ·have es0:sgnE e i j=1:=by rw[sg,if_neg (by simpa using t1),if_pos (by simpa using t2)]
     rw[es0,if_neg (by decide)]at es
     have kI:=ZeF (1) (by decide) (by decide)
     have z1:((1:Int) !=0)=true:=by decide
     refine aGoM (cj4 Zr q4 hyt (cj4 j0 p2 p3 (cj4 hwj x1 x2 (cj4 x3 x5 t1 (cj2 t2 z1))))) ?_
     repeat with_reducible intro K hK
     refine Zfg Tryz.func157 rfl (by kernel_rfl) (by kernel_rfl) (by kernel_rfl) ?_
     rw[Tryz.ntmps157]
     refine aGoM (cj4 hresV q1 wm (cj2 wa x1)) ?_
     repeat with_reducible intro K hK
     refine aGoM (cj4 Zr qT x4 (cj4 lml hwj r1 (cj2 r2 x3))) ?_
     repeat with_reducible intro K hK
     refine Za9 (j+1) ⟨by omega,(by show nx1<nx2+2;omega),?_,?_,?_,?_,?_,fun id h=>?_⟩ (by omega) rfl (by simp[go_sem,es,eL])
     ·show upd _ _ _ _=_;simp only[Zak];repeat(rw[if_neg (by omega)])
      exact q1
     ·show upd _ _ _ _=_;simp only[Zak];repeat(rw[if_neg (by omega)])
      exact q2
     ·show upd _ _ _ _=_;simp only[Zak];repeat(rw[if_neg (by omega)])
      exact q3
     ·show upd _ _ _ _=_;simp only[Zak];repeat(rw[if_neg (by omega)])
      exact q4
     ·show _=some (Blk.mk _ (stkE e i k (j+1)).length _ ((stkE e i k (j+1)).map cT) _ _)
      rw[es,List.map_append,Yb9]
      exact Zab _ _ _
     ·show upd _ _ _ _=_;simp only[Zak];repeat(rw[if_neg (by omega)])
      exact qf id h
    have es0:sgnE e i j=0:=by rw[sg,if_neg (by simpa using t1),if_neg (by simpa using t2)]
    rw[es0,if_pos rfl,List.append_nil]at es
    have z1:((0:Int) !=0)=false:=by decide
    refine aGoM (cj4 Zr q4 hyt (cj4 j0 p2 p3 (cj4 hwj x1 x2 (cj4 x3 x5 t1 (cj2 t2 z1))))) ?_
    repeat with_reducible intro K hK
    refine Za9 (j+1) ⟨by omega,(by show nx1<nx2+1;omega),?_,?_,?_,?_,?_,fun id h=>?_⟩ (by omega) rfl (by simp[go_sem,es,eL])
    ·show upd _ _ _ _=_;simp only[Zak];repeat(rw[if_neg (by omega)])
     exact q1
    ·show upd _ _ _ _=_;simp only[Zak];repeat(rw[if_neg (by omega)])
     exact q2
    ·show upd _ _ _ _=_;simp only[Zak];repeat(rw[if_neg (by omega)])
     exact q3
    ·show upd _ _ _ _=_;simp only[Zak];repeat(rw[if_neg (by omega)])
     exact q4
    ·show upd _ _ _ _=some (Blk.mk _ (stkE e i k (j+1)).length _ ((stkE e i k (j+1)).map cT) _ _)
     rw[es];simp only[Zak];repeat(rw[if_neg (by omega)])
     exact qT
    ·show upd _ _ _ _=_;simp only[Zak];repeat(rw[if_neg (by omega)])
     exact qf id h
   ·have ej:j=i+1:=by omega
    have g2':=q2.trans g2
    have g3':=q3.trans g3
    have hS':=hS k
    rw[ej]at qT
    have ez:∀ M:Mem,List.map (List.map (fzT false M 4)) ((stkE e i k (i+1)).map cT)=(stkE e i k (i+1)).map cT:=fun M=>ZbI (fun _=>rfl) _
    have kI:=ZeF 0 (by decide) (by decide)
    subst ej
    refine aLe ((Zse nx1 qT).trans (Zsd 7 5)) ?_
    simp only[go_sem,fzT]
    refine aGoM (cj4 Zr ez p2 kI) ?_
    repeat with_reducible intro K hK
    have hLk:(((List.range k).map (Zb0 e i)).map (·.1)).length=k:=by simp
    have hLk2:(((List.range k).map (Zb0 e i)).map (·.2)).length=k:=by simp
    refine ZdT (ZzK (mk:=mk) (R:=R) (O:=O) ((Zad _ _ b1).trans q1) ((Zad _ _ b2).trans g2') ((Zad _ _ b3).trans g3') n1 n2 n3 (by rw[Yb9,hLk];omega) (by rw[Yb9,hLk2];omega) ⟨stkE e i k (i+1),kd,ofQ ((0:Int):Rat)⟩ ⟨0,i,k,-1⟩) ?_
    rintro d m3 nx3 ⟨rfl,hn3,c1,c2,c3,cf⟩
    refine aGoM (cj2 Zr hw) ?_
    repeat with_reducible intro K hK
    have hr1:((List.range (k+1)).map (Zb0 e i)).map (·.1)=((List.range k).map (Zb0 e i)).map (·.1)++[⟨stkE e i k (i+1),kd,ofQ ((0:Int):Rat)⟩]:=by
     rw[List.range_succ,List.map_append,List.map_append,List.map_cons,List.map_cons,hS'];rfl
    have hr2:((List.range (k+1)).map (Zb0 e i)).map (·.2)=((List.range k).map (Zb0 e i)).map (·.2)++[⟨0,i,k,-1⟩]:=by
     rw[List.range_succ,List.map_append,List.map_append,List.map_cons,List.map_cons,hS'];rfl
    refine Za9 (k+1) ⟨by show((k+1:Nat):Int)≤e.m;omega,Nat.lt_of_lt_of_le (Nat.lt_trans hnx hnx2) hn3,⟨VR1+1,VO1+1,c1,?_,?_⟩,?_,fun id u1 u2 u3 u4=>?_⟩ (by omega) rfl (by simp[go_sem])
    ·rw[hr1,← Yd3];exact c2
    ·rw[hr2,← Yd3];exact c3
    ·exact(cf nx (by omega) a1.symm a2.symm a3.symm).trans ((Zad _ _ b4).trans q4)
    ·exact(cf id (by omega) u2 u3 u4).trans ((Zad _ _ (by omega)).trans ((qf id (by omega)).trans (hfr id u1 u2 u3 u4)))
abbrev ZnF(e:EvD):Blk:=⟨28,0,8,[cEv e],0,false⟩
abbrev mvB(x:MvD):Blk:=⟨93,0,6,[cMv x],0,false⟩
abbrev memE(e:EvD)(VR VO:Nat)(A:List RowD)(B:List OriD)(x:MvD):List (Nat×Blk):=[(0,ZnF e),(1,mkB e 2 VR 3 VO),(2,rwB VR A),(3,orB VO B),(4,mvB x)]
theorem ZtE{e:EvD}(Ri:Zd2 e){VR VO:Nat}{A:List RowD}{B:List OriD}{i:Nat}(hi:(i:Int)<e.mv.length)(hA:(A.length:Int)≤99990)(hB:(B.length:Int)≤99990)(z:MvD) :
 Zas Tryz.prog 117 [.lp 1 0 0 0,dI i] (tabM (memE e VR VO A B z)) 5 fun d m' nx'=>d=oneD []∧ZqK e 1 2 3 A B (tabM (memE e VR VO A B z)) 5 (Zbx e (ivF e i) i) m' nx':=by
 have Zr:=Tryz.results117
 have hx:=ZhB (e:=e) (i:=i) (by omega)
 have i0:(0:Int)≤i:=by omega
 have ei:ivF e i=ivE e (mvAt e i):=rfl
 have kI:=Zsm e.ce e.re (mvAt e i).s (mvAt e i).r (mvAt e i).d (by have:=Ri.lc;omega) (by have:=Ri.lr;omega)
 rw[ei]
 unfold ivE
 generalize mvAt e i=x at hx kI
 refine inA Tryz.func117 rfl Tryz.ntmps117 ?_
 cases hs:(x.s == -1)
 rotate_left
 ·have hs':x.s = -1:=by simpa using hs
  rw[if_pos hs']
  refine aGo (cj4 Zr hx i0 (cj2 hi hs)) ?_
  repeat with_reducible intro K hK
  refine⟨by omega,⟨VR,VO,rfl,?_,?_⟩,fun id g1 g2 g3 g4=>?_⟩
  ·show _=some (rwB VR (A++[]));rw[List.append_nil];rfl
  ·show _=some (orB VO (B++[]));rw[List.append_nil];rfl
  ·simp only[Zak];repeat(rw[if_neg (show ¬ id=5 by omega)])
   repeat(rw[if_neg (by omega)])
 ·have hs':¬ x.s = -1:=by simpa using hs
  rw[if_neg hs']
  generalize intD e.ce e.re x.s x.r x.d=iv at kI ⊢
  obtain⟨lo,hh,ok⟩:=iv
  cases ok
  ·refine aGo (cj4 Zr hx i0 (cj2 hi hs)) ?_
   repeat with_reducible intro K hK
   refine⟨by omega,⟨VR,VO,rfl,?_,?_⟩,fun id g1 g2 g3 g4=>?_⟩
   ·show _=some (rwB VR (A++[]));rw[List.append_nil];rfl
   ·show _=some (orB VO (B++[]));rw[List.append_nil];rfl
   ·simp only[Zak];repeat(rw[if_neg (show ¬ id=5 by omega)])
    repeat(rw[if_neg (by omega)])
  ·refine aGo (cj4 Zr hx i0 (cj2 hi hs)) ?_
   repeat(guard_target =~ ∀ _:St→Prop,_;intro K hK)
   intro KX hX
   refine Zbk (ZtO Ri (mk:=1) (R:=2) (O:=3) (vR:=VR) (vO:=VO) rfl (by decide) hi (by decide) (by decide)) ?_
   refine aGo Zr ?_
   repeat with_reducible intro K hK
   refine Zbk (Zvw (mk:=1) (R:=2) (O:=3) (vR:=VR) (vO:=VO) (rows:=A) (os:=B) rfl rfl rfl (by decide) (by decide) (by decide) (by decide) (by decide) (by decide) (by omega) (by omega) ⟨sumE e.m i 1 (-1) 0 e.m.toNat,0,lo⟩ ⟨1,i,-1,-1⟩) ?_
   refine aGo Zr ?_
   repeat with_reducible intro K hK
   refine hX _ _ (by kernel_rfl) (ZaG rfl) ?_
   clear hX
   clear KX
   refine aGo Zr ?_
   repeat(guard_target =~ ∀ _:St→Prop,_;intro K hK)
   intro KX hX
   refine Zbk (ZtO Ri (mk:=1) (R:=2) (O:=3) (vR:=VR+1) (vO:=VO+1) rfl (by decide) hi (by decide) (by decide)) ?_
   refine aGo Zr ?_
   repeat with_reducible intro K hK
   refine Zbk (Zvw (mk:=1) (R:=2) (O:=3) (vR:=VR+1) (vO:=VO+1) (rows:=A++[⟨sumE e.m i 1 (-1) 0 e.m.toNat,0,lo⟩]) (os:=B++[⟨1,i,-1,-1⟩]) rfl rfl rfl (by decide) (by decide) (by decide) (by decide) (by decide) (by decide) (by simp;omega) (by simp;omega) ⟨sumE e.m i 1 (-1) 0 e.m.toNat,1,hh⟩ ⟨2,i,-1,-1⟩) ?_
   refine aGo Zr ?_
   repeat with_reducible intro K hK
   refine hX _ _ (by kernel_rfl) (ZaG rfl) ?_
   clear hX
   clear KX
   refine aGo Zr ?_
   repeat with_reducible intro K hK
   refine⟨by omega,⟨VR+1+1,VO+1+1,rfl,?_,?_⟩,fun id g1 g2 g3 g4=>?_⟩
   ·refine Eq.trans (b:=some (rwB (VR+1+1) (A++[⟨sumE e.m i 1 (-1) 0 e.m.toNat,0,lo⟩]++[⟨sumE e.m i 1 (-1) 0 e.m.toNat,1,hh⟩]))) rfl ?_
    rw[Yd3];rfl
   ·refine Eq.trans (b:=some (orB (VO+1+1) (B++[⟨1,i,-1,-1⟩]++[⟨2,i,-1,-1⟩]))) rfl ?_
    rw[Yd3];rfl
   ·simp only[Zak]
    repeat(rw[if_neg (by omega)])
set_option maxHeartbeats 32000000
theorem lo5:∀ id,id<5→([0,1,2,3,4]:List Nat).contains id=true:=by
 intro id h
 have:id=0∨id=1∨id=2∨id=3∨id=4:=by omega
 rcases this with rfl|rfl|rfl|rfl|rfl<;>rfl
theorem leGo5{F X:Prop}(f:F)(h:F→X:=by
 intro hf
 refine Zcl _ _ _ ?_ ?_ ?_ ?_ ?_ (.inr lo5)<;>simp[go_sem,okD,okDs,Zcb,hf] <;>
 (first|(intros;subst_vars;simp[okD,okDs];done)|(intro _ h;rcases h with⟨_,_,rfl⟩|rfl<;>simp[okD,okDs];done)|(intros;rename_i h;rcases h with⟨_,_,rfl⟩|rfl<;>simp[okD,okDs]))):X:=h f
theorem ZwF{e:EvD}(Ri:Zd2 e){VR VO:Nat}{A:List RowD}{B:List OriD}{i:Nat}(hi:(i:Int)<e.mv.length)(hA:(A.length:Int)≤90000)(hB:(B.length:Int)≤90000)(z:MvD) :
 Zas Tryz.prog 118 [.lp 1 0 0 0,dI i] (tabM (memE e VR VO A B z)) 5 fun d m' nx'=>d=oneD []∧ZqK e 1 2 3 A B (tabM (memE e VR VO A B z)) 5 (Zbz e i e.pu.length) m' nx':=by
 have Zr:=Tryz.results118
 have i0:(0:Int)≤i:=by omega
 have hU:=Ri.lu
 have k0:=ZeF 0 (by decide) (by decide)
 refine inA Tryz.func118 rfl Tryz.ntmps118 ?_
 refine aGo Zr ?_
 repeat with_reducible intro K hK
 refine ZaE (fun(x:Nat×Nat×Nat)=>[(0,.lp 1 0 0 0),(1,dI i),(11,ZjK e.pu),(12,dI e.pu.length),(13,dI x.1)]) (fun x=>memE e x.2.1 x.2.2 (A++(Zbz e i x.1).map (·.1)) (B++(Zbz e i x.1).map (·.2)) z) 5 5 (fun x=>x.1≤e.pu.length) (fun x=>e.pu.length-x.1) (0,VR,VO) (by show 0≤e.pu.length;omega) ?_ ?_
 ·have p0:Zbz e i 0=[]:=rfl
  exact leGo5 p0
 rintro⟨n,V1,V2⟩ hn
 simp only at hn
 obtain⟨hw,h0⟩:=Za6 n
 by_cases h4:(n:Int)<e.pu.length
 rotate_left
 ·have en:n=e.pu.length:=by omega
  subst en
  refine aGo (cj2 Zr h4) ?_
  repeat with_reducible intro K hK
  exact⟨Ya4 _,⟨V1,V2,rfl,rfl,rfl⟩,fun id g1 g2 g3 g4=>by simp only[Zak,if_neg g2,if_neg g3,if_neg g4]⟩
 ·obtain⟨p,hp⟩:∃ p,e.pu[n]? =some p:=⟨_,Ya0 (by omega)⟩
  have hlen:=Zif e i n
  have es:Zbz e i (n+1)=Zbz e i n++Zfl e i n p:=by
   show Zbz e i n++_=_;rw[hp]
  generalize eL:Zbz e i n=L at es hlen ⊢
  have hLA:((A++L.map (·.1)).length:Int)≤99990:=by rw[Yb9,Yc0];omega
  have hLB:((B++L.map (·.2)).length:Int)≤99990:=by rw[Yb9,Yc0];omega
  have hk:=Ri.pu p (Ya7 hp)
  simp only[okPu,idx,Ya2,decide_eq_true_eq]at hk
  have wn:IntKind.i64.wrap (0-p.lo) = -p.lo:=(Zbb (by omega) (by omega)).trans (by omega)
  cases t1:(p.v !=(i:Int))
  ·have t1':p.v=i:=by simpa using t1
   have ep:Zfl e i n p=[(⟨sumE e.m i (-p.lo) p.m 1000 e.m.toNat,0,ofQ ((0:Int):Rat)⟩,⟨3,i,-1,n⟩),(⟨sumE e.m i p.hi p.m (-1000) e.m.toNat,0,ofQ ((0:Int):Rat)⟩,⟨4,i,-1,n⟩)]:=by unfold Zfl;rw[if_pos t1'];rfl
   rw[ep]at es
   refine aGo (cj4 Zr h0 h4 (cj3 hp t1 wn)) ?_
   repeat(guard_target =~ ∀ _:St→Prop,_;intro K hK)
   intro KX hX
   refine Zbk (ZtO Ri (mk:=1) (R:=2) (O:=3) (vR:=V1) (vO:=V2) rfl (by decide) hi (by omega) (by decide)) ?_
   refine aGo Zr ?_
   repeat with_reducible intro K hK
   refine Zbk (Zvw (mk:=1) (R:=2) (O:=3) (vR:=V1) (vO:=V2) (rows:=A++L.map (·.1)) (os:=B++L.map (·.2)) rfl rfl rfl (by decide) (by decide) (by decide) (by decide) (by decide) (by decide) (by omega) (by omega) ⟨sumE e.m i (-p.lo) p.m 1000 e.m.toNat,0,ofQ ((0:Int):Rat)⟩ ⟨3,i,-1,n⟩) ?_
   refine aGo Zr ?_
   repeat with_reducible intro K hK
   refine hX _ _ (by kernel_rfl) (ZaG rfl) ?_
   clear hX
   clear KX
   refine aGo Zr ?_
   repeat(guard_target =~ ∀ _:St→Prop,_;intro K hK)
   intro KX hX
   refine Zbk (ZtO Ri (mk:=1) (R:=2) (O:=3) (vR:=V1+1) (vO:=V2+1) rfl (by decide) hi (by omega) (by decide)) ?_
   refine aGo Zr ?_
   repeat with_reducible intro K hK
   refine Zbk (Zvw (mk:=1) (R:=2) (O:=3) (vR:=V1+1) (vO:=V2+1) (rows:=A++L.map (·.1)++[⟨sumE e.m i (-p.lo) p.m 1000 e.m.toNat,0,ofQ ((0:Int):Rat)⟩]) (os:=B++L.map (·.2)++[⟨3,i,-1,n⟩]) rfl rfl rfl (by decide) (by decide) (by decide) (by decide) (by decide) (by decide) (by rw[Yb9];simp at hLA ⊢;omega) (by rw[Yb9];simp at hLB ⊢;omega) ⟨sumE e.m i p.hi p.m (-1000) e.m.toNat,0,ofQ ((0:Int):Rat)⟩ ⟨4,i,-1,n⟩) ?_
   refine aGo Zr ?_
   repeat with_reducible intro K hK
   refine hX _ _ (by kernel_rfl) (ZaG rfl) ?_
   clear hX
   clear KX
   refine aGo (cj2 Zr hw) ?_
   repeat with_reducible intro K hK
   refine Zai (n+1,V1+1+1,V2+1+1) (by show n+1≤e.pu.length;omega) (by show e.pu.length-(n+1)<e.pu.length-n;omega) ?_
   refine Zcl _ _ _ ?_ ?_ ?_ ?_ ?_ (.inr lo5)<;>simp[go_sem,okD,okDs,Zcb,es,eL]
   exact⟨by rintro e (⟨a,_,rfl⟩|⟨a,_,rfl⟩|rfl|rfl)<;>rfl,by rintro e (⟨a,_,rfl⟩|⟨a,b,_,rfl⟩|rfl|rfl)<;>rfl⟩
  ·have t1':¬ p.v=i:=by simpa using t1
   refine aGo (cj4 Zr h0 h4 (cj3 hp t1 hw)) ?_
   repeat with_reducible intro K hK
   have ep:Zfl e i n p=[]:=by unfold Zfl;rw[if_neg t1']
   rw[ep,List.append_nil]at es
   exact Zai (n+1,V1,V2) (by show n+1≤e.pu.length;omega) (by show e.pu.length-(n+1)<e.pu.length-n;omega) (by refine Zcl _ _ _ ?_ ?_ ?_ ?_ ?_ (.inr lo5)<;>simp[go_sem,okD,okDs,Zcb,es,eL]<;>exact⟨(by rintro e (⟨a,_,rfl⟩|⟨a,_,rfl⟩)<;>rfl),(by rintro e (⟨a,_,rfl⟩|⟨a,b,_,rfl⟩)<;>rfl)⟩)
theorem ZoJ{e:EvD}{A:List RowD}{B:List OriD}{z:MvD}{l:List RoO}{m:Mem}{nx:Nat}{s:St}(sl:List (Nat×D))(g:ZqK e 1 2 3 A B m nx l s.m s.nx)(h0:m 0=some (ZnF e))(h4:m 4=some (mvB z))(hn:5≤nx)
 (ht:∀ p∈sl,s.t p.1=p.2) (hok:∀ p∈sl,okD (fun id=>([0,1,2,3,4]:List Nat).contains id) p.2=true) (hlo:s.lo=0) :
 ∃ VR VO,StLe s ⟨tabT sl,tabM (memE e VR VO (A++l.map (·.1)) (B++l.map (·.2)) z),5,s.lo⟩:=by
 obtain⟨VR,VO,c1,c2,c3⟩:=g.b
 refine⟨VR,VO,Zcl sl (memE e VR VO (A++l.map (·.1)) (B++l.map (·.2)) z) 5 ht ?_ hok ?_ ?_ (.inl hlo)⟩
 ·intro p hp
  simp only[memE,List.mem_cons,List.not_mem_nil,or_false]at hp
  rcases hp with rfl|rfl|rfl|rfl|rfl
  ·exact(g.f 0 (by omega) (by decide) (by decide) (by decide)).trans h0
  ·exact c1
  ·exact c2
  ·exact c3
  ·exact(g.f 4 (by omega) (by decide) (by decide) (by decide)).trans h4
 ·intro p hp
  simp only[memE,List.mem_cons,List.not_mem_nil,or_false]at hp
  rcases hp with rfl|rfl|rfl|rfl|rfl
  ·intro x hx;obtain rfl:=List.mem_singleton.1 hx;rfl
  ·intro x hx;obtain rfl:=List.mem_singleton.1 hx;rfl
  ·intro x hx;obtain⟨u,_,rfl⟩:=Yc6.1 hx;rfl
  ·intro x hx;obtain⟨u,_,rfl⟩:=Yc6.1 hx;rfl
  ·intro x hx;obtain rfl:=List.mem_singleton.1 hx;rfl
 ·intro p hp
  simp only[memE,List.mem_cons,List.not_mem_nil,or_false]at hp
  rcases hp with rfl|rfl|rfl|rfl|rfl<;>simp
theorem Zss{P:Program}{n:Nat}{c:Code}{Q:Exit→St→Prop}{e:EvD}{A:List RowD}{B:List OriD}{z:MvD}{l:List RoO}{m:Mem}{nx:Nat}{s:St}(sl:List (Nat×D))(g:ZqK e 1 2 3 A B m nx l s.m s.nx)(h0:m 0=some (ZnF e))(h4:m 4=some (mvB z))(hn:5≤nx)
 (ht:∀ p∈sl,s.t p.1=p.2) (hok:∀ p∈sl,okD (fun id=>([0,1,2,3,4]:List Nat).contains id) p.2=true) (hlo:s.lo=0) (k:∀ VR VO,AWP P n c Q ⟨tabT sl,tabM (memE e VR VO (A++l.map (·.1)) (B++l.map (·.2)) z),5,s.lo⟩):AWP P n c Q s:=by
 obtain⟨VR,VO,hle⟩:=ZoJ sl g h0 h4 hn ht hok hlo
 exact aLe hle (k VR VO)
abbrev encMk(e:EvD)(l:List RoO):D:=.ep [[dI e.m,dI e.h,dI e.s,ZoY e.pl,Zfv e.mv,Zmi e.ce,Zgt e.re,ZjK e.pu,ZsQ (l.map (·.1)),.sl ((l.map (·.2)).map cOri)]] 0 0
theorem Zze(e:EvD)(Ri:Zd2 e)(hn:e.mv.length≤12)(hp:e.pu.length≤12):Zag Tryz.prog 72 [Zej e] (encMk e (Zp4 e)):=by
 have Zr:=Tryz.results72
 refine inC Tryz.func72 rfl Tryz.ntmps72 ?_
 refine aGo Zr ?_
 repeat with_reducible intro K hK
 refine aLe (Zku 1 0 8 228 6 rfl rfl rfl) ?_
 refine aLe (Zku 1 0 9 266 4 rfl rfl rfl) ?_
 simp only[go_sem]
 refine ZaE (fun(x:Nat×Nat×Nat)=>[(1,.lp 0 0 0 0),(3,.lp 1 0 0 0),(10,Zfv e.mv),(11,dI e.mv.length),(12,dI x.1)]) (fun x=>[(0,ZnF e),(1,mkB e 2 x.2.1 3 x.2.2),(2,rwB x.2.1 ((Zd8 e (ivF e) x.1).map (·.1))),(3,orB x.2.2 ((Zd8 e (ivF e) x.1).map (·.2)))]) 4 0 (fun x=>x.1≤e.mv.length) (fun x=>e.mv.length-x.1) (0,0,0) (by show 0≤e.mv.length;omega) ?_ ?_
 ·have p0:Zd8 e (ivF e) 0=[]:=rfl
  refine Zcl _ _ _ ?_ ?_ ?_ ?_ ?_ (.inl rfl)<;>simp[go_sem,okD,okDs,Zcb,p0]
 rintro⟨i,V1,V2⟩ hi
 simp only at hi
 obtain⟨hw,h0⟩:=Za6 i
 by_cases h4:(i:Int)<e.mv.length
 rotate_left
 ·have en:i=e.mv.length:=by omega
  subst en
  refine aGo (cj2 Zr h4) ?_
  repeat with_reducible intro K hK
  rw[ZbI (fun _=>rfl),ZbI (fun _=>rfl)];rfl
 ·have hx:=ZhB (e:=e) (i:=i) (by omega)
  have hlen:=Zh7 e (ivF e) i
  have hM:=Ri.m
  have hl2:(Zd8 e (ivF e) i).length≤500:=by
   have:i*(e.m.toNat+2+2*e.pu.length)≤12*(6+2+2*12):=Nat.mul_le_mul (by omega) (by omega)
   omega
  obtain⟨f0,f1⟩:=(Ri.mv _ (Zot (by omega:i<e.mv.length))).f
  obtain⟨pl,hpl⟩:∃ p,e.pl[(mvAt e i).f.toNat]? =some p:=⟨_,Ya0 (by omega)⟩
  have hb:ZiM e i=(pl.k==0):=by unfold ZiM Zcx;rw[hpl];rfl
  have es:Zd8 e (ivF e) (i+1)=Zd8 e (ivF e) i++(Zci e i++(Zbx e (ivF e i) i++Zbz e i e.pu.length)):=rfl
  unfold Zci at es
  rw[hb]at es
  generalize mvAt e i=x at hx f0 f1 hpl
  generalize eL:Zd8 e (ivF e) i=L at es hlen hl2 ⊢
  refine aGo (cj4 Zr h0 h4 (cj3 hx hpl f0)) ?_
  repeat with_reducible intro K hK
  have r1:∀ (l1:List RoO)(W1 W2:Nat),Zd8 e (ivF e) (i+1)=L++(l1++(Zbx e (ivF e i) i++Zbz e i e.pu.length))→l1.length≤10→∀ st,StLe st ⟨tabT [(1,.lp 0 0 0 0),(3,.lp 1 0 0 0),(4,dI i),(10,Zfv e.mv),(11,dI e.mv.length),(12,dI i)],tabM (memE e W1 W2 (L.map (·.1)++l1.map (·.1)) (L.map (·.2)++l1.map (·.2)) x),5,0⟩→K st:=by
   intro l1 W1 W2 e1 hl1 st hle
   refine hK _ (aLe hle ?_)
   clear hle hK
   refine aGo Zr ?_
   repeat with_reducible intro K hK
   refine ZdT (ZtE Ri (A:=L.map (·.1)++l1.map (·.1)) (B:=L.map (·.2)++l1.map (·.2)) h4 (by simp;omega) (by simp;omega) x) ?_
   rintro d m3 nx3 ⟨rfl,g⟩
   simp only[go_sem]
   refine hK _ ?_
   refine Zss [(1,.lp 0 0 0 0),(3,.lp 1 0 0 0),(4,dI i),(10,Zfv e.mv),(11,dI e.mv.length),(12,dI i)] g rfl rfl (by decide) (by simp[go_sem]) (by simp[okD]) rfl fun W3 W4=>?_
   have hwl:(Zbx e (ivF e i) i).length≤2:=by unfold Zbx;split<;>simp
   refine aGo Zr ?_
   repeat with_reducible intro K hK
   refine ZdT (ZwF Ri (A:=L.map (·.1)++l1.map (·.1)++(Zbx e (ivF e i) i).map (·.1)) (B:=L.map (·.2)++l1.map (·.2)++(Zbx e (ivF e i) i).map (·.2)) h4 (by simp;omega) (by simp;omega) x) ?_
   rintro d m4 nx4 ⟨rfl,g2⟩
   refine aGo (cj2 Zr hw) ?_
   repeat with_reducible intro K hK
   obtain⟨W5,W6,c1,c2,c3⟩:=g2.b
   have c0:m4 0=some (ZnF e):=g2.f 0 (by decide) (by decide) (by decide) (by decide)
   have c2':m4 2=some (rwB W5 ((Zd8 e (ivF e) (i+1)).map (·.1))):=by rw[c2,e1];simp only[List.map_append,Yd3]
   have c3':m4 3=some (orB W6 ((Zd8 e (ivF e) (i+1)).map (·.2))):=by rw[c3,e1];simp only[List.map_append,Yd3]
   refine Zai (i+1,W5,W6) (by show i+1≤e.mv.length;omega) (by show e.mv.length-(i+1)<e.mv.length-i;omega) ?_
   refine Zcl _ _ _ ?_ ?_ ?_ ?_ ?_ (.inl rfl)
   ·simp[go_sem]
   ·intro p hp
    simp only[List.mem_cons,List.not_mem_nil,or_false]at hp
    rcases hp with rfl|rfl|rfl|rfl
    ·exact c0
    ·exact c1
    ·exact c2'
    ·exact c3'
   ·simp[okD]
   ·intro p hp
    simp only[List.mem_cons,List.not_mem_nil,or_false]at hp
    rcases hp with rfl|rfl|rfl|rfl
    ·intro x hx;obtain rfl:=List.mem_singleton.1 hx;rfl
    ·intro x hx;obtain rfl:=List.mem_singleton.1 hx;rfl
    ·intro x hx;obtain⟨u,_,rfl⟩:=Yc6.1 hx;rfl
    ·intro x hx;obtain⟨u,_,rfl⟩:=Yc6.1 hx;rfl
   ·simp
  clear hK
  cases t1:(pl.k !=0)
  ·have t2:(pl.k==0)=true:=by simpa using t1
   rw[t2,if_pos rfl]at es
   refine aGo (cj2 Zr t1) ?_
   repeat with_reducible intro K hK
   refine r1 [] V1 V2 (by rw[es]) (by simp) _ ?_
   simp only[List.map_nil,List.append_nil]
   refine Zcl _ _ _ ?_ ?_ ?_ ?_ ?_ (.inl rfl)
   ·simp[go_sem]
   ·simp[go_sem]
   ·simp[okD]
   ·intro p hp
    simp only[List.mem_cons,List.not_mem_nil,or_false]at hp
    rcases hp with rfl|rfl|rfl|rfl|rfl
    ·intro x hx;obtain rfl:=List.mem_singleton.1 hx;rfl
    ·intro x hx;obtain rfl:=List.mem_singleton.1 hx;rfl
    ·intro x hx;obtain⟨u,_,rfl⟩:=Yc6.1 hx;rfl
    ·intro x hx;obtain⟨u,_,rfl⟩:=Yc6.1 hx;rfl
    ·intro x hx;obtain rfl:=List.mem_singleton.1 hx;rfl
   ·simp
  ·have t2:(pl.k==0)=false:=by simpa using t1
   rw[t2,if_neg Yc5]at es
   refine aGo (cj2 Zr t1) ?_
   repeat with_reducible intro K hK
   have fin:∀ {m:Mem} {nx:Nat} (s:St),m 0=some (ZnF e)→m 4=some (mvB x)→5≤nx→ZqK e 1 2 3 (L.map (·.1)) (L.map (·.2)) m nx ((List.range e.m.toNat).map (Zb0 e i)) s.m s.nx→(∀ p∈[((1:Nat),D.lp 0 0 0 0),(3,.lp 1 0 0 0),(4,dI i),(10,Zfv e.mv),(11,dI e.mv.length),(12,dI i)],s.t p.1=p.2)→s.lo=0→K s:=by
    intro m nx s q0 q4 qn g ht hlo
    obtain⟨W1,W2,hle⟩:=ZoJ _ g q0 q4 qn ht (by simp[okD]) hlo
    rw[hlo]at hle
    exact r1 _ W1 W2 es (by rw[Yc0,List.length_range];omega) s hle
   refine ZdT (Zwt Ri (mk:=1) (R:=2) (O:=3) (VR:=V1) (VO:=V2) (A:=L.map (·.1)) (B:=L.map (·.2)) rfl rfl rfl (by decide) (by decide) (by decide) h4 (by simp;omega) (by simp;omega)) ?_
   rintro d m3 nx3 ⟨rfl,g⟩
   simp only[go_sem]
   exact fin _ rfl rfl (by decide) g (by simp[go_sem]) rfl
theorem ZvE(e:EvD)(hf:Zix e=0)(hn:e.mv.length≤12)(hp:e.pu.length≤12)(L:LenE e):Zag Tryz.prog 32 [Zej e] (.tup [encS (sysE e),dI 0]):=by
 have Zr:=Tryz.results32
 have Ri:=ZfP hf
 have k0:=ZvW e L
 rw[hf]at k0
 have k1:=Zze e Ri hn hp
 have hM:=Ri.m
 have mul1:(e.mv.length:Int)*e.m≤1200:=by
  have:=Int.mul_le_mul (a:=(e.mv.length:Int)) (b:=e.m) (c:=200) (d:=6) (by omega) (by omega) (by omega) (by omega)
  omega
 have mul0:0≤(e.mv.length:Int)*e.m:=Int.mul_nonneg (by omega) (by omega)
 have wm:IntKind.i64.wrap ((e.mv.length:Int)*e.m)=(e.mv.length:Int)*e.m:=Zbb (by omega) (by omega)
 refine inC Tryz.func32 rfl Tryz.ntmps32 ?_
 refine aGo (cj2 Zr wm) ?_
 repeat with_reducible intro K hK
 rfl
theorem Zwy:eqTy Tryz.prog 107=true:=by kernel_rfl
attribute [local go_sem] Zwy eqL
def eqPk(p q:PkD):Bool:=(p.v==q.v)&&((p.m==q.m)&&true)
def Zny(l:List PkD)(p:PkD):Bool:= !l.all (fun q=> !eqPk p q)
def Zns(l:List PkD)(p:PkD):Int:=if l.all (fun q=> !eqPk p q)then -1 else l.findIdx (fun q=> !!eqPk p q)
theorem Zso(l:List PkD)(p:PkD)(hl:(l.length:Int)≤1099511627776):Zaa Tryz.prog 74 [Zfu l,.agg (cPk p)] (dI (Zns l p)):=by
 have Zr:=Tryz.results74
 refine inN Tryz.func74 rfl Tryz.ntmps74 fun I=>?_
 refine aGo Zr ?_
 repeat with_reducible intro K hK
 refine ZaE (fun(k:Nat)=>[(0,Zfu l),(3,.lp 0 0 0 0),(7,dI l.length),(8,dI k)]) (fun _=>[(0,⟨107,0,2,[cPk p],0,false⟩)]) 1 0 (fun k=>k≤l.length∧(l.take k).all (fun q=> !eqPk p q)=true) (fun k=>l.length-k) 0 ⟨by omega,rfl⟩ ?_ ?_
 ·exact leGo trivial
 rintro k ⟨hk,hn⟩
 obtain⟨hw,h0⟩:=Za6 k
 by_cases h1:(k:Int)<l.length
 ·obtain⟨q,hx⟩:=getE (l:=l) (k:=k) (by omega)
  have he:((p.v==q.v)&&((p.m==q.m)&&true))=eqPk p q:=rfl
  cases h2:eqPk p q
  ·rw[h2]at he
   have he2:(p.v==q.v&&p.m==q.m)=false:=by simpa using he
   refine aGo (cj4 Zr h0 h1 (cj4 hx hw he he2)) ?_
   repeat with_reducible intro K hK
   exact Zai (k+1) ⟨by omega,Zan hx hn (by simp[h2])⟩ (by omega) (by exact leGo trivial)
  ·rw[h2]at he
   have he2:(p.v==q.v&&p.m==q.m)=true:=by simpa using he
   have hx2:(fun q=> !eqPk p q) q=false:=by simp[h2]
   refine aGo (cj4 Zr h0 h1 (cj4 hx hw he he2)) ?_
   repeat with_reducible intro K hK
   have:Zns l p=k:=by
    have h3:l.all (fun q=> !eqPk p q)=false:=Zbf hx hx2
    unfold Zns
    rw[h3,ZiR hx hn hx2];rfl
   rw[this]
 ·refine aGo (cj2 Zr h1) ?_
  repeat with_reducible intro K hK
  rw[Ya8 (by omega)]at hn
  have:Zns l p = -1:=by unfold Zns;rw[hn];rfl
  rw[this]
theorem Zmp(l:List PkD)(p:PkD)(hl:(l.length:Int)≤1099511627776):Zaa Tryz.prog 34 [Zfu l,.agg (cPk p)] (dB (Zny l p)):=by
 have Zr:=Tryz.results34
 have hc:=Zso l p hl
 have e:decide (Zns l p≥0)=Zny l p:=by
  unfold Zns Zny
  cases l.all fun q=> !eqPk p q
  ·simp only[Bool.false_eq_true,if_false,Bool.not_false];exact decide_eq_true (by omega)
  ·rfl
 rw[← e]
 refine inN Tryz.func34 rfl Tryz.ntmps34 fun I=>?_
 exact aGo Zr trivial
def Zhq(e:EvD)(ps:List PkD):Nat→Bool
 | 0=>true
 | k+1=>Zhq e ps k&&(match ps[k]? with|some p=>okPk e p && !Zny (ps.take k) p|none=>true)
def Zdo(e:EvD)(ps:List PkD)(a b:OptD):Bool :=
 decide (a.k≠1)&&(decide (b.k≠1)&&(Zhq e ps ps.length&&(Zb7 (sysE e) ((Zf1 e ps).map oneT) a&&Zb7 (sysE e) (oppT ((Zf1 e ps).map oneT)) b)))
theorem Zul{e:EvD}{ps:List PkD}{k:Nat}{p:PkD}(hp:ps[k]? =some p)(h:(okPk e p && !Zny (ps.take k) p)=false):Zhq e ps ps.length=false:=by
 have hk:=(Ya3.1 hp).1
 have:∀ n,k<n→Zhq e ps n=false:=by
  intro n
  induction n with
  | zero=>intro h;omega
  | succ n ih =>
    intro hn
    by_cases e1:k=n
    ·subst e1
     simp only[Zhq,hp,h,Bool.and_false]
    ·simp only[Zhq,ih (by omega),Bool.false_and]
 exact this _ hk
theorem ZyT(goal:List Zaj)(hs:smT goal):Zag Tryz.prog 37 [ZbT goal] (ZbT (oppT goal)):=by
 have Zr:=Tryz.results37
 have k1:=Ziy (-1) (by decide) (by decide)
 have k2:=ZuD goal (ofQ ((-1:Int):Rat)) hs (by have:=Zkb.1;unfold smF;omega)
 refine inC Tryz.func37 rfl Tryz.ntmps37 ?_
 refine aGo Zr ?_
 repeat with_reducible intro K hK
 rfl
theorem ZyZ(S:List Int)(h:S.length≤100):smT (S.map oneT):=by
 refine⟨by rw[Yc0];omega,fun t ht=>?_⟩
 obtain⟨v,_,rfl⟩:=Yc6.1 ht
 have:szF (ofQ ((1:Int):Rat))≤3:=by decide +kernel
 show(szF (ofQ ((1:Int):Rat)):Int)≤_
 omega
theorem ZyY(S:List Int)(h:S.length≤100):smT (oppT (S.map oneT)):=by
 obtain⟨z1,z2⟩:=ZyX (B:=3) (S.map oneT) (fun t ht=>by
  obtain⟨v,_,rfl⟩:=Yc6.1 ht
  show szF (ofQ ((1:Int):Rat))≤3
  decide +kernel)
 rw[Yc0]at z1
 exact⟨by omega,fun t ht=>by have:=z2 t ht;unfold smF;omega⟩
theorem Zt5{e:EvD}(hf:Zix e=0)(L:LenE e)(hn:e.mv.length≤12)(hpu:e.pu.length≤12)(ps:List PkD)(hl:ps.length≤100)(a b:OptD)(hs:tnS (sysE e))(ha:tnO a)(hb:tnO b) :
 Zag Tryz.prog 11 [Zej e,Zfu ps,encR a b] (dB (Zdo e ps a b)):=by
 have Zr:=Tryz.results11
 have Ri:=ZfP hf
 have hM:=Ri.m
 have k1:=ZvE e hf hn hpu L
 by_cases g1:a.k=1
 ·have e1:(a.k==1)=true:=by simpa using g1
  have e2:Zdo e ps a b=false:=by unfold Zdo;rw[decide_eq_false (by simpa using g1)];rfl
  rw[e2]
  refine inC Tryz.func11 rfl Tryz.ntmps11 ?_
  exact aGo (cj2 Zr e1) trivial
 have e1:(a.k==1)=false:=by simpa using g1
 by_cases g2:b.k=1
 ·have e2:(b.k==1)=true:=by simpa using g2
  have e3:Zdo e ps a b=false:=by unfold Zdo;rw[decide_eq_false (p:=b.k≠1) (by simpa using g2)];simp
  rw[e3]
  refine inC Tryz.func11 rfl Tryz.ntmps11 ?_
  exact aGo (cj3 Zr e1 e2) trivial
 have e2:(b.k==1)=false:=by simpa using g2
 have hpr:Zdo e ps a b=(Zhq e ps ps.length&&(Zb7 (sysE e) ((Zf1 e ps).map oneT) a&&Zb7 (sysE e) (oppT ((Zf1 e ps).map oneT)) b)):=by
  unfold Zdo;rw[decide_eq_true g1,decide_eq_true g2];rfl
 have hlS:(Zf1 e ps).length≤100:=by rw[List.length_mergeSort,Yc0];exact hl
 have hsm:=ZyZ (Zf1 e ps) hlS
 have hsmo:=ZyY (Zf1 e ps) hlS
 have k3:=ZyT _ hsm
 have k4:=Zo2 _ _ a hs hsm ha
 have k5:=Zo2 _ _ b hs hsmo hb
 refine inC Tryz.func11 rfl Tryz.ntmps11 ?_
 refine aGo (cj3 Zr e1 e2) ?_
 repeat with_reducible intro K hK
 refine aLe (Zis 9 3 1 rfl) ?_
 refine ZaE (fun(x:Nat×List Int)=>[(1,Zfu ps),(3,.lp 0 0 0 0),(5,.lp 1 0 0 0),(7,.lp 2 0 0 0),(9,.ls 3 x.1),(32,Zfu ps),(33,dI ps.length),(34,dI x.1)]) (fun x=>[(0,ZnF e),(1,⟨39,0,16,[[dI a.k,dI a.v.p.s,Zah a.v.p.d,dI a.v.q.s,Zah a.v.q.d,ZaM a.x,ZaM a.y,ZaM a.d,dI b.k,dI b.v.p.s,Zah b.v.p.d,dI b.v.q.s,Zah b.v.q.d,ZaM b.x,ZaM b.y,ZaM b.d]],0,false⟩),(2,⟨102,0,2,[cS (sysE e)],0,false⟩),(3,⟨3,x.1,1,Zdj x.2,0,false⟩)]) 4 0 (fun x=>x.1≤ps.length∧x.2=(ps.take x.1).map (varP e)∧Zhq e ps x.1=true) (fun x=>ps.length-x.1) (0,[]) ⟨Yb0 _,rfl,rfl⟩ ?_ ?_
 ·exact leGo trivial
 rintro⟨k,Q⟩ ⟨hk,hQ,hok⟩
 simp only at hk hQ hok
 obtain⟨hw,h0⟩:=Za6 k
 have hkl:(k:Int)≤ps.length:=by omega
 have hlQ:Q.length≤100:=by rw[hQ,Yc0,Yc1];omega
 by_cases h1:(k:Int)<ps.length
 rotate_left
 ·obtain rfl:k=ps.length:=by omega
  rw[Ya8 (Ya4 _)]at hQ
  rw[hok,Bool.true_and]at hpr
  have k2:=ZyG Q (by omega)
  have hdat:List.map (List.map datJ) (Zdj Q)=Zdj Q:=ZbI (fun _=>rfl) Q
  rw[show Zh3 Q=Zf1 e ps by rw[hQ]]at k2
  generalize Zb7 (sysE e) ((Zf1 e ps).map oneT) a=C1 at k4 hpr
  generalize Zb7 (sysE e) (oppT ((Zf1 e ps).map oneT)) b=C2 at k5 hpr
  generalize (Zf1 e ps).map oneT=G at k2 k3 k4 k5
  generalize oppT G=H at k3 k5
  cases C1
  ·refine aGo (cj3 Zr h1 hdat) ?_
   repeat with_reducible intro K hK
   rw[hpr];rfl
  ·refine aGo (cj3 Zr h1 hdat) ?_
   repeat with_reducible intro K hK
   rw[hpr];rfl
 obtain⟨p,hp⟩:∃ p,ps[k]? =some p:=⟨_,Ya0 (by omega)⟩
 have q:=Zmp (ps.take k) p (by rw[Yc1];omega)
 have hbad:(okPk e p && !Zny (ps.take k) p)=false→Zdo e ps a b=false:=fun h=>by rw[hpr,Zul hp h];rfl
 by_cases g3:p.v<0
 ·rw[hbad (by unfold okPk;rw[decide_eq_false (p:=0≤p.v) (by omega)];rfl)]
  exact aGo (cj4 Zr h0 h1 (cj2 hp g3)) trivial
 by_cases g4:p.v≥e.mv.length
 ·rw[hbad (by unfold okPk;rw[decide_eq_false (p:=p.v<e.mv.length) (by omega)];simp)]
  exact aGo (cj4 Zr h0 h1 (cj3 hp g3 g4)) trivial
 by_cases g5:p.m<0
 ·rw[hbad (by unfold okPk;rw[decide_eq_false (p:=0≤p.m) (by omega)];simp)]
  exact aGo (cj4 Zr h0 h1 (cj4 hp g3 g4 g5)) trivial
 by_cases g6:p.m≥e.m
 ·rw[hbad (by unfold okPk;rw[decide_eq_false (p:=p.m<e.m) (by omega)];simp)]
  exact aGo (cj4 Zr h0 h1 (cj4 hp g3 g4 (cj2 g5 g6))) trivial
 have hsl:List.drop 0 (List.take k (List.map cPk ps))=List.map cPk (ps.take k):=by rw[List.drop_zero,List.map_take]
 have hsl2:List.take k (List.map cPk ps)=List.map cPk (ps.take k):=by rw[List.map_take]
 have hkp:(0:Int)≤0∧(0:Int)≤k:=by omega
 cases hc:Zny (ps.take k) p
 ·rw[hc]at q
  have mul0:0≤p.v*e.m:=Int.mul_nonneg (by omega) (by omega)
  have mul1:p.v*e.m≤1200:=by
   have:=Int.mul_le_mul (a:=p.v) (b:=e.m) (c:=200) (d:=6) (by omega) (by omega) (by omega) (by omega)
   omega
  have wm:IntKind.i64.wrap (p.v*e.m)=p.v*e.m:=Zbb (by omega) (by omega)
  have ws:IntKind.i64.wrap (p.v*e.m+p.m)=p.v*e.m+p.m:=Zbb (by omega) (by omega)
  have hts:Q++[varP e p]=(ps.take (k+1)).map (varP e):=by rw[Yb4,hp,hQ];simp
  have hok2:Zhq e ps (k+1)=true:=by
   simp only[Zhq,hp,hok,hc,Bool.true_and,Bool.not_false,Bool.and_true]
   unfold okPk;rw[decide_eq_true (by omega),decide_eq_true (by omega),decide_eq_true (by omega),decide_eq_true (by omega)];rfl
  obtain⟨Z,eZ⟩:∃ Z,Q++[varP e p]=Z:=⟨_,rfl⟩
  have hZ:Zdj Q++[[dI (p.v*e.m+p.m)]]=Zdj Z:=by rw[← eZ];unfold Zdj;rw[List.map_append];rfl
  rw[eZ]at hts
  clear hbad hpr k3 k4 k5 k1 hsm hsmo
  refine aGo (cj4 Zr h0 h1 (cj4 hp g3 g4 (cj4 g5 g6 hsl (cj4 hsl2 hkl wm (cj3 ws hw hZ))))) ?_
  repeat with_reducible intro K hK
  exact Zai (k+1,Z) ⟨by show k+1≤ps.length;omega,hts,hok2⟩ (by show ps.length-(k+1)<ps.length-k;omega) (by exact leGo trivial)
 ·rw[hc]at q
  have hb:=hbad (by rw[hc];simp)
  rw[hb]
  clear hbad hpr k3 k4 k5 k1 hsm hsmo
  exact aGo (cj4 Zr h0 h1 (cj4 hp g3 g4 (cj4 g5 g6 hsl (cj2 hsl2 hkl)))) trivial
theorem Zr7{s:SysD}{goal:List Zaj}{y:List Zac}(h:(Za2 s goal y).2=true):(Za2 s goal y).1=ofQ (mixV s.r y):=by
 unfold Za2 at h ⊢
 split at h
 ·rename_i hc;rw[if_pos hc]
 ·cases h
theorem Zl6{s:SysD}{goal:List Zaj}{o:OptD}{x:List Zac}(hc:Zb7 s goal o=true)(hk:o.k=0)(hx:Zba s x=true):okF o.v=true∧qOf o.v≤dotD goal x:=by
 simp only[Zb7,Ya2]at hc
 obtain⟨_,hc⟩:=hc
 rw[if_pos hk]at hc
 simp only[Ya2]at hc
 obtain⟨⟨⟨⟨h1,_⟩,_⟩,h4⟩,_⟩:=hc
 have hb:=Ztg h1 hx
 have hv:=Zlo.1 h4
 rw[Zr7 h1]at hv
 rw[← hv,Zbc]
 exact⟨Zbj _,hb⟩
def sumV(g:Int→Rat):List Int→Rat
 | []=>0
 | v ::l=>g v+sumV g l
theorem Zq7{g:Int→Rat}{a b:List Int}(h:a.Perm b):sumV g a=sumV g b:=by
 induction h with
 | nil=>rfl
 | cons x _ ih=>simp only[sumV,ih]
 | swap x y l=>simp only[sumV];grind
 | trans _ _ h1 h2=>rw[h1,h2]
theorem ZoZ(g:Int→Rat):∀ l:List Int,dotS g (l.map oneT)=sumV g l
 | []=>rfl
 | v ::l=>by
   rw[List.map_cons]
   simp only[dotS,sumV,ZoZ g l]
   show qOf (ofQ ((1:Int):Rat))*g v+sumV g l=_
   rw[Zbc]
   simp
def Zed(h:List (List Zac)):List PkD→Rat
 | []=>0
 | p ::ps=>hAt h p.v.toNat p.m.toNat+Zed h ps
theorem ZlG{e:EvD}{ps:List PkD}:∀ k,Zhq e ps k=true→∀ p∈ps.take k,okPk e p=true
 | 0,_,p,hp=>by simp at hp
 | k+1,h,p,hp=>by
   simp only[Zhq,Ya2]at h
   rw[Yb4]at hp
   rcases Yd5.1 hp with hp|hp
   ·exact ZlG k h.1 p hp
   ·cases hk:ps[k]? with
    | none=>rw[hk]at hp;cases hp
    | some q =>
      rw[hk]at hp
      have:p=q:=by simpa using hp
      subst this
      have h2:=h.2
      rw[hk]at h2
      simp only[Ya2]at h2
      exact h2.1
section
variable {e:EvD} {h:List (List Zac)} (h0:ZgU e h=0)
include h0
theorem Zvd{ps:List PkD}(hp:∀ p∈ps,okPk e p=true):dotD ((Zf1 e ps).map oneT) h.flatten=Zed h ps:=by
 obtain⟨hf,hn,hl,_⟩:=Znt h0
 have hM:=(ZfP hf).m
 rw[ZgW,ZoZ]
 have hperm:(Zf1 e ps).Perm (ps.map (varP e)):=List.mergeSort_perm _ _
 rw[Zq7 hperm]
 clear hperm
 induction ps with
 | nil=>rfl
 | cons p ps ih =>
   rw[List.map_cons]
   simp only[sumV,Zed]
   rw[ih fun q hq=>hp q (Yb6 _ hq)]
   congr 1
   have hk:=hp p Yb7
   unfold okPk at hk
   simp only[Ya2,decide_eq_true_eq]at hk
   have:=Zj7 (e:=e) (h:=h) (by omega) (fun l hl'=>(hl l hl').1) hn (i:=p.v.toNat) (m:=p.m.toNat) (by omega) (by omega)
   rw[← this]
   unfold varP
   rw[Int.toNat_of_nonneg hk.1,Int.toNat_of_nonneg hk.2.2.1]
theorem ZuS(hs:ZaF (sysE e)=true):Zba (sysE e) h.flatten=true:=by
 obtain⟨hf,hn,hl,hh⟩:=Znt h0
 exact Zqg (ZfP hf) hs (fun l hl'=>(hl l hl').1) hn (fun l hl'=>(hl l hl').2) hh
end
theorem Zjv(h:List (List Zac))(p:PkD):∀ l:List PkD,Zed h (l++[p])=Zed h l+hAt h p.v.toNat p.m.toNat
 | []=>by show hAt h p.v.toNat p.m.toNat+0=0+hAt h p.v.toNat p.m.toNat;grind
 | x ::l=>by
   show hAt h x.v.toNat x.m.toNat+Zed h (l++[p])=hAt h x.v.toNat x.m.toNat+Zed h l+_
   rw[Zjv h p l];grind
theorem Zkl{h:List (List Zac)}(hs:∀ i m,szQ (hAt h i m)≤4):∀ l:List PkD,szQ (Zed h l)≤1+l.length*5
 | []=>by show szQ 0≤_;have:=sz_0;omega
 | x ::l=>by
   have ih:=Zkl hs l
   have h1:=ZfA (hAt h x.v.toNat x.m.toNat) (Zed h l)
   have h2:=hs x.v.toNat x.m.toNat
   show szQ (hAt h x.v.toNat x.m.toNat+Zed h l)≤_
   rw[List.length_cons];omega
theorem Zxv(h:List (List Zac))(ps:List PkD)(hl:ps.length≤100)(hs:∀ i m,szQ (hAt h i m)≤4)
 (hp:∀ p∈ps,∃ l f,h[p.v.toNat]? =some l∧l[p.m.toNat]? =some f∧okF f=true∧0≤p.v∧0≤p.m):Zaa Tryz.prog 12 [encH h,Zfu ps] (.tup [encF (ofQ (Zed h ps)),dB true]):=by
 have Zr:=Tryz.results12
 have k0:=nZ_c
 refine inN Tryz.func12 rfl Tryz.ntmps12 fun I=>?_
 refine aGo Zr ?_
 repeat with_reducible intro K hK
 refine ZaE (fun(k:Nat)=>[(0,encH h),(4,.lp 0 0 0 0),(6,.lp 1 0 0 0),(10,Zfu ps),(11,dI ps.length),(12,dI k)]) (fun k=>[(0,⟨34,0,4,[zc],0,false⟩),(1,⟨34,0,4,[cF (ofQ (Zed h (ps.take k)))],0,false⟩)]) 2 0 (fun k=>k≤ps.length) (fun k=>ps.length-k) 0 (by omega) ?_ ?_
 ·have e0:Zed h []=0:=rfl
  exact leGo e0
 rintro k hk
 obtain⟨hw,h0⟩:=Za6 k
 by_cases h1:(k:Int)<ps.length
 rotate_left
 ·obtain rfl:k=ps.length:=by omega
  rw[Yc2]
  exact aGo (cj2 Zr h1) trivial
 obtain⟨p,hx⟩:=getE (l:=ps) (k:=k) (by omega)
 obtain⟨l,f,hr,hf,ho,v0,m0⟩:=hp p (Ya7 hx)
 have v1:=(Ya3.1 hr).1
 have m1:=(Ya3.1 hf).1
 have g1:¬ p.v<0:=by omega
 have g2:¬ p.v≥(h.length:Int):=by omega
 have g3:¬ p.m<0:=by omega
 have g4:¬ p.m≥(l.length:Int):=by omega
 have hq:hAt h p.v.toNat p.m.toNat=qOf f:=by unfold hAt;rw[hr,Option.getD_some,hf];rfl
 have es:Zed h (ps.take (k+1))=Zed h (ps.take k)+qOf f:=by rw[Yb4,hx,← hq];exact Zjv h p _
 have zs:=Zkl hs (ps.take k)
 have zl:(ps.take k).length≤100:=by rw[Yc1];omega
 have zf:szQ (qOf f)≤4:=by rw[← hq];exact hs _ _
 have ef:=Zc1 ho
 have kr:=ZbA f (by rw[ZbO ho]at zf;omega)
 rw[ho]at kr
 generalize qOf f=Q at ef es zf
 subst ef
 generalize Zed h (ps.take k)=S at es zs ⊢
 have ka:=Zjo S Q (by omega) (by omega)
 rw[← es]at ka
 clear hp hs
 refine aGo (cj4 Zr h0 h1 (cj4 hx hr hf (cj4 v0 m0 hw (cj4 g1 g2 g3 g4)))) ?_
 repeat with_reducible intro K hK
 exact Zai (k+1) (by omega) (by omega) (by exact leGo trivial)
theorem Zxr{e:EvD}(hf:Zix e=0)(L:LenE e)(hn:e.mv.length≤12)(hpu:e.pu.length≤12)(y:List Zac)(hs:tnS (sysE e))(hy:tnFs y):Zag Tryz.prog 10 [Zej e,ZaM y] (dB (Zb1 (sysE e) y)):=by
 have Zr:=Tryz.results10
 have k1:=ZvE e hf hn hpu L
 have k2:=ZjO (sysE e) y hs hy
 generalize Zb1 (sysE e) y=B at k2 ⊢
 generalize sysE e=s at k1 k2
 refine inC Tryz.func10 rfl Tryz.ntmps10 ?_
 exact aGo Zr trivial
def Zg9(h:List (List Zac)):Bool:=(h.all fun l=>fewP l 6 4)&&decide ((h.length:Int)≤8)
theorem Zxh(h:List (List Zac))(hh:(h.length:Int)≤9223372036854775807):Zaa Tryz.prog 8 [encH h] (dB (Zg9 h)):=by
 have Zr:=Tryz.results8
 obtain⟨b,hb⟩:∃ b,Zg9 h=b:=⟨_,rfl⟩
 rw[hb]
 refine inN Tryz.func8 rfl Tryz.ntmps8 fun I=>?_
 refine aGo Zr ?_
 repeat with_reducible intro K hK
 refine ZaE (fun(k:Nat)=>[(0,encH h),(3,dI k)]) (fun _=>[]) 0 0 (fun k=>k≤h.length∧(h.take k).all (fun l=>fewP l 6 4)=true) (fun k=>h.length-k) 0 ⟨by omega,rfl⟩ ?_ ?_
 ·exact leGo trivial
 rintro k ⟨hk,hn⟩
 have h0:(0:Int)≤k:=by omega
 by_cases h1:(k:Int)<h.length
 rotate_left
 ·rw[Ya8 (by omega)]at hn
  by_cases h2:(h.length:Int)≤8
  ·refine aGo (cj3 Zr h1 h2) ?_
   repeat with_reducible intro K hK
   exact Zae (by rw[← hb];unfold Zg9;rw[hn,decide_eq_true h2];rfl)
  ·refine aGo (cj3 Zr h1 h2) ?_
   repeat with_reducible intro K hK
   exact Zae (by rw[← hb];unfold Zg9;rw[hn,decide_eq_false h2];rfl)
 obtain⟨l,hx⟩:=getE (l:=h) (k:=k) (by omega)
 have q:=Zme l 6 4 (by decide)
 have hw:=ZtD k
 cases h2:fewP l 6 4
 ·rw[h2]at q
  refine aGo (cj4 Zr h0 h1 hx) ?_
  repeat with_reducible intro K hK
  exact Zae (by rw[← hb];unfold Zg9;rw[Zbf hx h2];rfl)
 ·rw[h2]at q
  refine aGo (cj4 Zr h0 h1 (cj2 hx hw)) ?_
  repeat with_reducible intro K hK
  exact Zai (k+1) ⟨by omega,Zan hx hn h2⟩ (by omega) (by exact leGo trivial)
def Zft(o:OptD):Bool:=fewF 8 o.v&&(fewP o.x 40 8&&(fewP o.y 40 8&&fewP o.d 40 8))
theorem ZoR(o:OptD):Zaa Tryz.prog 21 [encO o,dI 40,dI 8] (dB (Zft o)):=by
 refine Zag.toN ?_ rfl
 have Zr:=Tryz.results21
 have k1:=(ZvI o.v 8).toN rfl
 rw[show(decide ((o.v.p.d.length:Int)≤8)&&decide ((o.v.q.d.length:Int)≤8))=fewF 8 o.v from rfl]at k1
 have k2:=Zme o.x 40 8 (by decide)
 have k3:=Zme o.y 40 8 (by decide)
 have k4:=Zme o.d 40 8 (by decide)
 unfold Zft
 obtain⟨ok,ov,ox,oy,od⟩:=o
 simp only at *
 generalize fewF 8 ov=A at *
 generalize fewP ox 40 8=B at *
 generalize fewP oy 40 8=C at *
 generalize fewP od 40 8=E at *
 cases A<;>cases B<;>cases C
 all_goals
  refine inC Tryz.func21 rfl Tryz.ntmps21 ?_
  exact aGo Zr trivial
theorem ZoS{o:OptD}(h:Zft o=true):tnO o:=by
 simp only[Zft,Ya2]at h
 obtain⟨h1,h2,h3,h4⟩:=h
 have p:∀ l:List Zac,fewP l 40 8=true→tnFs l:=fun l hl=>⟨by have:=(ZgV hl).1;omega,fun f hf=>by have:=(ZgV hl).2 f hf;unfold tnF;omega⟩
 exact⟨by have:=ZsJ h1;unfold tnF;omega,p _ h2,p _ h3,p _ h4⟩
theorem ZxO(a b:OptD):Zaa Tryz.prog 6 [encR a b] (dB (Zft a&&Zft b)):=by
 refine Zag.toN ?_ rfl
 have Zr:=Tryz.results6
 have k1:=ZoR a
 have k2:=ZoR b
 generalize Zft a=A at *
 generalize Zft b=B at *
 cases A
 all_goals
  refine inC Tryz.func6 rfl Tryz.ntmps6 ?_
  exact aGo Zr trivial
def Zj6(e:EvD)(n:Nat):Nat→Nat
 | 0=>0
 | N+1=>Zj6 e n N+(Zbz e N n).length
def oneN(e:EvD)(n:Nat):Nat→Nat
 | 0=>0
 | N+1=>oneN e n N+(match e.pu[n]? with|some p=>Zfl e N n p|none=>[]).length
theorem ZrJ(e:EvD)(n:Nat):∀ N,oneN e n N≤(match e.pu[n]? with|some p=>if p.v<(N:Int)then 2 else 0|none=>0)
 | 0=>Yb0 _
 | N+1=>by
   have ih:=ZrJ e n N
   unfold oneN
   cases h:e.pu[n]? with
   | none=>rw[h]at ih;simpa using ih
   | some p =>
     rw[h]at ih
     simp only at ih ⊢
     unfold Zfl
     by_cases h1:p.v=(N:Int)
     ·rw[if_pos h1,if_pos (by omega)]
      rw[if_neg (by omega)]at ih
      simp only[List.length_cons,List.length_nil];omega
     ·rw[if_neg h1,List.length_nil]
      by_cases h2:p.v<(N:Int)
      ·rw[if_pos h2]at ih;rw[if_pos (by omega)];omega
      ·rw[if_neg h2]at ih;rw[if_neg (by omega)];omega
theorem Zjj(e:EvD)(n:Nat):∀ N,Zj6 e (n+1) N=Zj6 e n N+oneN e n N
 | 0=>rfl
 | N+1=>by
   have ih:=Zjj e n N
   unfold Zj6 oneN
   have:(Zbz e N (n+1)).length=(Zbz e N n).length+(match e.pu[n]? with|some p=>Zfl e N n p|none=>[]).length:=by
    cases h:e.pu[n]? with
    | none=>simp[Zbz,h]
    | some p=>simp[Zbz,h]
   rw[ih,this];omega
theorem Zoo(e:EvD)(N:Nat):∀ n,Zj6 e n N≤2*n
 | 0=>by
   have:∀ N,Zj6 e 0 N=0:=by
    intro N
    induction N with
    | zero=>rfl
    | succ N ih=>unfold Zj6;rw[ih];rfl
   rw[this];omega
 | n+1=>by
   rw[Zjj]
   have h1:=Zoo e N n
   have h2:=ZrJ e n N
   have h3:(match e.pu[n]? with|some p=>if p.v<(N:Int)then 2 else 0|none=>0)≤2:=by
    split
    ·split<;>omega
    ·omega
   omega
theorem Zls(e:EvD)(iv:Nat→IntD):∀ N,(Zd8 e iv N).length≤N*(e.m.toNat+2)+Zj6 e e.pu.length N
 | 0=>Yb0 _
 | N+1=>by
   have ih:=Zls e iv N
   have h1:(Zci e N).length≤e.m.toNat:=by unfold Zci;split<;>simp
   have h2:(Zbx e (iv N) N).length≤2:=by unfold Zbx;split<;>simp
   unfold Zd8 Zhr Zj6
   rw[Yb9,Yb9,Yb9,Nat.add_mul]
   omega
theorem ZyE{e:EvD}(R:Zd2 e)(hn:e.mv.length≤6)(hm:e.m≤2)(hp:e.pu.length≤6):tnS (sysE e):=by
 have hM:=R.m
 have z0:szF (ofQ 0)≤3:=by decide +kernel
 refine⟨?_,fun w hw=>?_⟩
 ·have h1:=Zls e (ivF e) e.mv.length
  have h2:=Zoo e e.mv.length e.pu.length
  have h3:e.mv.length*(e.m.toNat+2)≤6*(2+2):=Nat.mul_le_mul hn (by omega)
  show(((Zp4 e).map (·.1)).length:Int)≤64
  rw[Yc0]
  unfold Zp4
  omega
 ·obtain⟨r,hr,rfl⟩:=Yc6.1 hw
  obtain⟨i,hi,hr⟩:=(Zgg _).1 hr
  unfold Zhr at hr
  simp only[Yd5]at hr
  have tn:∀ (t:List Zaj)(k:Int)(v:Zac),t.length≤12→(∀ x∈t,szF x.f≤3)→szF v≤3→tnW ⟨t,k,v⟩:=fun t k v h1 h2 h3 =>
   ⟨⟨by show(t.length:Int)≤64;omega,fun x hx=>by have:=h2 x hx;unfold tnF;omega⟩,by show(szF v:Int)≤262144;omega⟩
  rcases hr with hr|hr|hr
  ·unfold Zci at hr
   split at hr
   ·cases hr
   ·obtain⟨m,_,rfl⟩:=Yc6.1 hr
    obtain⟨a,b⟩:=Zrd e i m (i+1)
    exact tn _ _ _ (by omega) b z0
  ·unfold Zbx at hr
   split at hr
   ·rename_i ho
    obtain⟨s1,s2⟩:=Zzi ho
    obtain⟨a,b⟩:=Zj2 e.m i (b:=1) (own:= -1) (more:=0) (by decide) (by decide) e.m.toNat
    simp only[List.mem_cons,List.not_mem_nil,or_false]at hr
    rcases hr with rfl|rfl
    ·exact tn _ _ _ (by omega) b s1
    ·exact tn _ _ _ (by omega) b s2
   ·cases hr
  ·obtain⟨k,p,hpk,hr⟩:=Zgh _ hr
   have hk:=R.pu p (Ya7 hpk)
   simp only[okPu,idx,Ya2,decide_eq_true_eq]at hk
   unfold Zfl at hr
   split at hr
   ·simp only[List.mem_cons,List.not_mem_nil,or_false]at hr
    rcases hr with rfl|rfl
    ·obtain⟨a,b⟩:=Zj2 e.m i (b:= -p.lo) (own:=p.m) (more:=1000) (by omega) (by decide) e.m.toNat
     exact tn _ _ _ (by omega) b z0
    ·obtain⟨a,b⟩:=Zj2 e.m i (b:=p.hi) (own:=p.m) (more:= -1000) (by omega) (by decide) e.m.toNat
     exact tn _ _ _ (by omega) b z0
   ·cases hr
set_option maxHeartbeats 8000000
def ZcD(e:EvD)(mv m:Int):Bool :=
 !(decide (e.m>m)||(decide (e.h>6)||(decide (e.s>6)||decide ((e.pl.length:Int)>12))))&&(decide ((e.mv.length:Int)≤mv)&&(decide ((e.ce.length:Int)≤10)&&(decide ((e.re.length:Int)≤4)&&decide ((e.pu.length:Int)≤6))))
theorem Zrj(e:EvD)(mv m:Int):Zaa Tryz.prog 5 [Zej e,dI mv,dI m] (dB (ZcD e mv m)):=by
 have Zr:=Tryz.results5
 refine inN Tryz.func5 rfl Tryz.ntmps5 fun I=>?_
 obtain⟨b,hb⟩:∃ b,ZcD e mv m=b:=⟨_,rfl⟩
 rw[hb]
 by_cases h1:e.m>m
 ·refine aGo (cj2 Zr h1) ?_
  repeat with_reducible intro K hK
  exact Zae (by rw[← hb];simp[ZcD,h1])
 by_cases h2:e.h>6
 ·refine aGo (cj3 Zr h1 h2) ?_
  repeat with_reducible intro K hK
  exact Zae (by rw[← hb];simp[ZcD,h2])
 by_cases h3:e.s>6
 ·refine aGo (cj4 Zr h1 h2 h3) ?_
  repeat with_reducible intro K hK
  exact Zae (by rw[← hb];simp[ZcD,h3])
 by_cases h4:(e.pl.length:Int)>12
 ·refine aGo (cj4 Zr h1 h2 (cj2 h3 h4)) ?_
  repeat with_reducible intro K hK
  exact Zae (by rw[← hb];have:decide ((e.pl.length:Int)>12)=true:=decide_eq_true h4;simp only[ZcD,this,Bool.or_true,Bool.not_true,Bool.false_and])
 have g4:(decide (e.m>m)||(decide (e.h>6)||(decide (e.s>6)||decide ((e.pl.length:Int)>12))))=false:=by rw[decide_eq_false h1,decide_eq_false h2,decide_eq_false h3,decide_eq_false h4];rfl
 by_cases h5:(e.mv.length:Int)≤mv
 rotate_left
 ·refine aGo (cj4 Zr h1 h2 (cj3 h3 h4 h5)) ?_
  repeat with_reducible intro K hK
  exact Zae (by rw[← hb];unfold ZcD;rw[g4,decide_eq_false h5];rfl)
 by_cases h6:(e.ce.length:Int)≤10
 rotate_left
 ·refine aGo (cj4 Zr h1 h2 (cj4 h3 h4 h5 h6)) ?_
  repeat with_reducible intro K hK
  exact Zae (by rw[← hb];unfold ZcD;rw[g4,decide_eq_true h5,decide_eq_false h6];rfl)
 by_cases h7:(e.re.length:Int)≤4
 rotate_left
 ·refine aGo (cj4 Zr h1 h2 (cj4 h3 h4 h5 (cj2 h6 h7))) ?_
  repeat with_reducible intro K hK
  exact Zae (by rw[← hb];unfold ZcD;rw[g4,decide_eq_true h5,decide_eq_true h6,decide_eq_false h7];rfl)
 refine aGo (cj4 Zr h1 h2 (cj4 h3 h4 h5 (cj2 h6 h7))) ?_
 repeat with_reducible intro K hK
 exact Zae (by rw[← hb];unfold ZcD;rw[g4,decide_eq_true h5,decide_eq_true h6,decide_eq_true h7];rfl)
end Go.Proofs.YtblamlnjbjaokaaGreat
