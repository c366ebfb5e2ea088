/-
  The walk of a round's body as far as it goes, as one rule (as aGo).
-/
import Derived.Test.YtjeaacindikplaaGreatXLib
import Derived.Test.YtjeaacindikplaaGreatXConv
import Derived.Test.YtjeaacindikplaaGreatXT06
import Derived.Test.YtjeaacindikplaaGreatXT04
import Derived.Test.YtjeaacindikplaaGreatXT05
import Derived.Test.YtjeaacindikplaaGreatXT03
import Derived.Test.YtjeaacindikplaaGreatXT01
namespace Go.Proofs.YtjeaacindikplaaGreat
set_option linter.unusedVariables false
set_option linter.unusedSimpArgs false
set_option linter.unusedSectionVars false
open Go Go.RowKit
section ifl
variable [Ifl]
theorem rGo{F Y X:Prop}(f:F)(y:Y)(h:F→Keep Y→X:=by
 intro hf y
 repeat(first
  | (refine hI _ ?_;clear hI;clear KI)
  | (refine hK _ ?_;try clear hK;try clear K)
  | ((with_reducible apply useK);(with_reducible assumption))
  | (refine rSeq fun KI hI=>?_)
  | (refine ZEt ?_)
  | (refine rSkip ?_)
  | (refine rExit ?_)
  | (refine rOps _ rfl (by kernel_rfl) ?_)
  | (refine ZEq rfl ?hc ?_;case hc=>simp only[go_sem,↓reduceIte,beq_self_eq_true,bne_self_eq_false,hf])
  | (refine ZEr rfl ?hc ?_;case hc=>simp only[go_sem,↓reduceIte,beq_self_eq_true,bne_self_eq_false,hf])
  | ((with_reducible apply Zdk);(first|with_reducible assumption|assumption);rotate_left;(first|((repeat(refine Zan rfl ?_));exact Zaq)|(refine ZdA ?_;(repeat(refine Zb9 rfl ?_));exact Zca _)))
  | ((with_reducible apply Zb1);(first|with_reducible assumption|assumption))
  | (simp only[go_sem,↓reduceIte,beq_self_eq_true,bne_self_eq_false,hf])
  | (refine And.intro ?ho ?_;(case ho=>omega))
  | (clear hI;clear KI))
 repeat(first|(revert hE;revert KE)|(revert hI;revert KI))
 first|done|exact y.out):X:=h f ⟨y⟩
end ifl
section ifl
variable [Ifl]
structure Stop (n:Nat):Prop where
theorem aHere{rid:Nat}(_:Stop rid){P:Program}{n:Nat}{l:Array Oper}{b:Bool}{Q:Exit→St→Prop}{s:St}(h:AWP P n (.region rid l b) Q s):AWP P n (.region rid l b) Q s:=h
theorem ZrE{n:Nat}{F Y X:Prop}(st:Stop n)(f:F)(y:Y)(h:Stop n→F→Keep Y→X:=by
 intro hst hf y
 repeat((fail_if_success refine aHere hst ?_);first
  | (refine hI _ ?_;clear hI;clear KI)
  | (refine hK _ ?_;try clear hK;try clear K)
  | ((with_reducible apply useK);(with_reducible assumption))
  | (refine aSeq fun KI hI=>?_)
  | (refine ZcJ ?_)
  | (refine ZeU ?_)
  | (refine ZeW ?_)
  | (refine aRet ?_)
  | (refine aOps _ rfl (by kernel_rfl) ?_)
  | (refine ZeV _ rfl ZdX (by kernel_rfl) (by kernel_rfl) fun KE hE=>?_)
  | (refine hE _ _ (by kernel_rfl) (ZaC rfl) ?_;clear hE;clear KE)
  | (refine hE _ _ (by kernel_rfl) (ZmZ (by(first|((repeat(refine Zan rfl ?_));exact Zaq)|(refine ZdA ?_;(repeat(refine Zb9 rfl ?_));exact Zca _))) rfl) ?_;clear hE;clear KE)
  | (refine hE _ _ (by kernel_rfl) (ZmY (by(first|((repeat(refine Zan rfl ?_));exact Zaq)|(refine ZdA ?_;(repeat(refine Zb9 rfl ?_));exact Zca _))) (by kernel_rfl) rfl) ?_;clear hE;clear KE)
  | (refine ZcH rfl ?hc ?_;case hc=>simp only[go_sem,↓reduceIte,beq_self_eq_true,bne_self_eq_false,hf])
  | (refine ZcI rfl ?hc ?_;case hc=>simp only[go_sem,↓reduceIte,beq_self_eq_true,bne_self_eq_false,hf])
  | ((with_reducible apply Zdk);(first|with_reducible assumption|assumption);rotate_left;(first|((repeat(refine Zan rfl ?_));exact Zaq)|(refine ZdA ?_;(repeat(refine Zb9 rfl ?_));exact Zca _)))
  | ((with_reducible apply Zb1);(first|with_reducible assumption|assumption))
  | ((with_reducible apply ZdI);(first|with_reducible assumption|assumption);rfl)
  | ((with_reducible apply ZbR);(first|with_reducible assumption|assumption);rfl)
  | (simp only[go_sem,↓reduceIte,beq_self_eq_true,bne_self_eq_false,hf])
  | (refine And.intro ?ho ?_;(case ho=>omega))
  | (clear hI;clear KI))
 repeat(first|(revert hE;revert KE)|(revert hI;revert KI))
 first|done|exact y.out):X:=h st f ⟨y⟩
end ifl
set_option maxRecDepth 100000
set_option maxHeartbeats 16000000
theorem Zw7[Ifl]{E:Env}{β:Bet}{m:Mem}{nx:Nat}{w:World}{P:Program}{T:TypeId}{ty et:TyI}(hty:tyOf P T=some ty)(het:tyOf P ty.elem=some et){x:Value}{k:IntKind}{l:Int}{id:Nat}(hM:ZaU E β m nx w)(hid:m id=none)(hlt:id<nx)
 (hx:Rep β m (safe E β m) w x (.v (.int k l))) (hk:ty.kind=2) {z:List D} (hz:et.zero=some z) (hzl:z.length=et.size) (q1:0≤l) (q3:(et.bytes:Int)*l≤140737488355328) (q4:l≤9007199254740992) :
 Runs P E β m nx w (Instr.makeSlice T x x) ⟨True,.ls id 0,[],[(id,⟨ty.elem,0,et.size,List.replicate l.toNat z,0,false⟩)],[id]⟩:=by
 obtain⟨inf,de,ht⟩:=tyAt hty
 obtain⟨inf2,de2,ht2⟩:=tyAt het
 have hde:=ht.slice hk
 subst hde
 cases hx.inv_v
 rw[ht2.zero]at hz
 cases hq:inf2.zero with
 | none=>rw[hq]at hz;cases hz
 | some zv =>
   rw[hq]at hz
   simp only[Yd0,Ya1]at hz
   have hr:=run_make (P:=P) w T ty.elem inf2 zv ht.und ht2.info hq k k l l q1 (Int.le_refl _) (by rw[← ht2.bytes];omega) (by omega)
   have hzs:zv.cells.size=et.size:=by
    have:=congrArg List.length hz
    simp at this
    omega
   refine⟨_,w.alloc (.cells (madeCells zv.cells (l.toNat*inf2.size)).toList.toArray ty.elem),by simpa using hr,?_⟩
   have hmc:(madeCells zv.cells (l.toNat*inf2.size)).size=l.toNat*et.size:=by rw[size_madeCells,ht2.size]
   refine Zb3.new hM hid hlt ⟨ty.elem,0,et.size,List.replicate l.toNat z,0,false⟩ _ (Yb0 _) (fun i e he=>?_) ?_ (fun i j d hd=>?_) (Below.refl _ _) (fun β' w' hb hw'=>?_)
   ·rw[List.getElem?_replicate]at he
    split at he
    ·simp only[Ya1]at he;rw[← he];exact hzl
    ·cases he
   ·simp only[List.length_replicate,Array.length_toList]
    rw[hmc]
    exact Nat.mul_le_mul_right _ (by omega)
   ·obtain⟨e,he,hj⟩:=Zal.1 hd
    have he':=he
    rw[List.getElem?_replicate]at he
    split at he
    ·rename_i hil
     simp only[Ya1]at he
     subst he
     have hjl:j<et.size:=by rw[← hzl];exact(Ya3.1 hj).1
     rw[← hz,Yb8]at hj
     have hlt2:i*et.size+j<l.toNat*et.size:=Zj9 (by omega) hjl
     have hmod:(i*et.size+j)%zv.cells.size=j:=by rw[hzs,Nat.mul_comm,Nat.mul_add_mod,Nat.mod_eq_of_lt hjl]
     refine⟨zv.cells[j]'(by omega),?_,?_⟩
     ·have hsz2:inf2.size=et.size:=ht2.size.symm
      simp only[madeCells,hsz2,Array.toList_map,Array.toList_range,Yb8,List.getElem?_range hlt2,Yd0,Ya1,hmod]
      exact getElem!_pos zv.cells j (by omega)
     ·have hcj:zv.cells.toList[j]? =some (zv.cells[j]'(by omega)):=by simp
      rw[hcj]at hj
      simp only[Yd0,Ya1]at hj
      subst hj
      exact ZiF _
    ·cases he
   ·refine .ls _ _ _ _ _ ⟨ty.elem,0,et.size,List.replicate l.toNat z,0,false⟩ (Zae _ _ _) (Ya4 _) (fun _ _=>rfl) fun _=>⟨by simp,by omega,by unfold maxLen;omega,.inr ⟨_,hb,rfl,?_⟩⟩
    exact⟨_,_,_,hw',by simpa using hmc⟩
theorem ZFx[Ifl]{P:Program}{n rid:Nat}{Q:Exit→St→Prop}{s:St}{o1 o2 o3:Oper}{T:TypeId}{ty et:TyI}{i j k d:Nat}{kk:IntKind}{l:Int}{z:List D}(hty:tyOf P T=some ty)(het:tyOf P ty.elem=some et)(hk:ty.kind=2)(hz:et.zero=some z)(hzl:z.length=et.size)
 (g1:o1.guard=none) (g2:o2.guard=none) (g3:o3.guard=none) (d1:o1.dst=some j) (d2:o2.dst=some k) (d3:o3.dst=some d) (p1:o1.op = .move (.tmp i)) (p2:o2.op = .makeSlice T (.tmp j) (.tmp j)) (p3:o3.op = .assign (.tmp k))
 (hf1:Za9 n o1=true) (hf3:Za9 n o3=true) (hn':decide (j<n)=true) (h0:s.t i = .v (.int kk l)) (q1:0≤l) (q3:(et.bytes:Int)*l≤140737488355328) (q4:l≤9007199254740992)
 (hQ:Q .normal ⟨upd (upd (upd s.t j (.v (.int kk l))) k (.ls s.nx 0)) d (.ls s.nx 0),upd s.m s.nx (some ⟨ty.elem,0,et.size,List.replicate l.toNat z,0,false⟩),s.nx+1,s.lo⟩) :
 AWP P n (.region rid #[o1,o2,o3] false) Q s:=by
 have hn:j<n:=of_decide_eq_true hn'
 intro E B β a w hr
 refine wp_region_lit (l:=[o1,o2,o3]) ?_
 refine wpList_plain g1 fun K1 hK1=>Zet (K:=fun s'=>s'={s with t:=upd s.t j (.v (.int kk l))}) hf1 hr ?_ ?_
 ·unfold opA
  rw[p1,d1]
  simp only[opF,rd,h0,Res.pure,putT,ov,List.length_nil,Nat.add_zero]
  exact⟨trivial,.inl trivial,trivial⟩
 rintro s1 β1 a1 w1 r1 rfl
 refine hK1 _ _ ?_
 have t1:Rep β1 s.m (safe E β1 s.m) w1 (a1.eval (.tmp j)) (.v (.int kk l)):=by
  have:=r1.tmp j hn
  simpa only[Zae]using this
 have hM:ZaU E β1 s.m (s.nx+1) w1:=r1.mem.mono_nx (Nat.le_succ _)
 have hnone:s.m s.nx=none:=r1.mem.none
 have hr0:=Zw7 (E:=E) (β:=β1) (m:=s.m) (nx:=s.nx+1) (w:=w1) (k:=kk) (T:=T) (x:=a1.eval (.tmp j)) hty het hM hnone (Nat.lt_succ_self _) t1 hk hz hzl q1 q3 q4
 have hrun:=Zbj (o:=o2) (a:=a1) hr0 (by unfold execOp;rw[p2])
 refine wpList_plain g2 fun K2 hK2=>ZvY hrun fun v w' ha=>?_
 change Zb3 E β1 s.m (s.nx+1) w1 (ov s.m [(s.nx,_)]) v (.ls s.nx 0) w' at ha
 obtain⟨β2,r2⟩:=r1.put (dst:=o2.dst) ha
 rw[d2]at r2
 refine hK2 _ _ (wpList_plain g3 fun K3 hK3=>Zet (K:=fun s'=>s'=⟨upd (upd (upd s.t j (.v (.int kk l))) k (.ls s.nx 0)) d (.ls s.nx 0),upd s.m s.nx (some ⟨ty.elem,0,et.size,List.replicate l.toNat z,0,false⟩),s.nx+1,s.lo⟩) hf3 (d2▸r2) ?_ ?_)
 ·unfold opA
  rw[p3,d3]
  simp only[opF,rd,putT,d2,Zae,Res.pure,ov,List.length_nil,Nat.add_zero]
  exact⟨trivial,.inl trivial,trivial⟩
 rintro s3 β3 a3 w3 r3 rfl
 exact hK3 _ _ (wpList_nil ⟨_,β3,r3,hQ⟩)
theorem Zaa.ofCl{P:Program}{f:FuncId}{ds:List D}{es0:List (List D)}(h:∀ I:Ifl,@ZaM I P f ds noM 0 fun d' m' _=>d' = .ls 0 0∧∃ T k es,m' 0=some ⟨T,0,k,es,0,false⟩∧es.map (List.map (fzT true m' 7))=es0):Zaa P f ds (.cl es0):=by
 refine⟨(h Ifl.off).1,fun S w vs hf hvs=>?_⟩
 have hh:=h Ifl.off
 letI:Ifl:=Ifl.off
 have hi:Ifl.i=true→Zgc S w:=fun e=>by cases e
 have hE:ZaU ⟨S,w,hf,hi⟩ noB noM 0 w:=⟨Below.refl _ _,(fun _ _ h=>by cases h),(fun _ _ h=>by cases h),(fun _ _ h=>by cases h),(fun _ _ h=>by cases h),(fun _ _ _ h=>by cases h),(fun _ _ _ _ _ h=>by cases h)⟩
 have hs:ZaA S w (safe ⟨S,w,hf,hi⟩ noB noM) w:=fun b o u h1 h2=>⟨⟨h1,fun _ _ h=>by cases h⟩,h2⟩
 refine(hh.2 ⟨S,w,hf,hi⟩ noB w vs hE (hvs.mono (Zbf.refl _ _ _) hs)).mono ?_
 rintro e w' ⟨v,d',m',nx',rfl,⟨β',h1,h2,h3,h4⟩,rfl,T,k,es,hm,hes⟩
 refine⟨v,rfl,h1.below,?_⟩
 have hb:ZbL m' 0 0=some ⟨T,0,k,es,0,false⟩:=by unfold ZbL;rw[hm];rfl
 have hz:=ZxA (all:=true) h1 (fun b o h=>h.1) (fun id b B o g1 _ g2=>hf B o (h1.row id b B g1 g2).1) 8 (.ls 0 0) v h4
 obtain⟨a,hv⟩:=ZsW h4 hb
 subst hv
 have e1:fzT true m' 8 (.ls 0 0) = .sl es0:=by simp only[fzT,hb,Bool.true_or,if_true,hes]
 rw[e1]at hz
 have hl:es0.length=es.length:=by rw[← hes,Yc0]
 simp only at hz ⊢
 rw[← hl]at hz ⊢
 exact .cl a es0 hz
abbrev fB0(n:Nat)(c:Nat→Rat):Blk:=⟨53,0,4,ratL n c,0,false⟩
theorem ZBa(n:Nat)(c:Nat→Rat):Zav (fun _=>false) (fB0 n c):=fun e he=>by
 obtain⟨v,_,rfl⟩:=Yc6.1 he;rfl
theorem ZyN[Ifl](n:Nat)(m:Mem)(nx:Nat)(hn:(n:Int)≤4096):ZaM Tryz.prog 180 [dI n] m nx fun d m' nx'=>d = .ls nx 0∧nx<nx'∧m' nx=some (fB0 n fun _=>0)∧∀ id,id<nx→m' id=m id:=by
 have Zr:=Tryz.results180
 refine inA Tryz.func180 rfl Tryz.ntmps180 ?_
 have n0:(0:Int)≤n:=by omega
 have hrep:List.replicate n zc=ZfC n 0:=(ZlP n).symm
 have hl:=Zhq n 0
 have n1:24*(n:Int)≤140737488355328:=by omega
 have n2:(n:Int)≤9007199254740992:=by omega
 have n3:(n:Int)≤n:=by omega
 refine ZrE (n:=1) ⟨⟩ Zr ?_
 repeat with_reducible intro K hK
 refine ZFx (l:=n) (z:=zc) ZDX ZDW rfl rfl rfl rfl rfl rfl rfl rfl rfl rfl rfl rfl (by kernel_rfl) (by kernel_rfl) rfl rfl n0 (by show(64:Int)*n≤_;omega) (by omega) ?_
 rw[Int.toNat_natCast]
 refine aGoM (cj3 Zr hrep hl) ?_
 repeat with_reducible intro K hK
 refine ZcT (fun(i:Nat)=>[(3,(.ls nx 0)),(8,dI n),(9,dI i)]) nx (fun i m1 nx1=>i≤n∧nx<nx1∧m1 nx=some ⟨53,0,4,ZfC n i,0,false⟩∧∀ id,id<nx→m1 id=m id) (fun i=>n-i) 0 ?_ ?_ ?_ ?_
 ·simp only[ZaF,↓reduceIte]
  exact⟨Yb0 _,Nat.lt_succ_self _,trivial,fun id h1=>by rw[if_neg (by omega)]⟩
 ·rfl
 ·simp[go_sem]
 ·rintro i m1 nx1 ⟨hi,hnx,eN,hfr⟩
  obtain⟨hw,i0⟩:=ZaO i
  have hl1:=Zhq n i
  have k0:=nZ_c
  by_cases h1:(i:Int)<n
  ·have hg:(ZfC n i)[i]? =some zc:=by unfold ZfC;rw[ZbB _ (by omega),if_neg (by omega)]
   have hset:=Zoa n i
   refine aGoM (cj4 Zr eN i0 (cj4 h1 hw hl1 (cj3 hg hset Yb0))) ?_
   repeat with_reducible intro K hK
   refine Zat (i+1) ?_ (by omega) rfl (by simp[go_sem])
   simp only[ZaF,↓reduceIte]
   exact⟨by omega,hnx,trivial,fun id h3=>by rw[if_neg (by omega)];exact hfr id h3⟩
  ·obtain rfl:i=n:=by omega
   rw[Zoc]at eN
   refine aGoM (cj4 Zr eN h1 hw) ?_
   exact hfr
theorem Zyj[Ifl](d:Dic)(src:Nat→Nat×Bool)(M Y k:Nat)(y:Nat→Rat)(p:Rat)(m:Mem)(nx:Nat)(hk:k<d.m)(hM:(src k).1<M)(hY:m Y=some (fB0 M y))(zy:(szQ (y (src k).1):Int)≤549755813888)(zp:(szQ p:Int)≤4294967296) :
 ZaM Tryz.prog 189 [ZcG d src,.ls Y 0,dI k,encF (ofQ p)] m nx fun d' m' nx'=>d'=oneD []∧nx≤nx'∧m' Y=some (fB0 M (Zcx src y k p))∧∀ id,id<nx→id≠Y→m' id=m id:=by
 refine ZaM.cl ⟨_,_,Tryz.func189,rfl,by kernel_rfl⟩ fun hcl=>?_
 have Zr:=Tryz.results189
 have lY:=(hcl Y _ hY).1
 refine inA Tryz.func189 rfl Tryz.ntmps189 ?_
 have gs:=ZbB (fun i=>[dI (src i).1,dB (src i).2]) hk
 have k0:(0:Int)≤k:=by omega
 have s0:(0:Int)≤(src k).1:=by omega
 have gy:=Zbc y hM
 have ly:=Zck M y
 have n1:Y≠nx:=by omega
 have n2:Y≠nx+1:=by omega
 have n3:nx≠nx+1:=by omega
 have n4:nx+1≠nx:=by omega
 have np:(szQ (-p):Int)≤4294967296:=by rw[Zdt];exact zp
 cases ht:(src k).2 with
 | true =>
   have k2:=ZhT (y (src k).1) p (by omega) (by omega)
   have es:=Zhy src y k p M (q:=p) (by rw[ht];rfl)
   rw[ht]at gs
   refine aGoS (cj4 Zr ZaR hY (cj4 gs k0 s0 (cj4 gy ly n1 (cj4 n2 n3 k2 (cj2 es Yb0))))) ?_
   repeat with_reducible intro K hK
   with_reducible apply useE
   with_reducible assumption
   exact Zcg [nx,nx+1,Y] (by simp[n1.symm,n2.symm]) [([],[]),([],[]),([1],[]),([],[]),([],[]),([1],[]),([2],[]),([2],[]),([0],[]),([],[]),([],[]),([],[]),([],[]),([2],[]),([2,2],[2])] rfl rfl (by kernel_rfl)
   exact ZaC rfl
   refine aGoM (cj3 Zr n1 n2) ?_
   exact fun id g1 g2=>by repeat(rw[if_neg (by omega)])
 | false =>
   have k1:=ZhS p (by omega)
   have k2:=ZhT (y (src k).1) (-p) (by omega) (by omega)
   have es:=Zhy src y k p M (q:= -p) (by rw[ht];rfl)
   rw[ht]at gs
   refine aGoS (cj4 Zr ZaR hY (cj4 gs k0 s0 (cj4 gy ly n1 (cj4 n2 n3 k2 (cj4 es k1 n4 Yb0))))) ?_
   repeat with_reducible intro K hK
   with_reducible apply useE
   with_reducible assumption
   exact Zcg [nx,nx+1,Y] (by simp[n1.symm,n2.symm]) [([],[]),([],[]),([1],[]),([],[]),([],[]),([1],[]),([2],[]),([2],[]),([0],[]),([],[]),([],[]),([],[]),([],[]),([2],[]),([2,2],[2])] rfl rfl (by kernel_rfl)
   exact ZaC rfl
   refine aGoM (cj3 Zr n1 n2) ?_
   exact fun id g1 g2=>by repeat(rw[if_neg (by omega)])
theorem Zyi[Ifl](d:Dic)(src:Nat→Nat×Bool)(M Y k:Nat)(y:Nat→Rat)(p:Rat)(m:Mem)(nx:Nat)(hk:k<d.m)(hM:(src k).1<M)(hY:m Y=some (fB0 M y))(hl:Y<nx)(zy:(szQ (y (src k).1):Int)≤549755813888)(zp:(szQ p:Int)≤4294967296) :
 EffC Tryz.prog 189 [ZcG d src,.ls Y 0,dI k,encF (ofQ p)] m nx ⟨oneD [],[Y],[(Y,fB0 M (Zcx src y k p))],false⟩ nx :=
 EffC.of ⟨_,_,Tryz.func189,rfl,by kernel_rfl⟩ (fun q hq=>by simp only[List.mem_singleton]at hq;subst hq;exact⟨by simp,hl⟩) fun m1 NX hN ht =>
  ZaM.kept ((ht Y (by simp)).trans hY) rfl (ZBa M _) (Zyj d src M Y k y p m1 NX hk hM ((ht Y (by simp)).trans hY) zy zp)
theorem Zwq(d:Dic)(src:Nat→Nat×Bool)(M:Nat)(hm:(d.m:Int)≤4096)(hn:(d.n:Int)≤1500)(hMl:(M:Int)≤4096)(hfree:∀ j,j<d.n→d.free j<d.n+d.m)(hsrc:∀ i,i<d.m→(src i).1<M)(zg:∀ j,j<d.n→szQ (d.g j)≤268435456) :
 Zaa Tryz.prog 141 [ZcG d src,dI M] (.cl (ratL M (Zbn d src d.n))):=by
 refine Zaa.ofCl (fun I=>?_)
 have Zr:=Tryz.results141
 refine inA Tryz.func141 rfl Tryz.ntmps141 ?_
 refine aGoM (cj2 Zr ZaR) ?_
 repeat with_reducible intro K hK
 refine ZaQ (ZaM.made (ZBa M _) (ZyN M _ _ hMl)) ?_
 rintro _ _ _ ⟨rfl,rfl,rfl⟩
 have lf:=Zc0 d.n fun j=>[dI (d.free j)]
 refine aGoM (cj3 Zr ZaR lf) ?_
 repeat with_reducible intro K hK
 refine ZcT (fun(i:Nat)=>[(0,ZcG d src),(5,.ls 0 0),(13,.sl (tabL d.n fun j=>[dI (d.free j)])),(14,dI d.n),(15,dI i)]) 0
  (fun i m1 nx1=>i≤d.n∧0<nx1∧m1 0=some (fB0 M (Zbn d src i))) (fun i=>d.n-i) 0 ?_ ?_ ?_ ?_
 ·exact⟨Yb0 _,Nat.zero_lt_one,by dsimp only;rw[Zae];try rfl⟩
 ·rfl
 ·simp[go_sem]
 ·rintro i m1 nx1 ⟨hi,hnx,eX⟩
  obtain⟨hw,i0⟩:=ZaO i
  by_cases h1:(i:Int)<d.n
  ·have hin:i<d.n:=by omega
   have gf:=ZbB (fun j=>[dI (d.free j)]) hin
   have fl:=hfree i hin
   by_cases h2:(d.n:Int)≤d.free i
   ·have gg:=Zbc d.g hin
    have zi:=zg i hin
    have k1:=ZhS (d.g i) (by omega)
    have hs:IntKind.i64.wrap ((d.free i:Int)-d.n)=((d.free i-d.n:Nat):Int):=(Zax (by omega) (by omega)).trans (by omega)
    refine aGoM (cj4 Zr ZaR eX (cj4 h1 hw i0 (cj4 gf h2 gg (cj3 k1 hs Yb0)))) ?_
    repeat with_reducible intro K hK
    have zy:=ZiJ d src zg i hi (src (d.free i-d.n)).1
    have hmul:i*(268435456+1)≤1500*(268435456+1):=Nat.mul_le_mul_right _ (by omega)
    refine Zdj (Zyi d src M 0 (d.free i-d.n) (Zbn d src i) (-d.g i) _ _ (by omega) (hsrc _ (by omega)) eX hnx (by have:=Int.ofNat_le.2 (Yc7 zy (Nat.add_le_add_left hmul 1));omega) (by rw[Zdt];omega)) ?_
    refine aGoM (cj3 Zr ZaR hw) ?_
    repeat with_reducible intro K hK
    refine Zat (i+1) ⟨by omega,by show 0<nx1;omega,?_⟩ (by omega) rfl (by simp[go_sem])
    dsimp only
    rw[Zae]
    simp only[Zbn]
    rw[if_pos (by omega)]
   ·refine aGoM (cj4 Zr ZaR eX (cj4 h1 hw i0 (cj2 gf h2))) ?_
    repeat with_reducible intro K hK
    refine Zat (i+1) ⟨by omega,by show 0<nx1;omega,?_⟩ (by omega) rfl (by simp[go_sem])
    simp only[Zbn]
    rw[if_neg (by omega)];exact eX
  ·obtain rfl:i=d.n:=by omega
   refine aGoM (cj4 Zr ZaR eX h1) ?_
   repeat with_reducible intro K hK
   exact⟨53,4,_,rfl,Zi4 _ _ _ _ _⟩
section
variable {β:Bet} {m:Mem} {S S':Nat→Nat→Prop} {w:World}
mutual
theorem rep0(hs:ZaA S w S' w):∀ (d:D)(x:Value),okD (fun _=>false) d=true→Rep β m S w x d→Rep noB noM S' w x d
 | .v y,x,_,h=>by rw[h.inv_v];exact .v _
 | .nil,x,_,h=>by rw[h.inv_nil];exact .nil
 | .agg l,x,ho,h=>by
   obtain⟨vs,rfl,h1,h2⟩:=h.inv_agg
   exact(Zzk hs l vs (by simpa[okD]using ho) ⟨h1,h2⟩).rep_agg
 | .tup l,x,ho,h=>by
   obtain⟨vs,rfl,h1,h2⟩:=h.inv_tup
   exact(Zzk hs l vs (by simpa[okD]using ho) ⟨h1,h2⟩).rep_tup
 | .sl es,x,_,h=>h.sl_no.mono (Zbf.refl _ _ _) hs
 | .cl es,x,_,h=>by obtain⟨a,rfl,h1⟩:=h.inv_cl;exact .cl a es (h1.mono (Zbf.refl _ _ _) hs)
 | .ep es i o,x,_,h=>h.ep_no.mono (Zbf.refl _ _ _) hs
 | .ls id ver,x,ho,h=>by cases ho
 | .lp id ver i o,x,ho,h=>by cases ho
 | .clo f l,x,ho,h=>by
   obtain⟨vs,rfl,h1,h2⟩:=h.inv_clo
   have:=Zzk hs l vs (by simpa[okD]using ho) ⟨h1,h2⟩
   exact .clo f vs l this.1 this.2
 | .junk,x,_,_=>.junk _
theorem Zzk(hs:ZaA S w S' w):∀ (l:List D)(vs:List Value),okDs (fun _=>false) l=true→Reps β m S w vs l→Reps noB noM S' w vs l
 | [],vs,_,h=>by
   obtain rfl:vs=[]:=Ya9 h.1
   exact Reps.nil
 | d ::l,vs,ho,h=>by
   simp only[okDs,Ya2]at ho
   match vs,h with
   | [],h=>exact absurd h.1 (by simp)
   | v ::vs,h =>
     exact Reps.cons (rep0 hs d v ho.1 (h.2 0 v d rfl rfl)) (Zzk hs l vs ho.2 ⟨by simpa using h.1,fun i y e hy he=>h.2 (i+1) y e (by simpa using hy) (by simpa using he)⟩)
end
end
theorem Zah.ofOk{P:Program}{f:FuncId}{ds:List D}{d:D}(ho:okD (fun _=>false) d=true)(h:@ZaM Ifl.on P f ds noM 0 fun d' _ _=>d'=d):Zah P f ds d:=by
 refine⟨h.1,fun S w vs hf hi' hvs=>?_⟩
 have hi:Ifl.i=true→Zgc S w:=fun _=>hi'
 have hE:ZaU ⟨S,w,hf,hi⟩ noB noM 0 w:=⟨Below.refl _ _,(fun _ _ h=>by cases h),(fun _ _ h=>by cases h),(fun _ _ h=>by cases h),(fun _ _ h=>by cases h),(fun _ _ _ h=>by cases h),(fun _ _ _ _ _ h=>by cases h)⟩
 have hs:ZaA S w (safe ⟨S,w,hf,hi⟩ noB noM) w:=fun b o u h1 h2=>⟨⟨h1,fun _ _ h=>by cases h⟩,h2⟩
 refine(h.2 ⟨S,w,hf,hi⟩ noB w vs hE (hvs.mono (Zbf.refl _ _ _) hs)).mono ?_
 rintro e w' ⟨v,d',m',nx',rfl,⟨β',h1,h2,h3,h4⟩,rfl⟩
 exact⟨v,rfl,h1.below,rep0 (fun b o u h5 h6=>⟨h5.1,h6⟩) _ _ ho h4⟩
theorem ZuF{s:SysD}{goal:List Zaf}(hk:(ZaJ s goal).k=0):next (fin s goal) = .best:=by
 unfold ZaJ at hk
 cases hn:next (fin s goal)with
 | ex r c=>exact absurd hn (ZfB s goal r c)
 | best=>rfl
 | row r=>rw[hn]at hk;exact absurd hk (show ¬ (1:Int)=0 by decide)
 | col c =>
   rw[hn]at hk
   simp only at hk
   split at hk<;>first|exact absurd hk (show ¬ (1:Int)=0 by decide)|exact absurd hk (show ¬ (2:Int)=0 by decide)
theorem ZAm(n:Nat)(c:Nat→Rat):D.cl (ratL n c) = .cl ((Zam n c).map cF):=by rw[Zta]
abbrev encOC(o:OptD):D:=.agg [dI 0,dI o.v.p.s,Zab o.v.p.d,dI o.v.q.s,Zab o.v.q.d,Za0 o.x,.cl (o.y.map cF),.nil]
theorem Zz3(s:SysD)(goal:List Zaf){B T:Nat}(h:Fit s goal B T)(hr:ZaB s=true)(hg:Zai goal s.n=true)(hk:(ZaJ s goal).k=0):Zah Tryz.prog 87 [encS s,Zbk goal] (.tup [encOC (ZaJ s goal),dI 0]):=by
 refine Zah.ofOk rfl ?_
 obtain⟨O,hd⟩:∃ O,ZaJ s goal=O:=⟨_,rfl⟩
 rw[hd]
 have hG:=h.gl
 have Zr:=Tryz.results87
 refine inA Tryz.func87 rfl Tryz.ntmps87 ?_
 have k1:=ZiX s h.tn.sm
 have k2:=Ze3 goal s.n h.gt.sm
 rw[hr]at k1
 rw[hg]at k2
 refine aGoM (cj2 Zr ZaR) ?_
 repeat with_reducible intro K hK
 have hl1:=h.l
 have hn1:=h.n hr
 have hn0:=(Zb7 hr).1
 refine ZaQ (ZwD s goal _ _ hr hg h.tn.sm h.gt.sm (by omega)) ?_
 rintro _ m1 nx1 ⟨I,rfl,hnx1,hD1,ap1,hlo1,hfr1⟩
 refine aGoM (cj2 Zr ZaR) ?_
 repeat(first|(guard_target =~ ∀ _:St→Prop,_;intro KJ hJ)|(guard_target =~ ∀ _:List Ev→St→Prop,_;intro K hK))
 have dm:=Znz s goal
 have dn:=ZdW s goal
 have hsz:=ZfX h hr hg
 have ht:(ZaZ s goal).1.n≤T∨(ZaZ s goal).1.m≤T:=by rw[ZdW,ZnA];rcases h.t hr with h1|h1;exact .inl (by omega);exact .inr h1
 refine ZaQ (Znn hD1 ap1 (Zbg s goal) (by omega) (by omega) h.b (by omega:(Dic.grow B T:Int)≤536870912) ht hsz) ?_
 rintro _ m2 nx2 ⟨rfl,hnx2,hD2,hfr2⟩
 have hen:=ZfB s goal
 have hD3:Zbi m2 I (fin s goal) (ZbG s goal):=hD2
 rw[show ZfA (ZaZ s goal).1=fin s goal from rfl]
 have hM2:∀ id b,m0B s id=some b→m2 id=some b∧id<2∧¬ inD I (fin s goal).m id:=by
  intro id b hb
  have hid:id<2:=by rcases ZnU hb with⟨rfl,_⟩|⟨rfl,_⟩<;>decide
  have hnin:¬ inD I (ZaZ s goal).1.m id:=fun h=>by have:=hlo1 id h;omega
  refine⟨?_,hid,by rw[ZdY];exact hnin⟩
  rw[hfr2 id (by omega) hnin,hfr1 id hid];exact hb
 have tI0:(0:Int)≤s.r.length:=by omega
 have hn:=ZuF hk
 rw[hn]
 simp only[Zkd]
 simp only[go_sem,↓reduceIte,Zr]
 refine hJ _ ?_
 refine aLe (Zey hD3 6 rfl [(1,Zbk goal),(2,.lp 0 0 0 0),(4,.lp 1 0 0 0),(5,dI 0),(7,dI (-1)),(8,dI (-1))] (m0B s) 2 hM2 (Zq6 s) (by simp[go_sem,okD]) rfl) ?_
 have kp:=Znu (fin s goal) (ZbG s goal) (by rw[ZdY];omega) (by rw[ZcK];omega)
 rw[ZcK,Zde]at kp
 have sX:smFs (Zam s.n.toNat (Za3 (fin s goal) (fin s goal).m)):=(ZfO (by omega) fun u=>by have:=Zhh h hr hg _ (Ya4 _) u;omega).sm
 have kv:=ZnY goal _ h.gt.sm sX
 have kq:=Zwq (fin s goal) (ZbG s goal) s.r.length (by rw[ZdY];omega) (by rw[ZcK];omega) (by omega) (fun j hj=>(Zcn s goal).free_lt j hj) (fun i hi=>ZgH s goal i (by rw[← ZdY];exact hi)) (fun j hj=>by have:=(ZcR h hr hg).g j hj;omega)
 rw[ZcK,ZAm]at kq
 have e3:s.n=((fin s goal).n:Int):=by rw[ZcK];omega
 have eL:ZaJ s goal=⟨0,(ZbW goal (Zam s.n.toNat (Za3 (fin s goal) (fin s goal).m))).1,Zam s.n.toNat (Za3 (fin s goal) (fin s goal).m),Zam s.r.length (Zbn (fin s goal) (ZbG s goal) s.n.toNat),[]⟩:=by
  unfold ZaJ;rw[hn]
 rw[eL]at hd
 subst hd
 clear eL hk hn hen hD2 hD3 hfr2 hM2 hJ hK hsz ht
 generalize Zam s.n.toNat (Za3 (fin s goal) (fin s goal).m)=X at *
 generalize Zam s.r.length (Zbn (fin s goal) (ZbG s goal) s.n.toNat)=Y at *
 generalize fin s goal=F at *
 exact aGo (cj3 Zr ZaR tI0) trivial
def ZnZ(kind:Int):Bool:=decide (0≤kind)&&decide (kind<8)
def ZC8(e:EvD):List Nat:=List.range e.h.toNat
noncomputable def Zcf (t:TrD) (kind:Int):List VerD×Int :=
 if ZbX t=0∧ZnZ kind=true then(if (solD (sysT t kind)).2.2 then((ZC8 t.e).map (fun(h:Nat)=>Zgm (sysT t kind) (Zd7 t.e h) h),0)else([],15))else([],1)
noncomputable def Zkm (t:TrD) (kind:Int):List Int×Int :=
 if (Zcf t kind).2=0 then(if (((Zcf t kind).1.filter fun v=>v.s !=0).length:Int)>8 then([],6)else(((Zcf t kind).1.filter fun v=>v.s !=0).map VerD.h,0))else([],(Zcf t kind).2)
def Ze6:List Int→Nat→List (List Int)
 | _,0=>[[]]
 | [],_+1=>[]
 | x ::l,n+1=>(Ze6 l n).map (x::·)++Ze6 l (n+1)
def Zvb(e:EvD)(h:Int):List RowD:=(ownL e h).map fun i=>oneR i 2 (ofQ 0)
def ZdJ(e:EvD)(set:List Int):Nat→List RowD
 | 0=>[]
 | h+1=>ZdJ e set h++(if set.contains (h:Int)then []else Zvb e h)
def ZfE(t:TrD)(kind:Int)(set:List Int):SysD:=⟨t.e.mv.length,ZbS t kind t.e.mv.length++ZdJ t.e set t.e.h.toNat⟩
noncomputable def ZhL (t:TrD) (kind:Int) (set:List Int):Bool:=(solD (ZfE t kind set)).2.2&&Zap (ZfE t kind set) (solD (ZfE t kind set)).1
noncomputable def Zim (t:TrD) (kind:Int) (l:List Int):Nat→Nat→List (List Int)
 | 0,_=>[]
 | k+1,n=>if ((Ze6 l n).filter (ZhL t kind)).isEmpty then Zim t kind l k (n+1)else(Ze6 l n).filter (ZhL t kind)
noncomputable def ZgR (t:TrD) (kind:Int):List (List Int)×Int :=
 if (Zkm t kind).2=0 then(Zim t kind (Zkm t kind).1 ((Zkm t kind).1.length+1) 0,0)else([],(Zkm t kind).2)
theorem ZgK{e:EvD}{set:List Int}{w:RowD}:∀ n,w∈ZdJ e set n↔∃ h,h<n∧set.contains (h:Int)=false∧∃ i∈ownL e h,w=oneR i 2 (ofQ 0)
 | 0=>⟨fun h=>(by cases h),fun⟨i,h,_⟩=>(by omega)⟩
 | n+1=>by
   simp only[ZdJ,Yd5,ZgK n]
   constructor
   ·rintro(⟨h,a,b⟩|h)
    ·exact⟨h,by omega,b⟩
    ·cases hc:set.contains (n:Int)
     ·rw[hc,if_neg Yc5]at h
      obtain⟨i,hi,rfl⟩:=Yc6.1 h
      exact⟨n,by omega,hc,i,hi,rfl⟩
     ·rw[hc,if_pos rfl]at h;cases h
   ·rintro⟨h,a,b,i,hi,rfl⟩
    by_cases e:h=n
    ·subst e
     right;rw[b,if_neg Yc5]
     exact Yc6.2 ⟨i,hi,rfl⟩
    ·exact .inl ⟨h,by omega,b,i,hi,rfl⟩
theorem ZqL(e:EvD)(h:Int):(ownL e h).length≤e.mv.length:=by
 have:=Yb1 (fun(i:Nat)=>decide ((i:Int)<e.mv.length)&&Zko e h (-1) 0 100000 (mvAt e i)) (List.range e.mv.length)
 simpa[ownL,Zew]using this
theorem Zoz(e:EvD)(set:List Int):∀ n,(ZdJ e set n).length≤n*e.mv.length
 | 0=>by simp[ZdJ]
 | n+1=>by
   have ih:=Zoz e set n
   have:=ZqL e n
   have h1:(if set.contains (n:Int)=true then []else Zvb e n).length≤e.mv.length:=by
    split
    ·simp
    ·simpa[Zvb]using this
   simp only[ZdJ,Yb9,Nat.add_mul]
   omega
section
variable {t:TrD} (R:Zbd t) {kind:Int} {set:List Int} (hl:2*t.e.mv.length+t.fi.length+t.cl.length+t.e.h.toNat*t.e.mv.length≤6000)
include R hl
theorem ZjU:ZaB (ZfE t kind set)=true:=by
 have h1:=R.e.lm
 have h4:=Zhc t kind
 have h5:=Zoz t.e set t.e.h.toNat
 refine Zlg (by omega) (by rw[Yb9];omega) fun w hw=>?_
 rcases Yd5.1 hw with hw|hw
 ·obtain⟨i,hi,hw⟩:=(Zex _).1 hw
  exact Zld (by omega) hw
 ·obtain⟨h,_,_,i,hi,rfl⟩:=(ZgK _).1 hw
  have:=(Zq5.1 hi).1
  exact ZgI (by omega) (by decide) (by decide) (Zby _)
theorem Zm1{x:List Zag}:Zap (ZfE t kind set) x=true↔Zap (sysT t kind) x=true∧∀ h:Nat,h<t.e.h.toNat→set.contains (h:Int)=false→∀ i∈ownL t.e h,atP x (i:Nat)=0:=by
 have hr:=ZjU R (kind:=kind) (set:=set) hl
 have hr2:=Zbv R kind
 rw[Zbb,Zbb,hr,hr2]
 show(_∧(x.length:Int)=(t.e.mv.length:Int)∧_∧_∧(ZbS t kind t.e.mv.length++ZdJ t.e set t.e.h.toNat).all _=true)↔((_∧(x.length:Int)=(t.e.mv.length:Int)∧_∧_∧(ZbS t kind t.e.mv.length).all _=true)∧_)
 rw[List.all_append,Ya2]
 have h:(ZdJ t.e set t.e.h.toNat).all (fun w=>ZeC w x)=true↔∀ h:Nat,h<t.e.h.toNat→set.contains (h:Int)=false→∀ i∈ownL t.e h,atP x (i:Nat)=0:=by
  rw[Ya6]
  constructor
  ·intro h n h1 h2 i hi
   have:=h (oneR i 2 (ofQ 0)) ((ZgK _).2 ⟨n,h1,h2,i,hi,rfl⟩)
   have:=((ZcQ (by decide) (by decide)).1 this).2.2 rfl
   rwa [Zay]at this
  ·intro h w hw
   obtain⟨n,h1,h2,i,hi,rfl⟩:=(ZgK _).1 hw
   refine(ZcQ (by decide) (by decide)).2 ⟨fun e=>by omega,fun e=>by omega,fun _=>?_⟩
   rw[Zay]
   exact h n h1 h2 i hi
 rw[h]
 constructor
 ·rintro⟨a,b,c,d,e,f⟩;exact⟨⟨a,b,c,d,e⟩,f⟩
 ·rintro⟨⟨a,b,c,d,e⟩,f⟩;exact⟨a,b,c,d,e,f⟩
omit R hl in
theorem Zr4{s:SysD}(hs:ZaB s=true):((solD s).2.2=true∧Zap s (solD s).1=true)∨((solD s).2.2=false∧∀ x,Zap s x=false):=by
 have hn:=ZjA hs
 have hc:=Zdy hs hn
 unfold solD
 rw[hs,if_pos rfl]
 rcases ZeM hc with⟨a0,_,a2,_⟩|⟨a0,a1,_⟩|⟨a0,a1,a2,_⟩
 ·left;rw[if_neg (by omega)];exact⟨rfl,a2⟩
 ·right;rw[if_pos a0];exact⟨rfl,fun x=>Zfp a1⟩
 ·left;rw[if_neg (by omega)];exact⟨rfl,a1⟩
theorem ZAt:ZhL t kind set=true↔∃ x,Zap (sysT t kind) x=true∧∀ h:Nat,h<t.e.h.toNat→set.contains (h:Int)=false→∀ i∈ownL t.e h,atP x (i:Nat)=0:=by
 unfold ZhL
 rcases Zr4 (ZjU R (kind:=kind) (set:=set) hl)with⟨a,b⟩|⟨a,b⟩
 ·rw[a,b]
  exact⟨fun _=>⟨_,(Zm1 R hl).1 b⟩,fun _=>rfl⟩
 ·rw[a,Bool.false_and]
  refine⟨fun h=>(by cases h),fun⟨x,hx⟩=>?_⟩
  have:=(Zm1 R hl).2 hx
  rw[b]at this;cases this
end
theorem Zq8{s s' u:St}(e:s=s')(h:StLe s' u):StLe s u:=e▸h
theorem Zv1(t:TrD)(R:Zbd t)(kind:Int)(i:Nat):(ZhG t kind i).length≤72:=by
 have l4:=R.lf
 have l5:=R.lc
 have q1:=Yb1 (fun f:FiD=>f.k==kind&&f.v==(i:Int)) t.fi
 have q2:=Yb1 (fun f:ClD=>f.k==kind&&f.v==(i:Int)) t.cl
 unfold ZhG finK cleK
 simp only[Yb9,Yc0,List.length_replicate]
 split<;>split<;>simp only[List.length_nil,List.length_cons]<;>omega
theorem Zhd(t:TrD)(R:Zbd t)(kind:Int):∀ k,(ZbS t kind k).length≤72*k
 | 0=>Yb0 _
 | k+1=>by
   have h1:=Zhd t R kind k
   have h2:=Zv1 t R kind k
   simp only[ZbS,Yb9];omega
theorem ZbQ(A:List RowD)(keep:Nat→Bool):∀ x∈A.map cW,okDs keep x=true:=fun x hx=>by
 obtain⟨u,_,rfl⟩:=Yc6.1 hx
 rfl
theorem sys_c(t:TrD)(R:Zbd t)(h1:ZbX t=0)(L:LenT t)(kind:Int)(hk:ZnZ kind=true):Zah Tryz.prog 40 [ZcL t,dI kind] (.tup [encS (sysT t kind),dI 0]):=by
 have Zr:=Tryz.results40
 have hresR:=Tryz.results85
 have k1:=ZkY t L
 have k2:=Zxj t R kind
 have k3:=nZ_c
 have k4:=nO_c
 have Lm:=R.e.lm
 rw[h1]at k1
 simp only[ZnZ,Ya2,decide_eq_true_eq]at hk
 have h2:¬ kind<0:=by omega
 have h3:¬ kind≥8:=by omega
 refine inC Tryz.func40 rfl Tryz.ntmps40 ?_
 refine aGo (cj3 Zr h2 h3) ?_
 repeat with_reducible intro K hK
 have kl:(ZcP t kind).length=t.e.mv.length:=by simp[ZcP]
 refine aLe (ZdH 3 0 1 153 6 rfl rfl rfl) ?_
 simp only[go_sem]
 refine Zas (fun(x:Nat×Nat)=>[(2,.lp 0 0 0 0),(4,.lp 1 0 0 0),(6,.lp 2 0 0 0),(7,.lp 3 0 0 0),(8,.clo 85 [.lp 3 0 0 0]),(34,ZgT (ZcP t kind)),(35,dI t.e.mv.length),(36,dI x.1)]) (fun x=>[(0,⟨32,0,10,[cTr t],0,false⟩),(1,⟨99,0,2,[[dI 0,.nil]],0,false⟩),(2,⟨28,0,8,[cEv t.e],0,false⟩),(3,⟨99,0,2,[[dI t.e.mv.length,.ls 4 x.2]],0,false⟩),(4,⟨153,x.2,6,(ZbS t kind x.1).map cW,0,false⟩)]) 5 0 (fun x=>x.1≤t.e.mv.length) (fun x=>t.e.mv.length-x.1) (0,0) (by show 0≤t.e.mv.length;omega) ?_ ?_
 ·have e0:ZbS t kind 0=[]:=rfl
  refine Zak _ _ _ ?_ ?_ ?_ ?_ ?_ (.inl rfl)<;>simp[go_sem,okD,okDs,Zav,e0,kl]
 rintro⟨k,V⟩ hk2
 simp only at hk2
 obtain⟨hw,h0⟩:=ZaO k
 have hA:=Zhd t R kind k
 have hA2:=Zhd t R kind (k+1)
 have eR:ZbS t kind (k+1)=ZbS t kind k++ZhG t kind k:=rfl
 by_cases h4:(k:Int)<t.e.mv.length
 ·have hka:(ZcP t kind)[k]? =some (abK t kind k):=by unfold ZcP;rw[Yb8,List.getElem?_range (by omega)];rfl
  have kb:=ZFu t.e R.e k (by omega)
  have ks:=ZvE t.e R.e k (by omega)
  have eK:ZhG t kind k=(if ZcD t.e k then []else [ZcN t.e k])++((if (abK t kind k).cap then [oneR k 1 (abK t kind k).hi]else [])++((abK t kind k).fi.map (fun(g:Int)=>oneR k 0 (ofQ (g:Rat)))++List.replicate (abK t kind k).cl.toNat (oneR k 2 (ofQ 0)))):=by
   unfold ZhG abK;rfl
  have hcl:0≤(abK t kind k).cl∧(abK t kind k).cl≤50:=by
   have q2:=Yb1 (fun f:ClD=>f.k==kind&&f.v==(k:Int)) t.cl
   have l5:=R.lc
   unfold abK cleK
   simp only;omega
  have hfi:(abK t kind k).fi.length≤20∧∀ g∈(abK t kind k).fi,1≤g∧g≤1099511627776:=by
   have q2:=Yb1 (fun f:FiD=>f.k==kind&&f.v==(k:Int)) t.fi
   have l4:=R.lf
   refine⟨by unfold abK finK;simp only[Yc0];omega,fun g hg=>?_⟩
   obtain⟨f,hf,rfl⟩:=Yc6.1 hg
   exact(R.fi f (List.mem_filter.1 hf).1).2.2
  generalize abK t kind k=ab at hka hcl hfi eK
  obtain⟨hi,cap,fi,cl⟩:=ab
  dsimp only at eK hcl hfi
  rw[eK]at eR
  clear eK
  obtain⟨A,eA⟩:∃ A,ZbS t kind k=A:=⟨_,rfl⟩
  obtain⟨A',eA'⟩:∃ A,ZbS t kind (k+1)=A:=⟨_,rfl⟩
  rw[eA]at hA
  rw[eA']at hA2
  rw[eA,eA']at eR
  generalize ZcD t.e k=b at kb eR
  rw[eA]
  refine aGo (cj4 Zr h0 h4 hka) ?_
  repeat with_reducible intro K hK
  have Zgn:∀ (A1 A2:List RowD),A'=A1++A2→A1.length≤14400:=fun A1 A2 h=>by
   have:=congrArg List.length h
   rw[Yb9]at this;omega
  have r1:∀ (A1:List RowD)(V1:Nat),A'=A1++((if cap then [oneR k 1 hi]else [])++(fi.map (fun(g:Int)=>oneR k 0 (ofQ (g:Rat)))++List.replicate cl.toNat (oneR k 2 (ofQ 0))))→∀ st,StLe st ⟨tabT [(2,.lp 0 0 0 0),(4,.lp 1 0 0 0),(6,.lp 2 0 0 0),(7,.lp 3 0 0 0),(8,.clo 85 [.lp 3 0 0 0]),(34,ZgT (ZcP t kind)),(35,dI t.e.mv.length),(36,dI k),(9,dI k),(10,.lp 5 0 0 0)],tabM [(0,⟨32,0,10,[cTr t],0,false⟩),(1,⟨99,0,2,[[dI 0,.nil]],0,false⟩),(2,⟨28,0,8,[cEv t.e],0,false⟩),(3,⟨99,0,2,[[dI t.e.mv.length,.ls 4 V1]],0,false⟩),(4,⟨153,V1,6,A1.map cW,0,false⟩),(5,⟨88,0,7,[cAb ⟨hi,cap,fi,cl⟩],0,false⟩)],6,0⟩→K st:=by
   clear eR hA
   intro A1 V1 e1 st hle
   refine hK _ (aLe hle ?_)
   clear hle hK
   have bA1:=Zgn A1 _ e1
   refine aGo Zr ?_
   repeat with_reducible intro K hK
   have r2:∀ (A2:List RowD)(V2:Nat),A'=A2++(fi.map (fun(g:Int)=>oneR k 0 (ofQ (g:Rat)))++List.replicate cl.toNat (oneR k 2 (ofQ 0)))→∀ st,StLe st ⟨tabT [(2,.lp 0 0 0 0),(4,.lp 1 0 0 0),(6,.lp 2 0 0 0),(7,.lp 3 0 0 0),(8,.clo 85 [.lp 3 0 0 0]),(34,ZgT (ZcP t kind)),(35,dI t.e.mv.length),(36,dI k),(9,dI k),(10,.lp 5 0 0 0)],tabM [(0,⟨32,0,10,[cTr t],0,false⟩),(1,⟨99,0,2,[[dI 0,.nil]],0,false⟩),(2,⟨28,0,8,[cEv t.e],0,false⟩),(3,⟨99,0,2,[[dI t.e.mv.length,.ls 4 V2]],0,false⟩),(4,⟨153,V2,6,A2.map cW,0,false⟩),(5,⟨88,0,7,[cAb ⟨hi,cap,fi,cl⟩],0,false⟩)],6,0⟩→K st:=by
    clear e1 bA1
    intro A2 V2 e2 st hle
    refine hK _ (aLe hle ?_)
    clear hle hK
    refine aGo Zr ?_
    repeat with_reducible intro K hK
    obtain⟨F,hF⟩:∃ F:Nat→List RowD,F=fun j=>A2++(fi.take j).map (fun(g:Int)=>oneR k 0 (ofQ (g:Rat))):=⟨_,rfl⟩
    have F0:F 0=A2:=by rw[hF];simp
    have Fn:F fi.length=A2++fi.map (fun(g:Int)=>oneR k 0 (ofQ (g:Rat))):=by rw[hF];simp
    have Fs:∀ (j:Nat)(g:Int),fi[j]? =some g→F (j+1)=F j++[oneR k 0 (ofQ (g:Rat))]:=fun j g hg=>by rw[hF];simp only;rw[Yb4,hg];simp
    have bA2:=Zgn A2 _ e2
    have Fl:∀ j:Nat,j≤fi.length→(F j).length≤14420:=fun j hj=>by rw[hF];simp;omega
    refine Zas (fun(x:Nat×Nat)=>[(2,.lp 0 0 0 0),(4,.lp 1 0 0 0),(6,.lp 2 0 0 0),(7,.lp 3 0 0 0),(8,.clo 85 [.lp 3 0 0 0]),(34,ZgT (ZcP t kind)),(35,dI t.e.mv.length),(36,dI k),(9,dI k),(10,.lp 5 0 0 0),(61,Zab fi),(62,dI fi.length),(63,dI x.1)]) (fun x=>[(0,⟨32,0,10,[cTr t],0,false⟩),(1,⟨99,0,2,[[dI 0,.nil]],0,false⟩),(2,⟨28,0,8,[cEv t.e],0,false⟩),(3,⟨99,0,2,[[dI t.e.mv.length,.ls 4 x.2]],0,false⟩),(4,⟨153,x.2,6,(F x.1).map cW,0,false⟩),(5,⟨88,0,7,[cAb ⟨hi,cap,fi,cl⟩],0,false⟩)]) 6 0 (fun x=>x.1≤fi.length) (fun x=>fi.length-x.1) (0,V2) (by show 0≤fi.length;omega) ?_ ?_
    ·refine Zak _ _ _ ?_ ?_ ?_ ?_ ?_ (.inl rfl)<;>simp[go_sem,okD,okDs,Zav,F0]<;>exact ZbQ _ _
    rintro⟨j,W⟩ hj
    simp only at hj
    obtain⟨hwj,j0⟩:=ZaO j
    by_cases h5:(j:Int)<fi.length
    ·obtain⟨g,hg⟩:∃ g,fi[j]? =some g:=⟨_,Ya0 (by omega)⟩
     obtain⟨g1,g2⟩:=hfi.2 g (Ya7 hg)
     have kg:=ZiS g (by omega) (by omega)
     have eB:=Fs j g hg
     have bl:=Fl j hj
     generalize F j=B at eB bl
     have ew:cW (oneR k 0 (ofQ (g:Rat)))=[.sl [cT ⟨k,ofQ 1⟩],dI 0,dI (ofQ (g:Rat)).p.s,Zab (ofQ (g:Rat)).p.d,dI (ofQ (g:Rat)).q.s,Zab (ofQ (g:Rat)).q.d]:=rfl
     refine aGo (cj4 Zr j0 h5 hg) ?_
     repeat with_reducible intro K hK
     refine Zbq Tryz.func85 rfl (by kernel_rfl) (by kernel_rfl) (by kernel_rfl) ?_
     rw[Tryz.ntmps85]
     refine aGo (cj3 Zr hresR hwj) ?_
     repeat with_reducible intro K hK
     refine Zad (j+1,W+1) ?_ ?_ ?_
     ·show j+1≤fi.length;omega
     ·show fi.length-(j+1)<fi.length-j;omega
     have ez:∀ M:Mem,List.map (List.map (fzT false M 4)) (B.map cW)=B.map cW:=fun M=>Zao (fun _=>rfl) _
     refine StLe.trans (Zdz 7 rfl) (StLe.trans (Ze4 4 4 rfl) (Zq8 (by simp only[go_sem,fzT,ez];exact rfl) ?_))
     refine Zak _ _ _ ?_ ?_ ?_ ?_ ?_ (.inl rfl)<;>simp[go_sem,okD,okDs,Zav,ew,eB]
     all_goals (rintro e (⟨a,_,rfl⟩|rfl)<;>rfl)
    obtain rfl:j=fi.length:=by omega
    have e3:A'=F fi.length++List.replicate cl.toNat (oneR k 2 (ofQ 0)):=by rw[Fn,e2,Yd3]
    have bF:=Fl fi.length (Ya4 _)
    generalize F fi.length=A3 at e3 bF
    clear Fs Fn F0 hF e2 Fl bA2
    refine aGo (cj2 Zr h5) ?_
    repeat with_reducible intro K hK
    obtain⟨G,hG⟩:∃ G:Nat→List RowD,G=fun j=>A3++List.replicate j (oneR k 2 (ofQ 0)):=⟨_,rfl⟩
    have G0:G 0=A3:=by rw[hG];simp
    have Gs:∀ j:Nat,G (j+1)=G j++[oneR k 2 (ofQ 0)]:=fun j=>by rw[hG];simp only;rw[List.replicate_succ',Yd3]
    have Gl:∀ j:Nat,j≤50→(G j).length≤14470:=fun j hj=>by rw[hG];simp at bF ⊢;omega
    refine Zas (fun(x:Nat×Nat)=>[(2,.lp 0 0 0 0),(4,.lp 1 0 0 0),(6,.lp 2 0 0 0),(7,.lp 3 0 0 0),(8,.clo 85 [.lp 3 0 0 0]),(34,ZgT (ZcP t kind)),(35,dI t.e.mv.length),(36,dI k),(9,dI k),(10,.lp 5 0 0 0),(74,dI cl),(75,dI x.1)]) (fun x=>[(0,⟨32,0,10,[cTr t],0,false⟩),(1,⟨99,0,2,[[dI 0,.nil]],0,false⟩),(2,⟨28,0,8,[cEv t.e],0,false⟩),(3,⟨99,0,2,[[dI t.e.mv.length,.ls 4 x.2]],0,false⟩),(4,⟨153,x.2,6,(G x.1).map cW,0,false⟩),(5,⟨88,0,7,[cAb ⟨hi,cap,fi,cl⟩],0,false⟩)]) 6 0 (fun x=>(x.1:Int)≤cl) (fun x=>cl.toNat-x.1) (0,W) (by show((0:Nat):Int)≤cl;omega) ?_ ?_
    ·refine Zak _ _ _ ?_ ?_ ?_ ?_ ?_ (.inl rfl)<;>simp[go_sem,okD,okDs,Zav,G0]<;>exact ZbQ _ _
    clear h5 hwj j0 W
    rintro⟨j,W⟩ hj
    simp only at hj
    have hwj:=ZtM j
    by_cases h5:(j:Int)<cl
    ·have eB:=Gs j
     have bl:=Gl j (by omega)
     generalize G j=B at eB bl
     have ew:cW (oneR k 2 (ofQ 0))=[.sl [cT ⟨k,ofQ 1⟩],dI 2,dI (ofQ 0).p.s,Zab (ofQ 0).p.d,dI (ofQ 0).q.s,Zab (ofQ 0).q.d]:=rfl
     refine aGo (cj2 Zr h5) ?_
     repeat with_reducible intro K hK
     refine Zbq Tryz.func85 rfl (by kernel_rfl) (by kernel_rfl) (by kernel_rfl) ?_
     rw[Tryz.ntmps85]
     refine aGo (cj3 Zr hresR hwj) ?_
     repeat with_reducible intro K hK
     refine Zad (j+1,W+1) ?_ ?_ ?_
     ·show((j+1:Nat):Int)≤cl;omega
     ·show cl.toNat-(j+1)<cl.toNat-j;omega
     have ez:∀ M:Mem,List.map (List.map (fzT false M 4)) (B.map cW)=B.map cW:=fun M=>Zao (fun _=>rfl) _
     refine StLe.trans (Zdz 7 rfl) (StLe.trans (Ze4 4 4 rfl) (Zq8 (by simp only[go_sem,fzT,ez];exact rfl) ?_))
     refine Zak _ _ _ ?_ ?_ ?_ ?_ ?_ (.inl rfl)<;>simp[go_sem,okD,okDs,Zav,ew,eB]
     all_goals (rintro e (⟨a,_,rfl⟩|rfl)<;>rfl)
    have e4:ZbS t kind (k+1)=G j:=by rw[eA',e3,hG];simp only;congr 2;omega
    refine aGo (cj3 Zr h5 hw) ?_
    repeat with_reducible intro K hK
    exact Zad (k+1,W) (by show k+1≤t.e.mv.length;omega) (by show t.e.mv.length-(k+1)<t.e.mv.length-k;omega) (by refine Zak _ _ _ ?_ ?_ ?_ ?_ ?_ (.inl rfl)<;>simp[go_sem,okD,okDs,Zav,e4]<;>exact ZbQ _ _)
   clear hK
   cases cap
   ·rw[if_neg Yc5,Yc8]at e1
    refine aGo Zr ?_
    repeat with_reducible intro K hK
    exact r2 A1 V1 e1 _ (by refine Zak _ _ _ ?_ ?_ ?_ ?_ ?_ (.inl rfl)<;>simp[go_sem,okD,okDs,Zav]<;>exact ZbQ _ _)
   ·rw[if_pos rfl,Yc9,Yc8]at e1
    have ew:cW (oneR k 1 hi)=[.sl [cT ⟨k,ofQ 1⟩],dI 1,dI hi.p.s,Zab hi.p.d,dI hi.q.s,Zab hi.q.d]:=rfl
    have bl:(A1.map cW).length≤14400:=by simpa using bA1
    refine aGo Zr ?_
    repeat with_reducible intro K hK
    refine Zbq Tryz.func85 rfl (by kernel_rfl) (by kernel_rfl) (by kernel_rfl) ?_
    rw[Tryz.ntmps85]
    refine aGo hresR ?_
    repeat with_reducible intro K hK
    refine r2 (A1++[oneR k 1 hi]) (V1+1) (by rw[e1];simp) _ ?_
    have ez:∀ M:Mem,List.map (List.map (fzT false M 4)) (A1.map cW)=A1.map cW:=fun M=>Zao (fun _=>rfl) _
    refine StLe.trans (Zdz 7 rfl) (StLe.trans (Ze4 4 4 rfl) (Zq8 (by simp only[go_sem,fzT,ez];exact rfl) ?_))
    refine Zak _ _ _ ?_ ?_ ?_ ?_ ?_ (.inl rfl)<;>simp[go_sem,okD,okDs,Zav,ew]
    all_goals (rintro e (⟨a,_,rfl⟩|rfl)<;>rfl)
  clear hK
  cases b
  ·rw[if_neg Yc5]at eR
   refine aGo Zr ?_
   repeat with_reducible intro K hK
   exact r1 (A++[ZcN t.e k]) (V+1) (by rw[eR];simp) _ (by refine Zak _ _ _ ?_ ?_ ?_ ?_ ?_ (.inl rfl)<;>simp[go_sem,okD,okDs,Zav]<;>(rintro e (⟨a,_,rfl⟩|rfl)<;>rfl))
  ·rw[if_pos rfl,Yc8]at eR
   refine aGo Zr ?_
   repeat with_reducible intro K hK
   exact r1 A V eR _ (by refine Zak _ _ _ ?_ ?_ ?_ ?_ ?_ (.inl rfl)<;>simp[go_sem,okD,okDs,Zav]<;>exact ZbQ _ _)
 obtain rfl:k=t.e.mv.length:=by omega
 refine aGo (cj2 Zr h4) ?_
 repeat with_reducible intro K hK
 rw[Zao (fun _=>rfl)];rfl
set_option maxHeartbeats 4000000
noncomputable def ZhU (t:TrD) (f:FiD):List Nat:=(List.range t.e.mv.length).filter fun i=>hasR (ZaN t f) i
noncomputable def Zgh (t:TrD) (f:FiD):List Nat:=(List.range t.e.pl.length).filter fun p=>hasR (ZaN t f) (t.e.mv.length+p)
noncomputable def Ziw (t:TrD) (f:FiD):List Nat:=(ZhU t f).filter fun i=>Zch t.e (mvAt t.e i).t==5
noncomputable def ZiI (t:TrD) (f:FiD) (move:Nat) (lift:Nat):List Zag :=
 if posD (ZaX f.v 1) (maxX (ZaG t f.k lift) (ZaX f.v 1))then maxY (ZaG t f.k lift) (ZaX move 1)else maxY (ZaG t f.k lift) (ZaX f.v 1)
noncomputable def Zgf (t:TrD) (f:FiD) (move:Nat):List (List Zag):=(Zaw t.e).map (ZiI t f move)
def ZdO(s:SysD)(v:Int)(y:List Zag):Bool:=(Zb5 s (ZaX v (-1)) y).2&&sgnD (Zb5 s (ZaX v (-1)) y).1==0
def Zis(t:TrD)(f:FiD)(move:Nat)(proof:List (List Zag)):Bool :=
 decide (proof.length=(Zaw t.e).length)&&((Zaw t.e).zip proof).all fun p=>ZdO (ZaG t f.k p.1) f.v p.2||ZdO (ZaG t f.k p.1) move p.2
theorem ZzD{v:Nat}{n:Int}(hv:(v:Int)<n)(hn:n≤1500):oppT (ZaX v 1)=ZaX v (-1):=by
 refine Zmw (Zdd (Zcj hv (by decide))) (Zcj hv (by decide)) fun g=>?_
 rw[ZqO (Zcj hv (by decide)) hn]
 simp only[ZaX,dotS,Zay]
 grind
section
variable {s:SysD} (hs:ZaB s=true) {v:Nat} (hv:(v:Int)<s.n)
include hs hv
theorem Zq0{y:List Zag}(h:ZdO s v y=true){x:List Zag}(hx:Zap s x=true):atP x (v:Nat)≤0:=by
 simp only[ZdO,Ya2,beq_iff_eq]at h
 obtain⟨h1,h2⟩:=h
 rw[Zef h1,ZbN,ZdF]at h2
 have h3:=Zp3 h1 hx
 have h4:dotD (ZaX v (-1)) x = -1*atP x (v:Nat):=Zec
 rw[h4]at h3
 grind
theorem ZmK(hx:∃ x,Zap s x=true)(h0:∀ x,Zap s x=true→atP x (v:Nat)≤0):ZdO s v (maxY s (ZaX v 1))=true:=by
 have hn:=(Zb7 hs).2
 have hg:Zai (ZaX v 1) s.n=true:=Zcj hv (by decide)
 have hc:=Zdy hs (Zdd hg)
 unfold maxY
 rw[Zee hs hg]
 generalize ZaJ s (oppT (ZaX (v:Nat) 1))=A at hc ⊢
 rw[ZzD hv hn]at hc
 rcases ZeM hc with⟨a0,a1,a2,a3,a4,_⟩|⟨_,a1,_⟩|⟨_,a1,a2,_⟩
 ·rw[if_neg (by omega)]
  unfold ZdO
  have h1:=h0 _ a2
  obtain⟨_,l1,o1,n1,_⟩:=Zbb.1 a2
  have h2:=(ZiP o1).1 n1 v (by omega)
  have e:mixV s.r A.y=0:=by
   rw[← a4]
   have h4:dotD (ZaX v (-1)) A.x = -1*atP A.x (v:Nat):=Zec
   rw[h4];grind
  rw[a1,Zef a1,e,ZbN]
  decide
 ·obtain⟨x,hx⟩:=hx
  rw[Zfp a1]at hx;cases hx
 ·exfalso
  have h1:=ZkK a1 a2 (show(0:Rat)≤1 by decide)
  have h2:=h0 _ h1
  obtain⟨_,l1,o1,n1,_⟩:=Zbb.1 a1
  obtain⟨_,_,l2,_⟩:=Zhf.1 a2
  have h3:=(Zhf.1 a2).2.2.2.2.2.2
  rw[ZgA]at h3
  have h5:dotD (ZaX v (-1)) A.d = -1*atP A.d (v:Nat):=Zec
  rw[h5]at h3
  rw[ZFv (by omega)]at h2
  have h6:=(ZiP o1).1 n1 v (by omega)
  grind
end
def exPl:List PlD:=[⟨0,0,0⟩,⟨0,1,0⟩,⟨1,-1,-1⟩,⟨1,-1,-1⟩,⟨2,-1,-1⟩,⟨5,-1,-1⟩]
def exMv:List MvD:=[⟨0,0,2,-1,0,false⟩,⟨0,1,3,-1,0,false⟩,⟨0,2,4,-1,0,true⟩,⟨0,4,5,-1,0,false⟩,⟨0,3,4,-1,0,true⟩]
def exE:EvD:=⟨1,2,0,exPl,exMv,[],[],[]⟩
def exF:FiD:=⟨3,0,2⟩
def exT:TrD:=⟨exE,[exF],[]⟩
theorem ZAw:ZbX exT=0:=by decide +kernel
theorem ZbI:Zbd exT:=Znk ZAw
theorem lt5{P:Nat→Prop}(h0:P 0)(h1:P 1)(h2:P 2)(h3:P 3)(h4:P 4):∀ i,i<5→P i
 | 0,_=>h0
 | 1,_=>h1
 | 2,_=>h2
 | 3,_=>h3
 | 4,_=>h4
 | n+5,h=>absurd h (by omega)
theorem ex_st(f:Nat→Rat):stN exE f 2 2=f 0∧stN exE f 4 3=f 2∧stN exE f 3 4=f 1:=by
 refine⟨?_,?_,?_⟩
 ·show 0+f 0+0=f 0;grind
 ·show 0+0+0+f 2=f 2;grind
 ·show 0+0+f 1+0+0=f 1;grind
structure ZrL (f:Nat→Rat):Prop where
 p0:0≤f 0
 p1:0≤f 1
 e2:f 2=f 0
 p3:0≤f 3
 l3:f 3≤f 2
 e4:f 4=f 1
theorem ZlT{f:Nat→Rat}:SolT (ZcS exT) 0 f↔ZrL f:=by
 obtain⟨s2,s3,s4⟩:=ex_st f
 constructor
 ·intro S
  have a2:=S.all 2 (by decide) (by decide) (by decide)
  have a4:=S.all 4 (by decide) (by decide) (by decide)
  have a3:f 3≤stN exE f 4 3:=S.st 3 (by decide) (by decide)
  rw[s3]at a3
  exact⟨S.pos 0 (by decide),S.pos 1 (by decide),a2.trans s2,S.pos 3 (by decide),a3,a4.trans s4⟩
 ·rintro⟨p0,p1,e2,p3,l3,e4⟩
  refine⟨lt5 p0 p1 (by rw[e2];exact p0) p3 (by rw[e4];exact p1),lt5 ?_ ?_ ?_ ?_ ?_,lt5 ?_ ?_ ?_ ?_ ?_,lt5 ?_ ?_ ?_ ?_ ?_,lt5 ?_ ?_ ?_ ?_ ?_,lt5 ?_ ?_ ?_ ?_ ?_⟩
  ·intro h;exact absurd h (by decide)
  ·intro h;exact absurd h (by decide)
  ·intro _;show f 2≤stN exE f 2 2;rw[s2,e2];exact Rat.le_refl
  ·intro _;show f 3≤stN exE f 4 3;rw[s3];exact l3
  ·intro _;show f 4≤stN exE f 3 4;rw[s4,e4];exact Rat.le_refl
  ·intro h;exact absurd h (by decide)
  ·intro h;exact absurd h (by decide)
  ·intro _ _;show f 2=stN exE f 2 2;rw[s2,e2]
  ·intro _ h;exact absurd h (by decide)
  ·intro _ _;show f 4=stN exE f 3 4;rw[s4,e4]
  all_goals first
   | (intro h;exact absurd h (by decide))
   | (intro g hg;cases hg)
theorem ZxT{f:Nat→Rat}:SolT exT 0 f↔ZrL f∧2≤f 3:=by
 have e:∀ i,finK exT 0 i=if i=3 then [2]else []:=fun i=>by
  unfold finK
  by_cases h:i=3
  ·subst h;rfl
  ·rw[if_neg h]
   have:((3:Int)==(i:Int))=false:=by simp;omega
   simp[exT,exF,this]
 constructor
 ·intro S
  refine⟨ZlT.1 ⟨S.pos,S.st,S.all,S.cap,fun i _ g hg=>(by cases hg),S.cle⟩,?_⟩
  have:=S.fin 3 (by decide) 2 (by rw[e];exact Yb7)
  exact this
 ·rintro⟨S,h⟩
  have S:=ZlT.2 S
  refine⟨S.pos,S.st,S.all,S.cap,fun i _ g hg=>?_,S.cle⟩
  rw[e]at hg
  split at hg
  ·rename_i hi
   subst hi
   rw[List.mem_singleton.1 hg]
   exact h
  ·cases hg
def exX(a b c d e:Rat):List Zag:=[ofQ a,ofQ b,ofQ c,ofQ d,ofQ e]
theorem ZeH(a b c d e:Rat):atP (exX a b c d e) (0:Nat)=a∧atP (exX a b c d e) (1:Nat)=b∧atP (exX a b c d e) (2:Nat)=c∧atP (exX a b c d e) (3:Nat)=d∧atP (exX a b c d e) (4:Nat)=e :=
 ⟨Zay a,Zay b,Zay c,Zay d,Zay e⟩
theorem Zoh{a b c d:Rat}(ha:0≤a)(hb:0≤b)(hd:0≤d)(hda:d≤a)(hc:c=b):Zap (sysT (ZcS exT) 0) (exX a b a d c)=true:=by
 obtain⟨h0,h1,h2,h3,h4⟩:=ZeH a b a d c
 refine(ZeB (Zbv (Zb2 ZbI) 0)).2 ⟨rfl,by simp[exX,okP,Zby],ZlT.2 ⟨?_,?_,?_,?_,?_,?_⟩⟩
 ·show 0≤atP _ (0:Nat);rw[h0];exact ha
 ·show 0≤atP _ (1:Nat);rw[h1];exact hb
 ·show atP _ (2:Nat)=atP _ (0:Nat);rw[h2,h0]
 ·show 0≤atP _ (3:Nat);rw[h3];exact hd
 ·show atP _ (3:Nat)≤atP _ (2:Nat);rw[h3,h2];exact hda
 ·show atP _ (4:Nat)=atP _ (1:Nat);rw[h4,h1,hc]
theorem Ztl{a b d:Rat}(hb:0≤b)(hd:2≤d)(hda:d≤a):Zap (sysT exT 0) (exX a b a d b)=true:=by
 have h:=(ZeB (Zbv (Zb2 ZbI) 0)).1 (Zoh (a:=a) (d:=d) (by grind) hb (by grind) hda rfl)
 have h3:=(ZeH a b a d b).2.2.2.1
 exact(ZeB (Zbv ZbI 0)).2 ⟨h.1,h.2.1,ZxT.2 ⟨ZlT.1 h.2.2,by show 2≤atP _ (3:Nat);rw[h3];exact hd⟩⟩
theorem ZxP{x:List Zag}(h:Zap (sysT exT 0) x=true):ZrL (fun i=>atP x (i:Nat))∧2≤atP x (3:Nat):=ZxT.1 ((ZeB (Zbv ZbI 0)).1 h).2.2
theorem Zof{x:List Zag}(h:Zap (sysT (ZcS exT) 0) x=true):ZrL (fun i=>atP x (i:Nat)):=ZlT.1 ((ZeB (Zbv (Zb2 ZbI) 0)).1 h).2.2
set_option maxHeartbeats 8000000
def Zri(t:TrD)(find:Int):Bool:=decide (ZbX t=0)&&(decide (0≤find)&&decide (find<t.fi.length))
theorem ZE4(t:TrD)(L:LenT t)(find:Int):Zaa Tryz.prog 56 [ZcL t,dI find] (dB (Zri t find)):=by
 have Zr:=Tryz.results56
 have k1:=ZkY t L
 refine inN Tryz.func56 rfl Tryz.ntmps56 fun I=>?_
 by_cases h1:ZbX t=0
 rotate_left
 ·have h1':(ZbX t==0)=false:=by simpa using h1
  refine aGo (cj2 Zr h1') ?_
  repeat with_reducible intro K hK
  exact Zaj (by simp[Zri,h1])
 rw[h1]at k1
 by_cases h2:find≥0
 rotate_left
 ·refine aGo (cj2 Zr h2) ?_
  repeat with_reducible intro K hK
  exact Zaj (by simp[Zri,h2])
 by_cases h3:find<t.fi.length
 ·refine aGo (cj3 Zr h2 h3) ?_
  repeat with_reducible intro K hK
  exact Zaj (by simp[Zri,h1,h2,h3])
 ·refine aGo (cj3 Zr h2 h3) ?_
  repeat with_reducible intro K hK
  exact Zaj (by simp[Zri,h3])
theorem Zlw(v c:Int)(h1 : -9223372036854775808≤c)(h2:c≤9223372036854775807):Zaa Tryz.prog 73 [dI v,dI c] (Zbk (ZaX v (c:Rat))):=by
 have Zr:=Tryz.results73
 have k1:=ZiS c h1 h2
 refine inN Tryz.func73 rfl Tryz.ntmps73 fun I=>?_
 refine aGo Zr ?_
 repeat with_reducible intro K hK
 rfl
theorem ZmC(l:List Zaf)(x:List Zag)(hs:smT l)(hx:smFs x)(hz:(szF (ZbW l x).1:Int)≤549755813888):Zah Tryz.prog 74 [Zbk l,Za0 x] (dB (posD l x)):=by
 have Zr:=Tryz.results74
 have k1:=ZnY l x hs hx
 have k2:=ZeD (ZbW l x).1 hz
 refine inC Tryz.func74 rfl Tryz.ntmps74 ?_
 refine aGo Zr ?_
 repeat with_reducible intro K hK
 exact Zaj rfl
def liN(e:EvD)(k:Nat):List Nat:=(List.range k).filter (ZcD e)
theorem ZzZ(e:EvD)(k:Nat):liN e (k+1)=liN e k++if ZcD e k then [k]else []:=by
 unfold liN
 rw[List.range_succ,List.filter_append]
 cases h:ZcD e k<;>simp[h]
theorem ZCZ(e:EvD)(k:Nat):(liN e k).length≤k:=by
 have:=Yb1 (ZcD e) (List.range k)
 unfold liN;simpa using this
theorem Zsp(e:EvD)(R:Zjl e):Zaa Tryz.prog 70 [Zfd e] (Zab (natI (Zaw e))):=by
 have Zr:=Tryz.results70
 have Lm:=R.lm
 refine inN Tryz.func70 rfl Tryz.ntmps70 fun I=>?_
 refine aGo Zr ?_
 repeat with_reducible intro K hK
 refine aLe (Zcs 3 3 1 rfl) ?_
 simp only[go_sem]
 refine Zas (fun(k:Nat)=>[(1,.lp 0 0 0 0),(3,.ls 1 (liN e k).length),(7,Zjc e.mv),(8,dI e.mv.length),(9,dI k)]) (fun k=>[(0,⟨28,0,8,[cEv e],0,false⟩),(1,⟨3,(liN e k).length,1,(natI (liN e k)).map fun x=>[dI x],0,false⟩)]) 2 0 (fun k=>k≤e.mv.length) (fun k=>e.mv.length-k) 0 (by omega) ?_ ?_
 ·have e0:liN e 0=[]:=rfl
  have e1:natI []=[]:=rfl
  exact leGo (cj2 e0 e1)
 rintro k hk
 obtain⟨hw,h0⟩:=ZaO k
 have eN:=ZzZ e k
 have lN:=ZCZ e k
 have lI:(natI (liN e k)).length=(liN e k).length:=by simp[natI]
 by_cases h1:(k:Int)<e.mv.length
 rotate_left
 ·obtain rfl:k=e.mv.length:=by omega
  refine aGo (cj2 Zr h1) ?_
  repeat with_reducible intro K hK
  exact congrArg D.sl (Zao (fun _=>rfl) _)
 have hx:=ZiT (e:=e) (i:=k) (by omega)
 obtain⟨f0,f1⟩:=(R.mv _ (ZkE (show k<e.mv.length by omega))).f
 obtain⟨p,hp⟩:∃ p,e.pl[(mvAt e k).f.toNat]? =some p:=⟨_,Ya0 (by omega)⟩
 have eb:ZcD e k=(p.k==0):=by unfold ZcD;rw[ZjN hp]
 rw[eb]at eN
 generalize mvAt e k=x at *
 cases h3:(p.k==0)
 ·rw[h3,if_neg Yc5,List.append_nil]at eN
  refine aGo (cj4 Zr h0 h1 (cj4 hx hp f0 (cj2 h3 hw))) ?_
  repeat with_reducible intro K hK
  exact Zad (k+1) (by omega) (by omega) (by exact leGo eN)
 ·rw[h3,if_pos rfl]at eN
  have eI:natI (liN e (k+1))=natI (liN e k)++[(k:Int)]:=by rw[eN];simp[natI]
  have eL:(liN e (k+1)).length=(liN e k).length+1:=by rw[eN];simp
  clear eN
  generalize natI (liN e k)=A at *
  generalize (liN e k).length=B at *
  refine aGo (cj4 Zr h0 h1 (cj4 hx hp f0 (cj2 h3 hw))) ?_
  repeat with_reducible intro K hK
  exact Zad (k+1) (by omega) (by omega) (by exact leGo (cj2 eI eL))
abbrev Zon(l:List (List Zaf)):D:=.sl (l.map fun g=>[Zbk g])
theorem ZDn(A:List Zaf)(keep:Nat→Bool):∀ x∈A.map cT,okDs keep x=true:=fun x hx=>by
 obtain⟨u,_,rfl⟩:=Yc6.1 hx
 rfl
def goA(e:EvD)(k:Nat):List (List Zaf):=(List.range k).map fun(i:Nat)=>ZaX i 1
def goB(e:EvD)(k:Nat):List (List Zaf):=goA e e.mv.length++(e.pl.take k).mapIdx (ZjQ e)
theorem ZAg(e:EvD)(k:Nat):goA e (k+1)=goA e k++[ZaX k 1]:=by unfold goA;rw[List.range_succ];simp
theorem ZAf(e:EvD){k:Nat}{p:PlD}(h:e.pl[k]? =some p):goB e (k+1)=goB e k++[ZjQ e k p]:=by
 obtain⟨hi,rfl⟩:=Ya3.1 h
 unfold goB
 rw[Yd3]
 congr 1
 refine List.ext_getElem? fun i=>?_
 rw[List.getElem?_mapIdx,List.getElem?_take,List.getElem?_append,List.length_mapIdx,Yc1,List.getElem?_mapIdx,List.getElem?_take]
 have hm:min k e.pl.length=k:=by omega
 rw[hm]
 by_cases h1:i<k
 ·rw[if_pos (by omega),if_pos h1,if_pos h1]
 ·rw[if_neg h1]
  by_cases h2:i=k
  ·subst h2
   rw[if_pos (Nat.lt_succ_self _),Nat.sub_self,Ya0 hi];rfl
  ·rw[if_neg (by omega),List.getElem?_eq_none (by simp;omega)];rfl
theorem ZC9(e:EvD)(R:Zjl e):Zaa Tryz.prog 109 [Zfd e] (Zon (Zct e)):=by
 have Zr:=Tryz.results109
 have Lm:=R.lm
 have Lp:=R.lp
 refine inN Tryz.func109 rfl Tryz.ntmps109 fun I=>?_
 refine aGo Zr ?_
 repeat with_reducible intro K hK
 refine aLe (Zcs 3 105 1 rfl) ?_
 simp only[go_sem]
 refine Zas (fun(k:Nat)=>[(1,.lp 0 0 0 0),(3,.ls 1 k),(12,dI e.mv.length),(13,dI k)]) (fun k=>[(0,⟨28,0,8,[cEv e],0,false⟩),(1,⟨105,k,1,(goA e k).map fun g=>[Zbk g],0,false⟩)]) 2 0 (fun k=>k≤e.mv.length) (fun k=>e.mv.length-k) 0 (by omega) ?_ ?_
 ·have e0:goA e 0=[]:=rfl
  exact leGo e0
 rintro k hk
 obtain⟨hw,h0⟩:=ZaO k
 by_cases h1:(k:Int)<e.mv.length
 ·have kO:=Zlw k 1 (by decide) (by decide)
  rw[show(((1:Int)):Rat)=1 from rfl]at kO
  have eN:=ZAg e k
  have lN:(goA e k).length=k:=by simp[goA]
  generalize goA e k=A at *
  refine aGo (cj4 Zr h0 h1 hw) ?_
  repeat with_reducible intro K hK
  exact Zad (k+1) (by omega) (by omega) (by refine Zak _ _ _ ?_ ?_ ?_ ?_ ?_ (.inl rfl)<;>simp[go_sem,okD,okDs,Zav,eN]<;>(rintro e (⟨a,_,rfl⟩|rfl)<;>rfl))
 obtain rfl:k=e.mv.length:=by omega
 refine aGo (cj2 Zr h1) ?_
 repeat with_reducible intro K hK
 clear h1 h0 hw hk
 refine Zas (fun(k:Nat)=>[(1,.lp 0 0 0 0),(3,.ls 1 (e.mv.length+k)),(23,Zm7 e.pl),(24,dI e.pl.length),(25,dI k)]) (fun k=>[(0,⟨28,0,8,[cEv e],0,false⟩),(1,⟨105,e.mv.length+k,1,(goB e k).map fun g=>[Zbk g],0,false⟩)]) 2 0 (fun k=>k≤e.pl.length) (fun k=>e.pl.length-k) 0 (by omega) ?_ ?_
 ·have e0:goB e 0=goA e e.mv.length:=by simp[goB]
  refine Zak _ _ _ ?_ ?_ ?_ ?_ ?_ (.inl rfl)<;>simp[go_sem,okD,okDs,Zav,e0]
 rintro k hk
 obtain⟨hw,h0⟩:=ZaO k
 by_cases h1:(k:Int)<e.pl.length
 rotate_left
 ·obtain rfl:k=e.pl.length:=by omega
  have eE:goB e e.pl.length=Zct e:=by unfold goB;rw[Yc2];rfl
  refine aGo (cj2 Zr h1) ?_
  repeat with_reducible intro K hK
  rw[Zao (fun _=>rfl),eE]
 obtain⟨p,hx⟩:∃ x,e.pl[k]? =some x:=⟨_,Ya0 (by omega)⟩
 have eN:=ZAf e hx
 have lN:(goB e k).length=e.mv.length+k:=by
  unfold goB goA
  rw[Yb9,Yc0,List.length_range,List.length_mapIdx,Yc1];omega
 generalize goB e k=A at *
 refine aGo (cj4 Zr h0 h1 hx) ?_
 repeat with_reducible intro K hK
 refine aLe (Zcs 7 151 5 rfl) ?_
 simp only[go_sem]
 obtain⟨G,hG⟩:∃ G:Nat→List Zaf,G=fun j=>if p.k=0 then []else ZaS j (plC e k):=⟨_,rfl⟩
 have G0:G 0=[]:=by rw[hG];simp only;split<;>rfl
 have Gn:G e.mv.length=ZjQ e k p:=by rw[hG];rfl
 have Gl:∀ j,(G j).length≤j:=fun j=>by
  rw[hG];simp only
  split
  ·exact Yb0 _
  ·exact Zej _ _
 refine Zas (fun(x:Nat×Nat)=>[(1,.lp 0 0 0 0),(3,.ls 1 (e.mv.length+k)),(5,dI k),(6,.lp 2 0 0 0),(7,.ls 3 x.2),(23,Zm7 e.pl),(24,dI e.pl.length),(25,dI k),(31,Zjc e.mv),(32,dI e.mv.length),(33,dI x.1)]) (fun x=>[(0,⟨28,0,8,[cEv e],0,false⟩),(1,⟨105,e.mv.length+k,1,A.map fun g=>[Zbk g],0,false⟩),(2,⟨72,0,3,[cPl p],0,false⟩),(3,⟨151,x.2,5,(G x.1).map cT,0,false⟩)]) 4 0 (fun x=>x.1≤e.mv.length) (fun x=>e.mv.length-x.1) (0,0) (by show 0≤_;omega) ?_ ?_
 ·refine Zak _ _ _ ?_ ?_ ?_ ?_ ?_ (.inl rfl)<;>simp[go_sem,okD,okDs,Zav,G0]
 rintro⟨j,V⟩ hj
 simp only at hj
 obtain⟨hwj,j0⟩:=ZaO j
 have gl:=Gl j
 by_cases h2:(j:Int)<e.mv.length
 ·have hy:=ZiT (e:=e) (i:=j) (by omega)
  have eG:G (j+1)=if p.k=0 then []else G j++(if plC e k j=0 then []else [⟨(j:Int),ofQ (plC e k j)⟩]):=by
   rw[hG];simp only
   by_cases hp:p.k=0
   ·rw[if_pos hp,if_pos hp]
   ·rw[if_neg hp,if_neg hp,if_neg hp,Zcp]
  have ec:plC e k j=if (mvAt e j).t=(k:Int)then 1 else if (mvAt e j).f=(k:Int)then -1 else 0:=rfl
  generalize mvAt e j=y at *
  have okG:∀ keep,∀ x∈(G j).map cT,okDs keep x=true:=fun keep=>ZDn _ keep
  cases h3:(p.k==0)
  ·have h3':¬ p.k=0:=by simpa using h3
   rw[if_neg h3']at eG
   cases h4:(y.t==(k:Int))
   rotate_left
   ·have h4':y.t=(k:Int):=by simpa using h4
    rw[ec,if_pos h4',if_neg (by decide)]at eG
    have kO:=Zlw j 1 (by decide) (by decide)
    rw[show(((1:Int)):Rat)=1 from rfl]at kO
    have oL:(ZaX (j:Nat) 1).length=1:=rfl
    have oE:ZaX (j:Nat) 1=[⟨(j:Nat),ofQ 1⟩]:=rfl
    generalize G j=B at *
    refine aGo (cj4 Zr j0 h2 (cj4 hy h3 h4 (cj2 hwj oL))) ?_
    repeat with_reducible intro K hK
    exact Zad (j+1,V+1) (by show j+1≤_;omega) (by show e.mv.length-(j+1)<e.mv.length-j;omega) (by refine Zak _ _ _ ?_ ?_ ?_ ?_ ?_ (.inl rfl)<;>simp[go_sem,okD,okDs,Zav,eG,oE]<;>(rintro e (⟨a,_,rfl⟩|rfl)<;>rfl))
   have h4':¬ y.t=(k:Int):=by simpa using h4
   rw[if_neg h4']at ec
   cases h5:(y.f==(k:Int))
   rotate_left
   ·have h5':y.f=(k:Int):=by simpa using h5
    rw[ec,if_pos h5',if_neg (by decide)]at eG
    have kO:=Zlw j (-1) (by decide) (by decide)
    rw[show(((-1:Int)):Rat) = -1 from rfl]at kO
    have oL:(ZaX (j:Nat) (-1)).length=1:=rfl
    have oE:ZaX (j:Nat) (-1)=[⟨(j:Nat),ofQ (-1)⟩]:=rfl
    generalize G j=B at *
    refine aGo (cj4 Zr j0 h2 (cj4 hy h3 h4 (cj3 h5 hwj oL))) ?_
    repeat with_reducible intro K hK
    exact Zad (j+1,V+1) (by show j+1≤_;omega) (by show e.mv.length-(j+1)<e.mv.length-j;omega) (by refine Zak _ _ _ ?_ ?_ ?_ ?_ ?_ (.inl rfl)<;>simp[go_sem,okD,okDs,Zav,eG,oE]<;>(rintro e (⟨a,_,rfl⟩|rfl)<;>rfl))
   have h5':¬ y.f=(k:Int):=by simpa using h5
   rw[ec,if_neg h5',if_pos rfl,List.append_nil]at eG
   generalize G j=B at *
   refine aGo (cj4 Zr j0 h2 (cj4 hy h3 h4 (cj2 h5 hwj))) ?_
   repeat with_reducible intro K hK
   exact Zad (j+1,V) (by show j+1≤_;omega) (by show e.mv.length-(j+1)<e.mv.length-j;omega) (by refine Zak _ _ _ ?_ ?_ ?_ ?_ ?_ (.inl rfl)<;>simp[go_sem,okD,okDs,Zav,eG])
  ·have h3':p.k=0:=by simpa using h3
   have eG0:G j=[]:=by rw[hG];simp[h3']
   rw[if_pos h3',← eG0]at eG
   refine aGo (cj4 Zr j0 h2 (cj3 hy h3 hwj)) ?_
   repeat with_reducible intro K hK
   exact Zad (j+1,V) (by show j+1≤_;omega) (by show e.mv.length-(j+1)<e.mv.length-j;omega) (by refine Zak _ _ _ ?_ ?_ ?_ ?_ ?_ (.inl rfl)<;>simp[go_sem,okD,okDs,Zav,eG])
 obtain rfl:j=e.mv.length:=by omega
 rw[Gn]
 rw[Gn]at gl
 generalize ZjQ e k p=B at *
 have lA:A.length≤400:=by omega
 refine aGo (cj3 Zr h2 hw) ?_
 repeat with_reducible intro K hK
 have ez:∀ M:Mem,List.map (List.map (fzT false M 4)) (A.map fun g=>[Zbk g])=A.map fun g=>[Zbk g]:=fun M=>Zao (fun _=>rfl) _
 have ey:∀ M:Mem,List.map (List.map (fzT false M 3)) (B.map cT)=B.map cT:=fun M=>Zao (fun _=>rfl) _
 refine Zad (k+1) (by omega) (by omega) ?_
 refine StLe.trans (Zdz 3 rfl) ?_
 refine StLe.trans (Ze4 1 4 rfl) ?_
 refine Zak _ _ _ ?_ ?_ ?_ ?_ ?_ (.inl rfl)<;>simp[go_sem,okD,okDs,Zav,eN,fzT,Nat.add_assoc]
 rintro e (⟨a,_,rfl⟩|rfl)<;>rfl
section
variable [Ifl]
theorem ZhD{P:Program}{n rid:Nat}{Q:Exit→St→Prop}{s:St}{o1 o2:Oper}{T e:TypeId}{es:List (List D)}(hu:P.underlying T=some (.slice e))
 (g1:o1.guard=none) (g2:o2.guard=none) (d1:o1.dst=some 3) (d2:o2.dst=some 4) (p1:o1.op = .move (.tmp 0)) (p2:o2.op = .binOp .eql T (.tmp 3) (.const (.slice none 0 0)) T)
 (hf1:Za9 n o1=true) (hn':decide (4<n)=true) (h0:s.t 0 = .sl es)
 (hnil:es=[]→Q .normal {s with t:=upd (upd s.t 3 (.sl es)) 4 (dB true)}) (hnot:Q .normal {s with t:=upd (upd s.t 3 (.sl es)) 4 (dB false)}) :
 AWP P n (.region rid #[o1,o2] false) Q s:=by
 have hn:4<n:=of_decide_eq_true hn'
 intro E B β a w hr
 refine wp_region_lit (l:=[o1,o2]) ?_
 refine wpList_plain g1 fun K1 hK1=>Zet (K:=fun s'=>s'={s with t:=upd s.t 3 (.sl es)}) hf1 hr ?_ ?_
 ·unfold opA
  rw[p1,d1]
  simp only[opF,rd,h0,Res.pure,putT,ov,List.length_nil,Nat.add_zero]
  exact⟨trivial,.inl trivial,trivial⟩
 rintro s1 β1 a1 w1 r1 rfl
 refine hK1 _ _ ?_
 have t3:Rep β1 s.m (safe E β1 s.m) w1 (a1.eval (.tmp 3)) (.sl es):=r1.tmp 3 (by omega)
 obtain⟨a,cap,e3,hc1,hc2,hcase⟩:=t3.inv_sl
 have hrun:(execOp a1.eval o2).run P w1 = .ok (.value (.bool a.isNone)) w1:=by
  unfold execOp
  rw[p2]
  have hb:=Lib.run_eql_slice_nil (P:=P) w1 T e a es.length cap 0 0 hu
  have ec:a1.eval (.const (.slice none 0 0)) = .slice none 0 0:=rfl
  simp only[e3,ec]
  simp[eqGuard,hb]
 refine wpList_plain g2 fun K2 hK2=>?_
 unfold Oper.wp
 rw[hrun]
 show K2 (a1.put o2.dst (.bool a.isNone)) w1
 refine hK2 _ _ (wpList_nil ?_)
 obtain⟨β3,r3⟩:=r1.put (dst:=o2.dst) (Zb3.same r1.mem (.v (.bool a.isNone)))
 rw[d2]at r3 ⊢
 cases a with
 | none =>
   have hes:es=[]:=by
    rcases hcase with h|⟨b,off,k,h,_⟩
    ·exact h
    ·cases h
   exact⟨_,β3,r3,hnil hes⟩
 | some A=>exact⟨_,β3,r3,hnot⟩
end
def onA(a b:List Zag)(k:Nat):List Zag:=(onD 1 a b).take k++a.drop k
theorem ZnD(a b:List Zag):onA a b 0=a:=by simp[onA]
theorem ZqW{a b:List Zag}(h:a.length=b.length):onA a b a.length=onD 1 a b:=by
 unfold onA
 rw[Ya8 (by unfold onD;rw[List.length_zipWith];omega),List.drop_length,List.append_nil]
theorem ZqU{a b:List Zag}(h:a.length=b.length)(k:Nat)(hk:k≤a.length):(onA a b k).length=a.length:=by
 unfold onA onD
 rw[Yb9,Yc1,List.length_drop,List.length_zipWith];omega
theorem ZqV{a b:List Zag}(h:a.length=b.length){k:Nat}(hk:k<a.length):(onA a b k)[k]? =a[k]?:=by
 unfold onA onD
 rw[Yc4 (by rw[Yc1,List.length_zipWith];omega),Yc1,List.length_zipWith,show k-min k (min a.length b.length)=0 by omega,List.getElem?_drop]
 simp
theorem ZqT{a b:List Zag}(h:a.length=b.length){k:Nat}{x y:Zag}(hx:a[k]? =some x)(hy:b[k]? =some y):(onA a b k).set k (ofQ (qOf x+qOf y))=onA a b (k+1):=by
 obtain⟨hk,rfl⟩:=Ya3.1 hx
 obtain⟨hk2,rfl⟩:=Ya3.1 hy
 have hl:((onD 1 a b).take k).length=k:=by unfold onD;rw[Yc1,List.length_zipWith];omega
 have hz:(onD 1 a b)[k]? =some (ofQ (qOf a[k]+qOf b[k])):=by
  unfold onD
  rw[List.getElem?_zipWith,Ya0 hk,Ya0 hk2]
  simp
 unfold onA
 rw[List.set_append_right _ _ (by omega),hl,Nat.sub_self,Yd7 hk,List.set_cons_zero,Yb4,hz]
 simp
theorem ZhB(l:List Zag):∀ x∈l.map cF,x.length=4∧x.all D.isCell=true:=fun x hx=>by
 obtain⟨u,_,rfl⟩:=Yc6.1 hx
 exact⟨rfl,rfl⟩
theorem ZA8(a b:List Zag)(hl:a.length=b.length)(oa:okP a=true)(ob:okP b=true)(la:a.length≤4096)(za:∀ f∈a,(szF f:Int)≤549755813888)(zb:∀ f∈b,(szF f:Int)≤549755813888) :
 Zah Tryz.prog 119 [Za0 a,Za0 b] (Za0 (onD 1 a b)):=by
 have Zr:=Tryz.results119
 have hresC:=Tryz.results142
 obtain⟨es,ee⟩:∃ es,a.map cF=es:=⟨_,rfl⟩
 have hcell:=ZhB a
 have hlen:es.length=a.length:=by rw[← ee];simp
 rw[ee]at hcell
 rw[show Za0 a = .sl es from congrArg D.sl ee]
 refine inC Tryz.func119 rfl Tryz.ntmps119 ?_
 refine aGo Zr ?_
 repeat with_reducible intro K hK
 refine Zbq Tryz.func142 rfl (by kernel_rfl) (by kernel_rfl) (by kernel_rfl) ?_
 rw[Tryz.ntmps142]
 repeat ((fail_if_success (with_reducible refine Zdl 1 ?_)); first
     | (refine hK _ ?_;clear hK;clear K)
     | (refine aSeq fun K hK=>?_)
     | (refine ZcJ ?_)
     | (refine ZeU ?_)
     | (refine ZeW ?_)
     | (refine aRet ?_)
     | (refine aOps _ rfl (by kernel_rfl) ?_)
     | (refine ZeV _ rfl ZdX (by kernel_rfl) (by kernel_rfl) fun KE hE=>?_)
     | (refine hE _ _ (by kernel_rfl) (ZaC rfl) ?_;clear hE;clear KE)
     | (refine hE _ _ (by kernel_rfl) (Za7 ?hi ?hj) ?_;(case hi=>(repeat(refine Zan rfl ?_));exact Zaq);(case hj=>simp);clear hE;clear KE)
     | (refine ZcH rfl ?hc ?_;case hc=>simp only[go_sem,↓reduceIte,hresC])
     | (refine ZcI rfl ?hc ?_;case hc=>simp only[go_sem,↓reduceIte,hresC])
     | (simp only[go_sem,↓reduceIte,hresC])
     | (refine And.intro ?ho ?_;(case ho=>omega))
     | (clear hK;clear K))
 refine ZhD (es:=es) Tryz.underlying33 rfl rfl rfl rfl rfl rfl (by kernel_rfl) (by kernel_rfl) rfl (fun h0=>?_) ?_
 ·rw[h0]at hlen
  obtain rfl:a=[]:=List.length_eq_zero_iff.1 (by simpa using hlen.symm)
  obtain rfl:b=[]:=List.length_eq_zero_iff.1 (by simpa using hl.symm)
  refine aGo (cj2 hresC Zr) ?_
  repeat with_reducible intro K hK
  refine ZrD (fun _:Unit=>_) (fun _=>True) (fun _=>0) ⟨(),trivial,StLe.refl _⟩ ?_
  rintro _ _
  refine aGo (cj2 hresC Zr) ?_
  repeat with_reducible intro K hK
  rfl
 ·have h1:(es.length:Int)≤4096:=by omega
  refine aGo (cj2 hresC Zr) ?_
  repeat with_reducible intro K hK
  refine⟨⟨hcell,by omega,by omega⟩,?_⟩
  refine aGo (cj2 hresC Zr) ?_
  repeat with_reducible intro K hK
  have e0:es=(onA a b 0).map cF:=by rw[ZnD,ee]
  refine Zas (fun(k:Nat)=>[(5,.ls 0 1),(10,Za0 b),(11,dI b.length),(12,dI k)]) (fun k=>[(0,⟨53,1,4,(onA a b k).map cF,0,false⟩)]) 1 0 (fun k=>k≤b.length) (fun k=>b.length-k) 0 (by omega) ?_ ?_
  ·refine Zak _ _ _ ?_ ?_ ?_ ?_ ?_ (.inl rfl)<;>simp[go_sem,e0,okD,okDs,Zav]
  rintro k hk
  obtain⟨hw,k0⟩:=ZaO k
  have kz:(0:Nat)≤k:=Yb0 _
  by_cases h2:(k:Int)<b.length
  ·obtain⟨x,hx⟩:=getE (l:=a) (k:=k) (by omega)
   obtain⟨y,hy⟩:=getE (l:=b) (k:=k) (by omega)
   have ox:=Ya6.1 oa x (ZaL hx)
   have oy:=Ya6.1 ob y (ZaL hy)
   have zx:=za x (ZaL hx)
   have zy:=zb y (ZaL hy)
   have hs:=ZqT hl hx hy
   have hg:=(ZqV hl (k:=k) (by omega)).trans hx
   have hL:=ZqU hl k (by omega)
   obtain⟨qx,rfl⟩:∃ q,x=ofQ q:=⟨_,ZcF ox⟩
   obtain⟨qy,rfl⟩:∃ q,y=ofQ q:=⟨_,ZcF oy⟩
   rw[Zay,Zay]at hs
   have ka:=ZhT qx qy zx zy
   have hset:((onA a b k).map cF).set k [dI (ofQ (qx+qy)).p.s,Zab (ofQ (qx+qy)).p.d,dI (ofQ (qx+qy)).q.s,Zab (ofQ (qx+qy)).q.d]=(onA a b (k+1)).map cF:=by rw[← hs,List.map_set]
   generalize onA a b k=A at *
   refine aGo (cj4 Zr h2 k0 (cj4 kz hx hy (cj4 hg hL hset hw))) ?_
   repeat with_reducible intro K hK
   exact Zad (k+1) (by omega) (by omega) (by refine Zak _ _ _ ?_ ?_ ?_ ?_ ?_ (.inl rfl)<;>simp[go_sem,okD,okDs,Zav])
  obtain rfl:k=b.length:=by omega
  refine aGo (cj2 Zr h2) ?_
  repeat with_reducible intro K hK
  rw[Zao (fun _=>rfl),← hl,ZqW hl]
theorem sum_c(a b:List Zag)(hl:a.length=b.length)(oa:okP a=true)(ob:okP b=true)(la:a.length≤4096)(za:∀ f∈a,(szF f:Int)≤549755813888)(zb:∀ f∈b,(szF f:Int)≤549755813888) :
 Zah Tryz.prog 89 [Za0 a,Za0 b] (Za0 (onD 1 a b)):=by
 have Zr:=Tryz.results89
 have hresC:=Tryz.results142
 obtain⟨es,ee⟩:∃ es,a.map cF=es:=⟨_,rfl⟩
 have hcell:=ZhB a
 have hlen:es.length=a.length:=by rw[← ee];simp
 rw[ee]at hcell
 rw[show Za0 a = .sl es from congrArg D.sl ee]
 refine inC Tryz.func89 rfl Tryz.ntmps89 ?_
 refine aGo Zr ?_
 repeat with_reducible intro K hK
 refine Zbq Tryz.func142 rfl (by kernel_rfl) (by kernel_rfl) (by kernel_rfl) ?_
 rw[Tryz.ntmps142]
 repeat ((fail_if_success (with_reducible refine Zdl 1 ?_)); first
     | (refine hK _ ?_;clear hK;clear K)
     | (refine aSeq fun K hK=>?_)
     | (refine ZcJ ?_)
     | (refine ZeU ?_)
     | (refine ZeW ?_)
     | (refine aRet ?_)
     | (refine aOps _ rfl (by kernel_rfl) ?_)
     | (refine ZeV _ rfl ZdX (by kernel_rfl) (by kernel_rfl) fun KE hE=>?_)
     | (refine hE _ _ (by kernel_rfl) (ZaC rfl) ?_;clear hE;clear KE)
     | (refine hE _ _ (by kernel_rfl) (Za7 ?hi ?hj) ?_;(case hi=>(repeat(refine Zan rfl ?_));exact Zaq);(case hj=>simp);clear hE;clear KE)
     | (refine ZcH rfl ?hc ?_;case hc=>simp only[go_sem,↓reduceIte,hresC])
     | (refine ZcI rfl ?hc ?_;case hc=>simp only[go_sem,↓reduceIte,hresC])
     | (simp only[go_sem,↓reduceIte,hresC])
     | (refine And.intro ?ho ?_;(case ho=>omega))
     | (clear hK;clear K))
 refine ZhD (es:=es) Tryz.underlying33 rfl rfl rfl rfl rfl rfl (by kernel_rfl) (by kernel_rfl) rfl (fun h0=>?_) ?_
 ·rw[h0]at hlen
  obtain rfl:a=[]:=List.length_eq_zero_iff.1 (by simpa using hlen.symm)
  obtain rfl:b=[]:=List.length_eq_zero_iff.1 (by simpa using hl.symm)
  refine aGo (cj2 hresC Zr) ?_
  repeat with_reducible intro K hK
  refine ZrD (fun _:Unit=>_) (fun _=>True) (fun _=>0) ⟨(),trivial,StLe.refl _⟩ ?_
  rintro _ _
  refine aGo (cj2 hresC Zr) ?_
  repeat with_reducible intro K hK
  rfl
 ·have h1:(es.length:Int)≤4096:=by omega
  refine aGo (cj2 hresC Zr) ?_
  repeat with_reducible intro K hK
  refine⟨⟨hcell,by omega,by omega⟩,?_⟩
  refine aGo (cj2 hresC Zr) ?_
  repeat with_reducible intro K hK
  have e0:es=(onA a b 0).map cF:=by rw[ZnD,ee]
  refine Zas (fun(k:Nat)=>[(5,.ls 0 1),(10,Za0 b),(11,dI b.length),(12,dI k)]) (fun k=>[(0,⟨53,1,4,(onA a b k).map cF,0,false⟩)]) 1 0 (fun k=>k≤b.length) (fun k=>b.length-k) 0 (by omega) ?_ ?_
  ·refine Zak _ _ _ ?_ ?_ ?_ ?_ ?_ (.inl rfl)<;>simp[go_sem,e0,okD,okDs,Zav]
  rintro k hk
  obtain⟨hw,k0⟩:=ZaO k
  have kz:(0:Nat)≤k:=Yb0 _
  by_cases h2:(k:Int)<b.length
  ·obtain⟨x,hx⟩:=getE (l:=a) (k:=k) (by omega)
   obtain⟨y,hy⟩:=getE (l:=b) (k:=k) (by omega)
   have ox:=Ya6.1 oa x (ZaL hx)
   have oy:=Ya6.1 ob y (ZaL hy)
   have zx:=za x (ZaL hx)
   have zy:=zb y (ZaL hy)
   have hs:=ZqT hl hx hy
   have hg:=(ZqV hl (k:=k) (by omega)).trans hx
   have hL:=ZqU hl k (by omega)
   obtain⟨qx,rfl⟩:∃ q,x=ofQ q:=⟨_,ZcF ox⟩
   obtain⟨qy,rfl⟩:∃ q,y=ofQ q:=⟨_,ZcF oy⟩
   rw[Zay,Zay]at hs
   have ka:=ZhT qx qy zx zy
   have hset:((onA a b k).map cF).set k [dI (ofQ (qx+qy)).p.s,Zab (ofQ (qx+qy)).p.d,dI (ofQ (qx+qy)).q.s,Zab (ofQ (qx+qy)).q.d]=(onA a b (k+1)).map cF:=by rw[← hs,List.map_set]
   generalize onA a b k=A at *
   refine aGo (cj4 Zr h2 k0 (cj4 kz hx hy (cj4 hg hL hset hw))) ?_
   repeat with_reducible intro K hK
   exact Zad (k+1) (by omega) (by omega) (by refine Zak _ _ _ ?_ ?_ ?_ ?_ ?_ (.inl rfl)<;>simp[go_sem,okD,okDs,Zav])
  obtain rfl:k=b.length:=by omega
  refine aGo (cj2 Zr h2) ?_
  repeat with_reducible intro K hK
  rw[Zao (fun _=>rfl),← hl,ZqW hl]
theorem Zn5:Dic.grow 4 6=17749:=rfl
structure FitG (s:SysD) (g:List Zaf):Prop where
 f:Fit s g 4 6
 r:ZaB s=true
 gr:Zai g s.n=true
 n:s.n≤6
 l:g.length≤6
theorem FitG.tn{s:SysD}{g:List Zaf}(h:FitG s g):tnO (ZaJ s g):=by
 have hn:=h.n
 have hl:=h.l
 have h1:=Nat.mul_le_mul_right (Dic.grow 4 6+4+1) (show s.n.toNat+1≤7 by omega)
 have h2:=Nat.mul_le_mul_right (Dic.grow 4 6+4+1) (show g.length+1≤7 by omega)
 rw[Zn5]at h1 h2
 exact Zxe h.f (by rw[Zn5];omega) (by rw[Zn5];omega) h.r h.gr
structure ZDM (s:SysD) (o:OptD):Prop where
 x:okP o.x=true
 y:okP o.y=true
 d:okP o.d=true
 l:o.k=2→o.x.length=o.d.length
theorem ZkI{s:SysD}{g:List Zaf}(hr:ZaB s=true)(hg:Zai g s.n=true):ZDM s (ZaJ s g):=by
 have nil:okP []=true:=rfl
 unfold ZaJ
 cases next (fin s g)with
 | ex r c=>exact⟨nil,nil,nil,fun h=>absurd h (show ¬ (0:Int)=2 by decide)⟩
 | best=>exact⟨Zcm _ _,Zcm _ _,nil,fun h=>absurd h (show ¬ (0:Int)=2 by decide)⟩
 | row r=>exact⟨nil,Zcm _ _,nil,fun h=>absurd h (show ¬ (1:Int)=2 by decide)⟩
 | col c =>
   simp only
   cases next (fin s [])with
   | ex r c=>exact⟨Zcm _ _,nil,Zcm _ _,fun _=>by simp[Zam]⟩
   | best=>exact⟨Zcm _ _,nil,Zcm _ _,fun _=>by simp[Zam]⟩
   | col c=>exact⟨Zcm _ _,nil,Zcm _ _,fun _=>by simp[Zam]⟩
   | row r=>exact⟨nil,Zcm _ _,nil,fun h=>absurd h (show ¬ (1:Int)=2 by decide)⟩
theorem ZBh(s:SysD)(g:List Zaf)(h:FitG s (oppT g))(hs:smT g):Zah Tryz.prog 72 [encS s,Zbk g] (.tup [Za0 (maxX s g),Za0 (maxY s g)]):=by
 have Zr:=Tryz.results72
 have k1:=ZiS (-1) (by decide) (by decide)
 have k2:=ZsV g (ofQ ((-1:Int):Rat)) hs (by show(szF (ofQ ((-1:Int):Rat)):Int)≤4194304;decide +kernel)
 have k3:=ZnW s (oppT g) h.f
 have e1:ZbU s (oppT g)=(ZaJ s (oppT g),0):=by unfold ZbU;rw[h.r,h.gr];rfl
 have hm:maxO s g=ZaJ s (oppT g):=by unfold maxO;rw[e1]
 rw[e1]at k3
 have ho:=ZkI h.r h.gr
 have ht:=h.tn
 unfold maxX maxY
 rw[hm]
 generalize ZaJ s (oppT g)=o at *
 obtain⟨k,v,x,y,d⟩:=o
 refine inC Tryz.func72 rfl Tryz.ntmps72 ?_
 cases h2:(k==2)
 ·have h2':¬ k=2:=by simpa using h2
  refine aGo (cj2 Zr h2) ?_
  repeat with_reducible intro K hK
  rw[if_neg h2',if_neg h2']
 ·have h2':k=2:=by simpa using h2
  have kp:=ZA8 x d (ho.l h2') ho.x ho.d (by have:(x.length:Int)≤64:=ht.2.1.1;omega) (fun f hf=>by have:=ht.2.1.2 f hf;unfold tnF at this;omega) (fun f hf=>by have:=ht.2.2.2.2 f hf;unfold tnF at this;omega)
  refine aGo (cj2 Zr h2) ?_
  repeat with_reducible intro K hK
  rw[if_pos h2',if_pos h2'];rfl
theorem Zuv(g:List Zaf)(hs:smT g):Zah Tryz.prog 88 [Zbk g] (Zbk (oppT g)):=by
 have Zr:=Tryz.results88
 have k1:=ZiS (-1) (by decide) (by decide)
 have k2:=ZsV g (ofQ ((-1:Int):Rat)) hs (by show(szF (ofQ ((-1:Int):Rat)):Int)≤4194304;decide +kernel)
 refine inC Tryz.func88 rfl Tryz.ntmps88 ?_
 refine aGo Zr ?_
 repeat with_reducible intro K hK
 rfl
theorem Zxx{n:Int}:∀ (l:List Zaf)(last:Int),-1≤last→goR n last l=true→(l.length:Int)+last+1≤max n (last+1)
 | [],last,_,_=>by simp only[List.length_nil];omega
 | u ::l,last,hl,h=>by
   have h':=ZaH.1 h
   have:=Zxx l u.v (by omega) h'.2.2.2
   simp only[List.length_cons];omega
theorem Zmv{n:Int}{l:List Zaf}(h:Zai l n=true):(l.length:Int)≤n:=by
 simp only[Zai,Ya2,decide_eq_true_eq]at h
 have:=Zxx l (-1) (by decide) h.2
 omega
def IntK(K:Nat)(g:List Zaf):Prop:=∀ v:Nat,∃ z:Int,Za4 g v=(z:Rat)∧z.natAbs≤K
theorem IntK.sz{K:Nat}{g:List Zaf}{n:Int}(h:IntK K g)(hg:Zai g n=true)(hK:K≤1000000):∀ t∈g,szF t.f≤4:=by
 intro t ht
 obtain⟨i,hi⟩:=List.getElem?_of_mem ht
 obtain⟨h0,_,ho,_⟩:=Za6 hg ht
 obtain⟨z,hz,hz2⟩:=h t.v.toNat
 rw[Zrq hg hi h0]at hz
 rw[ZcF ho,hz]
 exact ZdU z (by omega) (by omega)
theorem IntK.plus{K L:Nat}{a b:List Zaf}(ha:IntK K a)(hb:IntK L b)(ra:Zai a 1500=true)(rb:Zai b 1500=true):IntK (K+L) (ZhI a b):=by
 intro v
 obtain⟨x,hx,hx2⟩:=ha v
 obtain⟨y,hy,hy2⟩:=hb v
 refine⟨x+y,?_,by omega⟩
 unfold Za4 at *
 rw[Zpg ra rb,hx,hy,Rat.intCast_add]
theorem IntK.opp{K:Nat}{g:List Zaf}{n:Int}(h:IntK K g)(hg:Zai g n=true)(hn:n≤1500):IntK K (oppT g):=by
 intro v
 obtain⟨x,hx,hx2⟩:=h v
 refine⟨-x,?_,by omega⟩
 unfold Za4 at *
 rw[ZqO hg hn,hx,Rat.intCast_neg]
theorem IntK.nil:IntK 0 []:=fun v=>⟨0,rfl,by decide⟩
theorem IntK.mono{K L:Nat}{g:List Zaf}(h:IntK K g)(hl:K≤L):IntK L g:=fun v=>let ⟨z,a,b⟩:=h v;⟨z,a,Yc7 b hl⟩
theorem ZjP{n:Nat}{c:Nat→Rat}(h:∀ i,c i=0∨c i=1∨c i = -1):IntK 1 (ZaS n c):=by
 intro v
 rw[ZeY]
 by_cases hv:v<n
 ·rw[if_pos hv]
  rcases h v with e|e|e
  ·exact⟨0,by rw[e];rfl,by decide⟩
  ·exact⟨1,by rw[e];rfl,by decide⟩
  ·exact⟨-1,by rw[e];rfl,by decide⟩
 ·rw[if_neg hv];exact⟨0,rfl,by decide⟩
theorem ZpE(i:Nat):IntK 1 (ZaX i 1):=by
 intro v
 unfold ZaX Za4
 simp only[dotS,indI,Zay]
 by_cases e:(i:Int)=(v:Int)
 ·exact⟨1,by rw[if_pos (by omega)];decide +kernel,by decide⟩
 ·exact⟨0,by rw[if_neg (by omega)];decide +kernel,by decide⟩
theorem ZuK{e:EvD}{g:List Zaf}(h:g∈Zct e):IntK 1 g:=by
 unfold Zct at h
 rcases Yd5.1 h with h|h
 ·obtain⟨i,_,rfl⟩:=Yc6.1 h
  exact ZpE i
 ·obtain⟨p,hp,rfl⟩:=List.mem_mapIdx.1 h
  unfold ZjQ
  split
  ·exact IntK.nil.mono (by decide)
  ·refine ZjP fun i=>?_
   unfold plC
   split
   ·exact .inr (.inl rfl)
   ·split
    ·exact .inr (.inr rfl)
    ·exact .inl rfl
theorem Zn1{n:Int}(hn:n≤1500):∀ (l:List (List Zaf)) (out:List Bool) (a:List Zaf) (K:Nat),IntK K a→Zai a n=true→(∀ g∈l,Zai g n=true∧IntK 1 g)→IntK (K+l.length) (sumG l out a)
 | [],_,a,K,ha,_,_=>ha
 | g ::l,[],a,K,ha,_,_=>ha.mono (by omega)
 | g ::l,o ::out,a,K,ha,ra,hl=>by
   obtain⟨h1,h2⟩:=hl g Yb7
   have hl':∀ g∈l,Zai g n=true∧IntK 1 g:=fun g hg=>hl g (Yb6 _ hg)
   cases o
   ·show IntK _ (sumG l out (ZhI a g))
    have:=Zn1 hn l out (ZhI a g) (K+1) (ha.plus h2 (Zc1 hn ra) (Zc1 hn h1)) (Zh4 hn ra h1) hl'
    exact this.mono (by simp;omega)
   ·show IntK _ (sumG l out a)
    exact(Zn1 hn l out a K ha ra hl').mono (by simp)
theorem ZEU{e:EvD}{x:MvD}(h:(hiI e x).2=true):szF (hiI e x).1≤4:=by
 unfold hiI at h ⊢
 split at h
 ·cases h
 ·rename_i h1
  rw[if_neg h1]
  unfold intD at h ⊢
  revert h
  cases hf:ZpO e.ce x.s x.d with
  | none=>intro h;cases h
  | some b =>
    simp only
    cases hb:e.ce[b]? with
    | none=>intro h;cases h
    | some c =>
      simp only
      obtain⟨_,c',hb',hcov,_⟩:=ZjT hf
      rw[hb]at hb'
      obtain rfl:=Option.some.inj hb'
      cases hr:inB x.r 0 1099511627776
      ·simp only[Bool.not_false,Bool.or_true,if_true];intro h;cases h
      ·split
       ·intro h;cases h
       ·intro _
        have hok:Zin c x.r x.d=true:=by simp[Zin,hcov,hr]
        obtain⟨b1,b2,b3,b4,b5⟩:=ZfF hok
        have e1:((x.r:Int):Rat)+errQ c x.r x.d=Rat.divInt (c.p*x.r+1000*(x.r+(c.g+c.d*(x.d-c.f)))) 1000:=by
         unfold errQ
         rw[Rat.divInt_eq_div,Rat.divInt_eq_div]
         simp only[Rat.intCast_add,Rat.intCast_mul]
         grind
        show szF (ofQ (((x.r:Int):Rat)+errQ c x.r x.d))≤4
        rw[e1]
        exact Zkx _ _ (by decide) (by omega) (by omega) (by decide) (by decide)
theorem Zx7{g:Int}(h1:1≤g)(h2:g≤1099511627776):szF (ofQ (g:Rat))≤4:=ZdU g (by omega) (by omega)
theorem ZtS{n:Nat}{c:Nat→Rat}(h:∀ i,c i=0∨c i=1∨c i = -1):(ZaS n c).length≤n∧∀ t∈ZaS n c,szF t.f≤4 :=
 ⟨Zej c n,(ZjP h).sz (n:=(n:Int)) (Zcy (Int.le_refl _)) (by decide)⟩
structure RowZ (w:RowD):Prop where
 l:w.t.length≤64
 v:szF w.v≤4
 c:∀ t∈w.t,szF t.f≤4
theorem ZwH{i:Nat}{k:Int}{v:Zag}(h:szF v≤4):RowZ (oneR i k v):=⟨by show 1≤64;decide,h,fun t ht=>by rw[List.mem_singleton.1 ht];show szF (ofQ 1)≤4;decide +kernel⟩
theorem ZCg{t:TrD}(R:Zbd t){kind:Int}{i:Nat}(hi:i<t.e.mv.length)(hn:t.e.mv.length≤60){w:RowD}(h:w∈ZhG t kind i):RowZ w:=by
 have z0:szF (ofQ 0)≤4:=by decide +kernel
 rcases ZdP.1 h with⟨_,rfl⟩|⟨hc,rfl⟩|⟨g,hg,rfl⟩|⟨_,rfl⟩
 ·obtain⟨h1,h2⟩:=ZtS (n:=i+1) (c:=stC t.e i) fun j=>by
   unfold stC
   split
   ·split
    ·exact .inr (.inl rfl)
    ·split
     ·exact .inr (.inr rfl)
     ·exact .inl rfl
   ·exact .inr (.inr rfl)
  exact⟨by show(ZaS (i+1) (stC t.e i)).length≤64;omega,z0,h2⟩
 ·exact ZwH (ZEU hc)
 ·obtain⟨f,hf,rfl⟩:=Yc6.1 hg
  have:=(R.fi f (List.mem_filter.1 hf).1).2.2
  exact ZwH (Zx7 this.1 this.2)
 ·exact ZwH z0
theorem Zv0{t:TrD}(R:Zbd t){kind:Int}(hn:t.e.mv.length≤60){w:RowD}(h:w∈ZbS t kind t.e.mv.length):RowZ w:=by
 obtain⟨i,hi,hw⟩:=(Zex _).1 h
 exact ZCg R hi hn hw
structure SmE (t:TrD):Prop where
 n:t.e.mv.length≤6
 h:t.e.h≤6
 fi:t.fi.length≤8
 cl:t.cl.length≤8
theorem ZBq{n:Nat}{r:List RowD}{g:List Zaf}(hn:n≤6)(hr:r.length≤32)(hw:∀ w∈r,RowZ w)(hg:g.length≤16∧∀ t∈g,szF t.f≤4):Fit ⟨n,r⟩ g 4 6 :=
 ⟨hr,fun _=>by show(n:Int)≤16;omega,fun _=>.inl (by show(n:Int)≤6;omega),fun w h=>⟨(hw w h).l,(hw w h).v,(hw w h).c⟩,hg,by decide,by rw[Zn5];decide⟩
theorem Zrj{n:Nat}{r:List RowD}{g:List Zaf}{K:Nat}(hn:n≤6)(hr:r.length≤32)(hw:∀ w∈r,RowZ w)(hs:ZaB ⟨n,r⟩=true)(hg:Zai g n=true)(hk:IntK K g)(hK:K≤1000000):FitG ⟨n,r⟩ g:=by
 have hl:(g.length:Int)≤n:=Zmv hg
 exact⟨ZBq hn hr hw ⟨by omega,hk.sz hg hK⟩,hs,hg,by show(n:Int)≤6;omega,by omega⟩
end Go.Proofs.YtjeaacindikplaaGreat
