/-
  The walk of a round's body as far as it goes, as one rule (as aGo).
-/
import Derived.Test.YtjeaacindikplaaGreatWLib
import Derived.Test.YtjeaacindikplaaGreatWConv
import Derived.Test.YtjeaacindikplaaGreatWT04
import Derived.Test.YtjeaacindikplaaGreatWT01
import Derived.Test.YtjeaacindikplaaGreatWT03
import Derived.Test.YtjeaacindikplaaGreatWRefA
import Derived.Test.YtjeaacindikplaaGreatWT02
namespace Go.Proofs.YtjeaacindikplaaGreat
set_option linter.unusedVariables false
set_option linter.unusedSimpArgs false
set_option linter.unusedSectionVars false
open Go Go.RowKit
section ifl
variable [Ifl]
theorem rGo{F Y X:Prop}(f:F)(y:Y)(h:F→Keep Y→X:=by
 intro hf y
 repeat(first
  | (refine hI _ ?_;clear hI;clear KI)
  | (refine hK _ ?_;try clear hK;try clear K)
  | ((with_reducible apply useK);(with_reducible assumption))
  | (refine rSeq fun KI hI=>?_)
  | (refine ZDZ ?_)
  | (refine rSkip ?_)
  | (refine rExit ?_)
  | (refine rOps _ rfl (by kernel_rfl) ?_)
  | (refine ZDW rfl ?hc ?_;case hc=>simp only[go_sem,↓reduceIte,beq_self_eq_true,bne_self_eq_false,hf])
  | (refine ZDX rfl ?hc ?_;case hc=>simp only[go_sem,↓reduceIte,beq_self_eq_true,bne_self_eq_false,hf])
  | ((with_reducible apply Zdr);(first|with_reducible assumption|assumption);rotate_left;(first|((repeat(refine Zam rfl ?_));exact Zao)|(refine ZdE ?_;(repeat(refine Zcb rfl ?_));exact Zcc _)))
  | ((with_reducible apply Zb2);(first|with_reducible assumption|assumption))
  | (simp only[go_sem,↓reduceIte,beq_self_eq_true,bne_self_eq_false,hf])
  | (refine And.intro ?ho ?_;(case ho=>omega))
  | (clear hI;clear KI))
 repeat(first|(revert hE;revert KE)|(revert hI;revert KI))
 first|done|exact y.out):X:=h f ⟨y⟩
end ifl
section ifl
variable [Ifl]
structure Stop (n:Nat):Prop where
theorem aHere{rid:Nat}(_:Stop rid){P:Program}{n:Nat}{l:Array Oper}{b:Bool}{Q:Exit→St→Prop}{s:St}(h:AWP P n (.region rid l b) Q s):AWP P n (.region rid l b) Q s:=h
theorem ZoD{n:Nat}{F Y X:Prop}(st:Stop n)(f:F)(y:Y)(h:Stop n→F→Keep Y→X:=by
 intro hst hf y
 repeat((fail_if_success refine aHere hst ?_);first
  | (refine hI _ ?_;clear hI;clear KI)
  | (refine hK _ ?_;try clear hK;try clear K)
  | ((with_reducible apply useK);(with_reducible assumption))
  | (refine aSeq fun KI hI=>?_)
  | (refine ZcK ?_)
  | (refine ZeV ?_)
  | (refine ZeX ?_)
  | (refine aRet ?_)
  | (refine aOps _ rfl (by kernel_rfl) ?_)
  | (refine ZeW _ rfl Zeb (by kernel_rfl) (by kernel_rfl) fun KE hE=>?_)
  | (refine hE _ _ (by kernel_rfl) (Zay rfl) ?_;clear hE;clear KE)
  | (refine hE _ _ (by kernel_rfl) (Zm0 (by(first|((repeat(refine Zam rfl ?_));exact Zao)|(refine ZdE ?_;(repeat(refine Zcb rfl ?_));exact Zcc _))) rfl) ?_;clear hE;clear KE)
  | (refine hE _ _ (by kernel_rfl) (ZmZ (by(first|((repeat(refine Zam rfl ?_));exact Zao)|(refine ZdE ?_;(repeat(refine Zcb rfl ?_));exact Zcc _))) (by kernel_rfl) rfl) ?_;clear hE;clear KE)
  | (refine ZcI rfl ?hc ?_;case hc=>simp only[go_sem,↓reduceIte,beq_self_eq_true,bne_self_eq_false,hf])
  | (refine ZcJ rfl ?hc ?_;case hc=>simp only[go_sem,↓reduceIte,beq_self_eq_true,bne_self_eq_false,hf])
  | ((with_reducible apply Zdr);(first|with_reducible assumption|assumption);rotate_left;(first|((repeat(refine Zam rfl ?_));exact Zao)|(refine ZdE ?_;(repeat(refine Zcb rfl ?_));exact Zcc _)))
  | ((with_reducible apply Zb2);(first|with_reducible assumption|assumption))
  | ((with_reducible apply ZdL);(first|with_reducible assumption|assumption);rfl)
  | ((with_reducible apply ZbR);(first|with_reducible assumption|assumption);rfl)
  | (simp only[go_sem,↓reduceIte,beq_self_eq_true,bne_self_eq_false,hf])
  | (refine And.intro ?ho ?_;(case ho=>omega))
  | (clear hI;clear KI))
 repeat(first|(revert hE;revert KE)|(revert hI;revert KI))
 first|done|exact y.out):X:=h st f ⟨y⟩
end ifl
set_option maxRecDepth 100000
set_option maxHeartbeats 16000000
theorem Zw1[Ifl]{E:Env}{β:Bet}{m:Mem}{nx:Nat}{w:World}{P:Program}{T:TypeId}{ty et:TyI}(hty:tyOf P T=some ty)(het:tyOf P ty.elem=some et){x:Value}{k:IntKind}{l:Int}{id:Nat}(hM:MemOk E β m nx w)(hid:m id=none)(hlt:id<nx)
 (hx:Rep β m (safe E β m) w x (.v (.int k l))) (hk:ty.kind=2) {z:List D} (hz:et.zero=some z) (hzl:z.length=et.size) (q1:0≤l) (q3:(et.bytes:Int)*l≤140737488355328) (q4:l≤9007199254740992) :
 Runs P E β m nx w (Instr.makeSlice T x x) ⟨True,.ls id 0,[],[(id,⟨ty.elem,0,et.size,List.replicate l.toNat z,0,false⟩)],[id]⟩:=by
 obtain⟨inf,de,ht⟩:=tyAt hty
 obtain⟨inf2,de2,ht2⟩:=tyAt het
 have hde:=ht.slice hk
 subst hde
 cases hx.inv_v
 rw[ht2.zero]at hz
 cases hq:inf2.zero with
 | none=>rw[hq]at hz;cases hz
 | some zv =>
   rw[hq]at hz
   simp only[Option.map_some,Ya1]at hz
   have hr:=run_make (P:=P) w T ty.elem inf2 zv ht.und ht2.info hq k k l l q1 (Int.le_refl _) (by rw[← ht2.bytes];omega) (by omega)
   have hzs:zv.cells.size=et.size:=by
    have:=congrArg List.length hz
    simp at this
    omega
   refine⟨_,w.alloc (.cells (madeCells zv.cells (l.toNat*inf2.size)).toList.toArray ty.elem),by simpa using hr,?_⟩
   have hmc:(madeCells zv.cells (l.toNat*inf2.size)).size=l.toNat*et.size:=by rw[size_madeCells,ht2.size]
   refine Zb5.new hM hid hlt ⟨ty.elem,0,et.size,List.replicate l.toNat z,0,false⟩ _ (Yb0 _) (fun i e he=>?_) ?_ (fun i j d hd=>?_) (Below.refl _ _) (fun β' w' hb hw'=>?_)
   ·rw[List.getElem?_replicate]at he
    split at he
    ·simp only[Ya1]at he;rw[← he];exact hzl
    ·cases he
   ·simp only[List.length_replicate,Array.length_toList]
    rw[hmc]
    exact Nat.mul_le_mul_right _ (by omega)
   ·obtain⟨e,he,hj⟩:=Zak.1 hd
    have he':=he
    rw[List.getElem?_replicate]at he
    split at he
    ·rename_i hil
     simp only[Ya1]at he
     subst he
     have hjl:j<et.size:=by rw[← hzl];exact(Ya3.1 hj).1
     rw[← hz,List.getElem?_map]at hj
     have hlt2:i*et.size+j<l.toNat*et.size:=Zj7 (by omega) hjl
     have hmod:(i*et.size+j)%zv.cells.size=j:=by rw[hzs,Nat.mul_comm,Nat.mul_add_mod,Nat.mod_eq_of_lt hjl]
     refine⟨zv.cells[j]'(by omega),?_,?_⟩
     ·have hsz2:inf2.size=et.size:=ht2.size.symm
      simp only[madeCells,hsz2,Array.toList_map,Array.toList_range,List.getElem?_map,List.getElem?_range hlt2,Option.map_some,Ya1,hmod]
      exact getElem!_pos zv.cells j (by omega)
     ·have hcj:zv.cells.toList[j]? =some (zv.cells[j]'(by omega)):=by simp
      rw[hcj]at hj
      simp only[Option.map_some,Ya1]at hj
      subst hj
      exact ZiE _
    ·cases he
   ·refine .ls _ _ _ _ _ ⟨ty.elem,0,et.size,List.replicate l.toNat z,0,false⟩ (Zae _ _ _) (Ya4 _) (fun _ _=>rfl) fun _=>⟨by simp,by omega,by unfold maxLen;omega,.inr ⟨_,hb,rfl,?_⟩⟩
    exact⟨_,_,_,hw',by simpa using hmc⟩
theorem ZE0[Ifl]{P:Program}{n rid:Nat}{Q:Exit→St→Prop}{s:St}{o1 o2 o3:Oper}{T:TypeId}{ty et:TyI}{i j k d:Nat}{kk:IntKind}{l:Int}{z:List D}(hty:tyOf P T=some ty)(het:tyOf P ty.elem=some et)(hk:ty.kind=2)(hz:et.zero=some z)(hzl:z.length=et.size)
 (g1:o1.guard=none) (g2:o2.guard=none) (g3:o3.guard=none) (d1:o1.dst=some j) (d2:o2.dst=some k) (d3:o3.dst=some d) (p1:o1.op = .move (.tmp i)) (p2:o2.op = .makeSlice T (.tmp j) (.tmp j)) (p3:o3.op = .assign (.tmp k))
 (hf1:Zbq n o1=true) (hf3:Zbq n o3=true) (hn':decide (j<n)=true) (h0:s.t i = .v (.int kk l)) (q1:0≤l) (q3:(et.bytes:Int)*l≤140737488355328) (q4:l≤9007199254740992)
 (hQ:Q .normal ⟨upd (upd (upd s.t j (.v (.int kk l))) k (.ls s.nx 0)) d (.ls s.nx 0),upd s.m s.nx (some ⟨ty.elem,0,et.size,List.replicate l.toNat z,0,false⟩),s.nx+1,s.lo⟩) :
 AWP P n (.region rid #[o1,o2,o3] false) Q s:=by
 have hn:j<n:=of_decide_eq_true hn'
 intro E B β a w hr
 refine wp_region_lit (l:=[o1,o2,o3]) ?_
 refine wpList_plain g1 fun K1 hK1=>Zj2 (K:=fun s'=>s'={s with t:=upd s.t j (.v (.int kk l))}) hf1 hr ?_ ?_
 ·unfold opA
  rw[p1,d1]
  simp only[opF,rd,h0,Res.pure,putT,ov,List.length_nil,Nat.add_zero]
  exact⟨trivial,.inl trivial,trivial⟩
 rintro s1 β1 a1 w1 r1 rfl
 refine hK1 _ _ ?_
 have t1:Rep β1 s.m (safe E β1 s.m) w1 (a1.eval (.tmp j)) (.v (.int kk l)):=by
  have:=r1.tmp j hn
  simpa only[Zae]using this
 have hM:MemOk E β1 s.m (s.nx+1) w1:=r1.mem.mono_nx (Nat.le_succ _)
 have hnone:s.m s.nx=none:=r1.mem.none
 have hr0:=Zw1 (E:=E) (β:=β1) (m:=s.m) (nx:=s.nx+1) (w:=w1) (k:=kk) (T:=T) (x:=a1.eval (.tmp j)) hty het hM hnone (Nat.lt_succ_self _) t1 hk hz hzl q1 q3 q4
 have hrun:=Zbg (o:=o2) (a:=a1) hr0 (by unfold execOp;rw[p2])
 refine wpList_plain g2 fun K2 hK2=>ZvS hrun fun v w' ha=>?_
 change Zb5 E β1 s.m (s.nx+1) w1 (ov s.m [(s.nx,_)]) v (.ls s.nx 0) w' at ha
 obtain⟨β2,r2⟩:=r1.put (dst:=o2.dst) ha
 rw[d2]at r2
 refine hK2 _ _ (wpList_plain g3 fun K3 hK3=>Zj2 (K:=fun s'=>s'=⟨upd (upd (upd s.t j (.v (.int kk l))) k (.ls s.nx 0)) d (.ls s.nx 0),upd s.m s.nx (some ⟨ty.elem,0,et.size,List.replicate l.toNat z,0,false⟩),s.nx+1,s.lo⟩) hf3 (d2▸r2) ?_ ?_)
 ·unfold opA
  rw[p3,d3]
  simp only[opF,rd,putT,d2,Zae,Res.pure,ov,List.length_nil,Nat.add_zero]
  exact⟨trivial,.inl trivial,trivial⟩
 rintro s3 β3 a3 w3 r3 rfl
 exact hK3 _ _ (wpList_nil ⟨_,β3,r3,hQ⟩)
theorem Zaa.ofCl{P:Program}{f:FuncId}{ds:List D}{es0:List (List D)}(h:∀ I:Ifl,@ZaN I P f ds noM 0 fun d' m' _=>d' = .ls 0 0∧∃ T k es,m' 0=some ⟨T,0,k,es,0,false⟩∧es.map (List.map (fzT true m' 7))=es0):Zaa P f ds (.cl es0):=by
 refine⟨(h Ifl.off).1,fun S w vs hf hvs=>?_⟩
 have hh:=h Ifl.off
 letI:Ifl:=Ifl.off
 have hi:Ifl.i=true→Zf7 S w:=fun e=>by cases e
 have hE:MemOk ⟨S,w,hf,hi⟩ noB noM 0 w:=⟨Below.refl _ _,(fun _ _ h=>by cases h),(fun _ _ h=>by cases h),(fun _ _ h=>by cases h),(fun _ _ h=>by cases h),(fun _ _ _ h=>by cases h),(fun _ _ _ _ _ h=>by cases h)⟩
 have hs:Zaz S w (safe ⟨S,w,hf,hi⟩ noB noM) w:=fun b o u h1 h2=>⟨⟨h1,fun _ _ h=>by cases h⟩,h2⟩
 refine(hh.2 ⟨S,w,hf,hi⟩ noB w vs hE (hvs.mono (MemLe.refl _ _ _) hs)).mono ?_
 rintro e w' ⟨v,d',m',nx',rfl,⟨β',h1,h2,h3,h4⟩,rfl,T,k,es,hm,hes⟩
 refine⟨v,rfl,h1.below,?_⟩
 have hb:ZbU m' 0 0=some ⟨T,0,k,es,0,false⟩:=by unfold ZbU;rw[hm];rfl
 have hz:=Zxr (all:=true) h1 (fun b o h=>h.1) (fun id b B o g1 _ g2=>hf B o (h1.row id b B g1 g2).1) 8 (.ls 0 0) v h4
 obtain⟨a,hv⟩:=ZsQ h4 hb
 subst hv
 have e1:fzT true m' 8 (.ls 0 0) = .sl es0:=by simp only[fzT,hb,Bool.true_or,if_true,hes]
 rw[e1]at hz
 have hl:es0.length=es.length:=by rw[← hes,List.length_map]
 simp only at hz ⊢
 rw[← hl]at hz ⊢
 exact .cl a es0 hz
abbrev fB0(n:Nat)(c:Nat→Rat):Blk:=⟨53,0,4,ratL n c,0,false⟩
theorem ZAN(n:Nat)(c:Nat→Rat):Zap (fun _=>false) (fB0 n c):=fun e he=>by
 obtain⟨v,_,rfl⟩:=List.mem_map.1 he;rfl
theorem Zyz[Ifl](n:Nat)(m:Mem)(nx:Nat)(hn:(n:Int)≤4096):ZaN Tryz.prog 180 [dI n] m nx fun d m' nx'=>d = .ls nx 0∧nx<nx'∧m' nx=some (fB0 n fun _=>0)∧∀ id,id<nx→m' id=m id:=by
 have hres:=Tryz.results180
 refine inA Tryz.func180 rfl Tryz.ntmps180 ?_
 have n0:(0:Int)≤n:=by omega
 have hrep:List.replicate n zc=Zef n 0:=(Zi6 n).symm
 have hl:=Ze6 n 0
 have n1:24*(n:Int)≤140737488355328:=by omega
 have n2:(n:Int)≤9007199254740992:=by omega
 have n3:(n:Int)≤n:=by omega
 refine ZoD (n:=1) ⟨⟩ hres ?_
 repeat with_reducible intro K hK
 refine ZE0 (l:=n) (z:=zc) ZDq ZDp rfl rfl rfl rfl rfl rfl rfl rfl rfl rfl rfl rfl (by kernel_rfl) (by kernel_rfl) rfl rfl n0 (by show(64:Int)*n≤_;omega) (by omega) ?_
 rw[Int.toNat_natCast]
 refine aGoM (cj3 hres hrep hl) ?_
 repeat with_reducible intro K hK
 refine ZcW (fun(i:Nat)=>[(3,(.ls nx 0)),(8,dI n),(9,dI i)]) nx (fun i m1 nx1=>i≤n∧nx<nx1∧m1 nx=some ⟨53,0,4,Zef n i,0,false⟩∧∀ id,id<nx→m1 id=m id) (fun i=>n-i) 0 ?_ ?_ ?_ ?_
 ·simp only[ZaC,↓reduceIte]
  exact⟨Yb0 _,Nat.lt_succ_self _,trivial,fun id h1=>by rw[if_neg (by omega)]⟩
 ·rfl
 ·simp[go_sem]
 ·rintro i m1 nx1 ⟨hi,hnx,eN,hfr⟩
  obtain⟨hw,i0⟩:=ZaM i
  have hl1:=Ze6 n i
  have k0:=nZ_c
  by_cases h1:(i:Int)<n
  ·have hg:(Zef n i)[i]? =some zc:=by unfold Zef;rw[Zbu _ (by omega),if_neg (by omega)]
   have hset:=ZkJ n i
   refine aGoM (cj4 hres eN i0 (cj4 h1 hw hl1 (cj3 hg hset Yb0))) ?_
   repeat with_reducible intro K hK
   refine Zas (i+1) ?_ (by omega) rfl (by simp[go_sem])
   simp only[ZaC,↓reduceIte]
   exact⟨by omega,hnx,trivial,fun id h3=>by rw[if_neg (by omega)];exact hfr id h3⟩
  ·obtain rfl:i=n:=by omega
   rw[ZkK]at eN
   refine aGoM (cj4 hres eN h1 hw) ?_
   exact hfr
theorem Zx7[Ifl](d:Dic)(src:Nat→Nat×Bool)(M Y k:Nat)(y:Nat→Rat)(p:Rat)(m:Mem)(nx:Nat)(hk:k<d.m)(hM:(src k).1<M)(hY:m Y=some (fB0 M y))(zy:(szQ (y (src k).1):Int)≤549755813888)(zp:(szQ p:Int)≤4294967296) :
 ZaN Tryz.prog 189 [ZcH d src,.ls Y 0,dI k,encF (ofQ p)] m nx fun d' m' nx'=>d'=oneD []∧nx≤nx'∧m' Y=some (fB0 M (Zcy src y k p))∧∀ id,id<nx→id≠Y→m' id=m id:=by
 refine ZaN.cl ⟨_,_,Tryz.func189,rfl,by kernel_rfl⟩ fun hcl=>?_
 have hres:=Tryz.results189
 have lY:=(hcl Y _ hY).1
 refine inA Tryz.func189 rfl Tryz.ntmps189 ?_
 have gs:=Zbu (fun i=>[dI (src i).1,dB (src i).2]) hk
 have k0:(0:Int)≤k:=by omega
 have s0:(0:Int)≤(src k).1:=by omega
 have gy:=Za9 y hM
 have ly:=ZbZ M y
 have n1:Y≠nx:=by omega
 have n2:Y≠nx+1:=by omega
 have n3:nx≠nx+1:=by omega
 have n4:nx+1≠nx:=by omega
 have np:(szQ (-p):Int)≤4294967296:=by rw[Zde];exact zp
 cases ht:(src k).2 with
 | true =>
   have k2:=ZgD (y (src k).1) p (by omega) (by omega)
   have es:=Zhw src y k p M (q:=p) (by rw[ht];rfl)
   rw[ht]at gs
   refine aGoS (cj4 hres ZaR hY (cj4 gs k0 s0 (cj4 gy ly n1 (cj4 n2 n3 k2 (cj2 es Yb0))))) ?_
   repeat with_reducible intro K hK
   with_reducible apply useE
   with_reducible assumption
   exact Zci [nx,nx+1,Y] (by simp[n1.symm,n2.symm]) [([],[]),([],[]),([1],[]),([],[]),([],[]),([1],[]),([2],[]),([2],[]),([0],[]),([],[]),([],[]),([],[]),([],[]),([2],[]),([2,2],[2])] rfl rfl (by kernel_rfl)
   exact Zay rfl
   refine aGoM (cj3 hres n1 n2) ?_
   exact fun id g1 g2=>by repeat(rw[if_neg (by omega)])
 | false =>
   have k1:=ZhM p (by omega)
   have k2:=ZgD (y (src k).1) (-p) (by omega) (by omega)
   have es:=Zhw src y k p M (q:= -p) (by rw[ht];rfl)
   rw[ht]at gs
   refine aGoS (cj4 hres ZaR hY (cj4 gs k0 s0 (cj4 gy ly n1 (cj4 n2 n3 k2 (cj4 es k1 n4 Yb0))))) ?_
   repeat with_reducible intro K hK
   with_reducible apply useE
   with_reducible assumption
   exact Zci [nx,nx+1,Y] (by simp[n1.symm,n2.symm]) [([],[]),([],[]),([1],[]),([],[]),([],[]),([1],[]),([2],[]),([2],[]),([0],[]),([],[]),([],[]),([],[]),([],[]),([2],[]),([2,2],[2])] rfl rfl (by kernel_rfl)
   exact Zay rfl
   refine aGoM (cj3 hres n1 n2) ?_
   exact fun id g1 g2=>by repeat(rw[if_neg (by omega)])
theorem Zx6[Ifl](d:Dic)(src:Nat→Nat×Bool)(M Y k:Nat)(y:Nat→Rat)(p:Rat)(m:Mem)(nx:Nat)(hk:k<d.m)(hM:(src k).1<M)(hY:m Y=some (fB0 M y))(hl:Y<nx)(zy:(szQ (y (src k).1):Int)≤549755813888)(zp:(szQ p:Int)≤4294967296) :
 EffC Tryz.prog 189 [ZcH d src,.ls Y 0,dI k,encF (ofQ p)] m nx ⟨oneD [],[Y],[(Y,fB0 M (Zcy src y k p))],false⟩ nx :=
 EffC.of ⟨_,_,Tryz.func189,rfl,by kernel_rfl⟩ (fun q hq=>by simp only[List.mem_singleton]at hq;subst hq;exact⟨by simp,hl⟩) fun m1 NX hN ht =>
  ZaN.kept ((ht Y (by simp)).trans hY) rfl (ZAN M _) (Zx7 d src M Y k y p m1 NX hk hM ((ht Y (by simp)).trans hY) zy zp)
theorem Zwj(d:Dic)(src:Nat→Nat×Bool)(M:Nat)(hm:(d.m:Int)≤4096)(hn:(d.n:Int)≤1500)(hMl:(M:Int)≤4096)(hfree:∀ j,j<d.n→d.free j<d.n+d.m)(hsrc:∀ i,i<d.m→(src i).1<M)(zg:∀ j,j<d.n→szQ (d.g j)≤268435456) :
 Zaa Tryz.prog 141 [ZcH d src,dI M] (.cl (ratL M (Zbk d src d.n))):=by
 refine Zaa.ofCl (fun I=>?_)
 have hres:=Tryz.results141
 refine inA Tryz.func141 rfl Tryz.ntmps141 ?_
 refine aGoM (cj2 hres ZaR) ?_
 repeat with_reducible intro K hK
 refine ZaT (ZaN.made (ZAN M _) (Zyz M _ _ hMl)) ?_
 rintro _ _ _ ⟨rfl,rfl,rfl⟩
 have lf:=Zc2 d.n fun j=>[dI (d.free j)]
 refine aGoM (cj3 hres ZaR lf) ?_
 repeat with_reducible intro K hK
 refine ZcW (fun(i:Nat)=>[(0,ZcH d src),(5,.ls 0 0),(13,.sl (tabL d.n fun j=>[dI (d.free j)])),(14,dI d.n),(15,dI i)]) 0
  (fun i m1 nx1=>i≤d.n∧0<nx1∧m1 0=some (fB0 M (Zbk d src i))) (fun i=>d.n-i) 0 ?_ ?_ ?_ ?_
 ·exact⟨Yb0 _,Nat.zero_lt_one,by dsimp only;rw[Zae];try rfl⟩
 ·rfl
 ·simp[go_sem]
 ·rintro i m1 nx1 ⟨hi,hnx,eX⟩
  obtain⟨hw,i0⟩:=ZaM i
  by_cases h1:(i:Int)<d.n
  ·have hin:i<d.n:=by omega
   have gf:=Zbu (fun j=>[dI (d.free j)]) hin
   have fl:=hfree i hin
   by_cases h2:(d.n:Int)≤d.free i
   ·have gg:=Za9 d.g hin
    have zi:=zg i hin
    have k1:=ZhM (d.g i) (by omega)
    have hs:IntKind.i64.wrap ((d.free i:Int)-d.n)=((d.free i-d.n:Nat):Int):=(ZaD (by omega) (by omega)).trans (by omega)
    refine aGoM (cj4 hres ZaR eX (cj4 h1 hw i0 (cj4 gf h2 gg (cj3 k1 hs Yb0)))) ?_
    repeat with_reducible intro K hK
    have zy:=ZiI d src zg i hi (src (d.free i-d.n)).1
    have hmul:i*(268435456+1)≤1500*(268435456+1):=Nat.mul_le_mul_right _ (by omega)
    refine Zdq (Zx6 d src M 0 (d.free i-d.n) (Zbk d src i) (-d.g i) _ _ (by omega) (hsrc _ (by omega)) eX hnx (by have:=Int.ofNat_le.2 (Nat.le_trans zy (Nat.add_le_add_left hmul 1));omega) (by rw[Zde];omega)) ?_
    refine aGoM (cj3 hres ZaR hw) ?_
    repeat with_reducible intro K hK
    refine Zas (i+1) ⟨by omega,by show 0<nx1;omega,?_⟩ (by omega) rfl (by simp[go_sem])
    dsimp only
    rw[Zae]
    simp only[Zbk]
    rw[if_pos (by omega)]
   ·refine aGoM (cj4 hres ZaR eX (cj4 h1 hw i0 (cj2 gf h2))) ?_
    repeat with_reducible intro K hK
    refine Zas (i+1) ⟨by omega,by show 0<nx1;omega,?_⟩ (by omega) rfl (by simp[go_sem])
    simp only[Zbk]
    rw[if_neg (by omega)];exact eX
  ·obtain rfl:i=d.n:=by omega
   refine aGoM (cj4 hres ZaR eX h1) ?_
   repeat with_reducible intro K hK
   exact⟨53,4,_,rfl,Zi1 _ _ _ _ _⟩
section
variable {β:Bet} {m:Mem} {S S':Nat→Nat→Prop} {w:World}
mutual
theorem rep0(hs:Zaz S w S' w):∀ (d:D)(x:Value),okD (fun _=>false) d=true→Rep β m S w x d→Rep noB noM S' w x d
 | .v y,x,_,h=>by rw[h.inv_v];exact .v _
 | .nil,x,_,h=>by rw[h.inv_nil];exact .nil
 | .agg l,x,ho,h=>by
   obtain⟨vs,rfl,h1,h2⟩:=h.inv_agg
   exact(Zy3 hs l vs (by simpa[okD]using ho) ⟨h1,h2⟩).rep_agg
 | .tup l,x,ho,h=>by
   obtain⟨vs,rfl,h1,h2⟩:=h.inv_tup
   exact(Zy3 hs l vs (by simpa[okD]using ho) ⟨h1,h2⟩).rep_tup
 | .sl es,x,_,h=>h.sl_no.mono (MemLe.refl _ _ _) hs
 | .cl es,x,_,h=>by obtain⟨a,rfl,h1⟩:=h.inv_cl;exact .cl a es (h1.mono (MemLe.refl _ _ _) hs)
 | .ep es i o,x,_,h=>h.ep_no.mono (MemLe.refl _ _ _) hs
 | .ls id ver,x,ho,h=>by cases ho
 | .lp id ver i o,x,ho,h=>by cases ho
 | .clo f l,x,ho,h=>by
   obtain⟨vs,rfl,h1,h2⟩:=h.inv_clo
   have:=Zy3 hs l vs (by simpa[okD]using ho) ⟨h1,h2⟩
   exact .clo f vs l this.1 this.2
 | .junk,x,_,_=>.junk _
theorem Zy3(hs:Zaz S w S' w):∀ (l:List D)(vs:List Value),okDs (fun _=>false) l=true→Reps β m S w vs l→Reps noB noM S' w vs l
 | [],vs,_,h=>by
   obtain rfl:vs=[]:=Ya9 h.1
   exact Reps.nil
 | d ::l,vs,ho,h=>by
   simp only[okDs,Ya2]at ho
   match vs,h with
   | [],h=>exact absurd h.1 (by simp)
   | v ::vs,h =>
     exact Reps.cons (rep0 hs d v ho.1 (h.2 0 v d rfl rfl)) (Zy3 hs l vs ho.2 ⟨by simpa using h.1,fun i y e hy he=>h.2 (i+1) y e (by simpa using hy) (by simpa using he)⟩)
end
end
theorem Zaf.ofOk{P:Program}{f:FuncId}{ds:List D}{d:D}(ho:okD (fun _=>false) d=true)(h:@ZaN Ifl.on P f ds noM 0 fun d' _ _=>d'=d):Zaf P f ds d:=by
 refine⟨h.1,fun S w vs hf hi' hvs=>?_⟩
 have hi:Ifl.i=true→Zf7 S w:=fun _=>hi'
 have hE:MemOk ⟨S,w,hf,hi⟩ noB noM 0 w:=⟨Below.refl _ _,(fun _ _ h=>by cases h),(fun _ _ h=>by cases h),(fun _ _ h=>by cases h),(fun _ _ h=>by cases h),(fun _ _ _ h=>by cases h),(fun _ _ _ _ _ h=>by cases h)⟩
 have hs:Zaz S w (safe ⟨S,w,hf,hi⟩ noB noM) w:=fun b o u h1 h2=>⟨⟨h1,fun _ _ h=>by cases h⟩,h2⟩
 refine(h.2 ⟨S,w,hf,hi⟩ noB w vs hE (hvs.mono (MemLe.refl _ _ _) hs)).mono ?_
 rintro e w' ⟨v,d',m',nx',rfl,⟨β',h1,h2,h3,h4⟩,rfl⟩
 exact⟨v,rfl,h1.below,rep0 (fun b o u h5 h6=>⟨h5.1,h6⟩) _ _ ho h4⟩
theorem Zuv{s:SysD}{goal:List TermD}(hk:(ZaH s goal).k=0):next (fin s goal) = .best:=by
 unfold ZaH at hk
 cases hn:next (fin s goal)with
 | ex r c=>exact absurd hn (ZfA s goal r c)
 | best=>rfl
 | row r=>rw[hn]at hk;exact absurd hk (show ¬ (1:Int)=0 by decide)
 | col c =>
   rw[hn]at hk
   simp only at hk
   split at hk<;>first|exact absurd hk (show ¬ (1:Int)=0 by decide)|exact absurd hk (show ¬ (2:Int)=0 by decide)
theorem Zz4(n:Nat)(c:Nat→Rat):D.cl (ratL n c) = .cl ((Zaj n c).map cF):=by rw[Zs4]
abbrev encOC(o:OptD):D:=.agg [dI 0,dI o.v.p.s,Zab o.v.p.d,dI o.v.q.s,Zab o.v.q.d,ZaQ o.x,.cl (o.y.map cF),.nil]
theorem ZzM(s:SysD)(goal:List TermD){B T:Nat}(h:Fit s goal B T)(hr:Zax s=true)(hg:Zah goal s.n=true)(hk:(ZaH s goal).k=0):Zaf Tryz.prog 87 [encS s,Zbh goal] (.tup [encOC (ZaH s goal),dI 0]):=by
 refine Zaf.ofOk rfl ?_
 obtain⟨O,hd⟩:∃ O,ZaH s goal=O:=⟨_,rfl⟩
 rw[hd]
 have hG:=h.gl
 have hres:=Tryz.results87
 refine inA Tryz.func87 rfl Tryz.ntmps87 ?_
 have k1:=ZiT s h.tn.sm
 have k2:=Ze5 goal s.n h.gt.sm
 rw[hr]at k1
 rw[hg]at k2
 refine aGoM (cj2 hres ZaR) ?_
 repeat with_reducible intro K hK
 have hl1:=h.l
 have hn1:=h.n hr
 have hn0:=(Zb9 hr).1
 refine ZaT (Zwv s goal _ _ hr hg h.tn.sm h.gt.sm (by omega)) ?_
 rintro _ m1 nx1 ⟨I,rfl,hnx1,hD1,ap1,hlo1,hfr1⟩
 refine aGoM (cj2 hres ZaR) ?_
 repeat(first|(guard_target =~ ∀ _:St→Prop,_;intro KJ hJ)|(guard_target =~ ∀ _:List Ev→St→Prop,_;intro K hK))
 have dm:=ZnI s goal
 have dn:=ZdZ s goal
 have hsz:=ZfW h hr hg
 have ht:(Za1 s goal).1.n≤T∨(Za1 s goal).1.m≤T:=by rw[ZdZ,ZnJ];rcases h.t hr with h1|h1;exact .inl (by omega);exact .inr h1
 refine ZaT (Znt hD1 ap1 (Zbd s goal) (by omega) (by omega) h.b (by omega:(Dic.grow B T:Int)≤536870912) ht hsz) ?_
 rintro _ m2 nx2 ⟨rfl,hnx2,hD2,hfr2⟩
 have hen:=ZfA s goal
 have hD3:DicAt m2 I (fin s goal) (ZbE s goal):=hD2
 rw[show Zfz (Za1 s goal).1=fin s goal from rfl]
 have hM2:∀ id b,m0B s id=some b→m2 id=some b∧id<2∧¬ inD I (fin s goal).m id:=by
  intro id b hb
  have hid:id<2:=by rcases Zn3 hb with⟨rfl,_⟩|⟨rfl,_⟩<;>decide
  have hnin:¬ inD I (Za1 s goal).1.m id:=fun h=>by have:=hlo1 id h;omega
  refine⟨?_,hid,by rw[Zd2];exact hnin⟩
  rw[hfr2 id (by omega) hnin,hfr1 id hid];exact hb
 have tI0:(0:Int)≤s.r.length:=by omega
 have hn:=Zuv hk
 rw[hn]
 simp only[Zkd]
 simp only[go_sem,↓reduceIte,hres]
 refine hJ _ ?_
 refine aLe (ZeD hD3 6 rfl [(1,Zbh goal),(2,.lp 0 0 0 0),(4,.lp 1 0 0 0),(5,dI 0),(7,dI (-1)),(8,dI (-1))] (m0B s) 2 hM2 (Zq9 s) (by simp[go_sem,okD]) rfl) ?_
 have kp:=ZnD (fin s goal) (ZbE s goal) (by rw[Zd2];omega) (by rw[ZcO];omega)
 rw[ZcO,Zdl]at kp
 have sX:smFs (Zaj s.n.toNat (Za4 (fin s goal) (fin s goal).m)):=(ZfN (by omega) fun u=>by have:=Zhf h hr hg _ (Ya4 _) u;omega).sm
 have kv:=Zn8 goal _ h.gt.sm sX
 have kq:=Zwj (fin s goal) (ZbE s goal) s.r.length (by rw[Zd2];omega) (by rw[ZcO];omega) (by omega) (fun j hj=>(Zco s goal).free_lt j hj) (fun i hi=>ZgA s goal i (by rw[← Zd2];exact hi)) (fun j hj=>by have:=(ZcV h hr hg).g j hj;omega)
 rw[ZcO,Zz4]at kq
 have e3:s.n=((fin s goal).n:Int):=by rw[ZcO];omega
 have eL:ZaH s goal=⟨0,(ZbX goal (Zaj s.n.toNat (Za4 (fin s goal) (fin s goal).m))).1,Zaj s.n.toNat (Za4 (fin s goal) (fin s goal).m),Zaj s.r.length (Zbk (fin s goal) (ZbE s goal) s.n.toNat),[]⟩:=by
  unfold ZaH;rw[hn]
 rw[eL]at hd
 subst hd
 clear eL hk hn hen hD2 hD3 hfr2 hM2 hJ hK hsz ht
 generalize Zaj s.n.toNat (Za4 (fin s goal) (fin s goal).m)=X at *
 generalize Zaj s.r.length (Zbk (fin s goal) (ZbE s goal) s.n.toNat)=Y at *
 generalize fin s goal=F at *
 exact aGo (cj3 hres ZaR tI0) trivial
set_option maxHeartbeats 8000000
theorem Zmb(i n:Int):Zaa Tryz.prog 161 [dI i,dI n] (dB (idx i n)):=by
 have hres:=Tryz.results161
 refine inN Tryz.func161 rfl Tryz.ntmps161 fun I=>?_
 by_cases h1:i≥0
 ·refine aGo (cj2 hres h1) ?_
  repeat with_reducible intro K hK
  exact Zai (by simp[idx,h1])
 ·refine aGo (cj2 hres h1) ?_
  repeat with_reducible intro K hK
  exact Zai (by simp[idx,h1])
theorem Znh(n lo hi:Int):Zaa Tryz.prog 93 [dI n,dI lo,dI hi] (dB (decide (lo≤n)&&decide (n≤hi))):=by
 have hres:=Tryz.results93
 refine inN Tryz.func93 rfl Tryz.ntmps93 fun I=>?_
 by_cases h1:n≥lo
 ·exact aGo (cj2 hres h1) trivial
 ·exact aGo (cj2 hres h1) trivial
theorem ZEt(e:EvD):Zaa Tryz.prog 104 [Zio e] (dB (ZeU e)):=by
 refine⟨⟨_,_,Tryz.func104,rfl,by kernel_rfl⟩,fun S w vs hf hvs=>?_⟩
 obtain⟨v,rfl,h1⟩:=ZqH hvs
 obtain⟨us,rfl,hl,h2⟩:=h1.inv_agg
 obtain⟨a,b,c,d,f,g,i,j,rfl⟩:∃ a b c d f g i j,us=[a,b,c,d,f,g,i,j]:=by
  match us,hl with
  | [a,b,c,d,f,g,i,j],_=>exact⟨a,b,c,d,f,g,i,j,rfl⟩
 obtain rfl:=(h2 0 _ _ rfl rfl).inv_v
 obtain rfl:=(h2 1 _ _ rfl rfl).inv_v
 obtain rfl:=(h2 2 _ _ rfl rfl).inv_v
 obtain⟨a3,c3,rfl,-,-,-⟩:=(h2 3 _ _ rfl rfl).inv_sl
 obtain⟨a4,c4,rfl,-,-,-⟩:=(h2 4 _ _ rfl rfl).inv_sl
 obtain⟨a5,c5,rfl,-,-,-⟩:=(h2 5 _ _ rfl rfl).inv_sl
 obtain⟨a6,c6,rfl,-,-,-⟩:=(h2 6 _ _ rfl rfl).inv_sl
 obtain⟨a7,c7,rfl,-,-,-⟩:=(h2 7 _ _ rfl rfl).inv_sl
 simp only[List.length_map]
 go_enter Tryz.func104,Tryz.ntmps104
 go_wp2_with fail
 go_loopw [36] (fun i wr => ∃ k : Nat, k ≤ 8 ∧ i = I k ∧ (([(e.m, 6), (e.h, 100), (e.s, 30), ((e.pl.length : Int), 100), ((e.mv.length : Int), 200), ((e.ce.length : Int), 100), ((e.re.length : Int), 30), ((e.pu.length : Int), 200)] : List (Int × Int)).take k).any (fun c => decide (c.1 > c.2)) = false ∧
     wr.heap[w.heap.size+1]? =some (.cells #[I e.m,I 6,I e.h,I 100,I e.s,I 30,I e.pl.length,I 100,I e.mv.length,I 200,I e.ce.length,I 100,I e.re.length,I 30,I e.pu.length,I 200] 226)∧Below w.heap.size w wr) (fun i _=>8-(intOf i).toNat)
 case atStart =>
  refine⟨0,by omega,rfl,rfl,?_,((Below.refl _ _).alloc (Ya4 _) _).alloc (by simp) _⟩
  rw[← World.size_alloc w]
  exact World.alloc_heap_new _ _
 case round =>
  obtain⟨k,hk,rfl,hg,hB,hb⟩:=hrel
  have hc0:=Zcz hB (2*k)
  have hc1:=Zcz hB (2*k+1)
  rcases(by omega:k=0∨k=1∨k=2∨k=3∨k=4∨k=5∨k=6∨k=7∨k=8)with rfl|rfl|rfl|rfl|rfl|rfl|rfl|rfl|rfl
  case inr.inr.inr.inr.inr.inr.inr.inr =>
   have hfu:ZeU e=false:=by simp[ZeU]at hg ⊢;omega
   go_wp2_with fail
   rw[hfu]
   go_ret
   exact⟨_,rfl,hb,.v _⟩
  all_goals simp at hc0 hc1 hg
  ·by_cases hgt:e.m>6
   ·rw[show ZeU e=true by simp[ZeU];omega]
    go_wp2_with fail
    go_ret
    exact⟨_,rfl,hb.alloc hb.size _,.v _⟩
   ·go_wp2_with fail
    exact⟨⟨1,by omega,rfl,by simp;omega,(Below.heap_alloc _ _ _ (Ya5.1 hB).1).trans hB,hb.alloc hb.size _⟩,by simp[intOf]⟩
  ·by_cases hgt:e.h>100
   ·rw[show ZeU e=true by simp[ZeU];omega]
    go_wp2_with fail
    go_ret
    exact⟨_,rfl,hb.alloc hb.size _,.v _⟩
   ·go_wp2_with fail
    exact⟨⟨2,by omega,rfl,by simp;omega,(Below.heap_alloc _ _ _ (Ya5.1 hB).1).trans hB,hb.alloc hb.size _⟩,by simp[intOf]⟩
  ·by_cases hgt:e.s>30
   ·rw[show ZeU e=true by simp[ZeU];omega]
    go_wp2_with fail
    go_ret
    exact⟨_,rfl,hb.alloc hb.size _,.v _⟩
   ·go_wp2_with fail
    exact⟨⟨3,by omega,rfl,by simp;omega,(Below.heap_alloc _ _ _ (Ya5.1 hB).1).trans hB,hb.alloc hb.size _⟩,by simp[intOf]⟩
  ·by_cases hgt:(e.pl.length:Int)>100
   ·rw[show ZeU e=true by simp[ZeU];omega]
    go_wp2_with fail
    go_ret
    exact⟨_,rfl,hb.alloc hb.size _,.v _⟩
   ·go_wp2_with fail
    exact⟨⟨4,by omega,rfl,by simp;omega,(Below.heap_alloc _ _ _ (Ya5.1 hB).1).trans hB,hb.alloc hb.size _⟩,by simp[intOf]⟩
  ·by_cases hgt:(e.mv.length:Int)>200
   ·rw[show ZeU e=true by simp[ZeU];omega]
    go_wp2_with fail
    go_ret
    exact⟨_,rfl,hb.alloc hb.size _,.v _⟩
   ·go_wp2_with fail
    exact⟨⟨5,by omega,rfl,by simp;omega,(Below.heap_alloc _ _ _ (Ya5.1 hB).1).trans hB,hb.alloc hb.size _⟩,by simp[intOf]⟩
  ·by_cases hgt:(e.ce.length:Int)>100
   ·rw[show ZeU e=true by simp[ZeU];omega]
    go_wp2_with fail
    go_ret
    exact⟨_,rfl,hb.alloc hb.size _,.v _⟩
   ·go_wp2_with fail
    exact⟨⟨6,by omega,rfl,by simp;omega,(Below.heap_alloc _ _ _ (Ya5.1 hB).1).trans hB,hb.alloc hb.size _⟩,by simp[intOf]⟩
  ·by_cases hgt:(e.re.length:Int)>30
   ·rw[show ZeU e=true by simp[ZeU];omega]
    go_wp2_with fail
    go_ret
    exact⟨_,rfl,hb.alloc hb.size _,.v _⟩
   ·go_wp2_with fail
    exact⟨⟨7,by omega,rfl,by simp;omega,(Below.heap_alloc _ _ _ (Ya5.1 hB).1).trans hB,hb.alloc hb.size _⟩,by simp[intOf]⟩
  ·by_cases hgt:(e.pu.length:Int)>200
   ·rw[show ZeU e=true by simp[ZeU];omega]
    go_wp2_with fail
    go_ret
    exact⟨_,rfl,hb.alloc hb.size _,.v _⟩
   ·go_wp2_with fail
    exact⟨⟨8,by omega,rfl,by simp;omega,(Below.heap_alloc _ _ _ (Ya5.1 hB).1).trans hB,hb.alloc hb.size _⟩,by simp[intOf]⟩
theorem Zzc(e:EvD)(hl:(e.pl.length:Int)≤1099511627776):Zaa Tryz.prog 105 [Zio e] (dB (e.pl.all (okPl e.h e.m))):=by
 have hres:=Tryz.results105
 refine inN Tryz.func105 rfl Tryz.ntmps105 fun I=>?_
 refine aGo hres ?_
 repeat with_reducible intro K hK
 refine Zat (fun(k:Nat)=>[(1,.lp 0 0 0 0),(6,Zkc e.pl),(7,dI e.pl.length),(8,dI k)]) (fun _=>[(0,⟨28,0,8,[cEv e],0,false⟩)]) 1 0 (fun k=>k≤e.pl.length∧(e.pl.take k).all (okPl e.h e.m)=true) (fun k=>e.pl.length-k) 0 ⟨by omega,rfl⟩ ?_ ?_
 ·exact leGo trivial
 rintro k ⟨hk,hg⟩
 obtain⟨hw,h0⟩:=ZaM k
 by_cases h1:(k:Int)<e.pl.length
 rotate_left
 ·refine aGo (cj2 hres h1) ?_
  repeat with_reducible intro K hK
  rw[Ya8 (by omega)]at hg
  exact Zai hg.symm
 obtain⟨p,hx⟩:∃ p,e.pl[k]? =some p:=⟨_,Ya0 (by omega)⟩
 have bad:okPl e.h e.m p=false→D.v (.bool false)=dB (e.pl.all (okPl e.h e.m)):=fun h=>Zai (ZdH hx h).symm
 have fine:okPl e.h e.m p=true→k+1≤e.pl.length∧(e.pl.take (k+1)).all (okPl e.h e.m)=true:=fun h=>⟨by omega,ZaP hx hg h⟩
 have k1:=Zmb p.k 7
 have k2:=Zmb p.h e.h
 have k3:=Zmb p.m e.m
 cases h2:idx p.k 7
 ·rw[h2]at k1
  refine aGo (cj4 hres h0 h1 (cj2 hx hw)) ?_
  repeat with_reducible intro K hK
  exact bad (by simp[okPl,h2])
 rw[h2]at k1
 cases h3:(p.k==0)
 ·have h3':¬ p.k=0:=by simpa using h3
  cases h4:(p.h != -1)
  rotate_left
  ·refine aGo (cj4 hres h0 h1 (cj4 hx hw h3 h4)) ?_
   repeat with_reducible intro K hK
   exact bad (by simp at h4;simp[okPl,h2,h3',h4])
  cases h5:(p.m != -1)
  rotate_left
  ·refine aGo (cj4 hres h0 h1 (cj4 hx hw h3 (cj2 h4 h5))) ?_
   repeat with_reducible intro K hK
   exact bad (by simp at h5;simp[okPl,h2,h3',h5])
  refine aGo (cj4 hres h0 h1 (cj4 hx hw h3 (cj2 h4 h5))) ?_
  repeat with_reducible intro K hK
  exact Zac (k+1) (fine (by simp at h4 h5;simp[okPl,h2,h3',h4,h5])) (by omega) (by exact leGo trivial)
 ·have h3':p.k=0:=by simpa using h3
  cases h4:idx p.h e.h
  ·rw[h4]at k2
   refine aGo (cj4 hres h0 h1 (cj3 hx hw h3)) ?_
   repeat with_reducible intro K hK
   exact bad (by simp[okPl,h2,h3',h4])
  rw[h4]at k2
  cases h5:idx p.m e.m
  ·rw[h5]at k3
   refine aGo (cj4 hres h0 h1 (cj3 hx hw h3)) ?_
   repeat with_reducible intro K hK
   exact bad (by simp[okPl,h2,h3',h4,h5])
  rw[h5]at k3
  refine aGo (cj4 hres h0 h1 (cj3 hx hw h3)) ?_
  repeat with_reducible intro K hK
  exact Zac (k+1) (fine (by simp[okPl,h3',h4,h5];rfl)) (by omega) (by exact leGo trivial)
theorem ZjK{e:EvD}{f:Int}{p:PlD}(h:e.pl[f.toNat]? =some p):Zct e f=p.k:=by unfold Zct;rw[h];rfl
theorem Zxh{i n:Int}:idx i n=true↔0≤i∧i<n:=by simp[idx]
theorem ZEg(e:EvD)(x:MvD):Zaa Tryz.prog 106 [Zio e,.agg (cMv x)] (dB (okMv e x)):=by
 have hres:=Tryz.results106
 refine inN Tryz.func106 rfl Tryz.ntmps106 fun I=>?_
 have k1:=Zmb x.f e.pl.length
 have k2:=Zmb x.t e.pl.length
 have k3:=Zmb x.s e.s
 have k4:=Znh x.r 0 1099511627776
 cases h1:idx x.f e.pl.length
 ·rw[h1]at k1
  refine aGo hres ?_
  repeat with_reducible intro K hK
  exact Zai (by simp[okMv,h1])
 rw[h1]at k1
 cases h2:idx x.t e.pl.length
 ·rw[h2]at k2
  refine aGo hres ?_
  repeat with_reducible intro K hK
  exact Zai (by simp[okMv,h2])
 rw[h2]at k2
 cases h3:(x.f==x.t)
 rotate_left
 ·refine aGo (cj2 hres h3) ?_
  repeat with_reducible intro K hK
  exact Zai (by simp at h3;simp[okMv,h3])
 obtain⟨f0,f1⟩:=Zxh.1 h1
 obtain⟨t0,t1⟩:=Zxh.1 h2
 obtain⟨p,hp⟩:∃ p,e.pl[x.f.toNat]? =some p:=⟨_,Ya0 (by omega)⟩
 obtain⟨q,hq⟩:∃ p,e.pl[x.t.toNat]? =some p:=⟨_,Ya0 (by omega)⟩
 have ep:=ZjK hp
 have eq:=ZjK hq
 have hne:x.f≠x.t:=by simpa using h3
 have e0:okMv e x=(!(p.k==5)&&(!(p.k==6)&&(!(p.k==0&&x.a)&&(!(q.k==0)&&(if x.s = -1 then x.r==0 else idx x.s e.s&&(decide (0≤x.r)&&decide (x.r≤1099511627776))))))):=by
  unfold okMv
  rw[h1,h2,ep,eq,bne_iff_ne.2 hne];simp
 rw[e0]
 clear e0 ep eq
 cases h4:(p.k==5)
 rotate_left
 ·exact aGo (cj4 hres h3 hp (cj2 f0 h4)) trivial
 cases h5:(p.k==6)
 rotate_left
 ·exact aGo (cj4 hres h3 hp (cj3 f0 h4 h5)) trivial
 cases h6:(p.k==0)
 ·cases h8:(q.k==0)
  rotate_left
  ·exact aGo (cj4 hres h3 hp (cj4 hq f0 t0 (cj4 h4 h5 h6 h8))) trivial
  cases h9:(x.s == -1)
  ·have h9':¬ x.s = -1:=by simpa using h9
   cases h10:idx x.s e.s
   ·rw[h10]at k3
    refine aGo (cj4 hres h3 hp (cj4 hq f0 t0 (cj4 h4 h5 h6 (cj2 h8 h9)))) ?_
    repeat with_reducible intro K hK
    exact Zai (by simp[h9'])
   ·rw[h10]at k3
    refine aGo (cj4 hres h3 hp (cj4 hq f0 t0 (cj4 h4 h5 h6 (cj2 h8 h9)))) ?_
    repeat with_reducible intro K hK
    exact Zai (by simp[h9'])
  ·have h9':x.s = -1:=by simpa using h9
   refine aGo (cj4 hres h3 hp (cj4 hq f0 t0 (cj4 h4 h5 h6 (cj2 h8 h9)))) ?_
   repeat with_reducible intro K hK
   exact Zai (by simp[h9'])
 ·cases h7:x.a
  rotate_left
  ·exact aGo (cj4 hres h3 hp (cj4 hq f0 t0 (cj4 h4 h5 h6 h7))) trivial
  cases h8:(q.k==0)
  rotate_left
  ·exact aGo (cj4 hres h3 hp (cj4 hq f0 t0 (cj4 h4 h5 h6 (cj2 h7 h8)))) trivial
  cases h9:(x.s == -1)
  ·have h9':¬ x.s = -1:=by simpa using h9
   cases h10:idx x.s e.s
   ·rw[h10]at k3
    refine aGo (cj4 hres h3 hp (cj4 hq f0 t0 (cj4 h4 h5 h6 (cj3 h7 h8 h9)))) ?_
    repeat with_reducible intro K hK
    exact Zai (by simp[h9'])
   ·rw[h10]at k3
    refine aGo (cj4 hres h3 hp (cj4 hq f0 t0 (cj4 h4 h5 h6 (cj3 h7 h8 h9)))) ?_
    repeat with_reducible intro K hK
    exact Zai (by simp[h9'])
  ·have h9':x.s = -1:=by simpa using h9
   refine aGo (cj4 hres h3 hp (cj4 hq f0 t0 (cj4 h4 h5 h6 (cj3 h7 h8 h9)))) ?_
   repeat with_reducible intro K hK
   exact Zai (by simp[h9'])
theorem ZDP(e:EvD)(hl1:(e.ce.length:Int)≤1099511627776)(hl2:(e.re.length:Int)≤1099511627776)(hl3:(e.pu.length:Int)≤1099511627776):Zaa Tryz.prog 107 [Zio e] (dB (ZhZ e)):=by
 have hres:=Tryz.results107
 have bad1:e.ce.all (okCe e.s)=false→D.v (.bool false)=dB (ZhZ e):=fun h=>Zai (by unfold ZhZ;rw[h];rfl)
 have bad2:e.re.all (okRe e.s)=false→D.v (.bool false)=dB (ZhZ e):=fun h=>Zai (by unfold ZhZ;rw[h];simp)
 have bad3:e.pu.all (okPu e.mv.length e.m)=false→D.v (.bool false)=dB (ZhZ e):=fun h=>Zai (by unfold ZhZ;rw[h];simp)
 have fine:e.ce.all (okCe e.s)=true→e.re.all (okRe e.s)=true→e.pu.all (okPu e.mv.length e.m)=true→D.v (.bool true)=dB (ZhZ e):=fun a b c=>Zai (by unfold ZhZ;rw[a,b,c];rfl)
 generalize ZhZ e=out at *
 refine inN Tryz.func107 rfl Tryz.ntmps107 fun I=>?_
 refine aGo hres ?_
 repeat with_reducible intro K hK
 refine Zat (fun(k:Nat)=>[(1,.lp 0 0 0 0),(11,Zmc e.ce),(12,dI e.ce.length),(13,dI k)]) (fun _=>[(0,⟨28,0,8,[cEv e],0,false⟩)]) 1 0 (fun k=>k≤e.ce.length∧(e.ce.take k).all (okCe e.s)=true) (fun k=>e.ce.length-k) 0 ⟨by omega,rfl⟩ ?_ ?_
 ·exact leGo trivial
 rintro k ⟨hk,hg⟩
 obtain⟨hw,h0⟩:=ZaM k
 by_cases h1:(k:Int)<e.ce.length
 ·obtain⟨c,hx⟩:∃ p,e.ce[k]? =some p:=⟨_,Ya0 (by omega)⟩
  have bad:okCe e.s c=false→D.v (.bool false)=dB out:=fun h=>bad1 (ZdH hx h)
  have k1:=Zmb c.s e.s
  have k2:=Znh c.g 0 1099511627776
  have k3:=Znh c.p 0 1000
  have k4:=Znh c.d 0 10000000
  have ed:okCe e.s c=((decide (0≤c.f)&&(decide (c.f≤c.u)&&decide (c.u≤100000)))&&(idx c.s e.s&&((decide (0≤c.g)&&decide (c.g≤1099511627776))&&((decide (0≤c.p)&&decide (c.p≤1000))&&(decide (0≤c.d)&&decide (c.d≤10000000)))))):=rfl
  by_cases d1:c.f≥0
  rotate_left
  ·refine aGo (cj4 hres h0 h1 (cj3 hx hw d1)) ?_
   repeat with_reducible intro K hK
   exact bad (by rw[ed,decide_eq_false (by omega:¬ 0≤c.f)];rfl)
  by_cases d2:c.f≤c.u
  rotate_left
  ·refine aGo (cj4 hres h0 h1 (cj4 hx hw d1 d2)) ?_
   repeat with_reducible intro K hK
   exact bad (by rw[ed,decide_eq_false d2];simp)
  by_cases d3:c.u≤100000
  rotate_left
  ·refine aGo (cj4 hres h0 h1 (cj4 hx hw d1 (cj2 d2 d3))) ?_
   repeat with_reducible intro K hK
   exact bad (by rw[ed,decide_eq_false d3];simp)
  rw[decide_eq_true (by omega:0≤c.f),decide_eq_true d2,decide_eq_true d3]at ed
  cases h2:idx c.s e.s
  ·rw[h2]at k1
   refine aGo (cj4 hres h0 h1 (cj4 hx hw d1 (cj2 d2 d3))) ?_
   repeat with_reducible intro K hK
   exact bad (by rw[ed,h2];rfl)
  rw[h2]at k1 ed
  generalize (decide (0≤c.g)&&decide (c.g≤1099511627776))=b1 at k2 ed
  generalize (decide (0≤c.p)&&decide (c.p≤1000))=b2 at k3 ed
  generalize (decide (0≤c.d)&&decide (c.d≤10000000))=b3 at k4 ed
  cases b1
  ·refine aGo (cj4 hres h0 h1 (cj4 hx hw d1 (cj2 d2 d3))) ?_
   repeat with_reducible intro K hK
   exact bad ed
  cases b2
  ·refine aGo (cj4 hres h0 h1 (cj4 hx hw d1 (cj2 d2 d3))) ?_
   repeat with_reducible intro K hK
   exact bad ed
  cases b3
  ·refine aGo (cj4 hres h0 h1 (cj4 hx hw d1 (cj2 d2 d3))) ?_
   repeat with_reducible intro K hK
   exact bad ed
  refine aGo (cj4 hres h0 h1 (cj4 hx hw d1 (cj2 d2 d3))) ?_
  repeat with_reducible intro K hK
  exact Zac (k+1) ⟨by omega,ZaP hx hg ed⟩ (by omega) (by exact leGo trivial)
 rw[Ya8 (by omega)]at hg
 refine aGo (cj2 hres h1) ?_
 repeat with_reducible intro K hK
 clear h1 h0 hw
 refine Zat (fun(k:Nat)=>[(1,.lp 0 0 0 0),(62,ZgO e.re),(63,dI e.re.length),(64,dI k)]) (fun _=>[(0,⟨28,0,8,[cEv e],0,false⟩)]) 1 0 (fun k=>k≤e.re.length∧(e.re.take k).all (okRe e.s)=true) (fun k=>e.re.length-k) 0 ⟨by omega,rfl⟩ ?_ ?_
 ·exact leGo trivial
 rintro k ⟨hk,hg2⟩
 obtain⟨hw,h0⟩:=ZaM k
 by_cases h1:(k:Int)<e.re.length
 ·obtain⟨c,hx⟩:∃ p,e.re[k]? =some p:=⟨_,Ya0 (by omega)⟩
  have bad:okRe e.s c=false→D.v (.bool false)=dB out:=fun h=>bad2 (ZdH hx h)
  have k1:=Zmb c.s e.s
  have k2:=Znh c.d 0 100000
  have ed:okRe e.s c=(idx c.s e.s&&(decide (0≤c.d)&&decide (c.d≤100000))):=rfl
  generalize idx c.s e.s=b0 at k1 ed
  generalize (decide (0≤c.d)&&decide (c.d≤100000))=b1 at k2 ed
  cases b0
  ·refine aGo (cj4 hres h0 h1 (cj2 hx hw)) ?_
   repeat with_reducible intro K hK
   exact bad ed
  cases b1
  ·refine aGo (cj4 hres h0 h1 (cj2 hx hw)) ?_
   repeat with_reducible intro K hK
   exact bad ed
  refine aGo (cj4 hres h0 h1 (cj2 hx hw)) ?_
  repeat with_reducible intro K hK
  exact Zac (k+1) ⟨by omega,ZaP hx hg2 ed⟩ (by omega) (by exact leGo trivial)
 rw[Ya8 (by omega)]at hg2
 refine aGo (cj2 hres h1) ?_
 repeat with_reducible intro K hK
 clear h1 h0 hw
 refine Zat (fun(k:Nat)=>[(1,.lp 0 0 0 0),(82,Zna e.pu),(83,dI e.pu.length),(84,dI k)]) (fun _=>[(0,⟨28,0,8,[cEv e],0,false⟩)]) 1 0 (fun k=>k≤e.pu.length∧(e.pu.take k).all (okPu e.mv.length e.m)=true) (fun k=>e.pu.length-k) 0 ⟨by omega,rfl⟩ ?_ ?_
 ·exact leGo trivial
 rintro k ⟨hk,hg3⟩
 obtain⟨hw,h0⟩:=ZaM k
 by_cases h1:(k:Int)<e.pu.length
 ·obtain⟨c,hx⟩:∃ p,e.pu[k]? =some p:=⟨_,Ya0 (by omega)⟩
  have bad:okPu e.mv.length e.m c=false→D.v (.bool false)=dB out:=fun h=>bad3 (ZdH hx h)
  have k1:=Zmb c.v e.mv.length
  have k2:=Zmb c.m e.m
  have ed:okPu e.mv.length e.m c=(idx c.v e.mv.length&&(idx c.m e.m&&(decide (0≤c.lo)&&(decide (c.lo≤c.hi)&&decide (c.hi≤1000))))):=rfl
  generalize idx c.v e.mv.length=b0 at k1 ed
  generalize idx c.m e.m=b1 at k2 ed
  cases b0
  ·refine aGo (cj4 hres h0 h1 (cj2 hx hw)) ?_
   repeat with_reducible intro K hK
   exact bad ed
  cases b1
  ·refine aGo (cj4 hres h0 h1 (cj2 hx hw)) ?_
   repeat with_reducible intro K hK
   exact bad ed
  by_cases d1:c.lo<0
  ·refine aGo (cj4 hres h0 h1 (cj3 hx hw d1)) ?_
   repeat with_reducible intro K hK
   exact bad (by rw[ed,decide_eq_false (by omega:¬ 0≤c.lo)];rfl)
  by_cases d2:c.hi<c.lo
  ·refine aGo (cj4 hres h0 h1 (cj4 hx hw d1 d2)) ?_
   repeat with_reducible intro K hK
   exact bad (by rw[ed,decide_eq_false (by omega:¬ c.lo≤c.hi)];simp)
  by_cases d3:c.hi>1000
  ·refine aGo (cj4 hres h0 h1 (cj4 hx hw d1 (cj2 d2 d3))) ?_
   repeat with_reducible intro K hK
   exact bad (by rw[ed,decide_eq_false (by omega:¬ c.hi≤1000)];simp)
  refine aGo (cj4 hres h0 h1 (cj4 hx hw d1 (cj2 d2 d3))) ?_
  repeat with_reducible intro K hK
  exact Zac (k+1) ⟨by omega,ZaP hx hg3 (by rw[ed,decide_eq_true (by omega:0≤c.lo),decide_eq_true (by omega:c.lo≤c.hi),decide_eq_true (by omega:c.hi≤1000)];rfl)⟩ (by omega) (by exact leGo trivial)
 rw[Ya8 (by omega)]at hg3
 refine aGo (cj2 hres h1) ?_
 repeat with_reducible intro K hK
 exact fine hg hg2 hg3
structure LenE (e:EvD):Prop where
 pl:(e.pl.length:Int)≤1099511627776
 mv:(e.mv.length:Int)≤1099511627776
 ce:(e.ce.length:Int)≤1099511627776
 re:(e.re.length:Int)≤1099511627776
 pu:(e.pu.length:Int)≤1099511627776
theorem ZA2(e:EvD)(L:LenE e):Zaa Tryz.prog 52 [Zio e] (dI (Zgg e)):=by
 have hres:=Tryz.results52
 have k1:=ZEt e
 have k2:=Zzc e L.pl
 have k3:=ZDP e L.ce L.re L.pu
 obtain⟨-,hmv,-,-,-⟩:=L
 unfold Zgg
 cases h1:ZeU e
 rotate_left
 ·rw[h1]at k1
  refine inN Tryz.func52 rfl Tryz.ntmps52 fun I=>?_
  exact aGo hres trivial
 rw[h1]at k1
 rw[if_neg Bool.false_ne_true]
 have ea:argE e=(decide (1≤e.m)&&(decide (0≤e.h)&&(decide (0≤e.s)&&e.pl.all (okPl e.h e.m)))):=rfl
 have no:argE e=false→D.v (.int .i64 1)=dI (if argE e=true then(if Zd7 e 0 e.mv=0 then(if ZhZ e=true then 0 else 1)else Zd7 e 0 e.mv)else 1):=fun h=>by rw[h];rfl
 by_cases h2:e.m<1
 ·refine inN Tryz.func52 rfl Tryz.ntmps52 fun I=>?_
  refine aGo (cj2 hres h2) ?_
  repeat with_reducible intro K hK
  exact no (by rw[ea,decide_eq_false (by omega:¬ 1≤e.m)];rfl)
 by_cases h3:e.h<0
 ·refine inN Tryz.func52 rfl Tryz.ntmps52 fun I=>?_
  refine aGo (cj3 hres h2 h3) ?_
  repeat with_reducible intro K hK
  exact no (by rw[ea,decide_eq_false (by omega:¬ 0≤e.h)];simp)
 by_cases h4:e.s<0
 ·refine inN Tryz.func52 rfl Tryz.ntmps52 fun I=>?_
  refine aGo (cj4 hres h2 h3 h4) ?_
  repeat with_reducible intro K hK
  exact no (by rw[ea,decide_eq_false (by omega:¬ 0≤e.s)];simp)
 cases h5:e.pl.all (okPl e.h e.m)
 ·rw[h5]at k2
  refine inN Tryz.func52 rfl Tryz.ntmps52 fun I=>?_
  refine aGo (cj4 hres h2 h3 h4) ?_
  repeat with_reducible intro K hK
  exact no (by rw[ea,h5];simp)
 rw[h5]at k2
 rw[show argE e=true by rw[ea,h5,decide_eq_true (by omega:1≤e.m),decide_eq_true (by omega:0≤e.h),decide_eq_true (by omega:0≤e.s)];rfl,if_pos rfl]
 clear no ea
 generalize ho:(if Zd7 e 0 e.mv=0 then(if ZhZ e=true then(0:Int)else 1)else Zd7 e 0 e.mv)=out
 refine inN Tryz.func52 rfl Tryz.ntmps52 fun I=>?_
 refine aGo (cj4 hres h2 h3 h4) ?_
 repeat with_reducible intro K hK
 clear h2 h3 h4
 refine Zat (fun(x:Nat×Int)=>[(1,.lp 0 0 0 0),(3,dI x.2),(29,ZhR e.mv),(30,dI e.mv.length),(31,dI x.1)]) (fun _=>[(0,⟨28,0,8,[cEv e],0,false⟩)]) 1 0 (fun x=>x.1≤e.mv.length∧Zd7 e 0 e.mv=Zd7 e x.2 (e.mv.drop x.1)) (fun x=>e.mv.length-x.1) (0,0) ⟨by omega,rfl⟩ ?_ ?_
 ·exact leGo trivial
 rintro⟨k,last⟩ ⟨hk,hg⟩
 simp only at hk hg
 obtain⟨hw,h0⟩:=ZaM k
 by_cases h6:(k:Int)<e.mv.length
 ·obtain⟨x,hx⟩:∃ p,e.mv[k]? =some p:=⟨_,Ya0 (by omega)⟩
  have km:=ZEg e x
  have ed:e.mv.drop k=x ::e.mv.drop (k+1):=by
   obtain⟨hi,rfl⟩:=Ya3.1 hx
   exact List.drop_eq_getElem_cons hi
  have em:Zd7 e last (e.mv.drop k)=if x.d<last∨x.d>100000 then 17 else if okMv e x=true then Zd7 e x.d (e.mv.drop (k+1))else 1:=by rw[ed];rfl
  by_cases h7:x.d<last
  ·refine aGo (cj4 hres h0 h6 (cj3 hx hw h7)) ?_
   repeat with_reducible intro K hK
   exact ZaX (by rw[← ho,hg,em.trans (if_pos (.inl h7))];rfl)
  by_cases h8:x.d>100000
  ·refine aGo (cj4 hres h0 h6 (cj4 hx hw h7 h8)) ?_
   repeat with_reducible intro K hK
   exact ZaX (by rw[← ho,hg,em.trans (if_pos (.inr h8))];rfl)
  have em2:Zd7 e last (e.mv.drop k)=if okMv e x=true then Zd7 e x.d (e.mv.drop (k+1))else 1:=by rw[em,if_neg (by omega)]
  cases h9:okMv e x
  ·rw[h9]at km em2
   refine aGo (cj4 hres h0 h6 (cj4 hx hw h7 h8)) ?_
   repeat with_reducible intro K hK
   exact ZaX (by rw[← ho,hg,em2];rfl)
  ·rw[h9]at km em2
   rw[if_pos rfl]at em2
   refine aGo (cj4 hres h0 h6 (cj4 hx hw h7 h8)) ?_
   repeat with_reducible intro K hK
   exact Zac (k+1,x.d) ⟨by show k+1≤_;omega,by rw[hg];exact em2⟩ (by show e.mv.length-(k+1)<e.mv.length-k;omega) (by exact leGo trivial)
 ·rw[show e.mv.drop k=[] by rw[List.drop_eq_nil_iff];omega]at hg
  have e0:Zd7 e last []=0:=rfl
  rw[hg,e0,if_pos rfl]at ho
  cases h7:ZhZ e
  ·rw[h7]at k3 ho
   refine aGo (cj2 hres h6) ?_
   repeat with_reducible intro K hK
   exact ZaX (by rw[← ho];rfl)
  ·rw[h7]at k3 ho
   refine aGo (cj2 hres h6) ?_
   repeat with_reducible intro K hK
   exact ZaX (by rw[← ho];rfl)
def stN(e:EvD)(f:Nat→Rat)(p:Int)(n:Nat):Rat:=sumN n fun j=>if (mvAt e j).t=p then f j else if (mvAt e j).f=p then -(f j)else 0
structure SolT (t:TrD) (kind:Int) (f:Nat→Rat):Prop where
 pos:∀ i,i<t.e.mv.length→0≤f i
 st:∀ i,i<t.e.mv.length→ZbK t.e i=false→f i≤stN t.e f (mvAt t.e i).f i
 all:∀ i,i<t.e.mv.length→ZbK t.e i=false→(mvAt t.e i).a=true→f i=stN t.e f (mvAt t.e i).f i
 cap:∀ i,i<t.e.mv.length→(hiI t.e (mvAt t.e i)).2=true→f i≤qOf (hiI t.e (mvAt t.e i)).1
 fin:∀ i,i<t.e.mv.length→∀ g∈finK t kind i,(g:Rat)≤f i
 cle:∀ i,i<t.e.mv.length→0<cleK t kind i→f i=0
theorem Zyn{x:List FracD}{i:Nat}(hi:i<x.length):atP x (i:Nat)=qOf x[i]:=by unfold atP;rw[Int.toNat_natCast,Ya0 hi];rfl
theorem ZiO{x:List FracD}(ho:okP x=true):ZhL x=true↔∀ i,i<x.length→0≤atP x (i:Nat):=by
 have sg:∀ f∈x,(0≤sgnD f↔0≤qOf f):=fun f hf=>by
  obtain⟨q,rfl⟩:∃ q,f=ofQ q:=⟨_,Zcm (Ya6.1 ho f hf)⟩
  rw[ZbN,Zav]
  rcases Zfl q with⟨a,b⟩|⟨a,b⟩|⟨a,b⟩
  ·constructor<;>intro h
   ·omega
   ·grind
  ·constructor<;>intro h
   ·grind
   ·omega
  ·constructor<;>intro h
   ·grind
   ·omega
 unfold ZhL
 rw[Ya6]
 constructor
 ·intro h i hi
  rw[Zyn hi]
  have:=h _ (List.getElem_mem hi)
  simp only[decide_eq_true_eq]at this
  exact(sg _ (List.getElem_mem hi)).1 this
 ·intro h f hf
  obtain⟨i,hi,rfl⟩:=List.mem_iff_getElem.1 hf
  have:=h i hi
  rw[Zyn hi]at this
  simp only[decide_eq_true_eq]
  exact(sg _ hf).2 this
theorem ZeB{t:TrD}{kind:Int}{w:RowD}:∀ n,w∈ZbS t kind n↔∃ i,i<n∧w∈ZhD t kind i
 | 0=>⟨fun h=>(by cases h),fun⟨i,h,_⟩=>(by omega)⟩
 | n+1=>by
   simp only[ZbS,List.mem_append,ZeB n]
   constructor
   ·rintro(⟨i,h,hw⟩|h)
    ·exact⟨i,by omega,hw⟩
    ·exact⟨n,by omega,h⟩
   ·rintro⟨i,h,hw⟩
    by_cases e:i=n
    ·subst e;exact .inr hw
    ·exact .inl ⟨i,by omega,hw⟩
theorem ZdT{t:TrD}{kind:Int}{w:RowD}{i:Nat}:w∈ZhD t kind i↔(ZbK t.e i=false∧w=ZcR t.e i)∨((hiI t.e (mvAt t.e i)).2=true∧w=oneR i 1 (hiI t.e (mvAt t.e i)).1)∨(∃ g∈finK t kind i,w=oneR i 0 (ofQ (g:Rat)))∨(0<cleK t kind i∧w=oneR i 2 (ofQ 0)):=by
 unfold ZhD
 simp only[List.mem_append,List.mem_map,List.mem_replicate]
 have a1:(w∈(if ZbK t.e i=true then []else [ZcR t.e i]))↔(ZbK t.e i=false∧w=ZcR t.e i):=by
  cases ZbK t.e i<;>simp
 have a2:(w∈(if (hiI t.e (mvAt t.e i)).2=true then [oneR i 1 (hiI t.e (mvAt t.e i)).1]else []))↔((hiI t.e (mvAt t.e i)).2=true∧w=oneR i 1 (hiI t.e (mvAt t.e i)).1):=by
  cases(hiI t.e (mvAt t.e i)).2<;>simp
 rw[a1,a2]
 constructor
 ·rintro(h|h|⟨g,hg,rfl⟩|⟨h,rfl⟩)
  ·exact .inl h
  ·exact .inr (.inl h)
  ·exact .inr (.inr (.inl ⟨g,hg,rfl⟩))
  ·exact .inr (.inr (.inr ⟨by omega,rfl⟩))
 ·rintro(h|h|⟨g,hg,rfl⟩|⟨h,rfl⟩)
  ·exact .inl h
  ·exact .inr (.inl h)
  ·exact .inr (.inr (.inl ⟨g,hg,rfl⟩))
  ·exact .inr (.inr (.inr ⟨by omega,rfl⟩))
theorem Zk2(f:Nat→Rat)(n:Nat):sumN (n+1) f=sumN n f+f n:=rfl
theorem ZBG(e:EvD)(i:Nat)(f:Nat→Rat):sumN (i+1) (fun j=>stC e i j*f j)=stN e f (mvAt e i).f i-f i:=by
 rw[Zk2]
 have h1:sumN i (fun j=>stC e i j*f j)=stN e f (mvAt e i).f i:=Za6 _ fun j hj=>by
  unfold stC
  rw[if_pos hj]
  split
  ·grind
  split<;>grind
 have h2:stC e i i = -1:=by unfold stC;rw[if_neg (by omega)]
 rw[h1,h2];grind
theorem Zvs(e:EvD)(i:Nat)(x:List FracD):dotD (ZcR e i).t x=stN e (fun j=>atP x (j:Nat)) (mvAt e i).f i-atP x (i:Nat):=by
 rw[Zcv]
 show dotS _ (ZaS (i+1) (stC e i))=_
 rw[Zc1]
 exact ZBG e i fun j=>atP x (j:Nat)
theorem ZB4(i:Nat)(k:Int)(v:FracD)(x:List FracD):dotD (oneR i k v).t x=atP x (i:Nat):=by
 rw[Zcv]
 simp only[oneR,dotS,Zav]
 grind
theorem Zse{w:RowD}{x:List FracD}(h0:0≤w.k)(h3:w.k<3):ZeF w x=true↔(w.k=0→qOf w.v≤dotD w.t x)∧(w.k=1→dotD w.t x≤qOf w.v)∧(w.k=2→dotD w.t x=qOf w.v):=by
 unfold ZeF
 rw[Zi3 h0 h3]
 constructor
 ·rintro⟨a,b,c⟩
  exact⟨fun h=>by have:=a h;grind,fun h=>by have:=b h;grind,fun h=>by have:=c h;grind⟩
 ·rintro⟨a,b,c⟩
  exact⟨fun h=>by have:=a h;grind,fun h=>by have:=b h;grind,fun h=>by have:=c h;grind⟩
theorem ZcU{i:Nat}{k:Int}{v:FracD}{x:List FracD}(h0:0≤k)(h3:k<3):ZeF (oneR i k v) x=true↔(k=0→qOf v≤atP x (i:Nat))∧(k=1→atP x (i:Nat)≤qOf v)∧(k=2→atP x (i:Nat)=qOf v):=by
 rw[Zse h0 h3,ZB4];rfl
theorem Zig{e:EvD}{i:Nat}{x:List FracD}:ZeF (ZcR e i) x=true↔atP x (i:Nat)≤stN e (fun j=>atP x (j:Nat)) (mvAt e i).f i∧((mvAt e i).a=true→atP x (i:Nat)=stN e (fun j=>atP x (j:Nat)) (mvAt e i).f i):=by
 have hk:(ZcR e i).k=if (mvAt e i).a=true then 2 else 0:=rfl
 have hv:qOf (ZcR e i).v=0:=Zav 0
 rw[Zse (by rw[hk];split<;>omega) (by rw[hk];split<;>omega),Zvs,hk,hv]
 cases(mvAt e i).a
 ·rw[if_neg Bool.false_ne_true]
  constructor
  ·rintro⟨a,_,_⟩
   exact⟨by have:=a rfl;grind,fun h=>by cases h⟩
  ·rintro⟨a,_⟩
   exact⟨fun _=>by grind,fun h=>by omega,fun h=>by omega⟩
 ·rw[if_pos rfl]
  constructor
  ·rintro⟨_,_,a⟩
   exact⟨by have:=a rfl;grind,fun _=>by have:=a rfl;grind⟩
  ·rintro⟨_,a⟩
   exact⟨fun h=>by omega,fun h=>by omega,fun _=>by have:=a rfl;grind⟩
theorem ZcN{t:TrD}{kind:Int}(hr:Zax (sysT t kind)=true){x:List FracD}:Zal (sysT t kind) x=true↔x.length=t.e.mv.length∧okP x=true∧SolT t kind fun i=>atP x (i:Nat):=by
 rw[Za2,Ya6]
 constructor
 ·rintro⟨_,hl,ho,hn,hw⟩
  have hl':x.length=t.e.mv.length:=Int.ofNat_inj.1 hl
  have hn':=(ZiO ho).1 hn
  have hrow:∀ i,i<t.e.mv.length→∀ w∈ZhD t kind i,ZeF w x=true:=fun i hi w h=>hw w ((ZeB _).2 ⟨i,hi,h⟩)
  refine⟨hl',ho,fun i hi=>hn' i (by omega),fun i hi hb=>?_,fun i hi hb ha=>?_,fun i hi hc=>?_,fun i hi g hg=>?_,fun i hi hc=>?_⟩
  ·exact(Zig.1 (hrow i hi _ (ZdT.2 (.inl ⟨hb,rfl⟩)))).1
  ·exact(Zig.1 (hrow i hi _ (ZdT.2 (.inl ⟨hb,rfl⟩)))).2 ha
  ·exact((ZcU (by decide) (by decide)).1 (hrow i hi _ (ZdT.2 (.inr (.inl ⟨hc,rfl⟩))))).2.1 rfl
  ·have:=((ZcU (by decide) (by decide)).1 (hrow i hi _ (ZdT.2 (.inr (.inr (.inl ⟨g,hg,rfl⟩)))))).1 rfl
   rwa [Zav]at this
  ·have:=((ZcU (by decide) (by decide)).1 (hrow i hi _ (ZdT.2 (.inr (.inr (.inr ⟨hc,rfl⟩)))))).2.2 rfl
   rwa [Zav]at this
 ·rintro⟨hl,ho,S⟩
  refine⟨hr,by rw[hl];rfl,ho,(ZiO ho).2 fun i hi=>S.pos i (by omega),fun w hw=>?_⟩
  obtain⟨i,hi,hw⟩:=(ZeB _).1 hw
  rcases ZdT.1 hw with⟨hb,rfl⟩|⟨hc,rfl⟩|⟨g,hg,rfl⟩|⟨hc,rfl⟩
  ·exact Zig.2 ⟨S.st i hi hb,S.all i hi hb⟩
  ·exact(ZcU (by decide) (by decide)).2 ⟨fun h=>by omega,fun _=>S.cap i hi hc,fun h=>by omega⟩
  ·exact(ZcU (by decide) (by decide)).2 ⟨fun _=>by rw[Zav];exact S.fin i hi g hg,fun h=>by omega,fun h=>by omega⟩
  ·exact(ZcU (by decide) (by decide)).2 ⟨fun h=>by omega,fun h=>by omega,fun _=>by rw[Zav];exact S.cle i hi hc⟩
theorem ZEq(e:EvD)(x:MvD)(h:(hiI e x).2=true):okF (hiI e x).1=true:=by
 unfold hiI at h ⊢
 split at h
 ·cases h
 ·rename_i h1
  rw[if_neg h1]
  unfold intD at h ⊢
  revert h
  cases ZpZ e.ce x.s x.d with
  | none=>intro h;cases h
  | some b =>
    simp only
    cases e.ce[b]? with
    | none=>intro h;cases h
    | some c =>
      simp only
      split
      ·intro h;cases h
      ·intro _;exact Zbw _
theorem ZgB{i:Nat}{n k:Int}{v:FracD}(hi:(i:Int)<n)(h0:0≤k)(h3:k<3)(ho:okF v=true):Zdw n (oneR i k v)=true:=by
 have hs:(sgnD (ofQ 1) !=0)=true:=by decide +kernel
 have hn:0≤n:=by omega
 have hi0:(-1:Int)<i:=by omega
 simp only[Zdw,Zah,oneR,goR,hs,ho,hn,hi0,hi,h0,h3,decide_true,Bool.and_self,Bool.and_true]
theorem Zqw{e:EvD}{i:Nat}{n:Int}(hi:(i:Int)<n):Zdw n (ZcR e i)=true:=by
 have h1:Zah (ZcR e i).t n=true:=ZcA (by omega)
 have h2:okF (ZcR e i).v=true:=Zbw 0
 have h3:(ZcR e i).k=2∨(ZcR e i).k=0:=by
  show(if (mvAt e i).a=true then(2:Int)else 0)=2∨(if (mvAt e i).a=true then(2:Int)else 0)=0
  cases(mvAt e i).a
  ·exact .inr rfl
  ·exact .inl rfl
 unfold Zdw
 rw[h1,h2,Bool.true_and,Bool.and_true,Ya2,decide_eq_true_eq,decide_eq_true_eq]
 omega
structure NextR (e:EvD) (blk:Nat→Bool) (j i:Nat):Prop where
 lt:j<i
 n:i<e.mv.length
 at':(mvAt e i).f=(mvAt e j).t
 blk:blk i=false
 all:∀ k,j<k→k<i→(mvAt e k).f=(mvAt e j).t→(mvAt e k).a=false
inductive Reach (e:EvD) (blk:Nat→Bool) (l:Nat):Nat→Prop
 | refl:Reach e blk l l
 | step {j i:Nat}:Reach e blk l j→NextR e blk j i→Reach e blk l i
theorem ZwS{e:EvD}{i:Nat}{x:MvD}(h:e.mv[i]? =some x):mvAt e i=x:=by unfold mvAt;rw[h];rfl
theorem ZiP{e:EvD}{i:Nat}(h:i<e.mv.length):mvAt e i∈e.mv:=by
 rw[ZwS (Ya0 h)];exact List.getElem_mem h
section
variable {t:TrD} {kind:Int} {f:Nat→Rat} (R:RightE t.e) (S:SolT t kind f)
include R
theorem RightE.mvOk{i:Nat}(h:i<t.e.mv.length):OkMv t.e (mvAt t.e i):=R.mv _ (ZiP h)
include S
theorem SolT.before{p:Int}(hp:Zct t.e p≠0):∀ m,m≤t.e.mv.length→0<stN t.e f p m→∃ j,j<m∧(mvAt t.e j).t=p∧0<f j∧∀ k,j<k→k<m→(mvAt t.e k).f=p→(mvAt t.e k).a=false
 | 0,_,h=>by exact absurd h (by unfold stN sumN;decide)
 | m+1,hm,h=>by
   have hs:stN t.e f p (m+1)=stN t.e f p m+(if (mvAt t.e m).t=p then f m else if (mvAt t.e m).f=p then -(f m)else 0):=rfl
   have ok:=R.mvOk (i:=m) (by omega)
   have h0:=S.pos m (by omega)
   have more:0<stN t.e f p m→((mvAt t.e m).f=p→(mvAt t.e m).a=false)→∃ j,j<m+1∧(mvAt t.e j).t=p∧0<f j∧∀ k,j<k→k<m+1→(mvAt t.e k).f=p→(mvAt t.e k).a=false:=fun h1 h2=>by
    obtain⟨j,a,b,c,d⟩:=SolT.before hp m (by omega) h1
    refine⟨j,by omega,b,c,fun k k1 k2 k3=>?_⟩
    by_cases e:k=m
    ·subst e;exact h2 k3
    ·exact d k k1 (by omega) k3
   by_cases h1:(mvAt t.e m).t=p
   ·rw[hs,if_pos h1]at h
    by_cases h2:0<f m
    ·exact⟨m,by omega,h1,h2,fun k k1 k2=>by omega⟩
    ·refine more (by grind) fun h3=>?_
     exact absurd (h3.trans h1.symm) ok.ne
   ·rw[hs,if_neg h1]at h
    by_cases h2:(mvAt t.e m).f=p
    ·rw[if_pos h2]at h
     have hb:ZbK t.e m=false:=by unfold ZbK;rw[h2];simpa using hp
     cases ha:(mvAt t.e m).a
     ·exact more (by grind) fun _=>ha
     ·have:=S.all m (by omega) hb ha
      rw[h2]at this
      exact absurd h (by grind)
    ·rw[if_neg h2]at h
     exact more (by grind) fun h3=>absurd h3 h2
theorem SolT.from{blk:Nat→Bool}(hb:∀ i,i<t.e.mv.length→blk i=true→f i=0):∀ i,i<t.e.mv.length→0<f i→∃ l,l<t.e.mv.length∧ZbK t.e l=true∧0<f l∧blk l=false∧Reach t.e blk l i:=by
 intro i
 induction i using Nat.strongRecOn with
 | ind i ih =>
   intro hi h
   have nb:∀ i,i<t.e.mv.length→0<f i→blk i=false:=fun i hi h=>by
    cases e:blk i
    ·rfl
    ·have:=hb i hi e
     exact absurd h (by grind)
   cases hbin:ZbK t.e i
   ·have hp:Zct t.e (mvAt t.e i).f≠0:=by unfold ZbK at hbin;simpa using hbin
    have hst:=S.st i hi hbin
    obtain⟨j,a,b,c,d⟩:=S.before R hp i (by omega) (by grind)
    obtain⟨l,l1,l2,l3,l4,l5⟩:=ih j a (by omega) c
    exact⟨l,l1,l2,l3,l4,.step l5 ⟨a,hi,b.symm,nb i hi h,fun k k1 k2 k3=>d k k1 k2 (k3.trans b)⟩⟩
   ·exact⟨i,hi,hbin,h,nb i hi h,.refl⟩
theorem SolT.owed{p:Int}(hp:Zct t.e p≠0):∀ m,m≤t.e.mv.length→0≤stN t.e f p m
 | 0,_=>by unfold stN sumN;decide
 | m+1,hm=>by
   have ih:=SolT.owed hp m (by omega)
   have hs:stN t.e f p (m+1)=stN t.e f p m+(if (mvAt t.e m).t=p then f m else if (mvAt t.e m).f=p then -(f m)else 0):=rfl
   have h0:=S.pos m (by omega)
   rw[hs]
   split
   ·grind
   split
   ·rename_i h1
    have hb:ZbK t.e m=false:=by unfold ZbK;rw[h1];simpa using hp
    have:=S.st m (by omega) hb
    rw[h1]at this
    grind
   ·grind
end
def plC(e:EvD)(p:Int)(i:Nat):Rat:=if (mvAt e i).t=p then 1 else if (mvAt e i).f=p then -1 else 0
def ZaY(v:Int)(c:Rat):List TermD:=[⟨v,ofQ c⟩]
def Zkq(e:EvD)(p:Nat)(pl:PlD):List TermD:=if pl.k=0 then []else ZaS e.mv.length (plC e p)
def Zcu(e:EvD):List (List TermD):=(List.range e.mv.length).map (fun(i:Nat)=>ZaY i 1)++e.pl.mapIdx (Zkq e)
def atG(x:List FracD)(g:List TermD):Rat:=dotD g x
theorem Zej{x:List FracD}{i:Nat}{c:Rat}:atG x (ZaY i c)=c*atP x (i:Nat):=by
 unfold atG
 rw[Zcv]
 simp only[ZaY,dotS,Zav]
 grind
theorem Zqe{x:List FracD}{e:EvD}{p:Nat}{pl:PlD}(h:pl.k≠0):atG x (Zkq e p pl)=stN e (fun i=>atP x (i:Nat)) p e.mv.length:=by
 unfold atG Zkq
 rw[if_neg h,Zcv,Zc1]
 refine Za6 _ fun i _=>?_
 unfold plC
 split
 ·grind
 split<;>grind
theorem Zyp{x:List FracD}{e:EvD}{p:Nat}{pl:PlD}(h:pl.k=0):atG x (Zkq e p pl)=0:=by
 unfold atG Zkq
 rw[if_pos h];rfl
theorem ZpR(e:EvD):(Zcu e).length=e.mv.length+e.pl.length:=by simp[Zcu]
theorem ZuC{e:EvD}{i:Nat}(h:i<e.mv.length):(Zcu e)[i]? =some (ZaY i 1):=by
 unfold Zcu
 rw[List.getElem?_append_left (by simpa using h),List.getElem?_map,List.getElem?_range h];rfl
theorem ZlM{e:EvD}{p:Nat}{pl:PlD}(h:e.pl[p]? =some pl):(Zcu e)[e.mv.length+p]? =some (Zkq e p pl):=by
 unfold Zcu
 rw[List.getElem?_append_right (by simp),List.getElem?_mapIdx]
 simp[h]
theorem Zck{i:Nat}{n:Int}{c:Rat}(h:(i:Int)<n)(hc:c≠0):Zah (ZaY i c) n=true:=by
 have hs:(sgnD (ofQ c) !=0)=true:=by simpa using ZfR hc
 have hn:0≤n:=by omega
 have hi0:(-1:Int)<i:=by omega
 simp only[Zah,ZaY,goR,hs,hn,hi0,h,decide_true,Bool.and_self]
theorem ZlL{e:EvD}{g:List TermD}(h:g∈Zcu e):Zah g e.mv.length=true:=by
 unfold Zcu at h
 rcases List.mem_append.1 h with h|h
 ·obtain⟨i,hi,rfl⟩:=List.mem_map.1 h
  have:=List.mem_range.1 hi
  exact Zck (by omega) (by decide)
 ·obtain⟨p,hp,rfl⟩:=List.mem_mapIdx.1 h
  unfold Zkq
  split
  ·rfl
  ·exact ZcA (Int.le_refl _)
theorem Zrg{e:EvD}{p:Nat}{pl:PlD}(h:e.pl[p]? =some pl):Zct e (p:Nat)=pl.k:=by unfold Zct;rw[Int.toNat_natCast,h];rfl
theorem ZpQ{t:TrD}{kind:Int}{x:List FracD}(R:RightE t.e)(S:SolT t kind fun i=>atP x (i:Nat)){g:List TermD}(h:g∈Zcu t.e):0≤atG x g:=by
 unfold Zcu at h
 rcases List.mem_append.1 h with h|h
 ·obtain⟨i,hi,rfl⟩:=List.mem_map.1 h
  have:=S.pos i (List.mem_range.1 hi)
  rw[Zej];grind
 ·obtain⟨p,hp,rfl⟩:=List.mem_mapIdx.1 h
  by_cases hk:t.e.pl[p].k=0
  ·rw[Zyp hk];exact Rat.le_refl
  ·rw[Zqe hk]
   exact S.owed R (by rw[Zrg (Ya0 hp)];exact hk) _ (Ya4 _)
theorem Zyl{n:Nat}{a b:List TermD}(ha:Zah a n=true)(hb:Zah b n=true):Zkk a b=Zjd n a b:=by
 rw[Bool.eq_iff_iff,ZfL,Zni ha hb]
theorem Zqq{n:Nat}{c:Nat→Rat}{t:TermD}(h:t∈ZaS n c):∃ v,v<n∧t=⟨(v:Int),ofQ (c v)⟩:=by
 unfold ZaS at h
 obtain⟨v,hv,e⟩:=List.mem_filterMap.1 h
 split at e
 ·cases e
 ·cases e;exact⟨v,List.mem_range.1 hv,rfl⟩
theorem ZCo{s:SysD}{y:List FracD}(hs:tnS s)(hy:tnFs y)(hm:ZhG s y=true):wkT (mixT s y):=by
 obtain⟨hr,hlen,hok⟩:=ZeA.1 hm
 have hn:=Zb9 hr
 have hly:=hy.1
 refine⟨by have:=Zeq (fun v=>mixG (indI v) s.r y) s.n.toNat;unfold mixT;omega,fun t ht=>?_⟩
 obtain⟨v,_,rfl⟩:=Zqq ht
 have h:=Zqr hs hy hok hr v y.length (Ya4 _) (by omega)
 unfold Zes at h
 rw[hlen,List.take_length,← hlen,List.take_length]at h
 rw[Zfa]
 omega
theorem ZBr{s:SysD}{y:List FracD}(hs:tnS s)(hy:tnFs y)(hm:ZhG s y=true):(szQ (mixV s.r y):Int)≤33554500:=by
 obtain⟨hr,hlen,hok⟩:=ZeA.1 hm
 have h:=ZrV hs hy hok hr y.length (Ya4 _) (by omega)
 have hly:=hy.1
 rw[hlen,List.take_length,← hlen,List.take_length]at h
 omega
theorem Zqn{s:SysD}{goal:List TermD}{y:List FracD}(h:(Zdg s y&&Zah goal s.n&&Zjd s.n.toNat (mixT s y) goal)=false):D.tup [encF zF,dB false]=D.tup [encF (Zb6 s goal y).1,dB (Zb6 s goal y).2]:=by
 unfold Zb6;rw[h];rfl
theorem ZAh(s:SysD)(goal:List TermD)(y:List FracD)(hs:tnS s)(hg:smT goal)(hy:tnFs y):Zaf Tryz.prog 121 [encS s,Zbh goal,ZaQ y] (.tup [encF (Zb6 s goal y).1,dB (Zb6 s goal y).2]):=by
 have hres:=Tryz.results121
 have k1:=ZxP s y hs.sm hy.sm
 have k2:=Ze5 goal s.n hg
 cases h1:Zdg s y
 ·rw[h1]at k1
  refine inC Tryz.func121 rfl Tryz.ntmps121 ?_
  refine aGo hres ?_
  repeat with_reducible intro K hK
  exact Zqn (by rw[h1];rfl)
 rw[h1]at k1
 cases h2:Zah goal s.n
 ·rw[h2]at k2
  refine inC Tryz.func121 rfl Tryz.ntmps121 ?_
  refine aGo hres ?_
  repeat with_reducible intro K hK
  exact Zqn (by rw[h2];simp)
 rw[h2]at k2
 have hm:ZhG s y=true:=by simp only[Zdg,Ya2]at h1;exact h1.1
 obtain⟨hr,hlen,hok⟩:=ZeA.1 hm
 have k3:=ZES s y hs hy
 rw[show ZpC s y=(mixT s y,ofQ (mixV s.r y)) by simp[ZpC,hm]]at k3
 have k4:=ZAl s.n.toNat (mixT s y) goal (Zhj hr y) (Zeu h2) (ZCo hs hy hm) hg.wk
 rw[Zyl (Zhj hr y) (Zeu h2)]at k4
 cases h3:Zjd s.n.toNat (mixT s y) goal
 ·rw[h3]at k4
  refine inC Tryz.func121 rfl Tryz.ntmps121 ?_
  refine aGo hres ?_
  repeat with_reducible intro K hK
  exact Zqn (by rw[h3,Bool.and_false])
 ·rw[h3]at k4
  refine inC Tryz.func121 rfl Tryz.ntmps121 ?_
  rw[show Zb6 s goal y=(ofQ (mixV s.r y),true) by simp[Zb6,h1,h2,h3]]
  exact aGo hres trivial
theorem ZyJ{s:SysD}{goal:List TermD}{y:List FracD}(hs:tnS s)(hy:tnFs y):(szF (Zb6 s goal y).1:Int)≤33554500:=by
 unfold Zb6
 split
 ·rename_i h
  simp only[Ya2,Zdg]at h
  exact ZBr hs hy h.1.1.1
 ·show(szF zF:Int)≤_
  decide
def tnO(o:OptD):Prop:=tnF o.v∧tnFs o.x∧tnFs o.y∧tnFs o.d
set_option maxHeartbeats 4000000
theorem Zwi{x:Dic×(Nat→Nat×Bool)}{row:Nat}{w:RowD}(h:w.k=0):putP x row w=addP w row true x:=by unfold putP;simp[h]
theorem Zwh{x:Dic×(Nat→Nat×Bool)}{row:Nat}{w:RowD}(h:w.k=1):putP x row w=addP w row false x:=by unfold putP;simp[h]
theorem Zwg{x:Dic×(Nat→Nat×Bool)}{row:Nat}{w:RowD}(h0:w.k≠0)(h1:w.k≠1):putP x row w=addP w row true (addP w row false x):=by unfold putP;simp[h0,h1]
theorem Zh6(P:Dic×(Nat→Nat×Bool)→Prop)(g:Nat→Rat)(s:SysD)(h0:P (dicZ s.n.toNat g,fun _=>(0,false)))
 (h:∀ x k w b,P x→s.r[k]? =some w→(b=false→w.k≠0)→(b=true→w.k≠1)→P (addP w k b x)):∀ k,P (ZbO g s k)
 | 0=>h0
 | k+1=>by
   have ih:=Zh6 P g s h0 h k
   simp only[ZbO]
   split
   ·rename_i w hw
    by_cases e0:w.k=0
    ·rw[Zwi e0];exact h _ _ _ _ ih hw (fun e=>by cases e) (fun _=>by omega)
    ·by_cases e1:w.k=1
     ·rw[Zwh e1];exact h _ _ _ _ ih hw (fun _=>e0) (fun e=>by cases e)
     ·rw[Zwg e0 e1];exact h _ _ _ _ (h _ _ _ _ ih hw (fun _=>e0) (fun e=>by cases e)) hw (fun e=>by cases e) (fun _=>e1)
   ·exact ih
theorem ZiL(s:SysD)(goal:List TermD):∀ k,k<(Za1 s goal).1.m→∃ w,s.r[((Za1 s goal).2 k).1]? =some w∧(Za1 s goal).1.v k=sgQ' ((Za1 s goal).2 k).2 (qOf w.v)∧((Za1 s goal).1.a k=fun j=>sgQ' ((Za1 s goal).2 k).2 (Za5 w.t j)) ∧
 (((Za1 s goal).2 k).2=false→w.k≠0)∧(((Za1 s goal).2 k).2=true→w.k≠1):=by
 refine Zh6 (fun x=>∀ k,k<x.1.m→∃ w,s.r[(x.2 k).1]? =some w∧x.1.v k=sgQ' (x.2 k).2 (qOf w.v)∧(x.1.a k=fun j=>sgQ' (x.2 k).2 (Za5 w.t j))∧((x.2 k).2=false→w.k≠0)∧((x.2 k).2=true→w.k≠1)) _ s
  (fun i hi=>absurd hi (Nat.not_lt_zero _)) (fun x k w b ih hw h1 h2 i hi=>?_) s.r.length
 simp only[addP,ZeR]at hi ⊢
 by_cases e:i=x.1.m
 ·simp only[if_pos e];exact⟨w,hw,rfl,rfl,h1,h2⟩
 ·simp only[if_neg e];exact ih i (by omega)
theorem Zkl(x:Dic×(Nat→Nat×Bool))(row:Nat)(w:RowD)(b:Bool):(addP w row b x).1.m=x.1.m+1:=rfl
theorem Zjg{x:Dic×(Nat→Nat×Bool)}(row:Nat)(w:RowD)(b:Bool){k:Nat}(h:k<x.1.m):(addP w row b x).2 k=x.2 k:=by
 show(if k=x.1.m then(row,b)else x.2 k)=x.2 k
 rw[if_neg (by omega)]
theorem ZkQ(x:Dic×(Nat→Nat×Bool))(row:Nat)(w:RowD)(b:Bool):(addP w row b x).2 x.1.m=(row,b):=by
 show(if x.1.m=x.1.m then(row,b)else x.2 x.1.m)=(row,b)
 rw[if_pos rfl]
theorem Zwf(x:Dic×(Nat→Nat×Bool))(row:Nat)(w:RowD):x.1.m≤(putP x row w).1.m∧∀ k,k<x.1.m→(putP x row w).2 k=x.2 k:=by
 by_cases e0:w.k=0
 ·rw[Zwi e0];exact⟨Nat.le_succ _,fun k hk=>Zjg _ _ _ hk⟩
 ·by_cases e1:w.k=1
  ·rw[Zwh e1];exact⟨Nat.le_succ _,fun k hk=>Zjg _ _ _ hk⟩
  ·rw[Zwg e0 e1]
   exact⟨by rw[Zkl,Zkl];omega,fun k hk=>(Zjg _ _ _ (by rw[Zkl];omega)).trans (Zjg _ _ _ hk)⟩
theorem Zza(x:Dic×(Nat→Nat×Bool))(row:Nat)(w:RowD):(w.k≠0→∃ k,k<(putP x row w).1.m∧(putP x row w).2 k=(row,false))∧(w.k≠1→∃ k,k<(putP x row w).1.m∧(putP x row w).2 k=(row,true)):=by
 by_cases e0:w.k=0
 ·rw[Zwi e0];exact⟨fun h=>absurd e0 h,fun _=>⟨x.1.m,Nat.lt_succ_self _,ZkQ _ _ _ _⟩⟩
 ·by_cases e1:w.k=1
  ·rw[Zwh e1];exact⟨fun _=>⟨x.1.m,Nat.lt_succ_self _,ZkQ _ _ _ _⟩,fun h=>absurd e1 h⟩
  ·rw[Zwg e0 e1]
   exact⟨fun _=>⟨x.1.m,by rw[Zkl,Zkl];omega,(Zjg _ _ _ (by rw[Zkl];omega)).trans (ZkQ _ _ _ _)⟩,fun _=>⟨x.1.m+1,by rw[Zkl,Zkl];omega,ZkQ _ _ _ _⟩⟩
theorem Zpq(g:Nat→Rat)(s:SysD):∀ K ρ w,ρ<K→s.r[ρ]? =some w→(w.k≠0→∃ k,k<(ZbO g s K).1.m∧(ZbO g s K).2 k=(ρ,false))∧(w.k≠1→∃ k,k<(ZbO g s K).1.m∧(ZbO g s K).2 k=(ρ,true))
 | 0,_,_,h,_=>absurd h (Nat.not_lt_zero _)
 | K+1,ρ,w,hρ,hw=>by
   simp only[ZbO]
   by_cases e:ρ=K
   ·subst e;rw[hw];exact Zza _ _ _
   ·have ih:=Zpq g s K ρ w (by omega) hw
    split
    ·rename_i w' _
     obtain⟨k1,k2⟩:=Zwf (ZbO g s K) K w'
     refine⟨fun h=>?_,fun h=>?_⟩
     ·obtain⟨k,h1,h2⟩:=ih.1 h;exact⟨k,by omega,(k2 k h1).trans h2⟩
     ·obtain⟨k,h1,h2⟩:=ih.2 h;exact⟨k,by omega,(k2 k h1).trans h2⟩
    ·exact ih
theorem Zyo(n:Nat)(c:Nat→Rat)(v:Nat)(hv:v<n):atP (Zaj n c) v=c v:=by
 unfold atP Zaj
 rw[Int.toNat_natCast,List.getElem?_map,List.getElem?_range hv]
 exact Zav _
theorem Zp7{l:List TermD}{n:Nat}(h:Zah l n=true)(c:Nat→Rat):dotD l (Zaj n c)=sumN n fun v=>Za5 l v*c v:=by
 rw[Zcv,ZjR _ l (Zgw h)]
 exact Za6 n fun v hv=>by rw[Zyo n c v hv]
theorem Zt3{q:Rat}(h:0≤q):0≤sgnD (ofQ q):=by
 rw[ZbN]
 have:=@Ze1 q
 have h2:¬ q<0:=by grind
 have h3:¬ sgQ q<0:=fun h=>h2 (this.1 h)
 omega
section
variable {s:SysD} {goal:List TermD}
theorem Zr7(hr:Zax s=true){κ:Rat}{x:Nat→Rat}(hx:(Za1 s goal).1.Sol κ x)(h0:∀ u,u<s.n.toNat+(Za1 s goal).1.m→0≤x u):∀ w∈s.r,ZjN w.k (sgQ (dotD w.t (Zaj s.n.toNat x)-κ*qOf w.v))=true:=by
 intro w hw
 obtain⟨hwr,hk0,hk3,_⟩:=ZcB hr hw
 obtain⟨ρ,hρ⟩:=List.getElem?_of_mem hw
 have hall:=Zpq (fun j=> -Za5 goal j) s s.r.length ρ w (Ya3.1 hρ).1 hρ
 have hF:=Zbd s goal
 have hn:=ZdZ s goal
 have key:∀ k b,k<(Za1 s goal).1.m→(Za1 s goal).2 k=(ρ,b)→0≤sgQ' b (qOf w.v)*κ-sgQ' b (dotD w.t (Zaj s.n.toNat x)):=by
  intro k b hk hs
  obtain⟨w',hw',hv,ha,_⟩:=ZiL s goal k hk
  rw[hs]at hw' hv ha
  simp only at hw' hv ha
  rw[hρ]at hw'
  cases hw'
  have h1:=hx k hk
  unfold Dic.Row at h1
  rw[hF.own k hk,hn,hv,ha]at h1
  have h2:=h0 (s.n.toNat+k) (by omega)
  rw[h1]at h2
  have e:sumN s.n.toNat (fun j=>sgQ' b (Za5 w.t j)*x ((Za1 s goal).1.free j))=sgQ' b (dotD w.t (Zaj s.n.toNat x)):=by
   rw[Zp7 hwr]
   unfold sgQ'
   split
   ·rw[show -sumN s.n.toNat (fun v=>Za5 w.t v*x v)=(-1)*sumN s.n.toNat (fun v=>Za5 w.t v*x v) by grind,← Zd9]
    exact Za6 _ fun j hj=>by rw[hF.free j (by omega)];grind
   ·exact Za6 _ fun j hj=>by rw[hF.free j (by omega)]
  rw[e]at h2
  exact h2
 rw[Zi3 hk0 hk3]
 have a1:w.k≠0→dotD w.t (Zaj s.n.toNat x)-κ*qOf w.v≤0:=fun h=>by
  obtain⟨k,h1,h2⟩:=hall.1 h
  have:=key k false h1 h2
  simp only[sgQ']at this;grind
 have a2:w.k≠1→0≤dotD w.t (Zaj s.n.toNat x)-κ*qOf w.v:=fun h=>by
  obtain⟨k,h1,h2⟩:=hall.2 h
  have:=key k true h1 h2
  simp only[sgQ']at this;grind
 refine⟨fun h=>a2 (by omega),fun h=>a1 (by omega),fun h=>?_⟩
 have:=a1 (by omega);have:=a2 (by omega);grind
theorem Zj8{n:Nat}{x:Nat→Rat}(h:∀ u,u<n→0≤x u):ZhL (Zaj n x)=true:=by
 refine Ya6.2 fun f hf=>?_
 obtain⟨u,hu,rfl⟩:=Zi2 hf
 exact decide_eq_true (Zt3 (h u hu))
theorem ZvC(hr:Zax s=true){x:Nat→Rat}(hx:(Za1 s goal).1.Sol 1 x)(h0:∀ u,u<s.n.toNat+(Za1 s goal).1.m→0≤x u):Zal s (Zaj s.n.toNat x)=true:=by
 have h1:=Zr7 hr hx h0
 have hn:=(Zb9 hr).1
 simp only[Zal,Ya2,decide_eq_true_eq]
 refine⟨⟨⟨⟨hr,by rw[ZeH];omega⟩,Zcn _ _⟩,Zj8 fun u hu=>h0 u (by omega)⟩,Ya6.2 fun w hw=>?_⟩
 have:=h1 w hw
 rwa [show(1:Rat)*qOf w.v=qOf w.v by grind]at this
end
theorem Zpn{d:Dic}(hP:d.Part){k:Nat}(hk:k<d.m)(hn:d.own k<d.n):∀ i,k<i→i≤d.m→Za4 d i (d.own k)=d.v k
 | 0,h,_=>absurd h (Nat.not_lt_zero _)
 | i+1,h,hi=>by
   simp only[Za4]
   by_cases e:k=i
   ·subst e;rw[if_pos ⟨hn,rfl⟩]
   ·rw[if_neg (fun h2=>e (hP.own_inj k i hk (by omega) h2.2))]
    exact Zpn hP hk hn i (by omega) (by omega)
theorem ZmD{d:Dic}{u:Nat}:∀ i,(∀ k,k<i→d.own k≠u)→Za4 d i u=0
 | 0,_=>rfl
 | i+1,h=>by
   simp only[Za4]
   rw[if_neg (fun h2=>h i (by omega) h2.2.symm)]
   exact ZmD i fun k hk=>h k (by omega)
theorem ZmE{d:Dic}(hP:d.Part){u:Nat}(hu:u<d.n):Za4 d d.m u=d.base u:=by
 rcases hP.all u (by omega)with⟨i,hi,rfl⟩|⟨j,hj,rfl⟩
 ·rw[Zpn hP hi hu d.m hi (Ya4 _),Dic.base_own hP hi]
 ·rw[ZmD d.m fun k hk=>hP.apart k j hk hj,Dic.base_free hP hj]
theorem Zwd{d:Dic}(hP:d.Part){s k:Nat}(hk:k<d.m)(hn:d.own k<d.n):∀ i,k<i→i≤d.m→rayK d s i (d.own k) = -d.a k s
 | 0,h,_=>absurd h (Nat.not_lt_zero _)
 | i+1,h,hi=>by
   simp only[rayK]
   by_cases e:k=i
   ·subst e;rw[if_pos ⟨hn,rfl⟩]
   ·rw[if_neg (fun h2=>e (hP.own_inj k i hk (by omega) h2.2))]
    exact Zwd hP hk hn i (by omega) (by omega)
theorem Zsm{d:Dic}{s u:Nat}:∀ i,(∀ k,k<i→d.own k≠u)→rayK d s i u=if d.free s<d.n∧u=d.free s then 1 else 0
 | 0,_=>rfl
 | i+1,h=>by
   simp only[rayK]
   rw[if_neg (fun h2=>h i (by omega) h2.2.symm)]
   exact Zsm i fun k hk=>h k (by omega)
theorem ZBW{d:Dic}(hP:d.Part){s u:Nat}(hs:s<d.n)(hu:u<d.n):rayK d s d.m u=d.dir s u:=by
 rcases hP.all u (by omega)with⟨i,hi,rfl⟩|⟨j,hj,rfl⟩
 ·rw[Zwd hP hi hu d.m hi (Ya4 _),Dic.dir_own hP hi hs]
 ·rw[Zsm d.m fun k hk=>hP.apart k j hk hj,Dic.dir_free hP hj]
  by_cases e:j=s
  ·subst e;rw[if_pos ⟨hu,rfl⟩,if_pos rfl]
  ·rw[if_neg (fun h=>e (hP.free_inj j s hj hs h.2)),if_neg e]
theorem Zij{n:Nat}{c e:Nat→Rat}(h:∀ u,u<n→c u=e u):Zaj n c=Zaj n e:=List.map_congr_left fun u hu=>by rw[h u (List.mem_range.1 hu)]
theorem ZjS(src:Nat→Nat×Bool)(y rd:Nat→Rat)(k:Nat)(p:Rat){M:Nat}(h:(src k).1<M):sumN M (fun i=>Zcy src y k p i*rd i)=sumN M (fun i=>y i*rd i)-p*sgQ' (src k).2 (rd (src k).1):=by
 have e:(fun i=>Zcy src y k p i*rd i)=fun i=>y i*rd i+(if i=(src k).1 then(if (src k).2 then p else -p)*rd (src k).1 else 0):=by
  funext i
  unfold Zcy
  by_cases e:i=(src k).1
  ·rw[if_pos e,if_pos e,e];grind
  ·rw[if_neg e,if_neg e];grind
 rw[e,ZfP,Zg6,if_pos h]
 unfold sgQ'
 split<;>grind
section
variable {d:Dic} {src:Nat→Nat×Bool} {M:Nat} {rd A:Nat→Rat} (hP:d.Part) (hs:∀ k,k<d.m→(src k).1<M) (hA:∀ k,k<d.m→A k=sgQ' (src k).2 (rd (src k).1))
include hP hs hA
theorem ZjA:∀ j,j≤d.n→sumN M (fun i=>Zbk d src j i*rd i)=sumN j fun l=>if d.n≤d.free l then d.g l*A (d.free l-d.n)else 0
 | 0,_=>by
   simp only[Zbk,sumN]
   rw[show(fun i=>(0:Rat)*rd i)=fun _=>0 by funext i;grind,Zbo]
 | j+1,hj=>by
   have ih:=ZjA j (by omega)
   have fl:=hP.free_lt j (by omega)
   simp only[Zbk,sumN]
   by_cases e:d.n≤d.free j
   ·simp only[if_pos e]
    rw[ZjS src _ rd _ _ (hs _ (by omega)),ih,hA (d.free j-d.n) (by omega)];grind
   ·simp only[if_neg e]
    rw[ih];grind
theorem ZqM{r:Nat}(hr:r<d.m):∀ j,j≤d.n→sumN M (fun i=>refK d src r j i*rd i)=(if d.n≤d.own r then -A (d.own r-d.n)else 0)-sumN j fun l=>if d.n≤d.free l then d.a r l*A (d.free l-d.n)else 0
 | 0,_=>by
   have ol:=hP.own_lt r hr
   have z:sumN M (fun i=>(0:Rat)*rd i)=0:=by rw[show(fun i=>(0:Rat)*rd i)=fun _=>0 by funext i;grind,Zbo]
   simp only[refK,sumN]
   by_cases e:d.n≤d.own r
   ·simp only[if_pos e]
    rw[ZjS src _ rd _ _ (hs _ (by omega)),z,hA _ (by omega)];grind
   ·simp only[if_neg e]
    rw[z];grind
 | j+1,hj=>by
   have ih:=ZqM hr j (by omega)
   have fl:=hP.free_lt j (by omega)
   simp only[refK,sumN]
   by_cases e:d.n≤d.free j
   ·simp only[if_pos e]
    rw[ZjS src _ rd _ _ (hs _ (by omega)),ih,hA (d.free j-d.n) (by omega)];grind
   ·simp only[if_neg e]
    rw[ih];grind
end
def rdG(s:SysD)(g:Int→Rat)(i:Nat):Rat:=match s.r[i]? with
 | some w=>dotS g w.t
 | none=>0
def rdV(s:SysD)(i:Nat):Rat:=match s.r[i]? with
 | some w=>qOf w.v
 | none=>0
theorem ZlO{n k:Nat}(c:Nat→Rat)(h:k<n):(Zaj n c)[k]? =some (ofQ (c k)):=by
 unfold Zaj;rw[List.getElem?_map,List.getElem?_range h];rfl
theorem ZpB(s:SysD)(g:Int→Rat)(y:Nat→Rat):mixG g s.r (Zaj s.r.length y)=sumN s.r.length fun i=>y i*rdG s g i:=by
 have h:∀ k,k≤s.r.length→mixG g (s.r.take k) ((Zaj s.r.length y).take k)=sumN k fun i=>y i*rdG s g i:=by
  intro k
  induction k with
  | zero=>intro _;rw[List.take_zero,ZiR];rfl
  | succ k ih =>
    intro hk
    obtain⟨w,hw⟩:=getE (l:=s.r) (k:=k) (by omega)
    rw[ZiS g _ _ k w _ hw (ZlO y (by omega)),ih (by omega),Zav]
    simp only[sumN,rdG,hw]
 have:=h s.r.length (Ya4 _)
 rwa [List.take_length,Ya8 (by rw[ZeH];exact Ya4 _)]at this
theorem ZmP(s:SysD)(y:Nat→Rat):mixV s.r (Zaj s.r.length y)=sumN s.r.length fun i=>y i*rdV s i:=by
 have h:∀ k,k≤s.r.length→mixV (s.r.take k) ((Zaj s.r.length y).take k)=sumN k fun i=>y i*rdV s i:=by
  intro k
  induction k with
  | zero=>intro _;rw[List.take_zero,ZkD];rfl
  | succ k ih =>
    intro hk
    obtain⟨w,hw⟩:=getE (l:=s.r) (k:=k) (by omega)
    rw[ZkE _ _ k w _ hw (ZlO y (by omega)),ih (by omega),Zav]
    simp only[sumN,rdV,hw]
 have:=h s.r.length (Ya4 _)
 rwa [List.take_length,Ya8 (by rw[ZeH];exact Ya4 _)]at this
def ZuW(s:SysD)(y:Nat→Rat):Prop:=∀ i w,s.r[i]? =some w→(w.k=0→0≤y i)∧(w.k=1→y i≤0)
theorem Zjs(s:SysD):ZuW s fun _=>0:=fun _ _ _=>⟨fun _=>by grind,fun _=>by grind⟩
theorem Zgs{s:SysD}{goal:List TermD}{y:Nat→Rat}(h:ZuW s y){k:Nat}(hk:k<(Za1 s goal).1.m){p:Rat}(hp:0≤p):ZuW s (Zcy (ZbE s goal) y k p):=by
 intro i w hw
 unfold Zcy
 by_cases e:i=(ZbE s goal k).1
 ·rw[if_pos e]
  obtain⟨w',hw',_,_,h1,h2⟩:=ZiL s goal k hk
  have hi:s.r[i]? =some w':=by rw[e];exact hw'
  rw[hw]at hi
  cases hi
  have:=h i w hw
  cases hb:(Za1 s goal).2 k with
  | mk a b =>
    rw[hb]at h1 h2
    cases b with
    | false =>
      simp only[ZbE,hb,Bool.false_eq_true,if_false]
      exact⟨fun h0=>absurd h0 (h1 rfl),fun h0=>by have:=this.2 h0;grind⟩
    | true =>
      simp only[ZbE,hb,if_true]
      exact⟨fun h0=>by have:=this.1 h0;grind,fun h0=>absurd h0 (h2 rfl)⟩
 ·rw[if_neg e];exact h i w hw
theorem ZjZ{s:SysD}{goal:List TermD}{d:Dic}(hP:d.Part)(hm:d.m=(Za1 s goal).1.m)(hg:∀ j,j<d.n→d.g j≤0):∀ j,j≤d.n→ZuW s (Zbk d (ZbE s goal) j)
 | 0,_=>Zjs s
 | j+1,hj=>by
   have ih:=ZjZ hP hm hg j (by omega)
   have fl:=hP.free_lt j (by omega)
   simp only[Zbk]
   split
   ·exact Zgs ih (by omega) (by have:=hg j (by omega);grind)
   ·exact ih
theorem ZoZ{s:SysD}{goal:List TermD}{d:Dic}(hP:d.Part)(hm:d.m=(Za1 s goal).1.m){r:Nat}(hr:r<d.m)(hg:∀ j,j<d.n→0≤d.a r j):∀ j,j≤d.n→ZuW s (refK d (ZbE s goal) r j)
 | 0,_=>by
   have ol:=hP.own_lt r hr
   simp only[refK]
   split
   ·exact Zgs (Zjs s) (by omega) (by decide +kernel)
   ·exact Zjs s
 | j+1,hj=>by
   have ih:=ZoZ hP hm hr hg j (by omega)
   have fl:=hP.free_lt j (by omega)
   simp only[refK]
   split
   ·exact Zgs ih (by omega) (hg j (by omega))
   ·exact ih
theorem Zr8{s:SysD}(hr:Zax s=true){y:Nat→Rat}(h:ZuW s y):Zdg s (Zaj s.r.length y)=true:=by
 simp only[Zdg,Ya2]
 refine⟨ZeA.2 ⟨hr,ZeH _ _,Zcn _ _⟩,Ya6.2 fun p hp=>?_⟩
 obtain⟨i,hi⟩:=List.getElem?_of_mem hp
 rw[List.getElem?_zip_eq_some]at hi
 obtain⟨h1,h2⟩:=hi
 have hl:=(Ya3.1 h1).1
 rw[ZlO y hl]at h2
 cases p with
 | mk w f =>
   simp only[Ya1]at h1 h2
   subst h2
   have:=h i w h1
   simp only[ZdN,ZbN,Ya2,Bool.not_eq_true',Bool.and_eq_false_iff,beq_eq_false_iff_ne,decide_eq_false_iff_not]
   refine⟨?_,?_⟩
   ·by_cases e:w.k=0
    ·right;rw[Ze1];have:=this.1 e;grind
    ·exact .inl e
   ·by_cases e:w.k=1
    ·right;rw[gt_iff_lt,ZcS];have:=this.2 e;grind
    ·exact .inl e
section
variable {D:Dic} (hF:D.First)
include hF
theorem ZhQ{κ:Rat}{c:Nat→Rat}{q:Nat}(hq:q<D.n):D.val κ c q=c q:=by
 have:=Dic.val_free (k:=κ) (c:=c) hF.part hq
 rwa [hF.free q hq]at this
theorem Zi4{κ:Rat}{c:Nat→Rat}{q:Nat}(h1:D.n≤q)(h2:q<D.n+D.m):D.val κ c q=D.v (q-D.n)*κ-sumN D.n fun j=>D.a (q-D.n) j*c j:=by
 have:=Dic.val_own (k:=κ) (c:=c) hF.part (i:=q-D.n) (by omega)
 rwa [hF.own (q-D.n) (by omega),show D.n+(q-D.n)=q by omega]at this
theorem ZjO{v:Nat}(hv:v<D.n){q:Nat}(hq:q<D.n+D.m):D.val 0 (fun l=>if l=v then 1 else 0) q=if q<D.n then(if q=v then 1 else 0)else -D.a (q-D.n) v:=by
 by_cases e:q<D.n
 ·rw[if_pos e,ZhQ hF e]
 ·rw[if_neg e,Zi4 hF (by omega) hq,Dic.sumN_at _ hv];grind
theorem Zik{q:Nat}(hq:q<D.n+D.m):D.val 1 (fun _=>0) q=if q<D.n then 0 else D.v (q-D.n):=by
 by_cases e:q<D.n
 ·rw[if_pos e,ZhQ hF e]
 ·rw[if_neg e,Zi4 hF (by omega) hq,show(fun j=>D.a (q-D.n) j*(0:Rat))=fun _=>0 by funext j;grind,Zbo];grind
theorem Zpm{F:Dic}(hS:Dic.Same D F)(hP:F.Part)(hg:∀ j,j<F.n→F.g j≤0){v:Nat}(hv:v<D.n) :
 (sumN F.n fun l=>if F.n≤F.free l then F.g l*D.a (F.free l-F.n) v else 0) ≤ -D.g v:=by
 have hn:=hS.n
 have hm:=hS.m
 have h1:=hS.obj 0 (D.val 0 fun l=>if l=v then 1 else 0) (Dic.val_sol hF.part)
 rw[Dic.val_obj hF.part,Dic.sumN_at _ hv]at h1
 unfold Dic.obj at h1
 have e:(fun l=>if F.n≤F.free l then F.g l*D.a (F.free l-F.n) v else 0)=fun l=>(if F.n≤F.free l then F.g l*D.a (F.free l-F.n) v else 0):=rfl
 have h2:(sumN F.n fun l=>if F.n≤F.free l then F.g l*D.a (F.free l-F.n) v else 0)+(sumN F.n fun j=>F.g j*D.val 0 (fun l=>if l=v then 1 else 0) (F.free j))≤0:=by
  rw[← ZfP]
  refine Dic.sumN_nonpos fun j hj=>?_
  have fl:=hP.free_lt j hj
  rw[ZjO hF hv (by omega)]
  have:=hg j hj
  by_cases e:F.n≤F.free j
  ·rw[if_pos e,if_neg (by omega),hn];grind
  ·rw[if_neg e,if_pos (by omega)]
   split<;>grind
 grind
theorem Zpk{F:Dic}(hS:Dic.Same D F)(hP:F.Part)(hz:D.z=0):(sumN F.n fun l=>if F.n≤F.free l then F.g l*D.v (F.free l-F.n)else 0) = -F.z:=by
 have hn:=hS.n
 have hm:=hS.m
 have h1:=hS.obj 1 (D.val 1 fun _=>0) (Dic.val_sol hF.part)
 rw[Dic.val_obj hF.part,show(fun j=>D.g j*(0:Rat))=fun _=>0 by funext j;grind,Zbo,hz]at h1
 unfold Dic.obj at h1
 have h2:(sumN F.n fun l=>if F.n≤F.free l then F.g l*D.v (F.free l-F.n)else 0)=sumN F.n fun j=>F.g j*D.val 1 (fun _=>0) (F.free j):=by
  refine Za6 _ fun j hj=>?_
  have fl:=hP.free_lt j hj
  rw[Zik hF (by omega)]
  by_cases e:F.n≤F.free j
  ·rw[if_pos e,if_neg (by omega),hn]
  ·rw[if_neg e,if_pos (by omega)];grind
 grind
theorem Zv9{F:Dic}(hS:Dic.Same D F)(hP:F.Part){r:Nat}(hr:r<F.m)(ha:∀ j,j<F.n→0≤F.a r j){v:Nat}(hv:v<D.n) :
 (if F.n≤F.own r then -D.a (F.own r-F.n) v else 0)-(sumN F.n fun l=>if F.n≤F.free l then F.a r l*D.a (F.free l-F.n) v else 0)≤0:=by
 have hn:=hS.n
 have hm:=hS.m
 have h1:=(hS.sol 0 (D.val 0 fun l=>if l=v then 1 else 0)).1 (Dic.val_sol hF.part) r hr
 unfold Dic.Row at h1
 have ol:=hP.own_lt r hr
 rw[ZjO hF hv (by omega)]at h1
 have h2:0≤(sumN F.n fun l=>if F.n≤F.free l then F.a r l*D.a (F.free l-F.n) v else 0)+(sumN F.n fun j=>F.a r j*D.val 0 (fun l=>if l=v then 1 else 0) (F.free j)):=by
  rw[← ZfP]
  refine Zqt fun j hj=>?_
  have fl:=hP.free_lt j hj
  rw[ZjO hF hv (by omega)]
  have:=ha j hj
  by_cases e:F.n≤F.free j
  ·rw[if_pos e,if_neg (by omega),hn];grind
  ·rw[if_neg e,if_pos (by omega)]
   split<;>grind
 by_cases e:F.n≤F.own r
 ·rw[if_pos e]
  rw[if_neg (by omega),← hn]at h1
  grind
 ·rw[if_neg e]
  rw[if_pos (by omega)]at h1
  split at h1<;>grind
theorem Zv8{F:Dic}(hS:Dic.Same D F)(hP:F.Part){r:Nat}(hr:r<F.m) :
 (if F.n≤F.own r then -D.v (F.own r-F.n)else 0)-(sumN F.n fun l=>if F.n≤F.free l then F.a r l*D.v (F.free l-F.n)else 0) = -F.v r:=by
 have hn:=hS.n
 have hm:=hS.m
 have h1:=(hS.sol 1 (D.val 1 fun _=>0)).1 (Dic.val_sol hF.part) r hr
 unfold Dic.Row at h1
 have ol:=hP.own_lt r hr
 rw[Zik hF (by omega)]at h1
 have h2:(sumN F.n fun l=>if F.n≤F.free l then F.a r l*D.v (F.free l-F.n)else 0)=sumN F.n fun j=>F.a r j*D.val 1 (fun _=>0) (F.free j):=by
  refine Za6 _ fun j hj=>?_
  have fl:=hP.free_lt j hj
  rw[Zik hF (by omega)]
  by_cases e:F.n≤F.free j
  ·rw[if_pos e,if_neg (by omega),hn]
  ·rw[if_neg e,if_pos (by omega)];grind
 by_cases e:F.n≤F.own r
 ·rw[if_pos e]
  rw[if_neg (by omega),← hn]at h1
  grind
 ·rw[if_neg e]
  rw[if_pos (by omega)]at h1
  grind
end
theorem ZwH{q:Rat}(h:neg' q=false):0≤q:=by
 have:=ZnR ZgC h;grind
theorem Zsv{q:Rat}(h:pos' q=false):q≤0:=by
 have:=ZnR Zgz h;grind
theorem Zyg{d:Dic}(h:next d = .best):(∀ i,i<d.m→0≤d.v i)∧∀ j,j<d.n→d.g j≤0:=by
 have hr:∀ k,ZbI d k ≠ .best:=fun k hk=>by unfold ZbI at hk;split at hk<;>cases hk
 have hc:∀ k,ZbJ d k ≠ .best:=fun k hk=>by unfold ZbJ at hk;split at hk<;>cases hk
 unfold next at h
 split at h
 ·rename_i h1 h2
  exact⟨fun i hi=>ZwH (ZdQ h1 i hi),fun j hj=>Zsv (ZdQ h2 j hj)⟩
 ·exact absurd h (hr _)
 ·split at h
  ·exact absurd h (hr _)
  ·exact absurd h (hc _)
 ·exact absurd h (hc _)
theorem ZfT{d:Dic}{r:Nat}(h:next d = .row r):r<d.m∧d.v r<0∧∀ j,j<d.n→0≤d.a r j:=by
 have hc:∀ k,ZbJ d k ≠ .row r:=fun k hk=>by unfold ZbJ at hk;split at hk<;>cases hk
 have key:∀ k,pick d.own (fun i=>neg' (d.v i)) d.m=some k→ZbI d k = .row r→r<d.m∧d.v r<0∧∀ j,j<d.n→0≤d.a r j:=by
  intro k hk hr
  unfold ZbI at hr
  split at hr
  ·rename_i hp
   cases hr
   obtain⟨p1,p2,_⟩:=Zbb hk
   exact⟨p1,(ZgC _).1 p2,fun j hj=>ZwH (ZdQ hp j hj)⟩
  ·cases hr
 unfold next at h
 split at h
 ·cases h
 ·rename_i hr _;exact key _ hr h
 ·rename_i hr _
  split at h
  ·exact key _ hr h
  ·exact absurd h (hc _)
 ·exact absurd h (hc _)
theorem Ziq{d:Dic}{c:Nat}(h:next d = .col c):c<d.n∧0<d.g c∧∀ i,i<d.m→d.a i c≤0:=by
 have hr:∀ k,ZbI d k ≠ .col c:=fun k hk=>by unfold ZbI at hk;split at hk<;>cases hk
 have key:∀ k,pick d.free (fun j=>pos' (d.g j)) d.n=some k→ZbJ d k = .col c→c<d.n∧0<d.g c∧∀ i,i<d.m→d.a i c≤0:=by
  intro k hk hr
  unfold ZbJ at hr
  split at hr
  ·rename_i hp
   cases hr
   obtain⟨p1,p2,_⟩:=Zbb hk
   exact⟨p1,(Zgz _).1 p2,fun j hj=>Zsv (ZdQ hp j hj)⟩
  ·cases hr
 unfold next at h
 split at h
 ·cases h
 ·exact absurd h (hr _)
 ·rename_i hs
  split at h
  ·exact absurd h (hr _)
  ·exact key _ hs h
 ·rename_i hs;exact key _ hs h
theorem Zww(g:Nat→Rat)(s:SysD)(k:Nat):(ZbO g s k).1.z=0:=Zh6 (fun x=>x.1.z=0) g s rfl (fun _ _ _ _ h _ _ _=>h) k
theorem ZqU(s:SysD)(goal:List TermD):(Za1 s goal).1.g=fun j=> -Za5 goal j:=ZiK _ _ _
section
variable {s:SysD} {goal:List TermD}
theorem Zdm(s:SysD)(goal:List TermD):Dic.Same (Za1 s goal).1 (fin s goal):=Zho (Zbd s goal).part
theorem ZrD(h:∀ i,i<(fin s goal).m→0≤(fin s goal).v i):∀ u,u<s.n.toNat+(Za1 s goal).1.m→0≤(fin s goal).base u:=by
 intro u hu
 have hP:=Zco s goal
 rcases hP.all u (by rw[ZcO,Zd2];exact hu)with⟨i,hi,rfl⟩|⟨j,hj,rfl⟩
 ·rw[Dic.base_own hP hi];exact h i hi
 ·rw[Dic.base_free hP hj];grind
theorem Zlm(hr:Zax s=true)(h:∀ i,i<(fin s goal).m→0≤(fin s goal).v i):Zal s (Zaj s.n.toNat (Za4 (fin s goal) (fin s goal).m))=true:=by
 have hP:=Zco s goal
 have e:Zaj s.n.toNat (Za4 (fin s goal) (fin s goal).m)=Zaj s.n.toNat (fin s goal).base:=Zij fun u hu=>ZmE hP (by rw[ZcO];exact hu)
 rw[e]
 exact ZvC hr (((Zdm s goal).sol 1 _).2 (Dic.val_sol hP)) (ZrD h)
theorem Ztk(hr:Zax s=true)(hg:Zah goal s.n=true)(x:Nat→Rat):dotD goal (Zaj s.n.toNat x) = -(sumN s.n.toNat fun j=>(Za1 s goal).1.g j*x j):=by
 rw[Zp7 (Zeu hg),ZqU]
 have:(fun j=> -Za5 goal j*x j)=fun j=>(-1)*(Za5 goal j*x j):=by funext j;grind
 rw[this,Zd9];grind
theorem Zlu(κ:Rat)(x:Nat→Rat):(Za1 s goal).1.obj κ x=sumN s.n.toNat fun j=>(Za1 s goal).1.g j*x j:=by
 unfold Dic.obj
 rw[show(Za1 s goal).1.z=0 from Zww _ _ _,ZdZ]
 rw[show(0:Rat)*κ+sumN s.n.toNat (fun j=>(Za1 s goal).1.g j*x ((Za1 s goal).1.free j))=sumN s.n.toNat (fun j=>(Za1 s goal).1.g j*x ((Za1 s goal).1.free j)) by grind]
 exact Za6 _ fun j hj=>by rw[(Zbd s goal).free j (by rw[ZdZ];exact hj)]
theorem ZqO(hr:Zax s=true)(hg:Zah goal s.n=true):dotD goal (Zaj s.n.toNat (Za4 (fin s goal) (fin s goal).m)) = -(fin s goal).z:=by
 have hP:=Zco s goal
 have e:Zaj s.n.toNat (Za4 (fin s goal) (fin s goal).m)=Zaj s.n.toNat (fin s goal).base:=Zij fun u hu=>ZmE hP (by rw[ZcO];exact hu)
 have hx:(Za1 s goal).1.Sol 1 (fin s goal).base:=((Zdm s goal).sol 1 _).2 (Dic.val_sol hP)
 rw[e,Ztk hr hg,← Zlu 1,(Zdm s goal).obj 1 _ hx,Dic.base_obj hP]
theorem Zr6(s:SysD)(goal:List TermD):∀ k,k<(fin s goal).m→(ZbE s goal k).1<s.r.length:=fun k hk=>ZgA s goal k (by rw[← Zd2];exact hk)
theorem Zwb(s:SysD)(goal:List TermD)(v:Nat):∀ k,k<(fin s goal).m→(fun k=>(Za1 s goal).1.a k v) k=sgQ' (ZbE s goal k).2 (rdG s (indI v) (ZbE s goal k).1):=by
 intro k hk
 obtain⟨w,h1,_,h2,_⟩:=ZiL s goal k (by rw[← Zd2];exact hk)
 simp only[rdG,ZbE,h1,h2];rfl
theorem ZAJ(s:SysD)(goal:List TermD):∀ k,k<(fin s goal).m→(Za1 s goal).1.v k=sgQ' (ZbE s goal k).2 (rdV s (ZbE s goal k).1):=by
 intro k hk
 obtain⟨w,h1,h2,_⟩:=ZiL s goal k (by rw[← Zd2];exact hk)
 simp only[rdV,ZbE,h1,h2]
theorem Zpl(hr:Zax s=true)(hg:Zah goal s.n=true)(h:∀ j,j<(fin s goal).n→(fin s goal).g j≤0) :
 (Zb6 s goal (Zaj s.r.length (Zbk (fin s goal) (ZbE s goal) s.n.toNat))).2=true∧mixV s.r (Zaj s.r.length (Zbk (fin s goal) (ZbE s goal) s.n.toNat)) = -(fin s goal).z:=by
 have hP:=Zco s goal
 have hn:=ZcO s goal
 have hD:=Zbd s goal
 rw[← hn]
 refine⟨ZjG.2 ⟨Zr8 hr (ZjZ hP (Zd2 s goal) h _ (Ya4 _)),hg,?_⟩,?_⟩
 ·unfold Zjd
  refine Ya6.2 fun v hv=>decide_eq_true ?_
  have hv:=List.mem_range.1 hv
  unfold mixT
  rw[ZeZ,if_pos hv,ZpB,ZjA hP (Zr6 s goal) (Zwb s goal v) _ (Ya4 _)]
  have:=Zpm hD (Zdm s goal) hP h (v:=v) (by rw[ZdZ];exact hv)
  rw[ZqU]at this
  grind
 ·rw[ZmP,ZjA hP (Zr6 s goal) (ZAJ s goal) _ (Ya4 _)]
  exact Zpk hD (Zdm s goal) hP (Zww _ _ _)
theorem Zli(hr:Zax s=true){r:Nat}(h1:r<(fin s goal).m)(h2:(fin s goal).v r<0)(h3:∀ j,j<(fin s goal).n→0≤(fin s goal).a r j) :
 Zhc s (Zaj s.r.length (refK (fin s goal) (ZbE s goal) r s.n.toNat))=true:=by
 have hP:=Zco s goal
 have hn:=ZcO s goal
 have hD:=Zbd s goal
 have hn0:=(Zb9 hr).1
 rw[← hn]
 have hl:(Zb6 s [] (Zaj s.r.length (refK (fin s goal) (ZbE s goal) r (fin s goal).n))).2=true:=by
  refine ZjG.2 ⟨Zr8 hr (ZoZ hP (Zd2 s goal) h1 h3 _ (Ya4 _)),?_,?_⟩
  ·simp only[Zah,Ya2,decide_eq_true_eq];exact⟨hn0,rfl⟩
  ·unfold Zjd
   refine Ya6.2 fun v hv=>decide_eq_true ?_
   have hv:=List.mem_range.1 hv
   unfold mixT
   rw[ZeZ,if_pos hv,ZpB,ZqM hP (Zr6 s goal) (Zwb s goal v) h1 _ (Ya4 _)]
   exact Zv9 hD (Zdm s goal) hP h1 h3 (by rw[ZdZ];exact hv)
 simp only[Zhc,Ya2,decide_eq_true_eq]
 refine⟨hl,?_⟩
 rw[Zem hl,ZbN,gt_iff_lt,ZcS,ZmP,ZqM hP (Zr6 s goal) (ZAJ s goal) h1 _ (Ya4 _),Zv8 hD (Zdm s goal) hP h1]
 grind
theorem ZDT(hr:Zax s=true)(hg:Zah goal s.n=true){c:Nat}(h1:c<(fin s goal).n)(h2:0<(fin s goal).g c)(h3:∀ i,i<(fin s goal).m→(fin s goal).a i c≤0):rayD s goal (Zaj s.n.toNat (rayK (fin s goal) c (fin s goal).m))=true:=by
 have hP:=Zco s goal
 have hn:=ZcO s goal
 have hn0:=(Zb9 hr).1
 have e:Zaj s.n.toNat (rayK (fin s goal) c (fin s goal).m)=Zaj s.n.toNat ((fin s goal).dir c):=Zij fun u hu=>ZBW hP h1 (by rw[ZcO];exact hu)
 rw[e]
 have hx:(Za1 s goal).1.Sol 0 ((fin s goal).dir c):=((Zdm s goal).sol 0 _).2 (Dic.val_sol hP)
 have h0:∀ u,u<s.n.toNat+(Za1 s goal).1.m→0≤(fin s goal).dir c u:=by
  intro u hu
  rcases hP.all u (by rw[ZcO,Zd2];exact hu)with⟨i,hi,rfl⟩|⟨j,hj,rfl⟩
  ·rw[Dic.dir_own hP hi h1];have:=h3 i hi;grind
  ·rw[Dic.dir_free hP hj];split<;>decide +kernel
 simp only[rayD,Ya2,decide_eq_true_eq]
 refine⟨⟨⟨⟨⟨⟨hr,hg⟩,by rw[ZeH];omega⟩,Zcn _ _⟩,Zj8 fun u hu=>h0 u (by omega)⟩,Ya6.2 fun w hw=>?_⟩,?_⟩
 ·have:=Zr7 hr hx h0 w hw
  rwa [show dotD w.t (Zaj s.n.toNat ((fin s goal).dir c))-0*qOf w.v=dotD w.t (Zaj s.n.toNat ((fin s goal).dir c)) by grind]at this
 ·rw[Ze1,Ztk hr hg,← Zlu 0,(Zdm s goal).obj 0 _ hx,Dic.dir_obj hP h1]
  grind
theorem ZEa(s:SysD)(c:Nat):next (fin s []) ≠ .col c:=by
 intro h
 obtain⟨h1,h2,h3⟩:=Ziq h
 have hP:=Zco s []
 have hx:(Za1 s []).1.Sol 0 ((fin s []).dir c):=((Zdm s []).sol 0 _).2 (Dic.val_sol hP)
 have:=(Zdm s []).obj 0 _ hx
 rw[Dic.dir_obj hP h1,Zlu,ZqU]at this
 have e:(fun j=> -Za5 [] j*(fin s []).dir c j)=fun _=>0:=by funext j;simp only[Za5,dotS];grind
 rw[e,Zbo]at this
 grind
theorem ZdD(hr:Zax s=true)(hg:Zah goal s.n=true):Zqb s goal (ZaH s goal)=true:=by
 have hn0:=(Zb9 hr).1
 unfold Zqb
 simp only[hr,hg,Bool.and_self,Bool.true_and]
 unfold ZaH
 cases hn:next (fin s goal)with
 | ex r c=>exact absurd hn (ZfA s goal r c)
 | best =>
   obtain⟨h1,h2⟩:=Zyg hn
   obtain⟨h3,h4⟩:=Zpl hr hg h2
   have h5:=Zlm hr h1
   simp only[if_pos]
   rw[h3,h5,Zfn,Zem h3,h4]
   have hv:(ZbX goal (Zaj s.n.toNat (Za4 (fin s goal) (fin s goal).m))).1=ofQ (-(fin s goal).z):=by
    unfold ZbX
    rw[ZeH,show Zah goal (s.n.toNat:Nat)=true from Zeu hg,Zcn]
    simp only[Bool.and_self,if_true]
    rw[ZqO hr hg]
   rw[hv,Zfn];rfl
 | row r =>
   obtain⟨h1,h2,h3⟩:=ZfT hn
   have:=Zli hr h1 h2 h3
   simp only
   rw[if_neg (by decide),if_pos trivial,this,Zfn];rfl
 | col c =>
   obtain⟨h1,h2,h3⟩:=Ziq hn
   have hray:=ZDT hr hg h1 h2 h3
   simp only
   cases hnE:next (fin s [])with
   | ex r c=>exact absurd hnE (ZfA s [] r c)
   | col c2=>exact absurd hnE (ZEa s c2)
   | best =>
     obtain⟨b1,b2⟩:=Zyg hnE
     have hp:=Zlm hr b1
     simp only
     rw[if_neg (by decide),if_neg (by decide),if_pos trivial,hp,hray,Zfn];rfl
   | row r =>
     obtain⟨h1,h2,h3⟩:=ZfT hnE
     have:=Zli hr h1 h2 h3
     simp only
     rw[if_neg (by decide),if_pos trivial,this,Zfn];rfl
end
end Go.Proofs.YtjeaacindikplaaGreat
