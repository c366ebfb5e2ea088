/-
  explain.find (short): the first sets that explain, walked over data; a range over a function.
-/
import Derived.Test.YtjeaacindikplaaGreatWLib
import Derived.Test.YtjeaacindikplaaGreatWT01
import Derived.Test.YtjeaacindikplaaGreatWT03
import Derived.Test.YtjeaacindikplaaGreatWT04
import Derived.Test.YtjeaacindikplaaGreatWT07
import Derived.Test.YtjeaacindikplaaGreatWT06
import Derived.Test.YtjeaacindikplaaGreatWT05
import Derived.Test.YtjeaacindikplaaGreatWConv
namespace Go.Proofs.YtjeaacindikplaaGreat
set_option linter.unusedVariables false
set_option linter.unusedSimpArgs false
set_option linter.unusedSectionVars false
open Go Go.RowKit
set_option maxRecDepth 100000
set_option maxHeartbeats 8000000
abbrev ZlV(l:List (List Int)):D:=.sl (l.map fun x=>[Zab x])
def fewG(ex:List Int→Bool)(l:List Int):Nat→Nat→List (List Int)
 | 0,_=>[]
 | k+1,n=>if ((outs l n []).filter ex).isEmpty then fewG ex l k (n+1)else(outs l n []).filter ex
theorem ZnF:∀ (t:List Int)(r:Nat)(p:List Int),∀ x∈outs t r p,x.length=p.length+r
 | t,0,p,x,h=>by rw[Zlq]at h;rw[List.mem_singleton.1 h];rfl
 | [],r+1,p,x,h=>by cases h
 | y ::t,r+1,p,x,h=>by
   rcases List.mem_append.1 h with h|h
   ·have:=ZnF t r _ x h;simp at this;omega
   ·exact ZnF t (r+1) p x h
theorem ZnE:∀ (t:List Int)(r:Nat)(p:List Int),(outs t r p).length≤2^t.length
 | t,0,p=>by rw[Zlq];exact Nat.one_le_two_pow
 | [],r+1,p=>Yb0 _
 | y ::t,r+1,p=>by
   have h1:=ZnE t r (p++[y])
   have h2:=ZnE t (r+1) p
   simp only[outs,List.length_append,List.length_cons,Nat.pow_succ];omega
theorem ZjB{l:List Int}{n:Nat}(h:l.length≤8):(outs l n []).length≤256:=Nat.le_trans (ZnE l n []) (Nat.pow_le_pow_right (by decide) h)
theorem Zz8(ex:List Int→Bool)(L:List (List Int))(x:List Int):(L++[x]).filter ex=if ex x then L.filter ex++[x]else L.filter ex:=by
 rw[List.filter_append]
 cases h:ex x<;>simp[h]
theorem lo7:∀ id,id<6→([0,1,2,3,4,5]:List Nat).contains id=true:=by
 intro id h
 have:id=0∨id=1∨id=2∨id=3∨id=4∨id=5:=by omega
 rcases this with rfl|rfl|rfl|rfl|rfl|rfl<;>rfl
theorem ZAg(t:TrD)(kind e:Int)(l:List Int)(he:e≠0)(k1:Zaf Tryz.prog 99 [ZbC t,dI kind] (.tup [Zab l,dI e])) :
 Zaf Tryz.prog 51 [ZbC t,dI kind,dB true] (.tup [ZlV [],dI e]):=by
 have hres:=Tryz.results51
 have h1:(e !=0)=true:=by simpa using he
 refine inC Tryz.func51 rfl Tryz.ntmps51 ?_
 refine aGo (cj2 hres h1) ?_
 repeat with_reducible intro K hK
 rfl
theorem ZCW(t:TrD)(kind n0:Int)(l:List Int)(rs:List (List D))(ex:List Int→Bool)(hl:l.length≤8)
 (k1:Zaf Tryz.prog 99 [ZbC t,dI kind] (.tup [Zab l,dI 0])) (k2:Zaf Tryz.prog 40 [ZbC t,dI kind] (.tup [.agg [dI n0,.sl rs],dI 0]))
 (k3:∀ x:List Int,x.length≤8→Zaf Tryz.prog 45 [ZbC t,.agg [dI n0,.sl rs],Zab x] (dB (ex x))) :
 Zaf Tryz.prog 51 [ZbC t,dI kind,dB true] (.tup [ZlV (fewG ex l (l.length+1) 0),dI 0]):=by
 have hres:=Tryz.results51
 refine inC Tryz.func51 rfl Tryz.ntmps51 ?_
 refine aGo hres ?_
 repeat with_reducible intro K hK
 refine aLe (ZdK 2 0 0 43 1 rfl rfl rfl) ?_
 simp only[go_sem]
 refine Zat (fun(x:Nat×List (List Int))=>[(1,dI kind),(2,dB true),(3,.lp 0 0 0 0),(8,Zab l),(9,dI 0),(10,.lp 1 0 0 0),(11,.lp 2 0 0 0),(12,dI x.1)])
  (fun x=>[(0,⟨32,0,10,[cTr t],0,false⟩),(1,⟨99,0,2,[[dI n0,.sl rs]],0,false⟩),(2,⟨54,0,1,[[.ls 3 x.1]],0,false⟩),(3,⟨43,x.1,1,x.2.map fun s=>[Zab s],0,false⟩)]) 4 0
  (fun x=>x.1≤l.length+1∧fewG ex l (l.length+1) 0=if x.2.isEmpty then fewG ex l (l.length+1-x.1) x.1 else x.2) (fun x=>l.length+2-x.1) (0,[]) ⟨by omega,rfl⟩ ?_ ?_
 ·exact leGo trivial
 rintro⟨n,out⟩ ⟨hn,hout⟩
 simp only at hn hout
 have hw:=ZtF n
 by_cases h1:(n:Int)≤l.length
 rotate_left
 ·have e0:fewG ex l (l.length+1) 0=out:=by
   rw[hout]
   split
   ·rename_i h
    rw[show l.length+1-n=0 by omega,List.isEmpty_iff.1 h];rfl
   ·rfl
  refine aGo (cj2 hres h1) ?_
  repeat with_reducible intro K hK
  rw[Zan (fun _=>rfl),e0]
 cases hz:((out.length:Int)==0)
 ·have e0:fewG ex l (l.length+1) 0=out:=by
   rw[hout,if_neg]
   intro h
   rw[List.isEmpty_iff.1 h]at hz;cases hz
  refine aGo (cj3 hres h1 hz) ?_
  repeat with_reducible intro K hK
  rw[Zan (fun _=>rfl),e0]
 obtain rfl:out=[]:=List.length_eq_zero_iff.1 (by simpa using hz)
 clear hz
 have ks:=ZDO l n
 refine aGo (cj2 hres h1) ?_
 repeat with_reducible intro K hK
 refine aLe (ZdK 4 0 0 43 1 rfl rfl rfl) ?_
 simp only[go_sem]
 refine ZuV Zab (outs l n []) [(1,dI kind),(2,dB true),(3,.lp 0 0 0 0),(8,Zab l),(9,dI 0),(10,.lp 1 0 0 0),(11,.lp 2 0 0 0),(12,dI n),(13,.lp 4 0 0 0),(47,.clo 155 [Zeg n,Zeh l])]
  (fun L=>[(0,⟨32,0,10,[cTr t],0,false⟩),(1,⟨99,0,2,[[dI n0,.sl rs]],0,false⟩),(2,⟨54,0,1,[[.ls 3 n]],0,false⟩),(3,⟨43,n,1,[],0,false⟩),
    (4,⟨54,0,1,[[.ls 5 (L.filter ex).length]],0,false⟩),(5,⟨43,(L.filter ex).length,1,(L.filter ex).map fun s=>[Zab s],0,false⟩)]) 6 0 ?hle rfl rfl rfl (ZvO l n (by omega) (by omega)) (by decide) rfl ?hround ?hend
 case hle =>
  clear hK hres
  refine Zag _ _ _ ?_ ?_ ?_ ?_ ?_ (.inl rfl)<;>simp[go_sem,okD,okDs,Zap,Zeg,Zeh]
 case hround =>
  intro L x T hL
  have hx8:x.length≤8:=by
   have:=ZnF l n [] x (by rw[← hL];simp)
   simp at this;omega
  have kx:=k3 x hx8
  have hLn:(L.filter ex).length≤256:=by
   have h1:=Yb1 ex L
   have h2:=ZjB (l:=l) (n:=n) hl
   have h3:L.length≤(outs l n []).length:=by rw[← hL,List.length_append];omega
   omega
  have eF:=Zz8 ex L x
  clear k1 k2 k3 hK
  generalize L.filter ex=F at *
  have hresC:=Tryz.results101
  have hresI:=Tryz.results158
  cases hx:ex x
  ·rw[hx]at kx
   rw[hx,if_neg Bool.false_ne_true]at eF
   rw[eF]
   clear eF
   refine rGo hres ?_
   intro K hK
   refine Zbf Tryz.func101 rfl (by kernel_rfl) (by kernel_rfl) (by kernel_rfl) ?_
   rw[Tryz.ntmps101]
   refine aGo hresC ?_
   repeat with_reducible intro K hK
   refine Zbf Tryz.func158 rfl (by kernel_rfl) (by kernel_rfl) (by kernel_rfl) ?_
   rw[Tryz.ntmps158]
   refine aGo hresI ?_
   repeat with_reducible intro K hK
   refine ZrJ (fun _:Unit=>_) (fun _=>True) (fun _=>0) ⟨(),trivial,StLe.refl _⟩ ?_
   rintro _ _
   refine aGo (cj3 hresI hresC hres) ?_
   repeat with_reducible intro K hK
   refine rGo hres ?_
   show Zqj _ ⟨tabT [],tabM [(0,⟨32,0,10,[cTr t],0,false⟩),(1,⟨99,0,2,[[dI n0,.sl rs]],0,false⟩),(2,⟨54,0,1,[[.ls 3 n]],0,false⟩),(3,⟨43,n,1,[],0,false⟩),(4,⟨54,0,1,[[.ls 5 F.length]],0,false⟩),(5,⟨43,F.length,1,F.map fun s=>[Zab s],0,false⟩)],6,6⟩
   exact ZsU [] _ 6 (by simp) (by simp[go_sem]) (by simp) (by simp[Zap,okDs,okD]) (by simp) (.inr lo7)
  ·rw[hx]at kx
   rw[hx,if_pos rfl]at eF
   rw[eF]
   clear eF
   refine rGo hres ?_
   intro K hK
   refine Zbf Tryz.func101 rfl (by kernel_rfl) (by kernel_rfl) (by kernel_rfl) ?_
   rw[Tryz.ntmps101]
   refine aGo hresC ?_
   repeat with_reducible intro K hK
   refine Zbf Tryz.func158 rfl (by kernel_rfl) (by kernel_rfl) (by kernel_rfl) ?_
   rw[Tryz.ntmps158]
   refine aGo hresI ?_
   repeat with_reducible intro K hK
   refine ZrJ (fun _:Unit=>_) (fun _=>True) (fun _=>0) ⟨(),trivial,StLe.refl _⟩ ?_
   rintro _ _
   refine aGo (cj3 hresI hresC hres) ?_
   repeat with_reducible intro K hK
   refine rGo hres ?_
   show Zqj _ ⟨tabT [],tabM [(0,⟨32,0,10,[cTr t],0,false⟩),(1,⟨99,0,2,[[dI n0,.sl rs]],0,false⟩),(2,⟨54,0,1,[[.ls 3 n]],0,false⟩),(3,⟨43,n,1,[],0,false⟩),(4,⟨54,0,1,[[.ls 5 (F.length+1)]],0,false⟩),(5,⟨43,F.length+1,1,(F++[x]).map fun s=>[Zab s],0,false⟩)],6,6⟩
   exact ZsU [] _ 6 (by simp) (by simp[go_sem]) (by simp) (by simp[Zap,okDs,okD];rintro e (⟨a,_,rfl⟩|rfl)<;>rfl) (by simp) (.inr lo7)
 case hend =>
  have hF:((outs l n []).filter ex).length≤256:=Nat.le_trans (Yb1 ex _) (ZjB hl)
  have hst:fewG ex l (l.length+1) 0=if ((outs l n []).filter ex).isEmpty then fewG ex l (l.length+1-(n+1)) (n+1)else(outs l n []).filter ex:=by
   rw[hout,List.isEmpty_nil,if_pos rfl,show l.length+1-n=(l.length+1-(n+1))+1 by omega];rfl
  generalize (outs l n []).filter ex=F at hF hst
  refine aGo (cj2 hres hw) ?_
  repeat with_reducible intro K hK
  exact Zac (n+1,F) ⟨by show n+1≤l.length+1;omega,hst⟩ (by show l.length+2-(n+1)<l.length+2-n;omega) (by exact leGo trivial)
theorem Zh5:∀ (t:List Int)(r:Nat)(p:List Int),outs t r p=(Ze7 t r).map (p++·)
 | [],0,p=>by simp[outs,Ze7]
 | _ ::_,0,p=>by simp[outs,Ze7]
 | [],r+1,p=>by simp[outs,Ze7]
 | x ::t,r+1,p=>by
   simp only[outs,Ze7,List.map_append,List.map_map]
   rw[Zh5 t r,Zh5 t (r+1)]
   simp[Function.comp_def]
theorem Zzg(l:List Int)(n:Nat):outs l n []=Ze7 l n:=by rw[Zh5];simp
theorem ZxB(t:TrD)(kind:Int)(l:List Int):∀ k n,fewG (ZfD t kind) l k n=Zim t kind l k n
 | 0,_=>rfl
 | k+1,n=>by
   simp only[fewG,Zim]
   rw[Zzg,ZxB t kind l k (n+1)]
theorem ZrZ(t:TrD)(kind:Int):(ZhW t kind).1.length≤8:=by
 unfold ZhW
 split
 ·split
  ·exact Yb0 _
  ·rename_i h
   rw[List.length_map];omega
 ·exact Yb0 _
theorem Zi7{t:TrD}(h:TrOk t){kind:Int}(hk:Zdk kind=true):Zaf Tryz.prog 15 [ZbC t,dI kind] (.tup [ZlV (ZaJ t kind).1,dI (ZaJ t kind).2]):=by
 have hres:=Tryz.results15
 have k1:=ZtO h hk
 have hl:=ZrZ t kind
 have k2:Zaf Tryz.prog 51 [ZbC t,dI kind,dB true] (.tup [ZlV (ZaJ t kind).1,dI (ZaJ t kind).2]):=by
  unfold ZaJ
  by_cases he:(ZhW t kind).2=0
  ·rw[if_pos he]
   rw[he]at k1
   rw[← ZxB]
   exact ZCW t kind _ _ _ (ZfD t kind) hl k1 (h.sys hk) fun x hx=>Zm9 h kind x (by omega)
  ·rw[if_neg he]
   exact ZAg t kind _ _ he k1
 generalize ZaJ t kind=F at *
 obtain⟨a,b⟩:=F
 simp only at k2 ⊢
 refine inC Tryz.func15 rfl Tryz.ntmps15 ?_
 exact aGo hres trivial
theorem Zuk(t:TrD)(hfi:t.fi.length≤40)(hcl:t.cl.length≤60)(kind:Int)(v:Nat):Zaf Tryz.prog 95 [ZbC t,dI kind,dI v] (.sl [cTr (outF t kind v),cTr (outC t kind v)]):=by
 have hres:=Tryz.results95
 have hresF:=Tryz.results148
 have hresC:=Tryz.results149
 refine inC Tryz.func95 rfl Tryz.ntmps95 ?_
 refine ZoD (n:=2) ⟨⟩ hres ?_
 repeat with_reducible intro K hK
 have r1:True→∀ st,StLe st ⟨tabT [(1,dI kind),(2,dI v),(3,.lp 0 0 0 0),(7,.lp 1 0 0 0),(8,.lp 2 0 0 0)],tabM [(0,⟨32,0,10,[cTr t],0,false⟩),(1,⟨32,0,10,[cTr (outF t kind v)],0,false⟩),(2,⟨32,0,10,[cTr t],0,false⟩)],3,0⟩→K st:=by
  intro _ st hle
  refine hK _ (aLe hle ?_)
  clear hle hK
  refine ZoD (n:=3) ⟨⟩ hres ?_
  repeat with_reducible intro K hK
  have r1:True→∀ st,StLe st ⟨tabT [(1,dI kind),(2,dI v),(3,.lp 0 0 0 0),(7,.lp 1 0 0 0),(8,.lp 2 0 0 0)],tabM [(0,⟨32,0,10,[cTr t],0,false⟩),(1,⟨32,0,10,[cTr (outF t kind v)],0,false⟩),(2,⟨32,0,10,[cTr (outC t kind v)],0,false⟩)],3,0⟩→K st:=by
   intro _ st hle
   refine hK _ (aLe hle ?_)
   clear hle hK
   exact aGo hres trivial
  clear hK
  obtain⟨es,ee⟩:∃ es,t.cl.map cCl=es:=⟨_,rfl⟩
  have hcell:∀ x∈es,x.length=2∧x.all D.isCell=true:=fun x hx=>by
   rw[← ee]at hx
   obtain⟨u,_,rfl⟩:=List.mem_map.1 hx
   exact⟨rfl,rfl⟩
  have hlen:es.length≤60:=by rw[← ee,List.length_map];omega
  have hz:∀ (M:Mem)(n:Nat),List.map (List.map (fzT false M (n+1))) es=es:=fun M n=>by rw[← ee];exact Zan (fun _=>rfl) _
  have eo:Zja (outC t kind v).cl = .sl (es++[[dI v,dI kind]]):=by rw[← ee];exact congrArg D.sl List.map_append
  refine aGo hres ?_
  repeat with_reducible intro K hK
  have el:Zja t.cl = .sl es:=congrArg D.sl ee
  rw[el]
  refine Zbf Tryz.func149 rfl (by kernel_rfl) (by kernel_rfl) (by kernel_rfl) ?_
  rw[Tryz.ntmps149]
  refine ZoD (n:=1) ⟨⟩ hresC ?_
  repeat with_reducible intro K hK
  refine Ze9 (es:=es) Tryz.underlying30 rfl rfl rfl rfl rfl rfl (by kernel_rfl) (by kernel_rfl) rfl (fun h0=>?_) ?_
  ·refine aGo (cj2 hres hresC) ?_
   repeat with_reducible intro K hK
   refine r1 trivial _ ?_
   refine StLe.trans (ZcM 4 rfl) (StLe.trans (ZcY 2 4 rfl) (ZlE (by simp only[go_sem,fzT,hz];exact rfl) ?_))
   refine Zag _ _ _ ?_ ?_ ?_ ?_ ?_ (.inl rfl)<;>simp[go_sem,okD,okDs,Zap,fzT,hz,h0,ee,outF,outC]
  ·refine aGo (cj2 hres hresC) ?_
   repeat with_reducible intro K hK
   refine⟨⟨hcell,by omega,by omega⟩,?_⟩
   refine aGo (cj2 hres hresC) ?_
   repeat with_reducible intro K hK
   refine r1 trivial _ ?_
   refine StLe.trans (ZcM 3 rfl) (StLe.trans (ZcY 2 4 rfl) (ZlE (by simp only[go_sem,fzT,hz];exact rfl) ?_))
   refine Zag _ _ _ ?_ ?_ ?_ ?_ ?_ (.inl rfl)<;>simp[go_sem,okD,okDs,Zap,fzT,hz,ee,outF,outC]
 clear hK
 obtain⟨es,ee⟩:∃ es,t.fi.map cFi=es:=⟨_,rfl⟩
 have hcell:∀ x∈es,x.length=3∧x.all D.isCell=true:=fun x hx=>by
  rw[← ee]at hx
  obtain⟨u,_,rfl⟩:=List.mem_map.1 hx
  exact⟨rfl,rfl⟩
 have hlen:es.length≤60:=by rw[← ee,List.length_map];omega
 have hz:∀ (M:Mem)(n:Nat),List.map (List.map (fzT false M (n+1))) es=es:=fun M n=>by rw[← ee];exact Zan (fun _=>rfl) _
 have eo:Zke (outF t kind v).fi = .sl (es++[[dI v,dI kind,dI 1]]):=by rw[← ee];exact congrArg D.sl List.map_append
 refine aGo hres ?_
 repeat with_reducible intro K hK
 have el:Zke t.fi = .sl es:=congrArg D.sl ee
 rw[el]
 refine Zbf Tryz.func148 rfl (by kernel_rfl) (by kernel_rfl) (by kernel_rfl) ?_
 rw[Tryz.ntmps148]
 refine ZoD (n:=1) ⟨⟩ hresF ?_
 repeat with_reducible intro K hK
 refine Ze9 (es:=es) Tryz.underlying29 rfl rfl rfl rfl rfl rfl (by kernel_rfl) (by kernel_rfl) rfl (fun h0=>?_) ?_
 ·refine aGo (cj2 hres hresF) ?_
  repeat with_reducible intro K hK
  refine r1 trivial _ ?_
  refine StLe.trans (ZcM 4 rfl) (StLe.trans (ZcY 1 4 rfl) (ZlE (by simp only[go_sem,fzT,hz];exact rfl) ?_))
  refine Zag _ _ _ ?_ ?_ ?_ ?_ ?_ (.inl rfl)<;>simp[go_sem,okD,okDs,Zap,fzT,hz,h0,ee,outF,outC]
 ·refine aGo (cj2 hres hresF) ?_
  repeat with_reducible intro K hK
  refine⟨⟨hcell,by omega,by omega⟩,?_⟩
  refine aGo (cj2 hres hresF) ?_
  repeat with_reducible intro K hK
  refine r1 trivial _ ?_
  refine StLe.trans (ZcM 3 rfl) (StLe.trans (ZcY 1 4 rfl) (ZlE (by simp only[go_sem,fzT,hz];exact rfl) ?_))
  refine Zag _ _ _ ?_ ?_ ?_ ?_ ?_ (.inl rfl)<;>simp[go_sem,okD,okDs,Zap,fzT,hz,ee,outF,outC]
noncomputable def scF (a b:Nat):Nat→Nat
 | 0=>0
 | 1=>a
 | _=>max a b
theorem ZlQ{t:TrD}(h:TrOk t)(kind:Int):(ZaJ t kind).1.length≤256:=by
 unfold ZaJ
 have hl:=ZrZ t kind
 split
 ·rw[← ZxB]
  generalize (ZhW t kind).1=l at *
  have:∀ k n,(fewG (ZfD t kind) l k n).length≤256:=by
   intro k
   induction k with
   | zero=>intro n;exact Yb0 _
   | succ k ih =>
     intro n
     unfold fewG
     split
     ·exact ih _
     ·exact Nat.le_trans (Yb1 _ _) (ZjB hl)
  exact this _ _
 ·exact Yb0 _
theorem ZBK{t:TrD}(h:TrOk t){kind:Int}(hk:Zdk kind=true){v:Nat}(hv:v<t.e.mv.length)(hF:TrOk (outF t kind v))(hC:TrOk (outC t kind v))(h0:(ZaJ t kind).2=0) :
 Zaf Tryz.prog 48 [ZbC t,dI kind,dI v] (.tup [dI (ZdO t kind v),dI 0]):=by
 have hres:=Tryz.results48
 have k1:=ZhU t h.L
 rw[h.ta]at k1
 have k2:=Zi7 h hk
 have kF:=Zi7 hF hk
 have kC:=Zi7 hC hk
 have z2:=ZlQ h kind
 have zF:=ZlQ hF kind
 have zC:=ZlQ hC kind
 have hfi:=h.S.fi
 have hcl:=h.S.cl
 have hn:=h.S.n
 have ko:=Zuk t (by omega) (by omega) kind v
 rw[h0]at k2
 simp only[Zdk,Ya2,decide_eq_true_eq]at hk
 have g1:¬ kind<0:=by omega
 have g2:¬ kind≥8:=by omega
 have g3:¬ (v:Int)<0:=by omega
 have g4:¬ (v:Int)≥t.e.mv.length:=by omega
 have g5:((t.fi.length:Int)==20)=false:=beq_eq_false_iff_ne.2 (by omega)
 have g6:((t.cl.length:Int)==50)=false:=beq_eq_false_iff_ne.2 (by omega)
 have eS:ZdO t kind v=if max (lenE (ZaJ (outF t kind v) kind)) (lenE (ZaJ (outC t kind v) kind))=0 then(ZaJ t kind).1.length else max (lenE (ZaJ (outF t kind v) kind)) (lenE (ZaJ (outC t kind v) kind)):=rfl
 have lF:lenE (ZaJ (outF t kind v) kind)=if (ZaJ (outF t kind v) kind).2=0 then(ZaJ (outF t kind v) kind).1.length else 0:=rfl
 have lC:lenE (ZaJ (outC t kind v) kind)=if (ZaJ (outC t kind v) kind).2=0 then(ZaJ (outC t kind v) kind).1.length else 0:=rfl
 rw[eS]
 generalize lenE (ZaJ (outF t kind v) kind)=a at *
 generalize lenE (ZaJ (outC t kind v) kind)=b at *
 generalize ZaJ (outF t kind v) kind=F at *
 generalize ZaJ (outC t kind v) kind=C at *
 generalize (ZaJ t kind).1=N at *
 obtain⟨F1,F2⟩:=F
 obtain⟨C1,C2⟩:=C
 simp only at kF kC zF zC lF lC
 refine inC Tryz.func48 rfl Tryz.ntmps48 ?_
 refine aGo (cj4 hres g1 g2 (cj4 g3 g4 g5 g6)) ?_
 repeat with_reducible intro K hK
 refine Zat (fun(k:Nat)=>[(1,dI kind),(8,ZlV N),(10,dI (scF a b k)),(62,.sl [cTr (outF t kind v),cTr (outC t kind v)]),(63,dI 2),(64,dI k)]) (fun k=>[]) 1 0 (fun k=>k≤2) (fun k=>2-k) 0 (by omega) ?_ ?_
 ·refine Zag _ _ _ ?_ ?_ ?_ ?_ ?_ (.inl rfl)<;>simp[go_sem,okD,okDs,Zap,scF]
 rintro k hk
 have hk3:k=0∨k=1∨k=2:=by omega
 rcases hk3 with rfl|rfl|rfl
 ·by_cases e0:F2=0
  ·subst e0
   rw[if_pos rfl]at lF
   by_cases c:(F1.length:Int)>0
   ·refine aGo (cj2 hres c) ?_
    repeat with_reducible intro K hK
    exact Zac 1 (by omega) (by omega) (by refine Zag _ _ _ ?_ ?_ ?_ ?_ ?_ (.inl rfl)<;>simp[go_sem,okD,okDs,Zap,scF,lF]<;>(intro h;simp[h]))
   ·have e1:F1.length=0:=by omega
    refine aGo (cj2 hres c) ?_
    repeat with_reducible intro K hK
    exact Zac 1 (by omega) (by omega) (by refine Zag _ _ _ ?_ ?_ ?_ ?_ ?_ (.inl rfl)<;>simp[go_sem,okD,okDs,Zap,scF,lF,e1])
  ·have e0':(F2==0)=false:=by simp[e0]
   rw[if_neg e0]at lF
   refine aGo (cj2 hres e0') ?_
   repeat with_reducible intro K hK
   exact Zac 1 (by omega) (by omega) (by refine Zag _ _ _ ?_ ?_ ?_ ?_ ?_ (.inl rfl)<;>simp[go_sem,okD,okDs,Zap,scF,lF])
 ·have sa:scF a b 1=a:=rfl
  have sb:scF a b 2=max a b:=rfl
  rw[sa]
  by_cases e0:C2=0
  ·subst e0
   rw[if_pos rfl]at lC
   by_cases c:(C1.length:Int)>a
   ·have hm:max a b=C1.length:=by omega
    refine aGo (cj2 hres c) ?_
    repeat with_reducible intro K hK
    exact Zac 2 (by omega) (by omega) (by refine Zag _ _ _ ?_ ?_ ?_ ?_ ?_ (.inl rfl)<;>simp[go_sem,okD,okDs,Zap,sb,hm])
   ·have hm:max a b=a:=by omega
    refine aGo (cj2 hres c) ?_
    repeat with_reducible intro K hK
    exact Zac 2 (by omega) (by omega) (by refine Zag _ _ _ ?_ ?_ ?_ ?_ ?_ (.inl rfl)<;>simp[go_sem,okD,okDs,Zap,sb,hm])
  ·have e0':(C2==0)=false:=by simp[e0]
   rw[if_neg e0]at lC
   have hm:max a b=a:=by omega
   refine aGo (cj2 hres e0') ?_
   repeat with_reducible intro K hK
   exact Zac 2 (by omega) (by omega) (by refine Zag _ _ _ ?_ ?_ ?_ ?_ ?_ (.inl rfl)<;>simp[go_sem,okD,okDs,Zap,sb,hm])
 ·have sb:scF a b 2=max a b:=rfl
  rw[sb]
  by_cases e0:max a b=0
  ·have e0':(((max a b:Nat):Int)==0)=true:=by rw[e0];rfl
   have hf:(if max a b=0 then N.length else max a b)=N.length:=if_pos e0
   generalize max a b=M at *
   refine aGo (cj2 hres e0') ?_
   repeat with_reducible intro K hK
   rw[hf]
  ·have e0':(((max a b:Nat):Int)==0)=false:=beq_eq_false_iff_ne.2 (by omega)
   have hf:(if max a b=0 then N.length else max a b)=max a b:=if_neg e0
   generalize max a b=M at *
   refine aGo (cj2 hres e0') ?_
   repeat with_reducible intro K hK
   rw[hf]
def bkN(B:Nat→Nat):Nat→Nat
 | 0=>0
 | k+1=>B k
def bsN(S B:Nat→Nat):Nat→Nat
 | 0=>0
 | k+1=>S (B k)
theorem Zyh(t:TrD)(kind:Int):Zaf Tryz.prog 12 [ZbC t,dI kind,.sl []] (.tup [dI 0,dI 0,dI 4]):=by
 have hres:=Tryz.results12
 refine inC Tryz.func12 rfl Tryz.ntmps12 ?_
 exact aGo hres trivial
theorem ZEX{t:TrD}(h:TrOk t){kind:Int}(hk:Zdk kind=true)(h1:1≤t.e.mv.length)(hF:∀ v,v<t.e.mv.length→TrOk (outF t kind v))(hC:∀ v,v<t.e.mv.length→TrOk (outC t kind v))(h0:(ZaJ t kind).2=0) :
 Zaf Tryz.prog 12 [ZbC t,dI kind,Zab (natI (List.range t.e.mv.length))] (.tup [dI (ZjT t kind (t.e.mv.length-1)),dI (ZdO t kind (ZjT t kind (t.e.mv.length-1))),dI 0]):=by
 have hres:=Tryz.results12
 have ks:=fun v (hv:v<t.e.mv.length)=>ZBK h hk hv (hF v hv) (hC v hv) h0
 have hn:=h.S.n
 have B0:ZjT t kind 0=0:=rfl
 have BN:∀ k,ZjT t kind (k+1)=if ZdO t kind (k+1)<ZdO t kind (ZjT t kind k)then k+1 else ZjT t kind k:=fun _=>rfl
 generalize ZdO t kind=S at *
 generalize ZjT t kind=B at *
 obtain⟨n,en⟩:∃ n,t.e.mv.length=n:=⟨_,rfl⟩
 rw[en]at ks h1 hn ⊢
 have ln:(natI (List.range n)).length=n:=by simp[natI]
 have gn:((n:Int)==0)=false:=beq_eq_false_iff_ne.2 (by omega)
 refine inC Tryz.func12 rfl Tryz.ntmps12 ?_
 refine aGo (cj3 hres ln gn) ?_
 repeat with_reducible intro K hK
 refine Zat (fun(k:Nat)=>[(1,dI kind),(3,.lp 0 0 0 0),(6,dI (bkN B k)),(7,dI (bsN S B k)),(8,dI 0),(16,Zab (natI (List.range n))),(17,dI n),(18,dI k)]) (fun k=>[(0,⟨32,0,10,[cTr t],0,false⟩)]) 1 0 (fun k=>k≤n) (fun k=>n-k) 0 (by omega) ?_ ?_
 ·refine Zag _ _ _ ?_ ?_ ?_ ?_ ?_ (.inl rfl)<;>simp[go_sem,okD,okDs,Zap,bkN,bsN]
 rintro k hk2
 obtain⟨hw,k0⟩:=ZaM k
 by_cases h2:(k:Int)<n
 rotate_left
 ·obtain rfl:k=n:=by omega
  obtain⟨m,rfl⟩:∃ m,k=m+1:=⟨k-1,by omega⟩
  have e1:bkN B (m+1)=B m:=rfl
  have e2:bsN S B (m+1)=S (B m):=rfl
  have e3:m+1-1=m:=rfl
  rw[e1,e2]
  refine aGo (cj2 hres h2) ?_
  repeat with_reducible intro K hK
  rw[e3]
 have hl:(natI (List.range n))[k]? =some (k:Int):=by unfold natI;rw[List.getElem?_map,List.getElem?_range (by omega)];rfl
 have q:=ks k (by omega)
 generalize natI (List.range n)=L at *
 by_cases hk0:k=0
 ·have g:((k:Int)==0)=true:=by rw[hk0];rfl
  have e3:bkN B (k+1)=k:=by rw[hk0];exact B0
  have e4:bsN S B (k+1)=S k:=by rw[hk0];show S (B 0)=S 0;rw[B0]
  generalize S k=s at *
  generalize bkN B k=x at *
  generalize bsN S B k=y at *
  refine aGo (cj4 hres h2 k0 (cj3 hl g hw)) ?_
  repeat with_reducible intro K hK
  exact Zac (k+1) (by omega) (by omega) (by refine Zag _ _ _ ?_ ?_ ?_ ?_ ?_ (.inl rfl)<;>simp[go_sem,okD,okDs,Zap,e3,e4])
 have g:((k:Int)==0)=false:=beq_eq_false_iff_ne.2 (by omega)
 have e3:bkN B (k+1)=if S k<bsN S B k then k else bkN B k:=by
  cases k with
  | zero=>exact absurd rfl hk0
  | succ m=>exact BN m
 have e4:bsN S B (k+1)=S (bkN B (k+1)):=rfl
 have e5:bsN S B k=S (bkN B k):=by
  cases k with
  | zero=>exact absurd rfl hk0
  | succ m=>rfl
 rw[e3]at e4
 by_cases c:S k<bsN S B k
 ·rw[if_pos c]at e3 e4
  have c':(S k:Int)<(bsN S B k:Int):=by omega
  clear e5
  generalize S k=s at *
  generalize bkN B k=x at *
  generalize bsN S B k=y at *
  refine aGo (cj4 hres h2 k0 (cj4 hl g c' hw)) ?_
  repeat with_reducible intro K hK
  exact Zac (k+1) (by omega) (by omega) (by refine Zag _ _ _ ?_ ?_ ?_ ?_ ?_ (.inl rfl)<;>simp[go_sem,okD,okDs,Zap,e3,e4])
 ·rw[if_neg c]at e3 e4
  rw[← e5]at e4
  have c':¬ (S k:Int)<(bsN S B k:Int):=by omega
  clear e5
  generalize S k=s at *
  generalize bkN B k=x at *
  generalize bsN S B k=y at *
  refine aGo (cj4 hres h2 k0 (cj4 hl g c' hw)) ?_
  repeat with_reducible intro K hK
  exact Zac (k+1) (by omega) (by omega) (by refine Zag _ _ _ ?_ ?_ ?_ ?_ ?_ (.inl rfl)<;>simp[go_sem,okD,okDs,Zap,e3,e4])
theorem Zzk(n:Nat)(hn:n≤4096):Zaa Tryz.prog 13 [dI n,dI (-1)] (Zab (natI (List.range n))):=by
 have hres:=Tryz.results13
 refine inN Tryz.func13 rfl Tryz.ntmps13 fun I=>?_
 refine aGo hres ?_
 repeat with_reducible intro K hK
 refine Zat (fun(k:Nat)=>[(0,dI n),(1,dI (-1)),(5,.ls 0 k),(6,dI k)]) (fun k=>[(0,⟨3,k,1,(natI (List.range k)).map fun x=>[dI x],0,false⟩)]) 1 0 (fun k=>k≤n) (fun k=>n-k) 0 (by omega) ?_ ?_
 ·refine Zag _ _ _ ?_ ?_ ?_ ?_ ?_ (.inl rfl)<;>simp[go_sem,okD,okDs,Zap,natI]
 rintro k hk
 obtain⟨hw,h0⟩:=ZaM k
 have eN:natI (List.range (k+1))=natI (List.range k)++[(k:Int)]:=by simp[natI,List.range_succ]
 have lI:(natI (List.range k)).length=k:=by simp[natI]
 have h2:((k:Int) != -1)=true:=by simp<;>omega
 by_cases h1:(k:Int)<n
 rotate_left
 ·obtain rfl:k=n:=by omega
  clear eN
  generalize natI (List.range k)=A at *
  refine aGo (cj2 hres h1) ?_
  repeat with_reducible intro K hK
  exact congrArg D.sl (Zan (fun _=>rfl) _)
 generalize natI (List.range k)=A at *
 refine aGo (cj4 hres h0 h1 (cj2 h2 hw)) ?_
 repeat with_reducible intro K hK
 exact Zac (k+1) (by omega) (by omega) (by rw[eN];refine Zag _ _ _ ?_ ?_ ?_ ?_ ?_ (.inl rfl)<;>simp[go_sem,okD,okDs,Zap]<;>(rintro e (⟨a,_,rfl⟩|rfl)<;>rfl))
def srcN(e:EvD)(z:List FracD)(k:Nat):List Nat:=(List.range k).filter (Zgq e z)
theorem Zvx(e:EvD)(z:List FracD)(k:Nat):srcN e z (k+1)=srcN e z k++if Zgq e z k then [k]else []:=by
 unfold srcN
 rw[List.range_succ,List.filter_append]
 cases h:Zgq e z k<;>simp[h]
theorem ZyO(e:EvD)(z:List FracD)(k:Nat):(srcN e z k).length≤k:=by
 have:=Yb1 (Zgq e z) (List.range k)
 unfold srcN;simpa using this
def srcK(z:List FracD)(l:List Nat)(k:Nat):Bool:=(l.take k).any fun i=>decide (0<atP z (i:Nat))
theorem Zvy{z:List FracD}{l:List Nat}{k i:Nat}(h:l[k]? =some i):srcK z l (k+1)=(srcK z l k||decide (0<atP z (i:Nat))):=by
 unfold srcK
 rw[Yb4,h,List.any_append]
 simp
theorem Zvz(t:TrD)(L:LenE t.e)(hf:Zgg t.e=0)(hp:∀ x∈t.e.mv,0≤x.f∧x.f<t.e.pl.length)(hh:0≤t.e.h∧t.e.h≤6)(z:List FracD)(hz:z.length=t.e.mv.length)(oz:okP z=true)(sz:∀ f∈z,(szF f:Int)≤64)(hn:t.e.mv.length≤64) :
 Zaa Tryz.prog 11 [ZbC t,ZaQ z] (Zab (natI (ZcX t.e z))):=by
 have hres:=Tryz.results11
 have hs:ZcX t.e z=srcN t.e z t.e.h.toNat:=rfl
 obtain⟨H,hH⟩:∃ H:Nat,t.e.h.toNat=H:=⟨_,rfl⟩
 rw[hs,hH]
 have kl:=fun h:Int=>Zrb t.e L h (-1) 0 100000 hp
 simp only[if_pos hf]at kl
 have hH6:H≤6:=by omega
 refine inN Tryz.func11 rfl Tryz.ntmps11 fun I=>?_
 refine aGo hres ?_
 repeat with_reducible intro K hK
 refine aLe (ZcT 5 3 1 rfl) ?_
 simp only[go_sem]
 refine Zat (fun(k:Nat)=>[(1,ZaQ z),(2,.lp 0 0 0 0),(5,.ls 1 (srcN t.e z k).length),(6,dI k)]) (fun k=>[(0,⟨32,0,10,[cTr t],0,false⟩),(1,⟨3,(srcN t.e z k).length,1,(natI (srcN t.e z k)).map fun x=>[dI x],0,false⟩)]) 2 0 (fun k=>k≤H) (fun k=>H-k) 0 (by omega) ?_ ?_
 ·have e0:srcN t.e z 0=[]:=rfl
  have e1:natI []=[]:=rfl
  exact leGo (cj2 e0 e1)
 rintro k hk
 obtain⟨hw,h0⟩:=ZaM k
 have eN:=Zvx t.e z k
 have lN:=ZyO t.e z k
 have lI:(natI (srcN t.e z k)).length=(srcN t.e z k).length:=by simp[natI]
 by_cases h1:(k:Int)<t.e.h
 rotate_left
 ·obtain rfl:k=H:=by omega
  clear eN
  generalize natI (srcN t.e z k)=A at *
  generalize (srcN t.e z k).length=B at *
  refine aGo (cj2 hres h1) ?_
  repeat with_reducible intro K hK
  exact congrArg D.sl (Zan (fun _=>rfl) _)
 have kl':=kl k
 have own:ZgE t.e t.e.mv.length (Zie t.e k (-1) 0 100000)=ownL t.e k:=rfl
 have hb:Zgq t.e z k=srcK z (ownL t.e k) (ownL t.e k).length:=by unfold Zgq srcK;rw[List.take_length]
 rw[hb]at eN
 rw[own]at kl'
 have hm:∀ i∈ownL t.e k,i<t.e.mv.length:=fun i hi=>(ZlA.1 hi).1
 have hlo:(ownL t.e k).length≤64:=by
  have:=Yb1 (fun(i:Nat)=>decide ((i:Int)<t.e.mv.length)&&Zie t.e k (-1) 0 100000 (mvAt t.e i)) (List.range t.e.mv.length)
  rw[List.length_range]at this
  have e:ownL t.e k=(List.range t.e.mv.length).filter (fun(i:Nat)=>decide ((i:Int)<t.e.mv.length)&&Zie t.e k (-1) 0 100000 (mvAt t.e i)):=rfl
  rw[e];omega
 clear own hb
 generalize ownL t.e k=O at *
 generalize hA:natI (srcN t.e z k)=A at *
 generalize hB:(srcN t.e z k).length=B at *
 refine aGo (cj3 hres h0 h1) ?_
 repeat with_reducible intro K hK
 refine Zat (fun(j:Nat)=>[(1,ZaQ z),(2,.lp 0 0 0 0),(5,.ls 1 B),(6,dI k),(7,Zab (natI O)),(8,dB (srcK z O j)),(9,dI j)]) (fun j=>[(0,⟨32,0,10,[cTr t],0,false⟩),(1,⟨3,B,1,A.map fun x=>[dI x],0,false⟩)]) 2 0 (fun j=>j≤O.length) (fun j=>O.length-j) 0 (by omega) ?_ ?_
 ·have e0:srcK z O 0=false:=rfl
  exact leGo e0
 rintro j hj
 obtain⟨hwj,j0⟩:=ZaM j
 have lO:(natI O).length=O.length:=by simp[natI]
 by_cases g1:(j:Int)<O.length
 ·obtain⟨i,hi⟩:∃ i,O[j]? =some i:=⟨_,Ya0 (by omega)⟩
  have hiN:(natI O)[j]? =some (i:Int):=by unfold natI;rw[List.getElem?_map,hi];rfl
  have i1:=hm i (Ya7 hi)
  obtain⟨f,hx⟩:∃ f,z[i]? =some f:=⟨_,Ya0 (by omega)⟩
  have fm:=Ya7 hx
  have of:okF f=true:=Ya6.1 oz f fm
  have ke:=Znx f (by have:=sz f fm;omega)
  have ea:atP z (i:Nat)=qOf f:=by unfold atP;rw[Int.toNat_natCast,hx];rfl
  have es:sgnD f=sgQ (qOf f):=by unfold sgnD;rw[if_pos of]
  have kn:=ke.toN rfl
  have eK:=Zvy (z:=z) hi
  rw[ea]at eK
  have i0:(0:Int)≤i:=by omega
  have i2:(i:Int)<z.length:=by omega
  generalize natI O=ON at *
  cases hs1:srcK z O j
  ·rw[hs1,Bool.false_or]at eK
   by_cases hg:sgnD f>0
   ·rw[decide_eq_true (ZcS.1 (by rw[← es];exact hg))]at eK
    refine aGo (cj4 hres j0 g1 (cj4 lO hiN i0 (cj4 i2 hx hg hwj))) ?_
    repeat with_reducible intro K hK
    exact Zac (j+1) (by omega) (by omega) (by exact leGo eK)
   ·rw[decide_eq_false (fun h=>hg (by rw[es];exact ZcS.2 h))]at eK
    refine aGo (cj4 hres j0 g1 (cj4 lO hiN i0 (cj4 i2 hx hg hwj))) ?_
    repeat with_reducible intro K hK
    exact Zac (j+1) (by omega) (by omega) (by exact leGo eK)
  ·rw[hs1,Bool.true_or]at eK
   refine aGo (cj4 hres j0 g1 (cj4 lO hiN i0 (cj3 i2 hx hwj))) ?_
   repeat with_reducible intro K hK
   exact Zac (j+1) (by omega) (by omega) (by exact leGo eK)
 obtain rfl:j=O.length:=by omega
 subst hA
 subst hB
 cases hs1:srcK z O O.length
 ·rw[hs1,if_neg Bool.false_ne_true,List.append_nil]at eN
  refine aGo (cj4 hres g1 lO hw) ?_
  repeat with_reducible intro K hK
  exact Zac (k+1) (by omega) (by omega) (by exact leGo eN)
 ·rw[hs1,if_pos rfl]at eN
  have eI:natI (srcN t.e z (k+1))=natI (srcN t.e z k)++[(k:Int)]:=by rw[eN];simp[natI]
  have eL:(srcN t.e z (k+1)).length=(srcN t.e z k).length+1:=by rw[eN];simp
  clear eN
  generalize natI (srcN t.e z k)=A at *
  generalize (srcN t.e z k).length=B at *
  refine aGo (cj4 hres g1 lO (cj2 h0 hw)) ?_
  repeat with_reducible intro K hK
  exact Zac (k+1) (by omega) (by omega) (by exact leGo (cj2 eI eL))
theorem ZAz(t:TrD)(kind:Int)(v:Nat)(hcl:t.cl.length≤60)(f:FracD)(hf:okF f=true)(sf:(szF f:Int)≤64)(h0:qOf f=0) :
 Zaa Tryz.prog 14 [ZbC t,dI kind,dI v,encF f] (.tup [ZbC (outC t kind v),dB true]):=by
 have hres:=Tryz.results14
 have ks:=(Znx f (by omega)).toN rfl
 have es:sgnD f=0:=by unfold sgnD;rw[if_pos hf];exact Zcl.2 h0
 rw[es]at ks
 refine inN Tryz.func14 rfl Tryz.ntmps14 fun I=>?_
 refine aGo hres ?_
 repeat with_reducible intro K hK
 have e:Zja (outC t kind v).cl=D.sl (t.cl.map cCl++[[dI v,dI kind]]):=congrArg D.sl List.map_append
 have e2:ZbC (outC t kind v)=D.agg [dI t.e.m,dI t.e.h,dI t.e.s,Zkc t.e.pl,ZhR t.e.mv,Zmc t.e.ce,ZgO t.e.re,Zna t.e.pu,Zke t.fi,Zja (outC t kind v).cl]:=rfl
 rw[List.map_append,Zan (fun _=>rfl),e2,e]
 rfl
theorem ZtA(t:TrD)(kind:Int)(v:Nat)(hfi:t.fi.length≤60)(f:FracD)(hf:okF f=true)(sf:(szF f:Int)≤64)(h0:0<qOf f) :
 Zaa Tryz.prog 14 [ZbC t,dI kind,dI v,encF f] (.tup [ZbC (outF t kind v),dB (decide (1≤qOf f))]):=by
 have hres:=Tryz.results14
 have ks:=(Znx f (by omega)).toN rfl
 have es:sgnD f=1:=by unfold sgnD;rw[if_pos hf];exact ZvN.2 h0
 rw[es]at ks
 have ki:=ZDR 1 (by decide) (by decide)
 have kc:=(ZqN f (ofQ ((1:Int):Rat)) (by omega) (by decide +kernel)).toN rfl
 have ec:(decide (cmpD f (ofQ ((1:Int):Rat))≥0))=decide (1≤qOf f):=by
  obtain⟨q,rfl⟩:∃ q,f=ofQ q:=⟨_,Zcm hf⟩
  rw[Zav,decide_eq_decide]
  exact ZCZ q ((1:Int):Rat)
 refine inN Tryz.func14 rfl Tryz.ntmps14 fun I=>?_
 refine aGo hres ?_
 repeat with_reducible intro K hK
 have e:Zke (outF t kind v).fi=D.sl (t.fi.map cFi++[[dI v,dI kind,dI 1]]):=congrArg D.sl List.map_append
 have e2:ZbC (outF t kind v)=D.agg [dI t.e.m,dI t.e.h,dI t.e.s,Zkc t.e.pl,ZhR t.e.mv,Zmc t.e.ce,ZgO t.e.re,Zna t.e.pu,Zke (outF t kind v).fi,Zja t.cl]:=rfl
 rw[List.map_append,Zan (fun _=>rfl),e2,e,ec]
 rfl
def putL{α:Type}(k:Nat)(x:α):List (Nat×α)→List (Nat×α)
 | []=>[(k,x)]
 | p ::l=>cond (Nat.beq p.1 k) ((k,x) ::l) (p ::putL k x l)
def tabU:List (Nat×D)→Nat→D
 | []=>fun _=>.v undef
 | p ::l=>upd (tabU l) p.1 p.2
theorem Zva{α:Type}(f:Nat→α)(k:Nat)(x y:α):upd (upd f k x) k y=upd f k y:=by
 funext j;unfold upd;split<;>rfl
theorem ZrS{α:Type}(f:Nat→α){k j:Nat}(h:j≠k)(x y:α):upd (upd f k x) j y=upd (upd f j y) k x:=by
 funext i;unfold upd;split<;>split<;>simp_all
theorem Zpi(k:Nat)(x:D):∀ l,tabU (putL k x l)=upd (tabU l) k x
 | []=>rfl
 | p ::l=>by
   unfold putL
   cases h:Nat.beq p.1 k
   ·have hne:p.1≠k:=fun e=>by rw[e,Nat.beq_refl]at h;cases h
    simp only[cond_false,tabU,Zpi k x l]
    exact ZrS _ hne _ _
   ·have:p.1=k:=Nat.eq_of_beq_eq_true h
    subst this
    simp only[cond_true,tabU,Zva]
theorem Zpj(k:Nat)(x:Blk):∀ l,tabM (putL k x l)=upd (tabM l) k (some x)
 | []=>rfl
 | p ::l=>by
   unfold putL
   cases h:Nat.beq p.1 k
   ·have hne:p.1≠k:=fun e=>by rw[e,Nat.beq_refl]at h;cases h
    simp only[cond_false,tabM,Zpj k x l]
    exact ZrS _ hne _ _
   ·have:p.1=k:=Nat.eq_of_beq_eq_true h
    subst this
    simp only[cond_true,tabM,Zva]
def ovL:List (Nat×Blk)→List (Nat×Blk)→List (Nat×Blk)
 | m,[]=>m
 | m,p ::l=>ovL (putL p.1 p.2 m) l
theorem ZiJ:∀ (l m:List (Nat×Blk)),tabM (ovL m l)=ov (tabM m) l
 | [],_=>rfl
 | p ::l,m=>by unfold ovL ov;rw[ZiJ l,Zpj]
def Zru:Nat→List D→List (Nat×D)
 | _,[]=>[]
 | i,d ::l=>(i,d) ::Zru (i+1) l
theorem Zp5:∀ (l:List D)(i k:Nat),tabU (Zru i l) k=if k<i then .v undef else(l[k-i]?).getD (.v undef)
 | [],i,k=>by unfold Zru tabU;split<;>simp
 | d ::l,i,k=>by
   simp only[Zru,tabU,upd,Zp5 l]
   by_cases h:k=i
   ·subst h;simp
   ·by_cases h2:k<i
    ·rw[if_neg h,if_pos h2,if_pos (by omega)]
    ·rw[if_neg h,if_neg h2,if_neg (by omega),show k-i=(k-(i+1))+1 by omega,List.getElem?_cons_succ]
theorem ZuI(l:List D):tabU (Zru 0 l)=Zkp l:=by
 funext k
 rw[Zp5]
 simp[Zkp]
structure CS where
 t:List (Nat×D)
 m:List (Nat×Blk)
 nx:Nat
def putC(t:List (Nat×D))(dst:Option Tmp)(d:D):List (Nat×D) :=
 match dst with
 | none=>t
 | some k=>putL k d t
theorem Zev(t:List (Nat×D))(dst:Option Tmp)(d:D):tabU (putC t dst d)=putT (tabU t) dst d:=by
 cases dst with
 | none=>rfl
 | some k=>exact Zpi k d t
def CS.den(c:CS)(lo:Nat):St:=⟨tabU c.t,tabM c.m,c.nx,lo⟩
def Zup(op:BinOp)(x y:D):Bool :=
 match op with
 | .shr | .shl=>match y with
   | .v (.int _ b)=>decide (0≤b)
   | _=>true
 | .quo | .rem=>match y with
   | .v (.int _ b)=>b !=0
   | _=>true
 | .add=>match x,y with
   | .v (.string a),.v (.string b)=>decide (((a.size+b.size:Nat):Int)≤9223372036854775807)
   | _,_=>true
 | _=>true
theorem Zzs{op:BinOp}{x y:D}{q:Prop}{d:D}(h:binD op x y=some (q,d))(ho:Zup op x y=true):q:=by
 unfold binD at h
 split at h
 ·cases h;simpa[Zup]using ho
 ·cases h;simpa[Zup]using ho
 ·split at h
  ·split at h<;>cases h<;>first|trivial|(simpa[Zup]using ho)
  ·cases h
 ·split at h<;>cases h<;>first|trivial|(simpa[Zup]using ho)
 ·cases h
def ZCa(et:TyI)(s x:D)(m:Mem):Bool :=
 match ZgP m x with
 | some (es,_)=>es.all (fun e=>e.length==et.size&&e.all D.isCell)&&(match s with
   | .nil=>decide ((es.length:Int)*et.bytes≤140737488355328)&&decide ((es.length:Int)≤9007199254740992)
   | .ls id ver=>match ZbU m id ver with
     | some b=>decide (((b.es.length+es.length:Nat):Int)*et.bytes≤140737488355328)&&(decide (((b.es.length+es.length:Nat):Int)≤9007199254740992)&&(!b.dead||decide (0<es.length)))
     | none=>false
   | _=>false)
 | none=>false
theorem Zyt{es:List (List D)}{k:Nat}(h:es.all (fun e=>e.length==k&&e.all D.isCell)=true):∀ e∈es,e.length=k∧e.all D.isCell=true:=by
 intro e he
 have:=Ya6.1 h e he
 simpa using this
theorem Zzu{ty et:TyI}{s x:D}{m:Mem}{nx:Nat}{r:Res}(h:Zf2 ty et s x m nx=some r)(ho:ZCa et s x m=true):r.ok:=by
 unfold Zf2 at h
 unfold ZCa at ho
 split at h
 ·split at h
  ·rename_i es rr he
   rw[he]at ho
   simp only[Ya2]at ho
   obtain⟨h1,h2⟩:=ho
   have h1:=Zyt h1
   split at h
   ·cases h
    simp only[Ya2,decide_eq_true_eq]at h2
    exact⟨h1,h2.1,h2.2⟩
   ·simp at h2
   ·split at h
    ·rename_i b hb
     simp only[hb,Ya2,decide_eq_true_eq,Bool.or_eq_true,Bool.not_eq_true']at h2
     split at h
     ·cases h;exact⟨h1,h2.1,h2.2.1⟩
     ·split at h
      ·rename_i hd
       cases h
       refine⟨h1,h2.1,h2.2.1,?_⟩
       rcases h2.2.2 with hf|hf
       ·rw[hd.1]at hf;cases hf
       ·exact hf
      ·cases h
    ·cases h
   ·cases h
  ·cases h
 ·cases h
def okSl(et:TyI)(x:D)(lo hi:Option D):Bool :=
 match x with
 | .sl es=>match Zgh lo 0,Zgh hi es.length with
   | some l,some h=>es.all (fun e=>e.length==et.size)&&(decide (0≤l)&&(decide (l≤h)&&decide (h≤es.length)))
   | _,_=>false
 | _=>false
theorem ZB7{et:TyI}{x:D}{lo hi:Option D}{r:Res}(h:Zmr et x lo hi=some r)(ho:okSl et x lo hi=true):r.ok:=by
 unfold Zmr at h
 unfold okSl at ho
 split at h
 ·split at h
  ·rename_i l hh h1 h2
   cases h
   simp only[h1,h2,Ya2,decide_eq_true_eq,Ya6,beq_iff_eq]at ho
   exact ho
  ·cases h
 ·cases h
def ZB6(x:D)(lo hi:Option D):Bool :=
 match x with
 | .v (.string s)=>match Zgh lo 0,Zgh hi s.size with
   | some l,some h=>decide (0≤l)&&(decide (l≤h)&&decide (h≤s.size))
   | _,_=>false
 | _=>false
theorem Zzq{x:D}{lo hi:Option D}{r:Res}(h:Zfk x lo hi=some r)(ho:ZB6 x lo hi=true):r.ok:=by
 unfold Zfk at h
 unfold ZB6 at ho
 split at h
 ·split at h
  ·rename_i l hh h1 h2
   cases h
   simp only[h1,h2,Ya2,decide_eq_true_eq]at ho
   exact ho
  ·cases h
 ·cases h
def okMk(et:TyI)(l c:D):Bool :=
 match l,c with
 | .v (.int _ l),.v (.int _ c)=>decide (0≤l)&&(decide (l≤c)&&(decide ((et.bytes:Int)*c≤140737488355328)&&decide (c≤9007199254740992)))
 | _,_=>false
theorem ZB8{ty et:TyI}{l c:D}{nx:Nat}{r:Res}(h:ZdC ty et l c nx=some r)(ho:okMk et l c=true):r.ok:=by
 unfold ZdC at h
 unfold okMk at ho
 split at h
 ·split at h
  ·split at h
   ·cases h
    simpa only[Ya2,decide_eq_true_eq]using ho
   ·cases h
  ·cases h
 ·cases h
def okIx(d:D):Bool :=
 match d with
 | .v (.int _ n)=>decide (0≤n)
 | _=>false
def okOp(P:Program)(o:Op)(t:Nat→D)(m:Mem):Bool :=
 match o with
 | .indexAddr _ _ i=>okIx (rd t i)
 | .index _ _ i=>okIx (rd t i)
 | .slice T x lo hi none=>match tyOf P T with
   | some ty => if ty.kind = 2 then (match tyOf P ty.elem with
       | some et=>okSl et (rd t x) (lo.map (rd t)) (hi.map (rd t))
       | none=>false)
     else ZB6 (rd t x) (lo.map (rd t)) (hi.map (rd t))
   | none=>false
 | .makeSlice T l c=>match tyOf P T with
   | some ty=>match tyOf P ty.elem with
     | some et=>okMk et (rd t l) (rd t c)
     | none=>false
   | none=>false
 | .binOp op _ x y _=>Zup op (rd t x) (rd t y)
 | .call {callee:=.builtin .append,args,argTypes}=>match args.toList,argTypes.toList with
   | [x,y],[T,_]=>match tyOf P T with
     | some ty=>match tyOf P ty.elem with
       | some et=>ZCa et (rd t x) (rd t y) m
       | none=>false
     | none=>false
   | _,_=>false
 | _=>true
theorem Zib{x:Option D}{r:Res}(h:x.map Res.pure=some r):r.ok:=by
 cases x with
 | none=>cases h
 | some d=>cases h;trivial
theorem ZwD{ty et:TyI}{x ix:D}{m:Mem}{r:Res}(h:ZcC ty et x ix m=some r)(ho:okIx ix=true):r.ok:=by
 unfold ZcC at h
 split at h
 ·split at h
  ·rename_i n
   have hn:0≤n:=by simpa[okIx]using ho
   split at h
   ·split at h
    ·split at h
     ·cases h;exact hn
     ·cases h
    ·cases h
   ·split at h
    ·split at h
     ·split at h
      ·cases h;exact hn
      ·cases h
     ·cases h
    ·cases h
   ·cases h
  ·cases h
 ·cases h
theorem ZB9{ty:TyI}{x ix:D}{r:Res}(h:Zm1 ty x ix=some r)(ho:okIx ix=true):r.ok:=by
 unfold Zm1 at h
 split at h
 ·split at h
  ·rename_i s _ n
   have hn:0≤n:=by simpa[okIx]using ho
   split at h
   ·cases h;exact hn
   ·cases h
  ·cases h
 ·cases h
theorem ZzG{ty:TyI}{x:D}{m:Mem}{r:Res}(h:ZjH ty x m=some r):r.ok:=by
 unfold ZjH at h
 split at h
 ·exact Zib h
 ·split at h
  ·rename_i b hb
   cases hq:ldE b.es _ _ ty with
   | none=>rw[hq]at h;cases h
   | some d=>rw[hq]at h;cases h;trivial
  ·cases h
 ·cases h
theorem Zvr{ty:TyI}{x y:D}{m:Mem}{r:Res}(h:ZhK ty x y m=some r):r.ok:=by
 unfold ZhK at h
 split at h
 ·split at h
  ·split at h
   ·split at h
    ·cases h;trivial
    ·cases h
   ·cases h
  ·cases h
 ·cases h
theorem Zom{ty:TyI}{x:D}{f:Nat}{r:Res}(h:Zen ty x f=some r):r.ok:=by
 unfold Zen at h
 split at h
 ·split at h
  ·cases h
  ·split at h
   ·cases h;trivial
   ·cases h;trivial
   ·cases h
 ·cases h
theorem Zxz{ty:TyI}{x:D}{f:Nat}{r:Res}(h:Zm8 ty x f=some r):r.ok:=by
 unfold Zm8 at h
 split at h
 ·split at h
  ·cases h
  ·exact Zib h
 ·cases h
theorem Zyc{ty:TyI}{ps:List (Nat×D)}{r:Res}(h:Znf ty ps=some r):r.ok:=by
 unfold Znf at h
 split at h
 ·split at h
  ·cases hq:ZlP (fun i=>(ty.fields[i]?).map fun f=>(f.1,f.2.1)) _ ps with
   | none=>rw[hq]at h;cases h
   | some d=>rw[hq]at h;cases h;trivial
  ·cases h
 ·cases h
theorem ZrB{ty et:TyI}{n:Nat}{ps:List (Nat×D)}{nx:Nat}{r:Res}(h:Zc7 ty et n ps nx=some r):r.ok:=by
 unfold Zc7 at h
 split at h
 ·split at h
  ·cases h;trivial
  ·cases h
 ·cases h
theorem ZCv{ty:TyI}{x:D}{m:Mem}{r:Res}(h:lenF ty x m=some r):r.ok:=by
 unfold lenF at h
 split at h
 ·split at h<;>cases h;trivial
 ·split at h<;>cases h;trivial
 ·split at h
  ·split at h<;>cases h;trivial
  ·cases h
 ·split at h<;>cases h;trivial
 ·cases h
theorem ZEi{b:Bool}{l:List D}{r:Res}(h:Zh7 b l=some r):r.ok:=by
 unfold Zh7 at h
 split at h
 ·split at h<;>cases h;trivial
 ·cases h
theorem ZAm{a b:TyI}{x:D}{r:Res}(h:Zhv a b x=some r):r.ok:=by
 unfold Zhv at h
 split at h
 ·split at h<;>cases h;trivial
 ·cases h
theorem Zys{T:TypeId}{ty:TyI}{nx:Nat}{r:Res}(h:Zl3 T ty nx=some r):r.ok:=by
 unfold Zl3 at h
 split at h<;>cases h;trivial
theorem ZC7{T:TypeId}{x:D}{nx:Nat}{r:Res}(h:boxF T x nx=some r):r.ok:=by
 unfold boxF at h
 split at h<;>cases h;trivial
theorem ZwC{P:Program}{o:Op}{t:Nat→D}{m:Mem}{nx:Nat}{r:Res}(h:opF P o t m nx=some r)(ho:okOp P o t m=true):r.ok:=by
 unfold opF at h
 unfold okOp at ho
 split at h
 all_goals (try (cases h;trivial))
 all_goals (try simp only at ho)
 all_goals (repeat' (split at h))
 all_goals (try (cases h;done))
 all_goals (try (cases h;trivial))
 all_goals (first
  | exact Zib h
  | exact ZzG h
  | exact Zvr h
  | exact Zom h
  | exact Zxz h
  | exact Zyc h
  | exact ZrB h
  | exact ZCv h
  | exact ZEi h
  | exact ZAm h
  | exact Zys h
  | exact ZC7 h
  | exact ZwD h ho
  | exact ZB9 h ho
  | skip)
 ·rename_i h1 h2 _ _ h3
  simp only[h1,h2,h3,if_true]at ho;exact ZB7 h ho
 ·rename_i h1 h2 _
  simp only[h1,if_neg h2]at ho;exact Zzq h ho
 ·rename_i h1 _ _ h2
  simp only[h1,h2]at ho;exact ZB8 h ho
 ·rename_i h1
  cases h
  exact Zzs h1 ho
 ·rename_i e1 e2 e3 _ _ h1 _ _ h2
  subst e3
  simp only[e1,e2,h1,h2]at ho
  exact Zzu h ho
section
variable (P:Program) (call:FuncId→List D→Option D) (inl:FuncId→List D→List (Nat×Blk)→Nat→Option (D×List (Nat×Blk)×Nat))
def newB(l:List Nat)(nx:Nat):Bool :=
 match l with
 | []=>true
 | [k]=>Nat.beq k nx
 | _=>false
theorem ZwM{l:List Nat}{nx:Nat}(h:newB l nx=true):l=[]∨l=[nx]:=by
 unfold newB at h
 split at h
 ·exact .inl rfl
 ·exact .inr (by rw[Nat.eq_of_beq_eq_true h])
 ·cases h
def Zti(f:FuncId)(ds:List D)(c:CS):Option (D×List (Nat×Blk)) :=
 match call f (ZeQ (tabM (ovL c.m (Zb1 (Zb3 ds) (tabM c.m)))) ds)with
 | some d=>some (d,ovL c.m (Zb1 (Zb3 ds) (tabM c.m)))
 | none=>none
def evOp(o:SOp)(c:CS):Option CS :=
 match opF P o.op (tabU c.t) (tabM c.m) c.nx with
 | some r=>cond (okOp P o.op (tabU c.t) (tabM c.m)&&newB r.new c.nx) (some ⟨putC c.t o.dst r.d,ovL c.m r.wr,c.nx+r.new.length⟩) none
 | none=>match ZgX o.op (tabU c.t)with
   | some (f,ds)=>match inl f ds c.m c.nx with
     | some (d,m',nx')=>some ⟨putC c.t o.dst d,m',nx'⟩
     | none=>match Zti call f ds c with
       | some (d,m')=>some ⟨putC c.t o.dst d,m',c.nx⟩
       | none=>none
   | none=>none
def Zos(ds:List (Option Tmp)):List SOp→CS→Option CS
 | [],c=>some c
 | o ::rest,c=>match o.guard with
   | none=>match evOp P call inl o c with
     | some c'=>Zos ds rest c'
     | none=>none
   | some g=>match Zfw ds g (tabU c.t)with
     | some p => cond (p.2 == g.2) (match evOp P call inl o c with
         | some c'=>Zos ds rest c'
         | none=>none) (Zos ds rest ⟨putC c.t o.dst (.v undef),c.m,c.nx⟩)
     | none=>none
def ZxK(o:SOp)(c:CS):Option (Ev×CS) :=
 match opF P o.op (tabU c.t) (tabM c.m) c.nx with
 | some r => cond (okOp P o.op (tabU c.t) (tabM c.m) && (newB r.new c.nx && r.wr.all (fun p => decide (p.1 < c.nx + r.new.length))))
     (some (⟨r.d,r.rd++r.new++r.wr.map (·.1),r.wr,false⟩,⟨putC c.t o.dst r.d,ovL c.m r.wr,c.nx+r.new.length⟩)) none
 | none=>match ZgX o.op (tabU c.t)with
   | some (f,ds)=>match Zti call f ds c with
     | some (d, m') => cond ((Zb1 (Zb3 ds) (tabM c.m)).all (fun p => decide (p.1 < c.nx)))
         (some (⟨d,Zb3 ds++(Zb1 (Zb3 ds) (tabM c.m)).map (·.1),Zb1 (Zb3 ds) (tabM c.m),false⟩,⟨putC c.t o.dst d,m',c.nx⟩)) none
     | none=>none
   | none=>none
def Zor(ds:List (Option Tmp)):List SOp→CS→List Ev→Option (List Ev×CS)
 | [],c,tr=>some (tr,c)
 | o ::rest,c,tr=>match o.guard with
   | none=>match ZxK P call o c with
     | some (ev,c')=>Zor ds rest c' (tr++[ev])
     | none=>none
   | some g=>match Zfw ds g (tabU c.t)with
     | some p => cond (p.2 == g.2) (match ZxK P call o c with
         | some (ev,c')=>Zor ds rest c' (tr++[ev])
         | none=>none) (Zor ds rest ⟨putC c.t o.dst (.v undef),c.m,c.nx⟩ (tr++[⟨.v undef,[],[],false⟩]))
     | none=>none
def Zth(body:CS→Option (Exit×CS)):Nat→CS→Option (Exit×CS)
 | 0,_=>none
 | k+1,c=>match body c with
   | some (.normal,c')=>Zth body k c'
   | r=>r
def Zy8(ops:Array Oper)(tr:List Ev):Bool:=tr.all (fun e=>e.wr.isEmpty)||Zgy ops (tr.map fun e=>(e.touch,ids e.wr))
def evC(L:Nat):Code→CS→Option (Exit×CS)
 | .skip,c=>some (.normal,c)
 | .exit id,c=>some (.exit id,c)
 | .ret,c=>some (.ret,c)
 | .seq x y,c=>match evC L x c with
   | some (.normal,c')=>evC L y c'
   | r=>r
 | .block id x,c=>match evC L x c with
   | some (.exit id',c')=>if id'=id then some (.normal,c')else some (.exit id',c')
   | r=>r
 | .cond o x y,c=>match rd (tabU c.t) o with
   | .v (.bool true)=>evC L x c
   | .v (.bool false)=>evC L y c
   | _=>none
 | .loop x,c=>Zth (evC L x) L c
 | .region _ l false,c=>match Zos P call inl (l.toList.map (·.dst)) (l.toList.map ZhC) c with
   | some c'=>some (.normal,c')
   | none=>none
 | .region _ l true,c=>match Zor P call (l.toList.map (·.dst)) (l.toList.map ZhC) c []with
   | some (tr,c')=>cond (Zy8 l tr) (some (.normal,c')) none
   | none=>none
 | _,_=>none
def Zi0(n:Nat):Code→Bool
 | .skip | .exit _ | .ret=>true
 | .seq x y=>Zi0 n x&&Zi0 n y
 | .block _ x=>Zi0 n x
 | .cond o x y=>Zee n o&&(Zi0 n x&&Zi0 n y)
 | .loop x=>Zi0 n x
 | .region _ l false=>l.all (Zbq n)
 | .region _ l true=>l.all (Zbq n)&&Zks l
 | _=>true
end
section ifl
variable [Ifl]
section
variable {P:Program} {call:FuncId→List D→Option D} {inl:FuncId→List D→List (Nat×Blk)→Nat→Option (D×List (Nat×Blk)×Nat)}
 (hc:∀ f ds d,call f ds=some d→Zaa P f ds d)
include hc
theorem Zp4{f:FuncId}{ds:List D}{c:CS}{d:D}{m':List (Nat×Blk)}(h:Zti call f ds c=some (d,m')):Zaa P f (ZeQ (ZeE (tabM c.m) ds) ds) d∧tabM m'=ZeE (tabM c.m) ds∧m'=ovL c.m (Zb1 (Zb3 ds) (tabM c.m)):=by
 unfold Zti at h
 split at h
 ·rename_i d' hd
  cases h
  have h1:=hc _ _ _ hd
  rw[ZiJ]at h1
  exact⟨h1,ZiJ _ _,rfl⟩
 ·cases h
variable (hi:∀ f ds m nx d m' nx',inl f ds m nx=some (d,m',nx')→∀ K:D→Mem→Nat→Prop,K d (tabM m') nx'→ZaN P f ds (tabM m) nx K)
include hi
theorem ZxJ{o:SOp}{c c':CS}{lo:Nat}{K:St→Prop}(h:evOp P call inl o c=some c')(k:K (c'.den lo)):opS P o (c.den lo) K:=by
 unfold evOp at h
 unfold opS CS.den
 simp only
 split at h
 ·rename_i r hr
  rw[hr]
  cases hb:(okOp P o.op (tabU c.t) (tabM c.m)&&newB r.new c.nx)
  ·rw[hb]at h;cases h
  ·rw[hb]at h
   simp only[cond_true,Ya1]at h
   subst h
   rw[Ya2]at hb
   refine⟨ZwC hr hb.1,ZwM hb.2,?_⟩
   simp only[CS.den,Zev,ZiJ]at k
   exact k
 ·rename_i hr
  rw[hr]
  split at h
  ·rename_i f ds hd
   rw[hd]
   simp only
   split at h
   ·rename_i d m' nx' hin
    cases h
    refine hi _ _ _ _ _ _ _ hin _ ?_
    simp only[CS.den,Zev]at k
    exact k
   ·split at h
    ·rename_i d m' hq
     cases h
     obtain⟨h1,h2,_⟩:=Zp4 hc hq
     refine ZaN.ofN h1 ?_
     simp only[CS.den,Zev,h2]at k
     exact k
    ·cases h
  ·cases h
theorem ZkL{ds:List (Option Tmp)}{lo:Nat}{K:St→Prop}:∀ (l:List SOp)(c c':CS),Zos P call inl ds l c=some c'→K (c'.den lo)→opsL P ds l (c.den lo) K
 | [],c,c',h,k=>by unfold Zos at h;cases h;exact k
 | o ::rest,c,c',h,k=>by
   unfold Zos at h
   unfold opsL
   split at h
   ·rename_i hg
    rw[hg]
    simp only
    split at h
    ·rename_i c1 h1
     exact ZxJ hc hi h1 (ZkL rest c1 c' h k)
    ·cases h
   ·rename_i g hg
    rw[hg]
    simp only
    split at h
    ·rename_i p hp
     rw[show Zfw ds g (c.den lo).t=some p from hp]
     obtain⟨k1,b⟩:=p
     obtain⟨j,want⟩:=g
     simp only
     have go:∀ {c1},evOp P call inl o c=some c1→Zos P call inl ds rest c1=some c'→opS P o (c.den lo) fun s'=>opsL P ds rest s' K:=fun h1 h2=>ZxJ hc hi h1 (ZkL rest _ c' h2 k)
     have no:Zos P call inl ds rest ⟨putC c.t o.dst (.v undef),c.m,c.nx⟩=some c'→opsL P ds rest {(c.den lo)with t:=putT (c.den lo).t o.dst (.v undef)} K:=fun h2=>by
      have:=ZkL rest _ c' h2 k
      simp only[CS.den,Zev]at this
      exact this
     cases b<;>cases want<;>simp only[beq_self_eq_true,cond_true]at h ⊢
     ·split at h
      ·rename_i c1 h1;exact go h1 h
      ·cases h
     ·exact no h
     ·exact no h
     ·split at h
      ·rename_i c1 h1;exact go h1 h
      ·cases h
    ·cases h
omit hi in
theorem Ztg{o:SOp}{c c':CS}{ev:Ev}{lo:Nat}{K:Ev→St→Prop}(h:ZxK P call o c=some (ev,c'))(k:K ev (c'.den lo)):opE P o (c.den lo) K∧ev.ints=false:=by
 unfold ZxK at h
 unfold opE CS.den
 simp only
 split at h
 ·rename_i r hr
  rw[hr]
  cases hb:(okOp P o.op (tabU c.t) (tabM c.m)&&(newB r.new c.nx&&r.wr.all (fun p=>decide (p.1<c.nx+r.new.length))))
  ·rw[hb]at h;cases h
  ·rw[hb]at h
   simp only[cond_true,Ya1,Prod.mk.injEq]at h
   obtain⟨rfl,rfl⟩:=h
   rw[Ya2,Ya2]at hb
   refine⟨⟨ZwC hr hb.1,ZwM hb.2.1,hb.2.2,?_⟩,rfl⟩
   simp only[CS.den,Zev,ZiJ]at k
   exact k
 ·rename_i hr
  rw[hr]
  split at h
  ·rename_i f ds hd
   rw[hd]
   simp only
   split at h
   ·rename_i d m' hq
    cases hb:(Zb1 (Zb3 ds) (tabM c.m)).all (fun p=>decide (p.1<c.nx))
    ·rw[hb]at h;cases h
    ·rw[hb]at h
     simp only[cond_true,Ya1,Prod.mk.injEq]at h
     obtain⟨rfl,rfl⟩:=h
     obtain⟨h1,h2,h3⟩:=Zp4 hc hq
     refine⟨.inl ⟨d,false,.inr h1,hb,?_⟩,rfl⟩
     simp only[CS.den,Zev,h2]at k
     exact k
   ·cases h
  ·cases h
omit hi in
theorem Zoq{ds:List (Option Tmp)}{lo:Nat}{K:List Ev→St→Prop}:∀ (l:List SOp)(c c':CS)(tr tr':List Ev),Zor P call ds l c tr=some (tr',c')→(tr.any (·.ints)=false→tr'.any (·.ints)=false→K tr' (c'.den lo))→tr.any (·.ints)=false→runL P ds l (c.den lo) tr K∧tr'.any (·.ints)=false
 | [],c,c',tr,tr',h,k,hn=>by unfold Zor at h;cases h;exact⟨k hn hn,hn⟩
 | o ::rest,c,c',tr,tr',h,k,hn=>by
   unfold Zor at h
   unfold runL
   have hn1:∀ ev:Ev,ev.ints=false→(tr++[ev]).any (·.ints)=false:=fun ev he=>by rw[List.any_append,hn];simp[he]
   have go:∀ {ev c1},ZxK P call o c=some (ev,c1)→Zor P call ds rest c1 (tr++[ev])=some (tr',c')→(opE P o (c.den lo) fun ev s'=>runL P ds rest s' (tr++[ev]) K)∧tr'.any (·.ints)=false:=fun {ev c1} h1 h2=>by
    have e0:=(Ztg (lo:=lo) (K:=fun _ _=>True) hc h1 trivial).2
    obtain⟨a,b⟩:=Zoq rest c1 c' _ tr' h2 (fun _=>k hn) (hn1 ev e0)
    exact⟨(Ztg (K:=fun ev s'=>runL P ds rest s' (tr++[ev]) K) hc h1 a).1,b⟩
   split at h
   ·rename_i hg
    rw[hg]
    simp only
    split at h
    ·rename_i ev c1 h1
     exact go h1 h
    ·cases h
   ·rename_i g hg
    rw[hg]
    simp only
    split at h
    ·rename_i p hp
     rw[show Zfw ds g (c.den lo).t=some p from hp]
     obtain⟨k1,b⟩:=p
     obtain⟨j,want⟩:=g
     simp only
     have no:Zor P call ds rest ⟨putC c.t o.dst (.v undef),c.m,c.nx⟩ (tr++[⟨.v undef,[],[],false⟩])=some (tr',c')→runL P ds rest {(c.den lo)with t:=putT (c.den lo).t o.dst (.v undef)} (tr++[⟨.v undef,[],[],false⟩]) K∧tr'.any (·.ints)=false:=fun h2=>by
      have:=Zoq rest _ c' _ tr' h2 (fun _=>k hn) (hn1 _ rfl)
      simp only[CS.den,Zev]at this
      exact this
     cases b<;>cases want<;>simp only[beq_self_eq_true,cond_true]at h ⊢
     ·split at h
      ·rename_i ev c1 h1;exact go h1 h
      ·cases h
     ·exact no h
     ·exact no h
     ·split at h
      ·rename_i ev c1 h1;exact go h1 h
      ·cases h
    ·cases h
omit hc hi in
theorem Zy7{ops:Array Oper}{tr:List Ev}(h:Zy8 ops tr=true):Zgy ops (tr.map fun e=>(e.touch,ids e.wr))=true:=by
 unfold Zy8 at h
 rw[Bool.or_eq_true]at h
 rcases h with h|h
 ·unfold Zgy
  rw[Ya6]
  intro j _
  rw[Ya6]
  intro i _
  have hw:∀ (k:Nat) x,(tr.map fun e=>(e.touch,ids e.wr))[k]? =some x→x.2=[]:=fun k x hx=>by
   rw[List.getElem?_map]at hx
   cases he:tr[k]? with
   | none=>rw[he]at hx;cases hx
   | some e =>
     rw[he]at hx
     cases hx
     have:=Ya6.1 h e (Ya7 he)
     simp only[List.isEmpty_iff]at this
     simp[ids,this]
  split
  ·rename_i x y hx hy
   rw[hw _ _ hx,hw _ _ hy]
   simp[ZlB]
  ·rfl
 ·exact h
theorem ZgN(hm:P.follows .mixedOrders=true){L n lo:Nat}:∀ (x:Code)(c c':CS)(e:Exit)(Q:Exit→St→Prop),Zi0 n x=true→evC P call inl L x c=some (e,c')→Q e (c'.den lo)→AWP P n x Q (c.den lo)
 | .skip,c,c',e,Q,_,h,k=>by unfold evC at h;cases h;exact ZeV k
 | .exit id,c,c',e,Q,_,h,k=>by unfold evC at h;cases h;exact ZeX k
 | .ret,c,c',e,Q,_,h,k=>by unfold evC at h;cases h;exact aRet k
 | .seq x y,c,c',e,Q,g,h,k=>by
   unfold evC at h
   unfold Zi0 at g
   rw[Ya2]at g
   refine aSeq fun K hK=>?_
   split at h
   ·rename_i c1 h1
    exact ZgN hm x c c1 .normal _ g.1 h1 (hK _ (ZgN hm y c1 c' e Q g.2 h k))
   ·rename_i r hne
    refine ZgN hm x c c' e _ g.1 h ?_
    cases e with
    | normal=>exact absurd h (hne c')
    | _=>exact k
 | .block id x,c,c',e,Q,g,h,k=>by
   unfold evC at h
   unfold Zi0 at g
   refine ZcK ?_
   split at h
   ·rename_i id' c1 h1
    refine ZgN hm x c c1 (.exit id') _ g h1 ?_
    unfold Zhm
    simp only
    split at h
    ·rename_i hid;cases h;rw[if_pos hid];exact k
    ·rename_i hid;cases h;rw[if_neg hid];exact k
   ·rename_i r hne
    refine ZgN hm x c c' e _ g h ?_
    cases e with
    | exit id'=>exact absurd h (hne id' c')
    | _=>exact k
 | .cond o x y,c,c',e,Q,g,h,k=>by
   unfold evC at h
   unfold Zi0 at g
   rw[Ya2,Ya2]at g
   split at h
   ·rename_i hr;exact ZcI g.1 hr (ZgN hm x c c' e Q g.2.1 h k)
   ·rename_i hr;exact ZcJ g.1 hr (ZgN hm y c c' e Q g.2.2 h k)
   ·cases h
 | .loop x,c,c',e,Q,g,h,k=>by
   unfold evC at h
   unfold Zi0 at g
   refine ZrJ (X:={p:Nat×CS // Zth (evC P call inl L x) p.1 p.2=some (e,c')}) (fun p=>p.1.2.den lo) (fun _=>True) (fun p=>p.1.1) ⟨⟨(L,c),h⟩,trivial,fun E B n β a w hr=>⟨β,hr⟩⟩ ?_
   rintro⟨⟨f,c1⟩,h1⟩ _
   simp only at h1 ⊢
   cases f with
   | zero=>cases h1
   | succ f =>
     unfold Zth at h1
     split at h1
     ·rename_i c2 h2
      refine ZgN hm x c1 c2 .normal _ g h2 ?_
      exact⟨⟨(f,c2),h1⟩,trivial,Nat.lt_succ_self _,fun E B n β a w hr=>⟨β,hr⟩⟩
     ·rename_i hne
      refine ZgN hm x c1 c' e _ g h1 ?_
      cases e with
      | normal=>exact absurd h1 (hne c')
      | _=>exact k
 | .region id l false,c,c',e,Q,g,h,k=>by
   unfold evC at h
   unfold Zi0 at g
   split at h
   ·rename_i c1 h1
    cases h
    have:l=l.toList.toArray:=by simp
    rw[this]
    exact aOps (l:=l.toList) _ rfl (by simpa using g) (ZkL hc hi _ _ _ h1 k)
   ·cases h
 | .region id l true,c,c',e,Q,g,h,k=>by
   unfold evC at h
   unfold Zi0 at g
   rw[Ya2]at g
   split at h
   ·rename_i tr c1 h1
    cases hb:Zy8 l tr
    ·rw[hb]at h;cases h
    ·rw[hb]at h
     simp only[cond_true,Ya1,Prod.mk.injEq]at h
     obtain⟨rfl,rfl⟩:=h
     have el:l=l.toList.toArray:=by simp
     rw[el]
     refine ZeW (l:=l.toList) _ rfl hm (by simpa using g.2) (by simpa using g.1) fun KE hE=>?_
     refine(Zoq hc _ _ _ _ _ h1 (fun _ h2=>hE tr _ ?_ (Zay h2) k) rfl).1
     simpa using Zy7 hb
   ·cases h
 | .rangeFunc ..,_,_,_,_,_,h,_=>by unfold evC at h;cases h
 | .scope _,_,_,_,_,_,h,_=>by unfold evC at h;cases h
 | .label _,_,_,_,_,_,h,_=>by unfold evC at h;cases h
 | .goto _,_,_,_,_,_,h,_=>by unfold evC at h;cases h
 | .refuse _,_,_,_,_,_,h,_=>by unfold evC at h;cases h
end
end ifl
def Zxm(P:Program)(p:FuncId×Func):Bool :=
 match p.2.body with
 | some c => Zi0 p.2.ntmps c && (!(p.2.name == "runtime.NumGoroutine") && p.2.results.toList.all (Zkr p.2.ntmps))
 | none=>false
def Zz6(f:FuncId):List (FuncId×Func)→Option Func
 | []=>none
 | p ::l=>cond (Nat.beq p.1 f) (some p.2) (Zz6 f l)
theorem ZpY{f:FuncId}{fn:Func}:∀ {l:List (FuncId×Func)},Zz6 f l=some fn→(f,fn)∈l
 | [],h=>by cases h
 | p ::l,h=>by
   unfold Zz6 at h
   cases hb:Nat.beq p.1 f
   ·rw[hb]at h;exact Yb6 _ (ZpY h)
   ·rw[hb]at h
    have:=Nat.eq_of_beq_eq_true hb
    subst this
    simp only[cond_true,Ya1]at h
    subst h
    exact Yb7
section
variable (P:Program) (fs:List (FuncId×Func)) (ora:FuncId→List D→Option D) (inB:FuncId→Bool) (L:Nat)
def evB(call:FuncId→List D→Option D)(inl:FuncId→List D→List (Nat×Blk)→Nat→Option (D×List (Nat×Blk)×Nat))(f:FuncId)(ds:List D)(m:List (Nat×Blk))(nx:Nat):Option (D×List (Nat×Blk)×Nat) :=
 match Zz6 f fs with
 | none=>none
 | some fn=>match fn.body with
   | none=>none
   | some c=>cond (Nat.ble ds.length fn.ntmps) (match evC P call inl L c ⟨Zru 0 ds,m,nx⟩with
     | some (.normal,s)=>match ZhE P (s.den nx) fn.results.toList with
       | some r=>some (oneD r,s.m,s.nx)
       | none=>none
     | some (.ret,s)=>match ZhE P (s.den nx) fn.results.toList with
       | some r=>some (oneD r,s.m,s.nx)
       | none=>none
     | _=>none) none
def evN(inl:FuncId→List D→List (Nat×Blk)→Nat→Option (D×List (Nat×Blk)×Nat))(f:FuncId)(ds:List D):Option D :=
 match ora f ds with
 | some d=>some d
 | none=>match inl f ds [] 0 with
   | some (d,m,_)=>some (fzT true (tabM m) 8 d)
   | none=>none
def evF:Nat→FuncId→List D→List (Nat×Blk)→Nat→Option (D×List (Nat×Blk)×Nat)
 | 0,_,_,_,_=>none
 | k+1,f,ds,m,nx=>evB P fs L (evN ora (evF k)) (fun g es m' nx'=>cond (inB g) (evF k g es m' nx') none) f ds m nx
variable {P fs ora inB L}
theorem ZEQ[Ifl](hm:P.follows .mixedOrders=true)(hfs:∀ p∈fs,P.funcs[p.1]? =some p.2∧Zxm P p=true){call:FuncId→List D→Option D}{inl:FuncId→List D→List (Nat×Blk)→Nat→Option (D×List (Nat×Blk)×Nat)}
 (hc:∀ f ds d,call f ds=some d→Zaa P f ds d) (hi:∀ f ds m nx d m' nx',inl f ds m nx=some (d,m',nx')→∀ K:D→Mem→Nat→Prop,K d (tabM m') nx'→ZaN P f ds (tabM m) nx K)
 {f:FuncId} {ds:List D} {m m':List (Nat×Blk)} {nx nx':Nat} {d:D} (h:evB P fs L call inl f ds m nx=some (d,m',nx')) {K:D→Mem→Nat→Prop} (k:K d (tabM m') nx'):ZaN P f ds (tabM m) nx K:=by
 unfold evB at h
 split at h
 ·cases h
 ·rename_i fn hfn
  obtain⟨h1,h2⟩:=hfs _ (ZpY hfn)
  split at h
  ·cases h
  ·rename_i c hb
   unfold Zxm at h2
   simp only[hb,Ya2,Bool.not_eq_true']at h2
   obtain⟨g1,g2,g3⟩:=h2
   cases hl:Nat.ble ds.length fn.ntmps
   ·rw[hl]at h;cases h
   ·rw[hl]at h
    simp only[cond_true]at h
    have e0:(⟨Zkp ds,tabM m,nx,nx⟩:St)=(⟨Zru 0 ds,m,nx⟩:CS).den nx:=by unfold CS.den;simp only[ZuI]
    have fin : ∀ {s : CS}, (match ZhE P (s.den nx) fn.results.toList with
        | some r=>some (oneD r,s.m,s.nx)
        | none=>none)=some (d,m',nx')→∃ r,ZhE P (s.den nx) fn.results.toList=some r∧K (oneD r) (s.den nx).m (s.den nx).nx:=fun {s} h=>by
     split at h
     ·rename_i r hr;cases h;exact⟨r,hr,k⟩
     ·cases h
    refine ZaN.inline h1 hb g2 (decide_eq_true (Nat.le_of_ble_eq_true hl)) g3 ?_
    rw[e0]
    split at h
    ·rename_i s hs;exact ZgN hc hi hm c _ s .normal _ g1 hs (fin h)
    ·rename_i s hs;exact ZgN hc hi hm c _ s .ret _ g1 hs (fin h)
    ·cases h
theorem ZxL(hm:P.follows .mixedOrders=true)(hfs:∀ p∈fs,P.funcs[p.1]? =some p.2∧Zxm P p=true)(ho:∀ f ds d,ora f ds=some d→Zaa P f ds d):∀ (k:Nat)(f:FuncId)(ds:List D) (m m':List (Nat×Blk)) (nx nx':Nat) (d:D),evF P fs ora inB L k f ds m nx=some (d,m',nx')→∀ (I:Ifl)(K:D→Mem→Nat→Prop),K d (tabM m') nx'→@ZaN I P f ds (tabM m) nx K
 | 0,_,_,_,_,_,_,_,h,_,_,_=>by cases h
 | k+1,f,ds,m,m',nx,nx',d,h,I,K,hk=>by
   unfold evF at h
   refine ZEQ hm hfs (fun g es d hg=>?_) (fun g es m1 n1 d1 m2 n2 hg K1 k1=>?_) h hk
   ·unfold evN at hg
    split at hg
    ·rename_i d' hd;cases hg;exact ho _ _ _ hd
    ·split at hg
     ·rename_i d' m1 n1 hd
      cases hg
      exact Zaa.ofA fun I=>ZxL hm hfs ho k g es [] m1 0 n1 d' hd I _ rfl
     ·cases hg
   ·cases hb:inB g
    ·simp only[hb,cond_false]at hg;cases hg
    ·simp only[hb,cond_true]at hg
     exact ZxL hm hfs ho k g es m1 m2 n1 n2 d1 hg I K1 k1
theorem ZEP(hm:P.follows .mixedOrders=true)(hfs:∀ p∈fs,P.funcs[p.1]? =some p.2∧Zxm P p=true)(ho:∀ f ds d,ora f ds=some d→Zaa P f ds d){k:Nat}{f:FuncId}{ds:List D}{d:D}(h:evN ora (evF P fs ora inB L k) f ds=some d):Zaa P f ds d:=by
 unfold evN at h
 split at h
 ·rename_i d' hd;cases h;exact ho _ _ _ hd
 ·split at h
  ·rename_i d' m1 n1 hd
   cases h
   exact Zaa.ofA fun I=>ZxL hm hfs ho k f ds [] m1 0 n1 d' hd I _ rfl
  ·cases h
end
def ZEb(_:FuncId)(_:List D):Option D:=none
theorem Zzv{P:Program}:∀ (f:FuncId)(ds:List D)(d:D),ZEb f ds=some d→Zaa P f ds d:=fun _ _ _ h=>by cases h
noncomputable def fsE:List (FuncId×Func):=[(25,Tryz.f25)]
theorem ZEu:∀ p∈fsE,Tryz.prog.funcs[p.1]? =some p.2∧Zxm Tryz.prog p=true:=by
 unfold fsE
 simp only[List.forall_mem_cons,List.not_mem_nil,false_implies,implies_true,and_true]
 exact⟨Tryz.func25,by kernel_rfl⟩
theorem Zl6:Zaa Tryz.prog 25 [] (ZbC exT) :=
 ZEP (ora:=ZEb) (inB:=fun _=>false) (L:=100) (k:=10) Zeb ZEu Zzv (by kernel_rfl)
set_option maxHeartbeats 4000000
theorem ExSol.r{x:List FracD}(S:ExSol fun i=>atP x (i:Nat)):0≤atP x (0:Nat)∧0≤atP x (1:Nat)∧atP x (2:Nat)=atP x (0:Nat)∧0≤atP x (3:Nat)∧atP x (3:Nat)≤atP x (2:Nat)∧atP x (4:Nat)=atP x (1:Nat):=⟨S.p0,S.p1,S.e2,S.p3,S.l3,S.e4⟩
theorem Ztb:Zax (sysT exT 0)=true:=ZaU ZbG 0
theorem Zp1:Zal (sysT exT 0) (exX 2 0 2 2 0)=true:=Ztf (by decide) (by decide) (by decide)
theorem ZA5:Zal (sysT exT 0) (exX 2 1 2 2 1)=true:=Ztf (by decide) (by decide) (by decide)
theorem own0:ownL exE 0=[0]:=by decide +kernel
theorem own1:ownL exE 1=[1]:=by decide +kernel
theorem ZlS{h:Int}{i:Nat}(ho:ownL exE h=[i]){x:List FracD}(hx:Zal (sysT exT 0) x=true):0≤atG x (ZbW exE h)∧(0<atG x (ZbW exE h)↔0<atP x (i:Nat)):=by
 have S:=((ZcN Ztb).1 hx).2.2
 obtain⟨a,b⟩:=ZpS (e:=exE) (h:=h) (x:=x) S.pos
 refine⟨a,b.trans ?_⟩
 rw[ho]
 simp
theorem ZlR:∃ a b:VerD,ZbL exT 0=([a,b],0)∧a.s=2∧b.s=1∧a.h=0∧b.h=1:=by
 have hx:∃ x,Zal (sysT exT 0) x=true:=⟨_,Zp1⟩
 have g0:=ZeG exE 0
 have g1:=ZeG exE 1
 obtain⟨a1,a2,a3,a4⟩:=Ziu (h:=0) Ztb (g:=ZbW exE 0) g0 hx fun x h=>(ZlS own0 h).1
 obtain⟨b1,b2,b3,b4⟩:=Ziu (h:=1) Ztb (g:=ZbW exE 1) g1 hx fun x h=>(ZlS own1 h).1
 refine⟨ZcL (sysT exT 0) (ZbW exE 0) 0,ZcL (sysT exT 0) (ZbW exE 1) 1,?_,a1.2 fun x h=>?_,?_,a4,b4⟩
 ·unfold ZbL
  rw[if_pos ⟨ZAc,by decide⟩]
  rcases Zno Ztb with⟨h,_⟩|⟨_,h⟩
  ·rw[h,if_pos rfl];rfl
  ·have:=Zp1
   rw[h]at this;cases this
 ·rw[(ZlS own0 h).2]
  obtain⟨S,h3⟩:=ZxE h
  obtain⟨_,_,_,_,_,_⟩:=S.r
  grind
 ·rcases b3 with h|h|h
  ·exfalso
   have h1:=(b2.1 h) _ ZA5
   have h2:=(ZlS own1 ZA5).2.2 (by rw[(ZeK 2 1 2 2 1).2.1];decide)
   grind
  ·exact h
  ·exfalso
   have h1:=(b1.1 h) _ Zp1
   have h2:=(ZlS own1 Zp1).2.1 h1
   rw[(ZeK 2 0 2 2 0).2.1]at h2
   exact absurd h2 (by decide)
theorem ZEN:2*exT.e.mv.length+exT.fi.length+exT.cl.length+exT.e.h.toNat*exT.e.mv.length≤6000:=by decide
theorem Zrt{set:List Int}:ZfD exT 0 set=true↔set.contains 0=true:=by
 rw[Zta ZbG ZEN]
 constructor
 ·rintro⟨x,hx,hz⟩
  cases hc:set.contains (0:Int)
  ·exfalso
   have h0:=hz 0 (by decide) hc 0 (by rw[show exT.e=exE from rfl,show((0:Nat):Int)=0 from rfl,own0];exact Yb7)
   obtain⟨S,h3⟩:=ZxE hx
   obtain⟨_,_,_,_,_,_⟩:=S.r
   grind
  ·rfl
 ·intro hc
  refine⟨exX 2 0 2 2 0,Zp1,fun h hh hs i hi=>?_⟩
  have h2:h<2:=hh
  have:h=0∨h=1:=by omega
  rcases this with rfl|rfl
  ·rw[show((0:Nat):Int)=0 from rfl,hc]at hs;cases hs
  ·rw[show exT.e=exE from rfl,show((1:Nat):Int)=1 from rfl,own1,List.mem_singleton]at hi
   subst hi
   exact(ZeK 2 0 2 2 0).2.1
theorem ZCQ:ZhW exT 0=([0,1],0):=by
 obtain⟨a,b,h,ha,hb,h0,h1⟩:=ZlR
 unfold ZhW
 rw[h]
 have e:([a,b].filter fun v=>v.s !=0)=[a,b]:=by simp[ha,hb]
 simp only[if_true,e,List.map,h0,h1]
 rfl
theorem ZEM:ZaJ exT 0=([[0]],0):=by
 unfold ZaJ
 rw[ZCQ,if_pos rfl]
 have e0:ZfD exT 0 []=false:=by
  cases h:ZfD exT 0 []
  ·rfl
  ·have:=Zrt.1 h;cases this
 have e1:ZfD exT 0 [0]=true:=Zrt.2 (by decide)
 have e2:ZfD exT 0 [1]=false:=by
  cases h:ZfD exT 0 [1]
  ·rfl
  ·have:=Zrt.1 h;exact absurd this (by decide)
 have c0:Ze7 [0,1] 0=[[]]:=rfl
 have c1:Ze7 [0,1] 1=[[0],[1]]:=rfl
 have f0:(Ze7 [0,1] 0).filter (ZfD exT 0)=[]:=by rw[c0];simp[e0]
 have f1:(Ze7 [0,1] 1).filter (ZfD exT 0)=[[0]]:=by rw[c1];simp[e1,e2]
 show(Zim exT 0 [0,1] 3 0,(0:Int))=_
 unfold Zim
 rw[f0]
 simp only[List.isEmpty_nil,if_true]
 unfold Zim
 rw[f1]
 rfl
theorem Zoo:Zau exE=[0,1]:=by decide +kernel
theorem Zhq{lift:Nat}{x:List FracD}:Zal (ZaG exT 0 lift) x=true↔Zal (sysT (Zds exT) 0) x=true∧(lift≠0→atP x (0:Nat)=0)∧(lift≠1→atP x (1:Nat)=0):=by
 rw[Zih ZbG]
 refine and_congr_right fun _=>?_
 constructor
 ·intro h
  exact⟨fun hl=>h 0 (by decide) (by decide +kernel) fun e=>hl e.symm,fun hl=>h 1 (by decide) (by decide +kernel) fun e=>hl e.symm⟩
 ·rintro⟨h0,h1⟩
  exact lt5 (fun _ hl=>h0 fun e=>hl e.symm) (fun _ hl=>h1 fun e=>hl e.symm) (fun h=>absurd h (by decide +kernel)) (fun h=>absurd h (by decide +kernel)) (fun h=>absurd h (by decide +kernel))
theorem Zp3:Zal (ZaG exT 0 0) (exX 1 0 1 1 0)=true:=Zhq.2 ⟨Zop (by decide) (by decide) (by decide) (by decide) rfl,fun h=>absurd rfl h,fun _=>(ZeK 1 0 1 1 0).2.1⟩
theorem ex_a2:Zal (ZaG exT 0 0) (exX 1 0 1 0 0)=true:=Zhq.2 ⟨Zop (by decide) (by decide) (by decide) (by decide) rfl,fun h=>absurd rfl h,fun _=>(ZeK 1 0 1 0 0).2.1⟩
theorem ZEL{i:Nat}{g:List TermD}(hg:(Zcu exE)[i]? =some g):((Zc4 exT 0 0).is[i]?).getD false=true↔∃ x,Zal (ZaG exT 0 0) x=true∧0<atG x g:=(Zhb ZbG 0 0).2 i g hg
theorem Zi8{x:List FracD}(h:Zal (ZaG exT 0 0) x=true):ExSol (fun i=>atP x (i:Nat))∧atP x (1:Nat)=0:=by
 obtain⟨a,_,c⟩:=Zhq.1 h
 exact⟨Zon a,c (by decide)⟩
theorem ZxF{i:Nat}(hi:i<5):((Zc4 exT 0 0).is[i]?).getD false=true↔∃ x,Zal (ZaG exT 0 0) x=true∧0<atP x (i:Nat):=Zsh ZbG hi
theorem ZAb{p:Nat}{pl:PlD}(hp:exPl[p]? =some pl)(hk:pl.k≠0):((Zc4 exT 0 0).is[5+p]?).getD false=true↔∃ x,Zal (ZaG exT 0 0) x=true∧0<stN exE (fun i=>atP x (i:Nat)) p 5:=by
 rw[show 5+p=exE.mv.length+p from rfl,ZEL (ZlM (e:=exE) hp)]
 simp only[Zqe (e:=exE) hk]
 exact Iff.rfl
theorem ZA7{p:Nat}{pl:PlD}(hp:exPl[p]? =some pl)(hk:pl.k=0):((Zc4 exT 0 0).is[5+p]?).getD false=false:=by
 cases h:((Zc4 exT 0 0).is[5+p]?).getD false
 ·rfl
 ·obtain⟨x,_,b⟩:=(ZEL (ZlM (e:=exE) hp)).1 h
  rw[Zyp hk]at b
  exact absurd b (by decide)
theorem Ztc(f:Nat→Rat):stN exE f (2:Nat) 5=f 0-f 2∧stN exE f (3:Nat) 5=f 1-f 4∧stN exE f (4:Nat) 5=f 2-f 3+f 4∧stN exE f (5:Nat) 5=f 3:=by
 refine⟨?_,?_,?_,?_⟩
 ·show 0+f 0+0 + -(f 2)+0+0=_;grind
 ·show 0+0+f 1+0+0 + -(f 4)=_;grind
 ·show 0+0+0+f 2 + -(f 3)+f 4=_;grind
 ·show 0+0+0+0+f 3+0=_;grind
theorem Zf1{b:Bool}(h:¬ b=true):b=false:=by cases b;rfl;exact absurd rfl h
theorem ZEK:((Zc4 exT 0 0).is[0]?).getD false=true:=(ZxF (by decide)).2 ⟨_,Zp3,by rw[(ZeK 1 0 1 1 0).1];decide⟩
theorem ZEJ:((Zc4 exT 0 0).is[1]?).getD false=false:=Zf1 fun h=>by
 obtain⟨x,a,b⟩:=(ZxF (by decide)).1 h
 rw[(Zi8 a).2]at b
 exact absurd b (by decide)
theorem ZEI:((Zc4 exT 0 0).is[2]?).getD false=true:=(ZxF (by decide)).2 ⟨_,Zp3,by rw[(ZeK 1 0 1 1 0).2.2.1];decide⟩
theorem ZA9:((Zc4 exT 0 0).is[3]?).getD false=true:=(ZxF (by decide)).2 ⟨_,Zp3,by rw[(ZeK 1 0 1 1 0).2.2.2.1];decide⟩
theorem ZEA{x:List FracD}(h:Zal (ZaG exT 0 0) x=true):atP x (4:Nat)=0:=by
 obtain⟨S,h1⟩:=Zi8 h
 exact S.r.2.2.2.2.2.trans h1
theorem ZA8:((Zc4 exT 0 0).is[4]?).getD false=false:=Zf1 fun h=>by
 obtain⟨x,a,b⟩:=(ZxF (by decide)).1 h
 rw[ZEA a]at b
 exact absurd b (by decide)
theorem ZEH:((Zc4 exT 0 0).is[7]?).getD false=false:=Zf1 fun h=>by
 obtain⟨x,a,b⟩:=(ZAb (p:=2) rfl (by decide)).1 h
 rw[(Ztc _).1,(Zi8 a).1.e2]at b
 grind
theorem ZEG:((Zc4 exT 0 0).is[8]?).getD false=false:=Zf1 fun h=>by
 obtain⟨x,a,b⟩:=(ZAb (p:=3) rfl (by decide)).1 h
 rw[(Ztc _).2.1,(Zi8 a).1.e4]at b
 grind
theorem ZEF:((Zc4 exT 0 0).is[9]?).getD false=true:=(ZAb (p:=4) rfl (by decide)).2 ⟨_,ex_a2,by
 obtain⟨_,_,h2,h3,h4⟩:=ZeK 1 0 1 0 0
 rw[(Ztc _).2.2.1,h2,h3,h4];decide +kernel⟩
theorem ZCT:((Zc4 exT 0 0).is[10]?).getD false=true:=(ZAb (p:=5) rfl (by decide)).2 ⟨_,Zp3,by rw[(Ztc _).2.2.2,(ZeK 1 0 1 1 0).2.2.2.1];decide⟩
theorem ZCS{x:List FracD}(h:Zal (ZaG exT 0 1) x=true):atP x (3:Nat)≤0:=by
 obtain⟨a,b,_⟩:=Zhq.1 h
 have S:=Zon a
 have h0:=b (by decide)
 obtain⟨_,_,_,_,_,_⟩:=S.r
 grind
theorem ZEC:Zbs exT exF=[Zc4 exT 0 0]:=by
 have h1:((Zc4 exT 0 1).is[3]?).getD false=false:=Zf1 fun h=>by
  obtain⟨x,a,b⟩:=(Zsh (lift:=1) (kind:=0) ZbG (i:=3) (by decide)).1 h
  have:=ZCS a
  grind
 unfold Zbs
 rw[show exT.e=exE from rfl,Zoo]
 simp only[List.map,List.filter]
 rw[show exF.v.toNat=3 from rfl,show exF.k=0 from rfl,ZA9,h1]
theorem ZxH(i:Nat):hasR (Zbs exT exF) i=((Zc4 exT 0 0).is[i]?).getD false:=by rw[ZEC];simp[hasR]
theorem Zp2:Zj5 exT exF=[0,2,3]:=by
 unfold Zj5
 rw[show exT.e.mv.length=5 from rfl,show List.range 5=[0,1,2,3,4]from rfl]
 simp only[List.filter,ZxH,ZEK,ZEJ,ZEI,ZA9,ZA8]
theorem ZxG:ZlC exT exF=[4,5]:=by
 unfold ZlC
 rw[show exT.e.pl.length=6 from rfl,show exT.e.mv.length=5 from rfl,show List.range 6=[0,1,2,3,4,5]from rfl]
 have h5:=ZA7 (p:=0) rfl rfl
 have h6:=ZA7 (p:=1) rfl rfl
 simp only[List.filter,ZxH,Nat.reduceAdd,Nat.add_zero,h5,h6,ZEH,ZEG,ZEF,ZCT]
theorem ZCR:ZvA exT exF=[3]:=by
 unfold ZvA
 rw[Zp2]
 decide +kernel
theorem Zte:Zir exT exF 4 (Zf9 exT exF 4)=true∧Zir exT exF 3 (Zf9 exT exF 4)=false:=by
 have hs0:=Zc9 ZbG 0 0
 have hs1:=Zc9 ZbG 0 1
 have p0:ZiH exT exF 4 0=maxY (ZaG exT 0 0) (ZaY (4:Nat) 1):=by
  unfold ZiH
  have hm:=ZnZ (g:=ZaY (3:Nat) 1) hs0 (Zck (by decide) (by decide)) fun x hx=>by
   have:=(Zi8 hx).1.r.2.2.2.1
   rw[Zej];grind
  have:posD (ZaY exF.v 1) (maxX (ZaG exT exF.k 0) (ZaY exF.v 1))=true:=by
   rcases hm with⟨h,_⟩|⟨h1,h2⟩
   ·have:=Zp3
    rw[h]at this;cases this
   ·obtain⟨_,a,b,_⟩:=Za2.1 h1
    refine(ZkB (n:=5) (Zck (by decide) (by decide)) a b).2 (h2 _ Zp3 ?_)
    rw[Zej,(ZeK 1 0 1 1 0).2.2.2.1];decide +kernel
  rw[this,if_pos rfl];rfl
 have p1:ZiH exT exF 4 1=maxY (ZaG exT 0 1) (ZaY (3:Nat) 1):=by
  unfold ZiH
  have:posD (ZaY exF.v 1) (maxX (ZaG exT exF.k 1) (ZaY exF.v 1))=false:=Zf1 fun h=>by
   have hm:=ZnZ (g:=ZaY (3:Nat) 1) hs1 (Zck (by decide) (by decide)) fun x hx=>by
    have:=(Zon (Zhq.1 hx).1).r.2.2.2.1
    rw[Zej];grind
   rcases hm with⟨_,h2⟩|⟨h1,_⟩
   ·rw[show maxX (ZaG exT exF.k 1) (ZaY exF.v 1)=[]from h2,Zwk]at h;cases h
   ·obtain⟨_,a,b,_⟩:=Za2.1 h1
    have h3:=(ZkB (n:=5) (Zck (by decide) (by decide)) a b).1 h
    have h4:=ZCS h1
    have h5:atG (maxX (ZaG exT 0 1) (ZaY (3:Nat) 1)) (ZaY (3:Nat) 1)=1*atP (maxX (ZaG exT 0 1) (ZaY (3:Nat) 1)) (3:Nat):=Zej
    have h6:0<atG (maxX (ZaG exT 0 1) (ZaY (3:Nat) 1)) (ZaY (3:Nat) 1):=h3
    rw[h5]at h6
    grind
  rw[this,if_neg Bool.false_ne_true];rfl
 have n0:ZdS (ZaG exT 0 0) (4:Nat) (maxY (ZaG exT 0 0) (ZaY (4:Nat) 1))=true:=ZmL hs0 (by decide) ⟨_,Zp3⟩ fun x hx=>by rw[ZEA hx];exact Rat.le_refl
 have z1:Zal (ZaG exT 0 1) (exX 0 1 0 0 1)=true:=Zhq.2 ⟨Zop (by decide) (by decide) (by decide) (by decide) rfl,fun _=>(ZeK 0 1 0 0 1).1,fun h=>absurd rfl h⟩
 have n1:ZdS (ZaG exT 0 1) (3:Nat) (maxY (ZaG exT 0 1) (ZaY (3:Nat) 1))=true:=ZmL hs1 (by decide) ⟨_,z1⟩ fun x hx=>ZCS hx
 have n2:∀ y,ZdS (ZaG exT 0 0) (3:Nat) y=false:=fun y=>Zf1 fun h=>by
  have:=Zq4 hs0 (by decide) h Zp3
  rw[(ZeK 1 0 1 1 0).2.2.2.1]at this
  exact absurd this (by decide)
 have ep:Zf9 exT exF 4=[maxY (ZaG exT 0 0) (ZaY (4:Nat) 1),maxY (ZaG exT 0 1) (ZaY (3:Nat) 1)]:=by
  unfold Zf9
  rw[show exT.e=exE from rfl,Zoo]
  simp only[List.map,p0,p1]
 rw[ep]
 unfold Zir
 rw[show exT.e=exE from rfl,Zoo,show exF.k=0 from rfl,show exF.v=(3:Nat)from rfl]
 constructor
 ·simp only[List.length_cons,List.length_nil,List.zip_cons_cons,List.zip_nil_right,List.all_cons,List.all_nil,n0,n1,n2,Bool.or_true,Bool.true_or,decide_true,Bool.and_self]
 ·simp only[List.length_cons,List.length_nil,List.zip_cons_cons,List.zip_nil_right,List.all_cons,List.all_nil,n2,Bool.or_false,Bool.false_and,Bool.and_false]
set_option maxHeartbeats 16000000
theorem ZzN[Ifl]{s:St}(id i j:Nat){b:Blk}{e:List D}(hb:s.m id=some b)(he:b.es[i]? =some e)(hj:e[j]? =some .nil) :
 StLe s {s with m:=upd s.m id (some {b with es:=b.es.set i (e.set j (.sl []))})}:=by
 intro E B n β a w h
 obtain⟨g1,g2,g3⟩:=ZmR (id:=id) (b:=b) (es':=b.es.set i (e.set j (.sl []))) h.mem hb (by simp) (fun i' e' hi'=>by
  rw[List.getElem?_set]at hi'
  split at hi'
  ·rename_i hii
   subst hii
   split at hi'
   ·cases hi';exact⟨e,he,by simp⟩
   ·cases hi'
  ·exact⟨e',hi',rfl⟩) (fun i' j' d' hd'=>by
  obtain⟨e',he',hj'⟩:=Zak.1 hd'
  rw[List.getElem?_set]at he'
  split at he'
  ·rename_i hii
   subst hii
   split at he'
   ·cases he'
    rw[List.getElem?_set]at hj'
    split at hj'
    ·rename_i hjj
     subst hjj
     split at hj'
     ·cases hj'
      exact⟨.nil,Zak.2 ⟨e,he,hj⟩,fun u hu=>ZdB hu.inv_nil⟩
     ·cases hj'
    ·exact⟨d',Zak.2 ⟨e,he,hj'⟩,fun _ hu=>hu⟩
   ·cases he'
  ·exact⟨d',Zak.2 ⟨e',he',hj'⟩,fun _ hu=>hu⟩)
 exact⟨_,g1,fun k hk=>(h.tmp k hk).mono g2 g3,h.width,h.defers,h.le.trans g2,h.sle.trans g3,h.lo⟩
theorem lo2{l:List Nat}(h0:l[0]? =some 0)(h1:l[1]? =some 1):∀ id,id<2→l.contains id=true:=by
 intro id h
 rw[List.contains_iff_mem]
 have:id=0∨id=1:=by omega
 rcases this with rfl|rfl
 ·exact Ya7 h0
 ·exact Ya7 h1
theorem ZuQ{t:TrD}(h:ZaZ t=0):ZaZ (Zds t)=0:=by
 obtain⟨h1,h2,h3⟩:=ZfO h
 have R:=Zby h
 unfold ZaZ Zds
 rw[if_pos h1,if_neg (by have:=R.lc;simp;omega)]
 simpa[Zdc]using h3
theorem ZrG(t0:TrD)(R0:RightTr t0)(h1:ZaZ t0=0)(L0:LenT t0)(find:Nat)(f:FiD)(hx:t0.fi[find]? =some f)(lift:Nat) :
 Zaf Tryz.prog 71 [ZbC t0,dI find,dI lift,Zab (natI (Zau t0.e))] (encS (ZaG t0 f.k lift)):=by
 have hresA:=Tryz.results71
 have hres:=Tryz.results40
 have hresR:=Tryz.results85
 obtain⟨-,hk,-⟩:=R0.fi f (Ya7 hx)
 obtain⟨kind,ekind⟩:∃ k,f.k=k:=⟨_,rfl⟩
 rw[ekind]at hk
 have f0:(0:Int)≤find:=by omega
 obtain⟨t,et⟩:∃ t,Zds t0=t:=⟨_,rfl⟩
 have R:RightTr t:=et▸Zdd R0
 have h1:ZaZ t=0:=et▸ZuQ h1
 have L:LenT t:=by rw[← et];exact⟨L0.e,by simp[Zds],L0.cl⟩
 have eE:t.e=t0.e:=by rw[← et];rfl
 have eT:[dI t0.e.m,dI t0.e.h,dI t0.e.s,Zkc t0.e.pl,ZhR t0.e.mv,Zmc t0.e.ce,ZgO t0.e.re,Zna t0.e.pu,.sl [],Zja t0.cl]=cTr t:=by rw[← et];rfl
 have eS:ZaG t0 f.k lift=⟨t.e.mv.length,ZbS t kind t.e.mv.length++Zga t.e lift⟩:=by unfold ZaG;rw[et,eE,ekind]
 rw[eS,← eE]
 have k1:=ZhU t L
 have k2:=Zrf t R kind
 have k3:=nZ_c
 have k4:=nO_c
 have Lm:=R.e.lm
 rw[h1]at k1
 have h2:¬ kind<0:=by omega
 have h3:¬ kind≥8:=by omega
 refine inC Tryz.func71 rfl Tryz.ntmps71 ?_
 repeat ((fail_if_success (with_reducible refine Zdt 3 ?_)); first
     | (refine hK _ ?_;clear hK;clear K)
     | (refine aSeq fun K hK=>?_)
     | (refine ZcK ?_)
     | (refine ZeV ?_)
     | (refine ZeX ?_)
     | (refine aRet ?_)
     | (refine aOps _ rfl (by kernel_rfl) ?_)
     | (refine ZeW _ rfl Zeb (by kernel_rfl) (by kernel_rfl) fun KE hE=>?_)
     | (refine hE _ _ (by kernel_rfl) (Zay rfl) ?_;clear hE;clear KE)
     | (refine hE _ _ (by kernel_rfl) (Za8 ?hi ?hj) ?_;(case hi=>(repeat(refine Zam rfl ?_));exact Zao);(case hj=>simp);clear hE;clear KE)
     | (refine ZcI rfl ?hc ?_;case hc=>simp only[go_sem,↓reduceIte,hresA,hx,f0,ekind])
     | (refine ZcJ rfl ?hc ?_;case hc=>simp only[go_sem,↓reduceIte,hresA,hx,f0,ekind])
     | (simp only[go_sem,↓reduceIte,hresA,hx,f0,ekind])
     | (refine And.intro ?ho ?_;(case ho=>omega))
     | (clear hK;clear K))
 refine aLe (ZzN 0 0 8 rfl rfl rfl) ?_
 simp only[go_sem,eT]
 refine aGo hresA ?_
 repeat with_reducible intro K hK
 refine Zbf Tryz.func40 rfl (by kernel_rfl) (by kernel_rfl) (by kernel_rfl) ?_
 rw[Tryz.ntmps40]
 refine aGo (cj3 hres h2 h3) ?_
 repeat with_reducible intro K hK
 have kl:(Zb7 t kind).length=t.e.mv.length:=by simp[Zb7]
 refine aLe (ZdK 5 0 1 153 6 rfl rfl rfl) ?_
 simp only[go_sem]
 refine Zat (fun(x:Nat×Nat)=>[(2,.lp 2 0 0 0),(4,.lp 3 0 0 0),(6,.lp 4 0 0 0),(7,.lp 5 0 0 0),(8,.clo 85 [.lp 5 0 0 0]),(34,Zgc (Zb7 t kind)),(35,dI t.e.mv.length),(36,dI x.1)]) (fun x=>[(0,⟨32,0,10,[cTr t],0,false⟩),(1,⟨99,0,2,[[dI 0,.nil]],0,false⟩),(2,⟨32,0,10,[cTr t],0,false⟩),(3,⟨99,0,2,[[dI 0,.nil]],0,false⟩),(4,⟨28,0,8,[cEv t.e],0,false⟩),(5,⟨99,0,2,[[dI t.e.mv.length,.ls 6 x.2]],0,false⟩),(6,⟨153,x.2,6,(ZbS t kind x.1).map cW,0,false⟩)]) 7 2 (fun x=>x.1≤t.e.mv.length) (fun x=>t.e.mv.length-x.1) (0,0) (by show 0≤t.e.mv.length;omega) ?_ ?_
 ·have e0:ZbS t kind 0=[]:=rfl
  refine Zag _ _ _ ?_ ?_ ?_ ?_ ?_ (.inr (lo2 rfl rfl))<;>simp[go_sem,okD,okDs,Zap,e0,kl]
 rintro⟨k,V⟩ hk2
 simp only at hk2
 obtain⟨hw,h0⟩:=ZaM k
 have hA:=Zha t R kind k
 have hA2:=Zha t R kind (k+1)
 have eR:ZbS t kind (k+1)=ZbS t kind k++ZhD t kind k:=rfl
 by_cases h4:(k:Int)<t.e.mv.length
 ·have hka:(Zb7 t kind)[k]? =some (abK t kind k):=by unfold Zb7;rw[List.getElem?_map,List.getElem?_range (by omega)];rfl
  have kb:=ZC9 t.e R.e k (by omega)
  have ks:=Zvt t.e R.e k (by omega)
  have eK:ZhD t kind k=(if ZbK t.e k then []else [ZcR t.e k])++((if (abK t kind k).cap then [oneR k 1 (abK t kind k).hi]else [])++((abK t kind k).fi.map (fun(g:Int)=>oneR k 0 (ofQ (g:Rat)))++List.replicate (abK t kind k).cl.toNat (oneR k 2 (ofQ 0)))):=by
   unfold ZhD abK;rfl
  have hcl:0≤(abK t kind k).cl∧(abK t kind k).cl≤50:=by
   have q2:=Yb1 (fun f:ClD=>f.k==kind&&f.v==(k:Int)) t.cl
   have l5:=R.lc
   unfold abK cleK
   simp only;omega
  have hfi:(abK t kind k).fi.length≤20∧∀ g∈(abK t kind k).fi,1≤g∧g≤1099511627776:=by
   have q2:=Yb1 (fun f:FiD=>f.k==kind&&f.v==(k:Int)) t.fi
   have l4:=R.lf
   refine⟨by unfold abK finK;simp only[List.length_map];omega,fun g hg=>?_⟩
   obtain⟨f,hf,rfl⟩:=List.mem_map.1 hg
   exact(R.fi f (List.mem_filter.1 hf).1).2.2
  generalize abK t kind k=ab at hka hcl hfi eK
  obtain⟨hi,cap,fi,cl⟩:=ab
  dsimp only at eK hcl hfi
  rw[eK]at eR
  clear eK
  obtain⟨A,eA⟩:∃ A,ZbS t kind k=A:=⟨_,rfl⟩
  obtain⟨A',eA'⟩:∃ A,ZbS t kind (k+1)=A:=⟨_,rfl⟩
  rw[eA]at hA
  rw[eA']at hA2
  rw[eA,eA']at eR
  generalize ZbK t.e k=b at kb eR
  rw[eA]
  refine aGo (cj4 hres h0 h4 hka) ?_
  repeat with_reducible intro K hK
  have Zgh:∀ (A1 A2:List RowD),A'=A1++A2→A1.length≤14400:=fun A1 A2 h=>by
   have:=congrArg List.length h
   rw[List.length_append]at this;omega
  have r1:∀ (A1:List RowD)(V1:Nat),A'=A1++((if cap then [oneR k 1 hi]else [])++(fi.map (fun(g:Int)=>oneR k 0 (ofQ (g:Rat)))++List.replicate cl.toNat (oneR k 2 (ofQ 0))))→∀ st,StLe st ⟨tabT [(2,.lp 2 0 0 0),(4,.lp 3 0 0 0),(6,.lp 4 0 0 0),(7,.lp 5 0 0 0),(8,.clo 85 [.lp 5 0 0 0]),(34,Zgc (Zb7 t kind)),(35,dI t.e.mv.length),(36,dI k),(9,dI k),(10,.lp 7 0 0 0)],tabM [(0,⟨32,0,10,[cTr t],0,false⟩),(1,⟨99,0,2,[[dI 0,.nil]],0,false⟩),(2,⟨32,0,10,[cTr t],0,false⟩),(3,⟨99,0,2,[[dI 0,.nil]],0,false⟩),(4,⟨28,0,8,[cEv t.e],0,false⟩),(5,⟨99,0,2,[[dI t.e.mv.length,.ls 6 V1]],0,false⟩),(6,⟨153,V1,6,A1.map cW,0,false⟩),(7,⟨88,0,7,[cAb ⟨hi,cap,fi,cl⟩],0,false⟩)],8,2⟩→K st:=by
   clear eR hA
   intro A1 V1 e1 st hle
   refine hK _ (aLe hle ?_)
   clear hle hK
   have bA1:=Zgh A1 _ e1
   refine aGo hres ?_
   repeat with_reducible intro K hK
   have r2:∀ (A2:List RowD)(V2:Nat),A'=A2++(fi.map (fun(g:Int)=>oneR k 0 (ofQ (g:Rat)))++List.replicate cl.toNat (oneR k 2 (ofQ 0)))→∀ st,StLe st ⟨tabT [(2,.lp 2 0 0 0),(4,.lp 3 0 0 0),(6,.lp 4 0 0 0),(7,.lp 5 0 0 0),(8,.clo 85 [.lp 5 0 0 0]),(34,Zgc (Zb7 t kind)),(35,dI t.e.mv.length),(36,dI k),(9,dI k),(10,.lp 7 0 0 0)],tabM [(0,⟨32,0,10,[cTr t],0,false⟩),(1,⟨99,0,2,[[dI 0,.nil]],0,false⟩),(2,⟨32,0,10,[cTr t],0,false⟩),(3,⟨99,0,2,[[dI 0,.nil]],0,false⟩),(4,⟨28,0,8,[cEv t.e],0,false⟩),(5,⟨99,0,2,[[dI t.e.mv.length,.ls 6 V2]],0,false⟩),(6,⟨153,V2,6,A2.map cW,0,false⟩),(7,⟨88,0,7,[cAb ⟨hi,cap,fi,cl⟩],0,false⟩)],8,2⟩→K st:=by
    clear e1 bA1
    intro A2 V2 e2 st hle
    refine hK _ (aLe hle ?_)
    clear hle hK
    refine aGo hres ?_
    repeat with_reducible intro K hK
    obtain⟨F,hF⟩:∃ F:Nat→List RowD,F=fun j=>A2++(fi.take j).map (fun(g:Int)=>oneR k 0 (ofQ (g:Rat))):=⟨_,rfl⟩
    have F0:F 0=A2:=by rw[hF];simp
    have Fn:F fi.length=A2++fi.map (fun(g:Int)=>oneR k 0 (ofQ (g:Rat))):=by rw[hF];simp
    have Fs:∀ (j:Nat)(g:Int),fi[j]? =some g→F (j+1)=F j++[oneR k 0 (ofQ (g:Rat))]:=fun j g hg=>by rw[hF];simp only;rw[Yb4,hg];simp
    have bA2:=Zgh A2 _ e2
    have Fl:∀ j:Nat,j≤fi.length→(F j).length≤14420:=fun j hj=>by rw[hF];simp;omega
    refine Zat (fun(x:Nat×Nat)=>[(2,.lp 2 0 0 0),(4,.lp 3 0 0 0),(6,.lp 4 0 0 0),(7,.lp 5 0 0 0),(8,.clo 85 [.lp 5 0 0 0]),(34,Zgc (Zb7 t kind)),(35,dI t.e.mv.length),(36,dI k),(9,dI k),(10,.lp 7 0 0 0),(61,Zab fi),(62,dI fi.length),(63,dI x.1)]) (fun x=>[(0,⟨32,0,10,[cTr t],0,false⟩),(1,⟨99,0,2,[[dI 0,.nil]],0,false⟩),(2,⟨32,0,10,[cTr t],0,false⟩),(3,⟨99,0,2,[[dI 0,.nil]],0,false⟩),(4,⟨28,0,8,[cEv t.e],0,false⟩),(5,⟨99,0,2,[[dI t.e.mv.length,.ls 6 x.2]],0,false⟩),(6,⟨153,x.2,6,(F x.1).map cW,0,false⟩),(7,⟨88,0,7,[cAb ⟨hi,cap,fi,cl⟩],0,false⟩)]) 8 2 (fun x=>x.1≤fi.length) (fun x=>fi.length-x.1) (0,V2) (by show 0≤fi.length;omega) ?_ ?_
    ·refine Zag _ _ _ ?_ ?_ ?_ ?_ ?_ (.inr (lo2 rfl rfl))<;>simp[go_sem,okD,okDs,Zap,F0]<;>exact ZbQ _ _
    rintro⟨j,W⟩ hj
    simp only at hj
    obtain⟨hwj,j0⟩:=ZaM j
    by_cases h5:(j:Int)<fi.length
    ·obtain⟨g,hg⟩:∃ g,fi[j]? =some g:=⟨_,Ya0 (by omega)⟩
     obtain⟨g1,g2⟩:=hfi.2 g (Ya7 hg)
     have kg:=ZhN g (by omega) (by omega)
     have eB:=Fs j g hg
     have bl:=Fl j hj
     generalize F j=B at eB bl
     have ew:cW (oneR k 0 (ofQ (g:Rat)))=[.sl [cT ⟨k,ofQ 1⟩],dI 0,dI (ofQ (g:Rat)).p.s,Zab (ofQ (g:Rat)).p.d,dI (ofQ (g:Rat)).q.s,Zab (ofQ (g:Rat)).q.d]:=rfl
     refine aGo (cj4 hres j0 h5 hg) ?_
     repeat with_reducible intro K hK
     refine Zbf Tryz.func85 rfl (by kernel_rfl) (by kernel_rfl) (by kernel_rfl) ?_
     rw[Tryz.ntmps85]
     refine aGo (cj3 hres hresR hwj) ?_
     repeat with_reducible intro K hK
     refine Zac (j+1,W+1) ?_ ?_ ?_
     ·show j+1≤fi.length;omega
     ·show fi.length-(j+1)<fi.length-j;omega
     have ez:∀ M:Mem,List.map (List.map (fzT false M 4)) (B.map cW)=B.map cW:=fun M=>Zan (fun _=>rfl) _
     refine StLe.trans (ZcM 9 rfl) (StLe.trans (ZcY 6 4 rfl) (ZlE (by simp only[go_sem,fzT,ez];exact rfl) ?_))
     refine Zag _ _ _ ?_ ?_ ?_ ?_ ?_ (.inr (lo2 rfl rfl))<;>simp[go_sem,okD,okDs,Zap,ew,eB]
     all_goals (rintro e (⟨a,_,rfl⟩|rfl)<;>rfl)
    obtain rfl:j=fi.length:=by omega
    have e3:A'=F fi.length++List.replicate cl.toNat (oneR k 2 (ofQ 0)):=by rw[Fn,e2,List.append_assoc]
    have bF:=Fl fi.length (Ya4 _)
    generalize F fi.length=A3 at e3 bF
    clear Fs Fn F0 hF e2 Fl bA2
    refine aGo (cj2 hres h5) ?_
    repeat with_reducible intro K hK
    obtain⟨G,hG⟩:∃ G:Nat→List RowD,G=fun j=>A3++List.replicate j (oneR k 2 (ofQ 0)):=⟨_,rfl⟩
    have G0:G 0=A3:=by rw[hG];simp
    have Gs:∀ j:Nat,G (j+1)=G j++[oneR k 2 (ofQ 0)]:=fun j=>by rw[hG];simp only;rw[List.replicate_succ',List.append_assoc]
    have Gl:∀ j:Nat,j≤50→(G j).length≤14470:=fun j hj=>by rw[hG];simp at bF ⊢;omega
    refine Zat (fun(x:Nat×Nat)=>[(2,.lp 2 0 0 0),(4,.lp 3 0 0 0),(6,.lp 4 0 0 0),(7,.lp 5 0 0 0),(8,.clo 85 [.lp 5 0 0 0]),(34,Zgc (Zb7 t kind)),(35,dI t.e.mv.length),(36,dI k),(9,dI k),(10,.lp 7 0 0 0),(74,dI cl),(75,dI x.1)]) (fun x=>[(0,⟨32,0,10,[cTr t],0,false⟩),(1,⟨99,0,2,[[dI 0,.nil]],0,false⟩),(2,⟨32,0,10,[cTr t],0,false⟩),(3,⟨99,0,2,[[dI 0,.nil]],0,false⟩),(4,⟨28,0,8,[cEv t.e],0,false⟩),(5,⟨99,0,2,[[dI t.e.mv.length,.ls 6 x.2]],0,false⟩),(6,⟨153,x.2,6,(G x.1).map cW,0,false⟩),(7,⟨88,0,7,[cAb ⟨hi,cap,fi,cl⟩],0,false⟩)]) 8 2 (fun x=>(x.1:Int)≤cl) (fun x=>cl.toNat-x.1) (0,W) (by show((0:Nat):Int)≤cl;omega) ?_ ?_
    ·refine Zag _ _ _ ?_ ?_ ?_ ?_ ?_ (.inr (lo2 rfl rfl))<;>simp[go_sem,okD,okDs,Zap,G0]<;>exact ZbQ _ _
    clear h5 hwj j0 W
    rintro⟨j,W⟩ hj
    simp only at hj
    have hwj:=ZtF j
    by_cases h5:(j:Int)<cl
    ·have eB:=Gs j
     have bl:=Gl j (by omega)
     generalize G j=B at eB bl
     have ew:cW (oneR k 2 (ofQ 0))=[.sl [cT ⟨k,ofQ 1⟩],dI 2,dI (ofQ 0).p.s,Zab (ofQ 0).p.d,dI (ofQ 0).q.s,Zab (ofQ 0).q.d]:=rfl
     refine aGo (cj2 hres h5) ?_
     repeat with_reducible intro K hK
     refine Zbf Tryz.func85 rfl (by kernel_rfl) (by kernel_rfl) (by kernel_rfl) ?_
     rw[Tryz.ntmps85]
     refine aGo (cj3 hres hresR hwj) ?_
     repeat with_reducible intro K hK
     refine Zac (j+1,W+1) ?_ ?_ ?_
     ·show((j+1:Nat):Int)≤cl;omega
     ·show cl.toNat-(j+1)<cl.toNat-j;omega
     have ez:∀ M:Mem,List.map (List.map (fzT false M 4)) (B.map cW)=B.map cW:=fun M=>Zan (fun _=>rfl) _
     refine StLe.trans (ZcM 9 rfl) (StLe.trans (ZcY 6 4 rfl) (ZlE (by simp only[go_sem,fzT,ez];exact rfl) ?_))
     refine Zag _ _ _ ?_ ?_ ?_ ?_ ?_ (.inr (lo2 rfl rfl))<;>simp[go_sem,okD,okDs,Zap,ew,eB]
     all_goals (rintro e (⟨a,_,rfl⟩|rfl)<;>rfl)
    have e4:ZbS t kind (k+1)=G j:=by rw[eA',e3,hG];simp only;congr 2;omega
    refine aGo (cj3 hres h5 hw) ?_
    repeat with_reducible intro K hK
    exact Zac (k+1,W) (by show k+1≤t.e.mv.length;omega) (by show t.e.mv.length-(k+1)<t.e.mv.length-k;omega) (by refine Zag _ _ _ ?_ ?_ ?_ ?_ ?_ (.inr (lo2 rfl rfl))<;>simp[go_sem,okD,okDs,Zap,e4]<;>exact ZbQ _ _)
   clear hK
   cases cap
   ·rw[if_neg Bool.false_ne_true,List.nil_append]at e1
    refine aGo hres ?_
    repeat with_reducible intro K hK
    exact r2 A1 V1 e1 _ (by refine Zag _ _ _ ?_ ?_ ?_ ?_ ?_ (.inr (lo2 rfl rfl))<;>simp[go_sem,okD,okDs,Zap]<;>exact ZbQ _ _)
   ·rw[if_pos rfl,List.cons_append,List.nil_append]at e1
    have ew:cW (oneR k 1 hi)=[.sl [cT ⟨k,ofQ 1⟩],dI 1,dI hi.p.s,Zab hi.p.d,dI hi.q.s,Zab hi.q.d]:=rfl
    have bl:(A1.map cW).length≤14400:=by simpa using bA1
    refine aGo hres ?_
    repeat with_reducible intro K hK
    refine Zbf Tryz.func85 rfl (by kernel_rfl) (by kernel_rfl) (by kernel_rfl) ?_
    rw[Tryz.ntmps85]
    refine aGo hresR ?_
    repeat with_reducible intro K hK
    refine r2 (A1++[oneR k 1 hi]) (V1+1) (by rw[e1];simp) _ ?_
    have ez:∀ M:Mem,List.map (List.map (fzT false M 4)) (A1.map cW)=A1.map cW:=fun M=>Zan (fun _=>rfl) _
    refine StLe.trans (ZcM 9 rfl) (StLe.trans (ZcY 6 4 rfl) (ZlE (by simp only[go_sem,fzT,ez];exact rfl) ?_))
    refine Zag _ _ _ ?_ ?_ ?_ ?_ ?_ (.inr (lo2 rfl rfl))<;>simp[go_sem,okD,okDs,Zap,ew]
    all_goals (rintro e (⟨a,_,rfl⟩|rfl)<;>rfl)
  clear hK
  cases b
  ·rw[if_neg Bool.false_ne_true]at eR
   refine aGo hres ?_
   repeat with_reducible intro K hK
   exact r1 (A++[ZcR t.e k]) (V+1) (by rw[eR];simp) _ (by refine Zag _ _ _ ?_ ?_ ?_ ?_ ?_ (.inr (lo2 rfl rfl))<;>simp[go_sem,okD,okDs,Zap]<;>(rintro e (⟨a,_,rfl⟩|rfl)<;>rfl))
  ·rw[if_pos rfl,List.nil_append]at eR
   refine aGo hres ?_
   repeat with_reducible intro K hK
   exact r1 A V eR _ (by refine Zag _ _ _ ?_ ?_ ?_ ?_ ?_ (.inr (lo2 rfl rfl))<;>simp[go_sem,okD,okDs,Zap]<;>exact ZbQ _ _)
 obtain rfl:k=t.e.mv.length:=by omega
 refine aGo (cj3 hres hresA h4) ?_
 repeat with_reducible intro K hK
 have hA9:=Zha t R kind t.e.mv.length
 have lf:=Zft t.e
 obtain⟨F,hF⟩:∃ F:Nat→List RowD,F=fun j=>ZbS t kind t.e.mv.length++((((Zau t.e).take j).filter fun i=>i !=lift).map fun i=>oneR i 2 (ofQ 0)):=⟨_,rfl⟩
 have F0:F 0=ZbS t kind t.e.mv.length:=by rw[hF];simp
 have Fn:F (Zau t.e).length=ZbS t kind t.e.mv.length++Zga t.e lift:=by rw[hF];simp[Zga]
 have Fs:∀ (j i:Nat),(Zau t.e)[j]? =some i→F (j+1)=F j++if (i !=lift)=true then [oneR i 2 (ofQ 0)]else []:=fun j i hi=>by
  rw[hF];simp only
  rw[Yb4,hi,List.filter_append,List.map_append,List.append_assoc]
  cases h:i !=lift<;>simp[h]
 have Fl:∀ j:Nat,(F j).length≤14600:=fun j=>by
  have q1:=Yb1 (fun i:Nat=>i !=lift) ((Zau t.e).take j)
  have q2:=List.length_take_le' j (Zau t.e)
  rw[hF];simp only[List.length_append,List.length_map];omega
 have nl:(natI (Zau t.e)).length=(Zau t.e).length:=by simp[natI]
 refine Zat (fun(x:Nat×Nat)=>[(2,dI lift),(8,.lp 1 0 0 0),(10,.lp 7 0 0 0),(27,Zab (natI (Zau t.e))),(28,dI (Zau t.e).length),(29,dI x.1)]) (fun x=>[(1,⟨99,0,2,[[dI 0,.nil]],0,false⟩),(6,⟨153,x.2,6,(F x.1).map cW,0,false⟩),(7,⟨99,0,2,[[dI t.e.mv.length,.ls 6 x.2]],0,false⟩)]) 8 0 (fun x=>x.1≤(Zau t.e).length) (fun x=>(Zau t.e).length-x.1) (0,V) (by show 0≤_;omega) ?_ ?_
 ·refine Zag _ _ _ ?_ ?_ ?_ ?_ ?_ (.inl rfl)<;>simp[go_sem,okD,okDs,Zap,F0,nl]<;>exact ZbQ _ _
 rintro⟨j,W⟩ hj
 simp only at hj
 obtain⟨hwj,j0⟩:=ZaM j
 by_cases h5:(j:Int)<(Zau t.e).length
 ·obtain⟨i,hi⟩:∃ i,(Zau t.e)[j]? =some i:=⟨_,Ya0 (by omega)⟩
  have hiI:(natI (Zau t.e))[j]? =some (i:Int):=by unfold natI;rw[List.getElem?_map,hi];rfl
  have eB:=Fs j i hi
  have bl:=Fl j
  generalize F j=B at eB bl
  have kO:=Zlt i 1 (by decide) (by decide)
  rw[show(((1:Int)):Rat)=1 from rfl]at kO
  have ew:cW (oneR i 2 (ofQ 0))=[Zbh (ZaY i 1),dI 2,dI (ofQ 0).p.s,Zab (ofQ 0).p.d,dI (ofQ 0).q.s,Zab (ofQ 0).q.d]:=rfl
  cases h6:((i:Int) !=(lift:Int))
  ·have h6':(i !=lift)=false:=by simp at h6;simpa using (by omega:i=lift)
   rw[h6',if_neg Bool.false_ne_true,List.append_nil]at eB
   refine aGo (cj4 hresA j0 h5 (cj3 hiI h6 hwj)) ?_
   repeat with_reducible intro K hK
   exact Zac (j+1,W) (by show j+1≤_;omega) (by show(Zau t.e).length-(j+1)<(Zau t.e).length-j;omega) (by refine Zag _ _ _ ?_ ?_ ?_ ?_ ?_ (.inl rfl)<;>simp[go_sem,okD,okDs,Zap,eB]<;>exact ZbQ _ _)
  ·have h6':(i !=lift)=true:=by simp at h6;simpa using (by omega:¬ i=lift)
   rw[h6',if_pos rfl]at eB
   refine aGo (cj4 hresA j0 h5 (cj3 hiI h6 hwj)) ?_
   repeat with_reducible intro K hK
   exact Zac (j+1,W+1) (by show j+1≤_;omega) (by show(Zau t.e).length-(j+1)<(Zau t.e).length-j;omega) (by refine Zag _ _ _ ?_ ?_ ?_ ?_ ?_ (.inl rfl)<;>simp[go_sem,okD,okDs,Zap,eB,ew]<;>(rintro e (⟨a,_,rfl⟩|rfl)<;>rfl))
 obtain rfl:j=(Zau t.e).length:=by omega
 refine aGo (cj2 hresA h5) ?_
 repeat with_reducible intro K hK
 rw[Zan (fun _=>rfl),Fn]
theorem Zxj{e:EvD}{x:MvD}(h:(hiI e x).2=true):0≤qOf (hiI e x).1:=by
 unfold hiI at h ⊢
 split at h
 ·cases h
 ·rename_i h1
  rw[if_neg h1]
  unfold intD at h ⊢
  revert h
  cases hf:ZpZ e.ce x.s x.d with
  | none=>intro h;cases h
  | some b =>
    simp only
    cases hb:e.ce[b]? with
    | none=>intro h;cases h
    | some c =>
      simp only
      obtain⟨_,c',hb',hcov,_⟩:=ZjP hf
      rw[hb]at hb'
      obtain rfl:=Option.some.inj hb'
      cases hr:inB x.r 0 1099511627776
      ·simp only[Bool.not_false,Bool.or_true,if_true];intro h;cases h
      ·split
       ·intro h;cases h
       ·intro _
        have hok:Zin c x.r x.d=true:=by simp[Zin,hcov,hr]
        obtain⟨b1,b2,b3,b4,b5⟩:=ZfE hok
        have e1:((x.r:Int):Rat)+errQ c x.r x.d=Rat.divInt (c.p*x.r+1000*(x.r+(c.g+c.d*(x.d-c.f)))) 1000:=by
         unfold errQ
         rw[Rat.divInt_eq_div,Rat.divInt_eq_div]
         simp only[Rat.intCast_add,Rat.intCast_mul]
         grind
        show 0≤qOf (ofQ (((x.r:Int):Rat)+errQ c x.r x.d))
        rw[e1,Zav]
        exact(Rat.divInt_nonneg_iff_of_pos_right (by decide)).2 (by omega)
structure SmQ (t:TrD):Prop where
 n:t.e.mv.length≤6
 p:t.e.pl.length≤20
 fi:t.fi.length≤8
 cl:t.cl.length≤8
theorem ZBg(n:Nat)(i:Int):atP (List.replicate n (ofQ 0)) i=0:=by
 unfold atP
 rw[List.getElem?_replicate]
 split
 ·exact Zav 0
 ·rfl
theorem Znj{t:TrD}(R:RightTr t)(kind:Int)(lift:Nat):∃ x,Zal (ZaG t kind lift) x=true:=by
 refine⟨List.replicate t.e.mv.length (ofQ 0),(Zih R).2 ⟨(ZcN (ZaU (Zdd R) kind)).2 ⟨by simp[Zds],?_,?_⟩,fun i _ _ _=>ZBg _ _⟩⟩
 ·exact Ya6.2 fun f hf=>by rw[(List.mem_replicate.1 hf).2];exact Zbw _
 ·have hs:∀ (p:Int)(n:Nat),stN (Zds t).e (fun(_:Nat)=>(0:Rat)) p n=0:=fun p n=>by
   unfold stN
   have:(fun j=>if (mvAt (Zds t).e j).t=p then(0:Rat)else if (mvAt (Zds t).e j).f=p then -0 else 0)=fun _=>(0:Rat):=by
    funext j
    split
    ·rfl
    ·split<;>rfl
   rw[this,Zbo]
  have h0:(fun(i:Nat)=>atP (List.replicate t.e.mv.length (ofQ 0)) (i:Nat))=fun _=>(0:Rat):=by funext i;exact ZBg _ _
  rw[h0]
  exact⟨fun _ _=>Rat.le_refl,fun i _ _=>by rw[hs];exact Rat.le_refl,fun i _ _ _=>(hs _ _).symm,fun i _ h=>Zxj h,fun i _ g hg=>by simp[finK,Zds]at hg,fun _ _ _=>rfl⟩
theorem ZrF{t:TrD}(R:RightTr t)(S:SmQ t)(kind:Int)(lift:Nat):(ZaG t kind lift).r.length≤32∧∀ w∈(ZaG t kind lift).r,RowZ w:=by
 have h1:=S.n
 have h3:=S.cl
 have h4:=Zg9 (Zds t) kind
 have h5:=Zpp t.e lift
 have h6:(Zds t).fi.length=0:=rfl
 have h7:(Zds t).cl=t.cl:=rfl
 have h8:(Zds t).e=t.e:=rfl
 rw[h6,h7,h8]at h4
 refine⟨by show(ZbS (Zds t) kind t.e.mv.length++Zga t.e lift).length≤32;rw[List.length_append];omega,fun w hw=>?_⟩
 rcases List.mem_append.1 hw with hw|hw
 ·exact ZvT (Zdd R) (by rw[h8];omega) hw
 ·simp only[Zga,List.mem_map,List.mem_filter]at hw
  obtain⟨i,_,rfl⟩:=hw
  exact Zwz (by decide +kernel)
theorem Zqh{t:TrD}(R:RightTr t)(S:SmQ t)(kind:Int)(lift:Nat)(g:List TermD)(K:Nat)(hg:Zah g t.e.mv.length=true)(hk:IntK K g)(hK:K≤1000000):FitG (ZaG t kind lift) g :=
 Zrq S.n (ZrF R S kind lift).1 (ZrF R S kind lift).2 (Zc9 R kind lift) hg hk hK
abbrev cRes(r:ResD):List D:=[dI r.l,.sl (r.is.map fun b=>[dB b]),ZaQ r.z]
abbrev Zkb(l:List ResD):D:=.sl (l.map cRes)
noncomputable def resA (t:TrD) (f:FiD) (k:Nat):List ResD:=(((Zau t.e).take k).map (Zc4 t f.k)).filter fun r=>(r.is[f.v.toNat]?).getD false
theorem Zv4{t:TrD}{f:FiD}{k lift:Nat}(h:(Zau t.e)[k]? =some lift):resA t f (k+1)=resA t f k++if ((Zc4 t f.k lift).is[f.v.toNat]?).getD false then [Zc4 t f.k lift]else []:=by
 unfold resA
 rw[Yb4,h,List.map_append,List.filter_append]
 congr 1
 simp only[Option.toList_some,List.map_cons,List.map_nil,List.filter_cons,List.filter_nil]
theorem Zy2(t:TrD)(f:FiD)(k:Nat):(resA t f k).length≤k:=by
 unfold resA
 refine Nat.le_trans (Yb1 _ _) ?_
 rw[List.length_map,List.length_take];omega
theorem Zy5(t:TrD)(R:RightTr t)(S:SmQ t)(kind:Int){lift:Nat}(hl:lift<t.e.mv.length) :
 Zaf Tryz.prog 110 [encS (ZaG t kind lift),Zou (Zcu t.e)] (.tup [.sl ((Zc4 t kind lift).is.map fun b=>[dB b]),ZaQ (Zc4 t kind lift).z]):=by
 have h1:=S.n
 have h2:=S.p
 refine Zwa (ZaG t kind lift) (Zcu t.e) (Zc9 R kind lift) (by show(1:Int)≤(t.e.mv.length:Int);omega) (by show(t.e.mv.length:Int)≤6;omega) (by rw[ZpR];omega) (fun g hg=>⟨ZlL hg,ZuA hg⟩) (fun g K hg hk hK=>Zqh R S kind lift g K hg hk hK) (Znj R kind lift)
theorem Zv2(t:TrD)(R:RightTr t)(S:SmQ t)(h1:ZaZ t=0)(L:LenT t)(find:Nat)(f:FiD)(hx:t.fi[find]? =some f) :
 Zaf Tryz.prog 57 [ZbC t,dI find] (Zkb (Zbs t f)):=by
 have hres:=Tryz.results57
 have k1:=Zso t.e R.e
 have k2:=ZCE t.e R.e
 have ll:=Zft t.e
 have s1:=S.n
 obtain⟨⟨v0,v1⟩,-,-⟩:=R.fi f (Ya7 hx)
 have f0:(0:Int)≤find:=by omega
 have eR:Zbs t f=resA t f (Zau t.e).length:=by unfold resA;rw[List.take_length];rfl
 rw[eR]
 refine inC Tryz.func57 rfl Tryz.ntmps57 ?_
 refine aGo hres ?_
 repeat with_reducible intro K hK
 refine aLe (ZcT 5 123 3 rfl) ?_
 simp only[go_sem]
 have lI:(natI (Zau t.e)).length=(Zau t.e).length:=by simp[natI]
 refine Zat (fun(k:Nat)=>[(1,dI find),(2,.lp 0 0 0 0),(5,.ls 1 (resA t f k).length),(6,Zab (natI (Zau t.e))),(7,Zou (Zcu t.e)),(18,Zab (natI (Zau t.e))),(19,dI (Zau t.e).length),(20,dI k)]) (fun k=>[(0,⟨32,0,10,[cTr t],0,false⟩),(1,⟨123,(resA t f k).length,3,(resA t f k).map cRes,0,false⟩)]) 2 0 (fun k=>k≤(Zau t.e).length) (fun k=>(Zau t.e).length-k) 0 (by omega) ?_ ?_
 ·have e0:resA t f 0=[]:=rfl
  refine Zag _ _ _ ?_ ?_ ?_ ?_ ?_ (.inl rfl)<;>simp[go_sem,okD,okDs,Zap,e0,lI]
 rintro k hk
 obtain⟨hw,h0⟩:=ZaM k
 by_cases h2:(k:Int)<(Zau t.e).length
 rotate_left
 ·obtain rfl:k=(Zau t.e).length:=by omega
  refine aGo (cj2 hres h2) ?_
  repeat with_reducible intro K hK
  exact congrArg D.sl (Zan (fun _=>rfl) _)
 obtain⟨lift,hl⟩:∃ x,(Zau t.e)[k]? =some x:=⟨_,Ya0 (by omega)⟩
 have hl2:(natI (Zau t.e))[k]? =some (lift:Int):=by unfold natI;rw[List.getElem?_map,hl];rfl
 obtain⟨g1,g2⟩:=ZgG.1 (Ya7 hl)
 have k3:=ZrG t R h1 L find f hx lift
 have k4:=Zy5 t R S f.k g1
 have hlen:=(Zhb R f.k lift).1
 obtain⟨o,ho⟩:∃ o,(Zc4 t f.k lift).is[f.v.toNat]? =some o:=⟨_,Ya0 (by omega)⟩
 have eN:=Zv4 (f:=f) hl
 have lN:=Zy2 t f k
 rw[ho,Option.getD_some]at eN
 have e1:(Zc4 t f.k lift).l=lift:=rfl
 generalize Zc4 t f.k lift=r at *
 obtain⟨r0,r1,r2⟩:=r
 obtain rfl:r0=lift:=e1
 simp only at ho hlen k4
 generalize ZaG t f.k r0=s at *
 generalize natI (Zau t.e)=A at *
 generalize Zcu t.e=G at *
 cases o
 ·rw[if_neg Bool.false_ne_true,List.append_nil]at eN
  generalize resA t f k=B at *
  refine aGo (cj4 hres h0 h2 (cj4 hl2 hx f0 (cj3 v0 ho hw))) ?_
  repeat with_reducible intro K hK
  exact Zac (k+1) (by omega) (by omega) (by refine Zag _ _ _ ?_ ?_ ?_ ?_ ?_ (.inl rfl)<;>simp[go_sem,okD,okDs,Zap,eN])
 ·rw[if_pos rfl]at eN
  generalize resA t f k=B at *
  refine aGo (cj4 hres h0 h2 (cj4 hl2 hx f0 (cj3 v0 ho hw))) ?_
  repeat with_reducible intro K hK
  exact Zac (k+1) (by omega) (by omega) (by refine Zag _ _ _ ?_ ?_ ?_ ?_ ?_ (.inl rfl)<;>simp[go_sem,okD,okDs,Zap,eN]<;>(rintro e (⟨a,_,rfl⟩|rfl)<;>rfl))
end Go.Proofs.YtjeaacindikplaaGreat
