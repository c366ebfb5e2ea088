/-
  An operation, met in the code, does what opF says; and opF looks at the blocks that it names alone.
-/
import Derived.Test.YtiincpioidnciaaGreatWDataA
import Derived.Lib.SliceRun
import Derived.Laws.StructEq
import Derived.Laws.Pointers
import Derived.Test.YtiincpioidnciaaGreatWLib
import Derived.RangeFuncOwn
import Derived.RangeFuncCalls
namespace Go.Proofs.YtiincpioidnciaaGreat
set_option linter.unusedVariables false
set_option linter.unusedSimpArgs false
set_option linter.unusedSectionVars false
open Go Go.RowKit
section ifl
variable [Ifl]
theorem Zl4{α γ:Type}(f:α→γ)(a:Array α):a.map f=(a.toList.map f).toArray:=by apply Array.ext';simp
section
variable {P:Program} {E:Env} {β:Bet} {m:Mem} {nx:Nat} {w:World} {S:Nat→Nat→Prop}
theorem Ziw{a:Act}{t:Nat→D}{x:Operand}(h:∀ k,x = .tmp k→Rep β m S w (a.eval (.tmp k)) (t k)):Rep β m S w (a.eval x) (rd t x):=by
 cases x with
 | tmp k=>exact h k rfl
 | const v=>exact ZjF v
 | global g=>exact .junk _
 | func f=>exact .clo f [] [] rfl (by simp)
theorem ZjL{a:Act}{t:Nat→D}:∀ ps:List (Nat×Operand),(∀ p∈ps,Rep β m S w (a.eval p.2) (rd t p.2))→ZvB β m S w (ps.map fun(i,x)=>(i,a.eval x)) (ps.map fun p=>(p.1,rd t p.2))
 | [],_=>trivial
 | p ::ps,h=>⟨rfl,h p (by simp),ZjL ps fun q hq=>h q (by simp[hq])⟩
theorem Zhd{a:Act}{t:Nat→D}:∀ l:List Operand,(∀ x∈l,Rep β m S w (a.eval x) (rd t x))→Reps β m S w (l.map a.eval) (l.map (rd t))
 | [],_=>Reps.nil
 | x ::l,h=>Reps.cons (h x (by simp)) (Zhd l fun y hy=>h y (by simp[hy]))
theorem Zk7{mx:Bool}{l:List Value}{ds:List D}{r:Res}{ats:Array TypeId}{ty:TypeId}(hM:ZaK E β m nx w)(hl:Reps β m (safe E β m) w l ds)(h:ZgO mx ds=some r) :
 Runs P E β m nx w (if mx then Builtin.max_ ats ty l.toArray else Builtin.min_ ats ty l.toArray) r:=by
 unfold ZgO at h
 split at h
 ·rename_i k x k' y
  split at h
  ·rename_i hk
   subst hk
   simp only[Ya1]at h
   subst h
   have hlen:=hl.1
   match l,hlen with
   | [u,v],_ =>
     have e1:=(hl.2 0 u _ rfl rfl).inv_v
     have e2:=(hl.2 1 v _ rfl rfl).inv_v
     subst e1;subst e2
     cases mx
     ·exact Runs.pure hM rfl (by simp[Builtin.min_,Builtin.min2]) (.v _)
     ·exact Runs.pure hM rfl (by simp[Builtin.max_,Builtin.max2]) (.v _)
  ·cases h
 ·cases h
theorem Zz1{op:BinOp}{T:TypeId}{x y:Value}{d e z:D}{q:Prop}(hx:Rep β m S w x d)(hy:Rep β m S w y e)(h:binD op d e=some (q,z))(hq:q) :
 ∃ v,(∀ a b,eqGuard op T a b x y=pure ())∧(binOp op T x y).run P w = .ok v w∧z = .v v:=by
 unfold binD at h
 split at h
 ·rename_i k a k' b
  cases hx.inv_v
  cases hy.inv_v
  simp only[Ya1,Prod.mk.injEq]at h
  obtain⟨rfl,rfl⟩:=h
  refine⟨_,fun _ _=>by simp[eqGuard_at_int],?_,rfl⟩
  have:¬ b<0:=by omega
  simp[binOp,Op.shift,this]
 ·rename_i k a k' b
  cases hx.inv_v
  cases hy.inv_v
  simp only[Ya1,Prod.mk.injEq]at h
  obtain⟨rfl,rfl⟩:=h
  refine⟨_,fun _ _=>by simp[eqGuard_at_int],?_,rfl⟩
  have:¬ b<0:=by omega
  simp[binOp,Op.shift,this]
 ·rename_i k a k' b _ _
  cases hx.inv_v
  cases hy.inv_v
  split at h
  ·rename_i hk
   subst hk
   split at h<;>simp only[Ya1,Prod.mk.injEq,reduceCtorEq]at h<;>(try exact h.elim)<;>obtain⟨h1,rfl⟩:=h<;>(try subst h1)
   all_goals refine⟨_,fun _ _=>by simp[eqGuard_at_int],?_,rfl⟩
   all_goals (try (simp[binOp,Op.intArith,Op.intCmp,Op.intBits];done))
   all_goals simp[binOp,Op.intDiv,hq]
  ·cases h
 ·rename_i a b
  cases hx.inv_v
  cases hy.inv_v
  split at h<;>simp only[Ya1,Prod.mk.injEq,reduceCtorEq]at h<;>(try exact h.elim)<;>obtain⟨h1,rfl⟩:=h<;>(try subst h1)
  all_goals refine⟨_,fun _ _=>by simp[eqGuard_at_string],?_,rfl⟩
  all_goals (try (simp[binOp,Op.stringOp];done))
  ·have:¬ (9223372036854775807<(a.size:Int)+(b.size:Int)):=by have:=hq;omega
   simp[binOp,Op.stringOp,this]
 ·cases h
theorem ZzP(x:D)(l:List D):eqL (x ::l) []=none:=by
 unfold eqL
 split<;>first|rfl|simp_all
theorem Zqe{f:TypeId}(h:P.underlying f=some (.int .i64)){vs:List Value}{i:Nat}{v:Value}(hv:vs[i]? =some v):(part f vs.toArray i).run P w = .ok v w:=by
 unfold part isAgg
 simp[run_underlying h,hv]
theorem ZiJ{d:Nat}(xs ys:List Value)(a b:List D)(la:a.length=xs.length)(lb:b.length=ys.length)
 (hx:∀ (i:Nat)(y:D),a[i]? =some y→∃ x,Rep β m S w x y∧xs[i]? =some x) (hy:∀ (i:Nat)(y:D),b[i]? =some y→∃ x,Rep β m S w x y∧ys[i]? =some x) :
 ∀ (fs : List Field) (k : Nat) (c : Bool), (∀ f ∈ fs, f.name ≠ "_" ∧ P.underlying f.type = some (.int .i64)) → fs.map (·.offset) = List.range' k fs.length → eqL (a.drop k) (b.drop k) = some c → fs.length = (a.drop k).length →
  (Op.eqFields (d+1) xs.toArray ys.toArray fs).run P w = .ok c w
 | [],k,c,_,_,he,hl=>by
   have h1:a.drop k=[]:=List.length_eq_zero_iff.1 hl.symm
   rw[h1]at he
   cases hb:b.drop k with
   | nil=>rw[hb]at he;cases he;simp[Op.eqFields]
   | cons z t=>rw[hb]at he;cases he
 | f ::fs,k,c,hf,ho,he,hl=>by
   rw[List.length_cons,List.length_drop]at hl
   have hk:k<a.length:=by omega
   rw[Yd7 hk]at he
   cases hb:b.drop k with
   | nil=>rw[hb,ZzP]at he;cases he
   | cons z t =>
     rw[hb]at he
     have hkb:k<b.length:=by
      have:=congrArg List.length hb
      rw[List.length_drop,List.length_cons]at this;omega
     rw[Yd7 hkb,List.cons.injEq]at hb
     obtain⟨hb1,hb2⟩:=hb
     subst hb1;subst hb2
     obtain⟨x,rx,ex⟩:=hx k _ (Ya0 hk)
     obtain⟨y,ry,ey⟩:=hy k _ (Ya0 hkb)
     simp only[List.map_cons,List.length_cons,List.range'_succ,List.cons.injEq]at ho
     obtain⟨f1,f2⟩:=hf f (by simp)
     generalize a[k]=p at he rx
     generalize b[k]=q at he ry
     unfold eqL at he
     split at he
     ·rename_i h _;cases h
     ·rename_i u _ v _ e1 e2
      cases e1
      cases e2
      have hxv:=rx.inv_v
      have hyv:=ry.inv_v
      subst hxv
      subst hyv
      cases hr:eqL (a.drop (k+1)) (b.drop (k+1))with
      | none=>rw[hr]at he;cases he
      | some r =>
        rw[hr]at he
        simp only[Yd0,Ya1]at he
        have ih:=ZiJ (d:=d) xs ys a b la lb hx hy fs (k+1) r (fun g hg=>hf g (by simp[hg])) ho.2 hr (by rw[List.length_drop];omega)
        unfold Op.eqFields
        rw[if_pos f1,ho.1]
        simp only[Sem.run_bind,Zqe f2 ex,Zqe f2 ey,Result.andThen_ok,run_equalIn_int w d f.type .i64 .i64 u v f2]
        cases huv:(u==v)
        ·rw[huv]at he
         simp at he
         subst he
         simp
        ·rw[huv]at he
         simp at he
         subst he
         simp[ih]
     ·cases he
theorem ZeF{T:TypeId}(h:ZrU P T=true):P.underlying T=some (.pointer (P.pointee T)):=by
 unfold ZrU at h
 unfold Program.pointee
 split at h
 ·rename_i e he;rw[he]
 ·cases h
theorem ZxC{op:BinOp}{T:TypeId}{ty:TyI}(hty:tyOf P T=some ty){x y:Value}{d e z:D}(hx:Rep β m S w x d)(hy:Rep β m S w y e)(h:Zvh (eqTy P T) (ZrU P T) op ty d e=some z) :
 ∃ v,(∀ a b,(eqGuard op T a b x y).run P w = .ok () w)∧(binOp op T x y).run P w = .ok v w∧z = .v v:=by
 obtain⟨inf,de,ht⟩:=tyAt hty
 unfold Zvh at h
 split at h
 ·cases hy.inv_v
  obtain⟨b,off,k,rfl,_⟩:=hx.inv_ep
  split at h
  ·rename_i hk
   cases h
   exact⟨_,fun _ _=>by simp[eqGuard_at_pointer],run_eql_pointer_nil w T _ (ZeF hk),rfl⟩
  ·cases h
 ·cases hy.inv_v
  obtain⟨b,off,k,rfl,_⟩:=hx.inv_ep
  split at h
  ·rename_i hk
   cases h
   exact⟨_,fun _ _=>by simp[eqGuard_at_pointer],run_neq_pointer_nil w T _ (ZeF hk),rfl⟩
  ·cases h
 ·cases hy.inv_v
  obtain⟨b,p,blk,rfl,_⟩:=hx.inv_lp
  split at h
  ·rename_i hk
   cases h
   exact⟨_,fun _ _=>by simp[eqGuard_at_pointer],run_eql_pointer_nil w T _ (ZeF hk),rfl⟩
  ·cases h
 ·cases hy.inv_v
  obtain⟨b,p,blk,rfl,_⟩:=hx.inv_lp
  split at h
  ·rename_i hk
   cases h
   exact⟨_,fun _ _=>by simp[eqGuard_at_pointer],run_neq_pointer_nil w T _ (ZeF hk),rfl⟩
  ·cases h
 ·cases hy.inv_v
  cases hx.inv_v
  split at h
  ·rename_i hk
   cases h
   exact⟨_,fun _ _=>by simp[eqGuard_at_pointer],run_eql_pointer_nil w T _ (ZeF hk),rfl⟩
  ·cases h
 ·cases hy.inv_v
  cases hx.inv_v
  split at h
  ·rename_i hk
   cases h
   exact⟨_,fun _ _=>by simp[eqGuard_at_pointer],run_neq_pointer_nil w T _ (ZeF hk),rfl⟩
  ·cases h
 ·rename_i a b
  obtain⟨xs,rfl,lx,rx⟩:=hx.inv_agg
  obtain⟨ys,rfl,ly,ry⟩:=hy.inv_agg
  split at h
  ·rename_i hk
   obtain⟨hse,hlen⟩:=hk
   cases he:eqL a b with
   | none=>rw[he]at h;cases h
   | some c =>
     rw[he]at h
     simp only[Yd0,Ya1]at h
     subst h
     unfold eqTy at hse
     cases hu:P.underlying T with
     | none=>rw[hu]at hse;cases hse
     | some dd =>
       rw[hu]at hse
       cases dd<;>try (cases hse;done)
       rename_i fs
       simp only[Ya2,Bool.not_eq_true',Ya6,decide_eq_true_eq]at hse
       obtain⟨s1,s2,s3,s4,s5⟩:=hse
       have hsz:ty.size=fs.toList.length:=by
        rw[ht.info]at s5
        rw[ht.size]
        simpa using s5
       have hfo:P.fieldsOf T=fs:=by unfold Program.fieldsOf;rw[hu]
       refine⟨.bool c,fun _ _=>run_eqGuard_agg w _ _ _ _ _ _ s2,?_,rfl⟩
       rw[run_eql_struct,run_equalIn_struct w 9999 T _ _ (by rw[hfo];exact hu) s1,hfo]
       rw [ZiJ (d := 9998) xs ys a b lx.symm ly.symm (fun i y hy => ⟨_, rx i _ y (Ya0 (by rw [lx]; exact (Ya3.1 hy).1)) hy, Ya0 _⟩) (fun i y hy => ⟨_, ry i _ y (Ya0 (by rw [ly]; exact (Ya3.1 hy).1)) hy, Ya0 _⟩) fs.toList 0 c (fun f hf => by
           have:=s3 f hf
           simp only[bne_iff_ne,ne_eq]at this
           refine⟨this.1,?_⟩
           have h2:=this.2
           split at h2
           ·assumption
           ·cases h2) (by rw[s4,List.range_eq_range']) (by simpa using he) (by rw[List.length_drop];omega)]
       rfl
  ·cases h
 ·cases hx.inv_v
  cases hy.inv_v
  split at h
  ·rename_i hk
   have hde:=ht.bool hk
   subst hde
   simp only[Ya1]at h
   subst h
   refine⟨_,fun _ _=>by simp[eqGuard_at_bool],?_,rfl⟩
   simp[binOp,run_equal_bool,ht.und]
  ·cases h
 ·cases hx.inv_v
  cases hy.inv_v
  split at h
  ·rename_i hk
   have hde:=ht.bool hk
   subst hde
   simp only[Ya1]at h
   subst h
   refine⟨_,fun _ _=>by simp[eqGuard_at_bool],?_,rfl⟩
   simp[binOp,run_equal_bool,ht.und]
  ·cases h
 ·cases hy.inv_nil
  obtain⟨a,cap,rfl,_,_,h3⟩:=hx.inv_sl
  split at h
  ·rename_i hk
   simp only[Ya1]at h
   subst h
   rcases h3 with h3|⟨b,off,k,rfl,_⟩
   ·cases h3
   ·refine⟨_,fun _ _=>by simp[eqGuard_at_slice],?_,rfl⟩
    rw[Lib.run_eql_slice_nil (P:=P) w T ty.elem _ _ _ _ _ (by rw[ht.und,ht.slice hk])]
    rfl
  ·cases h
 ·cases h
theorem ZAl{op:UnOp}{x:Value}{d z:D}(hx:Rep β m S w x d)(h:unD op d=some z):∃ v,(Op.unary op x).run P w = .ok v w∧z = .v v:=by
 unfold unD at h
 split at h
 all_goals (try (cases h;done))
 all_goals
  cases hx.inv_v
  simp only[Ya1]at h
  subst h
  exact⟨_,by simp[Op.unary,Op.intArith],rfl⟩
theorem Zpo{A B:TypeId}{src dst:TyI}(ha:tyOf P A=some src)(hb:tyOf P B=some dst){x:Value}{d:D}{r:Res}(hM:ZaK E β m nx w)(hx:Rep β m (safe E β m) w x d)(h:Zgn src dst d=some r) :
 Runs P E β m nx w (convert A B x) r:=by
 obtain⟨i1,d1,h1⟩:=tyAt ha
 obtain⟨i2,d2,h2⟩:=tyAt hb
 unfold Zgn at h
 split at h
 ·rename_i k k' n hk
  cases hx.inv_v
  split at h
  ·rename_i hc
   simp only[Ya1]at h
   subst h
   obtain⟨k1,rfl⟩:=h1.int hc.2
   have:=h2.ik k hk
   subst this
   exact Runs.pure hM rfl (by simp[convert,h1.run_und,h2.run_und,Conv.intToInt]) (.v _)
  ·cases h
 ·cases h
def Zrg(P:Program)(E:Env)(β:Bet)(m:Mem)(nx:Nat)(w:World)(o:Oper)(a:Act)(r:Res):Prop :=
 ∃ v n w',(execOp a.eval o).run P w = .ok n w'∧(n = .value v∨(n = .skip∧v=undef))∧ZbU E β m nx w (ov m r.wr) v r.d w'
theorem Za8{o:Oper}{a:Act}{r:Res}{s:Sem Value}(h:Runs P E β m nx w s r)(he:execOp a.eval o=do pure (.value (← s))):Zrg P E β m nx w o a r:=by
 obtain⟨v,w',h1,h2⟩:=h
 exact⟨v,_,w',by rw[he];simp[h1],.inl rfl,h2⟩
theorem ZbN{o:Oper}{a:Act}{d:D}{v:Value}(hM:ZaK E β m nx w)(he:(execOp a.eval o).run P w = .ok (.value v) w)(hv:Rep β m (safe E β m) w v d):Zrg P E β m nx w o a (.pure d) :=
 ⟨v,_,w,he,.inl rfl,ZbU.same hM hv⟩
set_option maxHeartbeats 4000000 in
theorem Zo1{o:Oper}{t:Nat→D}{id:Nat}{r:Res}(h:opF P o.op t m id=some r)(hok:r.ok)(hM:ZaK E β m nx w)(hnew:∀ i∈r.new,m i=none∧i<nx){a:Act}
 (hop:∀ x∈o.op.operands.toList,Rep β m (safe E β m) w (a.eval x) (rd t x)):Zrg P E β m nx w o a r:=by
 obtain⟨dst,op,oty,pos,after,guard⟩:=o
 simp only at h hop
 unfold opF at h
 split at h
 · -- move
  simp only[Ya1]at h;subst h
  exact ZbN hM (by simp[execOp]) (hop _ (by simp[Op.operands]))
 · -- assign
  simp only[Ya1]at h;subst h
  exact ZbN hM (by simp[execOp]) (hop _ (by simp[Op.operands]))
 · -- pick
  rename_i c x y
  split at h
  ·rename_i b hb
   simp only[Ya1]at h;subst h
   have h1:=hop c (by simp[Op.operands])
   rw[hb]at h1
   have h2:=h1.inv_v
   refine ZbN hM (v:=if b then a.eval x else a.eval y) (by simp[execOp,h2,asBool]) ?_
   cases b
   ·exact hop y (by simp[Op.operands])
   ·exact hop x (by simp[Op.operands])
  ·cases h
 · -- alloc
  rename_i T
  split at h
  ·rename_i ty hty
   have hn:=hnew id (by
    unfold Zkv at h
    split at h
    ·simp only[Ya1]at h;subst h;simp
    ·cases h)
   exact Za8 (Zvt hty hM hn.1 hn.2 h) rfl
  ·cases h
 · -- box
  rename_i T x
  have hn:=hnew id (by
   unfold boxF at h
   split at h
   ·simp only[Ya1]at h;subst h;simp
   ·cases h)
  exact Za8 (ZzW hM hn.1 hn.2 (hop x (by simp[Op.operands])) h) rfl
 · -- load
  rename_i T x
  split at h
  ·rename_i ty hty
   exact Za8 (ZwP hty hM (hop x (by simp[Op.operands])) h) rfl
  ·cases h
 · -- store
  rename_i T x y
  split at h
  ·rename_i ty hty
   obtain⟨w',h1,h2⟩:=ZmO hty hM (hop x (by simp[Op.operands])) (hop y (by simp[Op.operands])) h
   exact⟨undef,.skip,w',by simp[execOp,h1],.inr ⟨rfl,rfl⟩,h2⟩
  ·cases h
 · -- fieldAddr
  rename_i T x f
  split at h
  ·rename_i ty hty
   exact Za8 (Zmh hty hM (hop x (by simp[Op.operands])) h) rfl
  ·cases h
 · -- field
  rename_i T x f
  split at h
  ·rename_i ty hty
   exact Za8 (ZuK hty hM (hop x (by simp[Op.operands])) h) rfl
  ·cases h
 · -- indexAddr
  rename_i T x i
  split at h
  ·rename_i ty hty
   split at h
   ·rename_i et het
    exact Za8 (Zma hty het hM (hop x (by simp[Op.operands])) (hop i (by simp[Op.operands])) h hok) rfl
   ·cases h
  ·cases h
 · -- index
  rename_i T x i
  split at h
  ·rename_i ty hty
   exact Za8 (Zur hty hM (hop x (by simp[Op.operands])) (hop i (by simp[Op.operands])) h hok) rfl
  ·cases h
 · -- slice
  rename_i T x lo hi
  have hb:∀ b:Option Operand,(∀ x,b=some x→Rep β m (safe E β m) w (a.eval x) (rd t x))→Ziq β m (safe E β m) w (b.map a.eval) (b.map (rd t)):=by
   intro b hb
   cases b with
   | none=>exact .inl ⟨rfl,rfl⟩
   | some x=>exact .inr ⟨_,_,rfl,rfl,hb x rfl⟩
  have hx:=hop x (by simp[Op.operands])
  have hlo:=hb lo (by rintro y rfl;exact hop y (by simp[Op.operands]))
  have hhi:=hb hi (by rintro y rfl;exact hop y (by simp[Op.operands]))
  split at h
  ·rename_i ty hty
   split at h
   ·rename_i hk
    split at h
    ·rename_i et het
     exact Za8 (Zs9 hty hk het hM hx hlo hhi h hok) rfl
    ·cases h
   ·split at h
    ·rename_i hk
     exact Za8 (ZmN hty hk hM hx hlo hhi h hok) rfl
    ·cases h
  ·cases h
 · -- build
  rename_i T ps
  split at h
  ·rename_i ty hty
   refine Za8 (Zvf hty hM ?_ h) rfl
   rw[Array.toList_map]
   exact ZjL ps.toList fun p hp=>hop p.2 (by simp[Op.operands];exact⟨p.1,by simpa using hp⟩)
  ·cases h
 · -- buildSlice
  rename_i T n ps
  split at h
  ·rename_i ty hty
   split at h
   ·rename_i et het
    have hn:=hnew id (by
     unfold ZcB at h
     split at h
     ·split at h
      ·simp only[Ya1]at h;subst h;simp
      ·cases h
     ·cases h)
    refine Za8 (ZkE (ps:=ps.map fun(i,x)=>(i,a.eval x)) hty het hM hn.1 hn.2 ?_ h) rfl
    rw[Array.toList_map]
    exact ZjL ps.toList fun p hp=>hop p.2 (by simp[Op.operands];exact⟨p.1,by simpa using hp⟩)
   ·cases h
  ·cases h
 · -- makeSlice
  rename_i T l c
  split at h
  ·rename_i ty hty
   split at h
   ·rename_i et het
    have hn:=hnew id (by
     unfold Zda at h
     split at h
     ·split at h
      ·split at h
       ·simp only[Ya1]at h;subst h;simp
       ·cases h
      ·cases h
     ·cases h)
    exact Za8 (Zl5 hty het hM hn.1 hn.2 (hop l (by simp[Op.operands])) (hop c (by simp[Op.operands])) h hok) rfl
   ·cases h
  ·cases h
 · -- extract
  rename_i x i
  split at h
  ·rename_i l hl
   cases hli:l[i]? with
   | none=>rw[hli]at h;cases h
   | some d =>
     rw[hli]at h
     simp only[Yd0,Ya1]at h
     subst h
     have h1:=hop x (by simp[Op.operands])
     rw[hl]at h1
     obtain⟨vs,hv,h2,h3⟩:=h1.inv_tup
     obtain⟨y,hy,hr⟩:=Reps.get ⟨h2,h3⟩ hli
     exact ZbN hM (by simp[execOp,hv,Instr.extract,hy]) hr
  ·cases h
 · -- nilCheck
  rename_i x
  have h1:=hop x (by simp[Op.operands])
  split at h
  ·rename_i id ver i off hx
   simp only[Ya1]at h;subst h
   rw[hx]at h1
   obtain⟨b,p,blk,hv,_⟩:=h1.inv_lp
   exact ZbN hM (v:=a.eval x) (by simp[execOp,hv]) h1
  ·rename_i es i off hx
   simp only[Ya1]at h;subst h
   rw[hx]at h1
   obtain⟨b,p,blk,hv,_⟩:=h1.inv_ep
   exact ZbN hM (v:=a.eval x) (by simp[execOp,hv]) h1
  ·cases h
 · -- unOp
  rename_i op T x
  cases hu:unD op (rd t x)with
  | none=>rw[hu]at h;cases h
  | some z =>
    rw[hu]at h
    simp only[Yd0,Ya1]at h
    subst h
    obtain⟨v,h1,rfl⟩:=ZAl (P:=P) (hop x (by simp[Op.operands])) hu
    exact ZbN hM (by simp[execOp,h1]) (.v _)
 · -- binOp
  rename_i op T x y T2
  have hx:=hop x (by simp[Op.operands])
  have hy:=hop y (by simp[Op.operands])
  split at h
  ·rename_i q d hb
   simp only[Ya1]at h
   subst h
   obtain⟨v,h1,h2,rfl⟩:=Zz1 (P:=P) (T:=T) hx hy hb hok
   exact⟨v,_,w,by simp[execOp,h1,h2],.inl rfl,ZbU.same hM (.v _)⟩
  ·split at h
   ·rename_i ty hty
    cases hb:Zvh (eqTy P T) (ZrU P T) op ty (rd t x) (rd t y)with
    | none=>rw[hb]at h;cases h
    | some z =>
      rw[hb]at h
      simp only[Yd0,Ya1]at h
      subst h
      obtain⟨v,h1,h2,rfl⟩:=ZxC (P:=P) hty hx hy hb
      exact ZbN hM (by simp[execOp,h1,h2]) (.v _)
   ·cases h
 · -- convert
  rename_i A B x
  split at h
  ·rename_i src dst ha hb
   exact Za8 (Zpo ha hb hM (hop x (by simp[Op.operands])) h) rfl
  ·cases h
 · -- makeFunc
  rename_i f first cap
  split at h
  ·rename_i h0
   simp only[Ya1]at h
   subst h
   have hf:first=#[]:=Array.eq_empty_of_size_eq_zero h0
   subst hf
   have hr:=Zhd (β:=β) (m:=m) (S:=safe E β m) (w:=w) (a:=a) (t:=t) cap.toList (fun x hx=>hop x (by simp[Op.operands];simpa using hx))
   refine ZbN hM (v:=.func (.func f) #[] (cap.toList.map a.eval).toArray) (by simp[execOp,Instr.makeFunc,Zl4]) (.clo _ _ _ hr.1 hr.2)
  ·cases h
 · -- len
  rename_i args ats
  split at h
  ·rename_i x T hargs hat
   have hargs':args=#[x]:=by apply Array.ext';simpa using hargs
   subst hargs'
   split at h
   ·rename_i ty hty
    refine Za8 (Zzw (ty':=oty) hty hat hM (hop x (by simp[Op.operands,Call.operands])) h) ?_
    simp[execOp,resolve,invoke,builtin]
   ·cases h
  ·cases h
 · -- append
  rename_i args ats
  split at h
  ·rename_i x y T U hargs hat
   have hargs':args=#[x,y]:=by apply Array.ext';simpa using hargs
   have hat':ats=#[T,U]:=by apply Array.ext';simpa using hat
   subst hargs'
   subst hat'
   split at h
   ·rename_i hTU
    subst hTU
    split at h
    ·rename_i ty hty
     split at h
     ·rename_i et het
      refine Za8 (ZsA (ty':=oty) hty het hM hnew (hop x (by simp[Op.operands,Call.operands])) (hop y (by simp[Op.operands,Call.operands])) h hok) ?_
      simp[execOp,resolve,invoke,builtin]
     ·cases h
    ·cases h
   ·cases h
  ·cases h
 · -- max
  rename_i args ats
  have hr:=Zhd (β:=β) (m:=m) (S:=safe E β m) (w:=w) (a:=a) (t:=t) args.toList (fun x hx=>hop x (by simp[Op.operands,Call.operands];simpa using hx))
  refine Za8 (Zk7 (mx:=true) (ats:=ats) (ty:=oty) hM hr h) ?_
  simp[execOp,resolve,invoke,builtin,Zl4]
 · -- min
  rename_i args ats
  have hr:=Zhd (β:=β) (m:=m) (S:=safe E β m) (w:=w) (a:=a) (t:=t) args.toList (fun x hx=>hop x (by simp[Op.operands,Call.operands];simpa using hx))
  refine Za8 (Zk7 (mx:=false) (ats:=ats) (ty:=oty) hM hr h) ?_
  simp[execOp,resolve,invoke,builtin,Zl4]
 ·cases h
end
end ifl
section ifl
variable [Ifl]
mutual
def toD:D→Option D
 | .v x=>some (.v x)
 | .nil=>some (.sl [])
 | .agg l=>match toDs l with
   | some l=>some (.agg l)
   | none=>none
 | .tup l=>match toDs l with
   | some l=>some (.tup l)
   | none=>none
 | .sl es=>some (.sl es)
 | .cl es=>some (.sl es)
 | .ep es i o=>some (.ep es i o)
 | .clo f l=>match toDs l with
   | some l=>some (.clo f l)
   | none=>none
 | .ls _ _=>none
 | .lp _ _ _ _=>none
 | .junk=>some .junk
def toDs:List D→Option (List D)
 | []=>some []
 | d ::l=>match toD d,toDs l with
   | some d,some l=>some (d ::l)
   | _,_=>none
end
section
variable {β:Bet} {m:Mem} {S:Nat→Nat→Prop} {w:World}
theorem ZeD{x:Value}(h:x = .slice none 0 0):Rep β m S w x (.sl []):=by subst h;exact .sl0 _ _ (Yb0 _)
theorem Rep.sl_no{x:Value}{es:List (List D)}(h:Rep β m S w x (.sl es)):Rep noB noM S w x (.sl es):=by
 cases h with
 | sl0 a cap hc=>exact .sl0 a cap hc
 | sl b off cap k es val h1 h2 h3 h4 h5=>exact .sl b off cap k es val h1 h2 h3 h4 h5
theorem Rep.ep_no{x:Value}{es:List (List D)}{i o:Nat}(h:Rep β m S w x (.ep es i o)):Rep noB noM S w x (.ep es i o):=by
 cases h with
 | ep b off k i o es val h3 h4 h5=>exact .ep b off k i o es val h3 h4 h5
mutual
theorem ZyA:∀ (d d':D)(x:Value),toD d=some d'→Rep β m S w x d→Rep noB noM S w x d'
 | .v y,d',x,h,hr=>by simp only[toD,Ya1]at h;subst h;rw[hr.inv_v];exact .v _
 | .nil,d',x,h,hr=>by simp only[toD,Ya1]at h;subst h;exact ZeD hr.inv_nil
 | .agg l,d',x,h,hr=>by
   simp only[toD]at h
   cases hl:toDs l with
   | none=>rw[hl]at h;cases h
   | some l' =>
     rw[hl]at h
     simp only[Ya1]at h
     subst h
     obtain⟨vs,rfl,h1,h2⟩:=hr.inv_agg
     exact(Zfy l l' vs hl ⟨h1,h2⟩).rep_agg
 | .tup l,d',x,h,hr=>by
   simp only[toD]at h
   cases hl:toDs l with
   | none=>rw[hl]at h;cases h
   | some l' =>
     rw[hl]at h
     simp only[Ya1]at h
     subst h
     obtain⟨vs,rfl,h1,h2⟩:=hr.inv_tup
     exact(Zfy l l' vs hl ⟨h1,h2⟩).rep_tup
 | .sl es,d',x,h,hr=>by simp only[toD,Ya1]at h;subst h;exact hr.sl_no
 | .cl es,d',x,h,hr=>by simp only[toD,Ya1]at h;subst h;exact hr.inv_cl.choose_spec.2
 | .ep es i o,d',x,h,hr=>by simp only[toD,Ya1]at h;subst h;exact hr.ep_no
 | .clo f l,d',x,h,hr=>by
   simp only[toD]at h
   cases hl:toDs l with
   | none=>rw[hl]at h;cases h
   | some l' =>
     rw[hl]at h
     simp only[Ya1]at h
     subst h
     obtain⟨vs,rfl,h1,h2⟩:=hr.inv_clo
     have:=Zfy l l' vs hl ⟨h1,h2⟩
     exact .clo f vs l' this.1 this.2
 | .ls _ _,d',x,h,hr=>by simp[toD]at h
 | .lp _ _ _ _,d',x,h,hr=>by simp[toD]at h
 | .junk,d',x,h,hr=>by simp only[toD,Ya1]at h;subst h;exact .junk _
theorem Zfy:∀ (l l':List D)(vs:List Value),toDs l=some l'→Reps β m S w vs l→Reps noB noM S w vs l'
 | [],l',vs,h,hr=>by
   simp only[toDs,Ya1]at h
   subst h
   obtain rfl:vs=[]:=Ya9 hr.1
   exact Reps.nil
 | d ::l,l',vs,h,hr=>by
   simp only[toDs]at h
   split at h
   ·rename_i d' l'' hd hl
    simp only[Ya1]at h
    subst h
    match vs,hr with
    | [],hr=>exact absurd hr.1 (by simp)
    | v ::vs,hr =>
      exact Reps.cons (ZyA d d' v hd (hr.2 0 v d rfl rfl)) (Zfy l l'' vs hl ⟨by simpa using hr.1,fun i y e hy he=>hr.2 (i+1) y e (by simpa using hy) (by simpa using he)⟩)
   ·cases h
end
end
mutual
def datJ:D→D
 | .v x=>.v x
 | .nil=>.sl []
 | .agg l=>.agg (Zsq l)
 | .tup l=>.tup (Zsq l)
 | .sl es=>.sl es
 | .cl es=>.sl es
 | .ep es i o=>.ep es i o
 | .clo f l=>.clo f (Zsq l)
 | .ls _ _=>.junk
 | .lp _ _ _ _=>.junk
 | .junk=>.junk
def Zsq:List D→List D
 | []=>[]
 | d ::l=>datJ d ::Zsq l
end
mutual
def Zm8:D→List Nat
 | .ls id _=>[id]
 | .lp id _ _ _=>[id]
 | .agg l=>ZbI l
 | .clo _ l=>ZbI l
 | .tup l=>ZbI l
 | _=>[]
def ZbI:List D→List Nat
 | []=>[]
 | d ::l=>Zm8 d++ZbI l
end
def ZbF:List Nat→Mem→List (Nat×Blk)
 | [],_=>[]
 | id ::l,m=>match m id with
   | some b=>(id,{b with dead:=true}) ::ZbF l (upd m id (some {b with dead:=true}))
   | none=>ZbF l m
mutual
def argD(m:Mem):D→D
 | .v x=>.v x
 | .nil=>.sl []
 | .agg l=>.agg (Zd3 m l)
 | .tup l=>.tup (Zd3 m l)
 | .sl es=>.sl es
 | .cl es=>.sl es
 | .ep es i o=>.ep es i o
 | .clo f l=>.clo f (Zd3 m l)
 | .ls id ver=>match ZbJ m id ver with
   | some b=>if b.dead=true then .sl (b.es.map (List.map datJ))else .junk
   | none=>.junk
 | .lp id ver i o=>match ZbJ m id ver with
   | some b=>if b.dead=true then .ep (b.es.map (List.map datJ)) i o else .junk
   | none=>.junk
 | .junk=>.junk
def Zd3(m:Mem):List D→List D
 | []=>[]
 | d ::l=>argD m d ::Zd3 m l
end
section
variable {β:Bet} {m:Mem} {S:Nat→Nat→Prop} {w:World}
mutual
theorem Zq1:∀ (d:D)(x:Value),Rep β m S w x d→Rep noB noM S w x (datJ d)
 | .v y,x,h=>by rw[h.inv_v];exact .v _
 | .nil,x,h=>ZeD h.inv_nil
 | .agg l,x,h=>by
   obtain⟨vs,rfl,h1,h2⟩:=h.inv_agg
   exact(Zgm l vs ⟨h1,h2⟩).rep_agg
 | .tup l,x,h=>by
   obtain⟨vs,rfl,h1,h2⟩:=h.inv_tup
   exact(Zgm l vs ⟨h1,h2⟩).rep_tup
 | .sl es,x,h=>h.sl_no
 | .cl es,x,h=>h.inv_cl.choose_spec.2
 | .ep es i o,x,h=>h.ep_no
 | .clo f l,x,h=>by
   obtain⟨vs,rfl,h1,h2⟩:=h.inv_clo
   have:=Zgm l vs ⟨h1,h2⟩
   exact .clo f vs _ this.1 this.2
 | .ls _ _,x,_=>.junk _
 | .lp _ _ _ _,x,_=>.junk _
 | .junk,x,_=>.junk _
theorem Zgm:∀ (l:List D)(vs:List Value),Reps β m S w vs l→Reps noB noM S w vs (Zsq l)
 | [],vs,h=>by
   obtain rfl:vs=[]:=Ya9 h.1
   exact Reps.nil
 | d ::l,vs,h=>by
   match vs,h with
   | [],h=>exact absurd h.1 (by simp)
   | v ::vs,h=>exact Reps.cons (Zq1 d v (h.2 0 v d rfl rfl)) (Zgm l vs ⟨by simpa using h.1,fun i y e hy he=>h.2 (i+1) y e (by simpa using hy) (by simpa using he)⟩)
end
end
theorem Zgo{f:D→D}{es:List (List D)}{i j:Nat}{d:D}(h:cellAt (es.map (List.map f)) i j=some d):∃ d',cellAt es i j=some d'∧d=f d':=by
 obtain⟨e,he,hj⟩:=Zak.1 h
 rw[Yb8]at he
 cases hq:es[i]? with
 | none=>rw[hq]at he;cases he
 | some e' =>
   rw[hq]at he
   simp only[Yd0,Ya1]at he
   subst he
   rw[Yb8]at hj
   cases hr:e'[j]? with
   | none=>rw[hr]at hj;cases hj
   | some d' =>
     rw[hr]at hj
     simp only[Yd0,Ya1]at hj
     exact⟨d',Zak.2 ⟨e',hq,hr⟩,hj.symm⟩
section
variable {E:Env} {β:Bet} {m:Mem} {nx:Nat} {w:World}
theorem Zp2(hM:ZaK E β m nx w){id:Nat}{b:Blk}{B:Nat}(h1:m id=some b)(hd:b.dead=true)(h2:β id=some B)(o:Nat):safe E β m B o:=by
 refine⟨E.fresh B o (hM.row id b B h1 h2).1,fun id' b' h3 h4=>?_⟩
 have:=hM.inj id id' b b' B h1 h3 h2 h4
 subst this
 rw[h1]at h3;cases h3
 exact .inr hd
theorem Ztj(hM:ZaK E β m nx w){id:Nat}{b:Blk}{B:Nat}{cs:Array Value}(h1:m id=some b)(hd:b.dead=true)(h2:β id=some B)(h3:w.heap[B]? =some (.cells cs b.T (0,0)))
 (h4:∀ (i j:Nat)(d:D),cellAt b.es i j=some d→∃ u,cs[i*b.k+j]? =some u∧Rep β m (safe E β m) w u d):Zvy (safe E β m) w B 0 b.k (b.es.map (List.map datJ)):=by
 refine⟨fun i e he=>?_,fun i j d hd'=>?_⟩
 ·rw[Yb8]at he
  cases hq:b.es[i]? with
  | none=>rw[hq]at he;cases he
  | some e' =>
    rw[hq]at he
    simp only[Yd0,Ya1]at he
    rw[← he,Yc0]
    exact hM.wid id b h1 i e' hq
 ·obtain⟨d',g1,rfl⟩:=Zgo hd'
  obtain⟨u,g2,g3⟩:=h4 i j d' g1
  exact⟨u,Zp2 hM h1 hd h2 _,by rw[Nat.zero_add,Zcr h3];exact g2,Zq1 d' u g3⟩
mutual
theorem ZxF(hM:ZaK E β m nx w):∀ (d:D)(x:Value),Rep β m (safe E β m) w x d→Rep noB noM (safe E β m) w x (argD m d)
 | .v y,x,h=>by rw[h.inv_v];exact .v _
 | .nil,x,h=>ZeD h.inv_nil
 | .agg l,x,h=>by
   obtain⟨vs,rfl,h1,h2⟩:=h.inv_agg
   exact(ZdI hM l vs ⟨h1,h2⟩).rep_agg
 | .tup l,x,h=>by
   obtain⟨vs,rfl,h1,h2⟩:=h.inv_tup
   exact(ZdI hM l vs ⟨h1,h2⟩).rep_tup
 | .sl es,x,h=>h.sl_no
 | .cl es,x,h=>h.inv_cl.choose_spec.2
 | .ep es i o,x,h=>h.ep_no
 | .clo f l,x,h=>by
   obtain⟨vs,rfl,h1,h2⟩:=h.inv_clo
   have:=ZdI hM l vs ⟨h1,h2⟩
   exact .clo f vs _ this.1 this.2
 | .ls id ver,x,h=>by
   simp only[argD]
   cases hb:ZbJ m id ver with
   | none=>exact .junk _
   | some b =>
     simp only
     split
     ·rename_i hd
      obtain⟨a,cap,rfl,g1,g2,g3⟩:=Zpa hM h hb
      rcases g3 with⟨_,_,_,he⟩|⟨B,cs,q1,rfl,q2,q3,q4⟩
      ·rw[he];exact .sl0 _ _ g2
      ·have:=ZkV (β:=noB) (m:=noM) (cap:=cap) (Ztj hM (ZaZ hb).1 hd q1 q2 q4) (by simpa using g1) g2
       simpa using this
     ·exact .junk _
 | .lp id ver i o,x,h=>by
   simp only[argD]
   cases hb:ZbJ m id ver with
   | none=>exact .junk _
   | some b =>
     simp only
     split
     ·rename_i hd
      obtain⟨B,cs,q1,rfl,q2,q3,q4⟩:=Zue hM h hb
      have:=Zp7 (β:=noB) (m:=noM) (Ztj hM (ZaZ hb).1 hd q1 q2 q4) i o
      rw[Nat.zero_add]at this
      exact this
     ·exact .junk _
 | .junk,x,_=>.junk _
theorem ZdI(hM:ZaK E β m nx w):∀ (l:List D)(vs:List Value),Reps β m (safe E β m) w vs l→Reps noB noM (safe E β m) w vs (Zd3 m l)
 | [],vs,h=>by
   obtain rfl:vs=[]:=Ya9 h.1
   exact Reps.nil
 | d ::l,vs,h=>by
   match vs,h with
   | [],h=>exact absurd h.1 (by simp)
   | v ::vs,h=>exact Reps.cons (ZxF hM d v (h.2 0 v d rfl rfl)) (ZdI hM l vs ⟨by simpa using h.1,fun i y e hy he=>h.2 (i+1) y e (by simpa using hy) (by simpa using he)⟩)
end
theorem Zj5:∀ (l:List Nat)(m:Mem),ZaK E β m nx w→ZaK E β (ov m (ZbF l m)) nx w∧Za7 β m w β (ov m (ZbF l m)) w∧Zaw (safe E β m) w (safe E β (ov m (ZbF l m))) w
 | [],m,h=>⟨h,Za7.refl _ _ _,Zaw.refl _ _⟩
 | id ::l,m,h=>by
   simp only[ZbF]
   cases hb:m id with
   | none=>exact Zj5 l m h
   | some b =>
     obtain⟨h1,h2,h3⟩:=Zqw h hb
     obtain⟨h4,h5,h6⟩:=Zj5 l _ h1
     exact⟨h4,h2.trans h5,h3.trans h6⟩
theorem ZgR:∀ (l:List Nat)(m m':Mem),(∀ id∈l,m' id=m id)→ZbF l m'=ZbF l m
 | [],_,_,_=>rfl
 | id ::l,m,m',h=>by
   simp only[ZbF]
   rw[h id (by simp)]
   cases m id with
   | none=>exact ZgR l m m' fun i hi=>h i (by simp[hi])
   | some b =>
     simp only
     congr 1
     refine ZgR l _ _ fun i hi=>?_
     by_cases e:i=id
     ·subst e;rw[Zac,Zac]
     ·rw[Zab _ _ e,Zab _ _ e];exact h i (by simp[hi])
end
mutual
theorem Zsz{m m':Mem}:∀ d:D,(∀ id∈Zm8 d,m' id=m id)→argD m' d=argD m d
 | .v _,_=>rfl
 | .nil,_=>rfl
 | .agg l,h=>by simp only[argD];rw[Zd2 l (by simpa[Zm8]using h)]
 | .tup l,h=>by simp only[argD];rw[Zd2 l (by simpa[Zm8]using h)]
 | .sl _,_=>rfl
 | .cl _,_=>rfl
 | .ep _ _ _,_=>rfl
 | .clo f l,h=>by simp only[argD];rw[Zd2 l (by simpa[Zm8]using h)]
 | .ls id ver,h=>by simp only[argD];rw[show ZbJ m' id ver=ZbJ m id ver by unfold ZbJ;rw[h id (by simp[Zm8])]]
 | .lp id ver i o,h=>by simp only[argD];rw[show ZbJ m' id ver=ZbJ m id ver by unfold ZbJ;rw[h id (by simp[Zm8])]]
 | .junk,_=>rfl
theorem Zd2{m m':Mem}:∀ l:List D,(∀ id∈ZbI l,m' id=m id)→Zd3 m' l=Zd3 m l
 | [],_=>rfl
 | d ::l,h=>by
   simp only[Zd3]
   rw[Zsz d fun i hi=>h i (by simp[ZbI,hi]),Zd2 l fun i hi=>h i (by simp[ZbI,hi])]
end
def ZeX (P : Program) (f : FuncId) : Prop := ∃ fn c, P.funcs[f]? = some fn ∧ fn.body = some c ∧ (fn.name == "runtime.NumGoroutine") = false
def Zg0(S:Nat→Nat→Prop)(w:World):Prop:=∀ b cs fr o,w.heap[b]? =some (.cells cs 3 fr)→S b o
def CRet(S:Nat→Nat→Prop)(w:World)(d:D)(e:Ending)(w':World):Prop:=∃ v,e = .returned v∧Below w.heap.size w w'∧Rep noB noM S w' v d
def Zae(P:Program)(f:FuncId)(ds:List D)(d:D):Prop:=ZeX P f ∧
 ∀ S w (vs:List Value),(∀ b o,w.heap.size≤b→S b o)→Zg0 S w→Reps noB noM S w vs ds→Calls P f vs.toArray w (CRet S w d)
def ZbQ(m:Mem):Prop:=Ifl.i=true∧∀ id b,m id=some b→b.T=3→b.dead=true
def Zar(P:Program)(f:FuncId)(ds:List D)(m:Mem)(nx:Nat)(K:D→Mem→Nat→Prop):Prop:=ZeX P f ∧
 ∀ E β w (vs:List Value),ZaK E β m nx w→Reps β m (safe E β m) w vs ds →
  Calls P f vs.toArray w fun e w'=>∃ v d m' nx',e = .returned v∧ZbU E β m nx' w m' v d w'∧K d m' nx'
section
variable {P:Program} {E:Env} {β:Bet} {m:Mem} {nx:Nat} {w:World}
theorem Zf6(hM:ZaK E β m nx w):∀ b o,w.heap.size≤b→safe E β m b o:=by
 intro b o hb
 refine⟨E.fresh b o (Yc7 hM.below.size hb),fun id blk h1 h2=>?_⟩
 obtain⟨_,cs,h4,_⟩:=hM.row id blk b h1 h2
 have:=(Ya5.1 h4).1
 omega
theorem Zti(hM:ZaK E β m nx w)(hi:ZbQ m):Zg0 (safe E β m) w:=by
 intro b cs fr o hb
 refine⟨?_,fun id blk h1 h2=>?_⟩
 ·rcases Nat.lt_or_ge b E.w0.heap.size with h|h
  ·exact E.ints hi.1 b cs fr o (by rw[← hM.below.block b h];exact hb)
  ·exact E.fresh b o h
 ·obtain⟨_,cs',h4,_⟩:=hM.row id blk b h1 h2
  rw[hb]at h4
  simp only[Ya1,Obj.cells.injEq]at h4
  exact .inr (hi.2 id blk h1 h4.2.1.symm)
def ZdS(m:Mem)(ds:List D):Mem:=ov m (ZbF (ZbI ds) m)
theorem Zae.after{f:FuncId}{ds:List D}{d:D}(h:Zae P f (Zd3 (ZdS m ds) ds) d)(hi:ZbQ (ZdS m ds))(hM:ZaK E β m nx w){vs:List Value}(hvs:Reps β m (safe E β m) w vs ds) :
 Calls P f vs.toArray w fun e w'=>∃ v,e = .returned v∧ZbU E β m nx w (ZdS m ds) v d w':=by
 obtain⟨k1,k2,k3⟩:=Zj5 (ZbI ds) m hM
 refine(h.2 (safe E β (ZdS m ds)) w vs (Zf6 k1) (Zti k1 hi) (ZdI k1 ds vs (hvs.mono k2 k3))).mono ?_
 rintro e w' ⟨v,rfl,hb,hr⟩
 obtain⟨h1,h2,h3⟩:=ZeI k1 hb
 exact⟨v,rfl,β,h1,k2.trans h2,k3.trans h3,hr.lift⟩
theorem Zar.of{f:FuncId}{ds:List D}{d:D}{K:D→Mem→Nat→Prop}(h:Zae P f (Zd3 (ZdS m ds) ds) d)(hi:ZbQ (ZdS m ds))(hK:K d (ZdS m ds) nx):Zar P f ds m nx K:=by
 refine⟨h.1,?_⟩
 intro E β w vs hM hvs
 refine(h.after hi hM hvs).mono ?_
 rintro e w' ⟨v,rfl,ha⟩
 exact⟨v,d,_,nx,rfl,ha,hK⟩
def Zaa(P:Program)(f:FuncId)(ds:List D)(d:D):Prop:=ZeX P f ∧
 ∀ S w (vs:List Value),(∀ b o,w.heap.size≤b→S b o)→Reps noB noM S w vs ds→Calls P f vs.toArray w (CRet S w d)
theorem Zaa.all{f:FuncId}{ds:List D}{d:D}(h:Zaa P f ds d):Zae P f ds d:=⟨h.1,fun S w vs h1 _ h2=>h.2 S w vs h1 h2⟩
theorem Zaa.after{f:FuncId}{ds:List D}{d:D}(h:Zaa P f (Zd3 (ZdS m ds) ds) d)(hM:ZaK E β m nx w){vs:List Value}(hvs:Reps β m (safe E β m) w vs ds) :
 Calls P f vs.toArray w fun e w'=>∃ v,e = .returned v∧ZbU E β m nx w (ZdS m ds) v d w':=by
 obtain⟨k1,k2,k3⟩:=Zj5 (ZbI ds) m hM
 refine(h.2 (safe E β (ZdS m ds)) w vs (Zf6 k1) (ZdI k1 ds vs (hvs.mono k2 k3))).mono ?_
 rintro e w' ⟨v,rfl,hb,hr⟩
 obtain⟨h1,h2,h3⟩:=ZeI k1 hb
 exact⟨v,rfl,β,h1,k2.trans h2,k3.trans h3,hr.lift⟩
theorem Zar.ofN{f:FuncId}{ds:List D}{d:D}{K:D→Mem→Nat→Prop}(h:Zaa P f (Zd3 (ZdS m ds) ds) d)(hK:K d (ZdS m ds) nx):Zar P f ds m nx K:=by
 refine⟨h.1,?_⟩
 intro E β w vs hM hvs
 refine(h.after hM hvs).mono ?_
 rintro e w' ⟨v,rfl,ha⟩
 exact⟨v,d,_,nx,rfl,ha,hK⟩
end
theorem Zar.mono{P:Program}{f:FuncId}{ds:List D}{m:Mem}{nx:Nat}{K K':D→Mem→Nat→Prop}(h:Zar P f ds m nx K)(k:∀ d m' nx',K d m' nx'→K' d m' nx'):Zar P f ds m nx K':=by
 refine⟨h.1,fun E β w vs hM hvs=>(h.2 E β w vs hM hvs).mono ?_⟩
 rintro e w' ⟨v,d,m',nx',rfl,ha,hK⟩
 exact⟨v,d,m',nx',rfl,ha,k _ _ _ hK⟩
structure St where
 t:Nat→D
 m:Mem
 nx:Nat
 lo:Nat
def putT(t:Nat→D)(dst:Option Tmp)(d:D):Nat→D :=
 match dst with
 | none=>t
 | some k=>upd t k d
structure Base where
 β:Bet
 m:Mem
 w:World
def ZdE(b0:Nat):List Deferred→World→Prop
 | [],_=>True
 | d ::ds,w=>(∃ D,d={target:=.collected D,args:=#[]}∧(b0≤D∧Ifl.r=true)∧w.heap[D]? =some (.deferred (some [])))∧(∀ e∈ds,e≠d)∧ZdE b0 ds w
theorem ZdE.mono{b0:Nat}{w w':World}(h:∀ D:Nat,b0≤D→w.heap[D]? =some (.deferred (some []))→w'.heap[D]? =some (.deferred (some []))):∀ {ds:List Deferred},ZdE b0 ds w→ZdE b0 ds w'
 | [],_=>trivial
 | _ ::_,⟨⟨D,h1,h2,h3⟩,h4,h5⟩=>⟨⟨D,h1,h2,h D h2.1 h3⟩,h4,ZdE.mono h h5⟩
theorem ZdE.nil{b0:Nat}{w:World}(hr:Ifl.r=false):∀ {ds:List Deferred},ZdE b0 ds w→ds=[]
 | [],_=>rfl
 | _ ::_,⟨⟨_,_,h2,_⟩,_,_⟩=>absurd h2.2 (by rw[hr];intro e;cases e)
theorem ZdE.le{b0:Nat}{β m w β' m' w'}{ds:List Deferred}(h:ZdE b0 ds w)(hm:Za7 β m w β' m' w'):ZdE b0 ds w':=h.mono fun D _ hD=>(hm.cap D (.inr (.deferred (some []))) ⟨fun _ _ _ e=>(by cases e),hD⟩).2
theorem Zf7(a:Act)(dst:Option Tmp)(v:Value):(a.put dst v).defers=a.defers:=by cases dst<;>rfl
structure RelA (E:Env) (B:Base) (n:Nat) (β:Bet) (s:St) (a:Act) (w:World):Prop where
 mem:ZaK E β s.m s.nx w
 tmp:∀ k,k<n→Rep β s.m (safe E β s.m) w (a.eval (.tmp k)) (s.t k)
 width:a.tmps.size=n
 defers:ZdE B.w.heap.size a.defers w
 le:Za7 B.β B.m B.w β s.m w
 sle:Zaw (safe E B.β B.m) B.w (safe E β s.m) w
 lo:∀ id x,B.m id=some x→id<s.lo
theorem eval_put{a:Act}{d:Option Tmp}{v:Value}{k:Tmp}(hk:k<a.tmps.size):(a.put d v).eval (.tmp k)=if d=some k then v else a.eval (.tmp k):=by
 by_cases h:d=some k
 ·subst h
  rw[if_pos rfl]
  exact ZbR hk
 ·rw[if_neg h];exact ZbS h
section
variable {P:Program} {E:Env} {B:Base} {n:Nat} {β:Bet} {s:St} {a:Act} {w:World}
theorem RelA.put(h:RelA E B n β s a w){dst:Option Tmp}{m':Mem}{nx':Nat}{v:Value}{d:D}{w':World}(ha:ZbU E β s.m nx' w m' v d w') :
 ∃ β',RelA E B n β' {s with t:=putT s.t dst d,m:=m',nx:=nx'} (a.put dst v) w':=by
 obtain⟨β',h1,h2,h3,h4⟩:=ha
 refine⟨β',⟨h1,fun k hk=>?_,?_,?_,h.le.trans h2,h.sle.trans h3,h.lo⟩⟩
 ·rw[eval_put (by rw[h.width];exact hk)]
  cases dst with
  | none=>rw[if_neg (by simp)];exact(h.tmp k hk).mono h2 h3
  | some j =>
    by_cases e:j=k
    ·subst e;rw[if_pos rfl];simp only[putT,Zac];exact h4
    ·rw[if_neg (by simpa using e)]
     simp only[putT,Zab _ _ (Ne.symm e)]
     exact(h.tmp k hk).mono h2 h3
 ·cases dst<;>simp[Act.put,h.width]
 ·rw[Zf7];exact h.defers.le h2
end
def StLe(s s':St):Prop:=∀ E B n β a w,RelA E B n β s a w→∃ β',RelA E B n β' s' a w
theorem StLe.refl(s:St):StLe s s:=fun _ _ _ β _ _ h=>⟨β,h⟩
theorem StLe.trans{a b c:St}(h:StLe a b)(k:StLe b c):StLe a c:=fun E B n β x w hr=>let ⟨β1,h1⟩:=h E B n β x w hr;k E B n β1 x w h1
def Zfq(ops:Array Oper)(o:Oper)(t:Nat→D):Option Bool :=
 match o.guard with
 | none=>some true
 | some (j,want)=>match (ops[j]?).bind (·.dst)with
   | none=>none
   | some k=>match t k with
     | .v (.bool b)=>some (b==want)
     | .v (.tuple _)=>some false
     | _=>none
def Zgy(o:Op)(t:Nat→D):Option (FuncId×List D) :=
 match o with
 | .call {callee:=.value f,args,argTypes:=_}=>match rd t f with
   | .clo g caps=>some (g,args.toList.map (rd t)++caps)
   | _=>none
 | _=>none
def opA(P:Program)(o:Oper)(s:St)(K:St→Prop):Prop :=
 match opF P o.op s.t s.m s.nx with
 | some r=>r.ok∧(r.new=[]∨r.new=[s.nx])∧K {s with t:=putT s.t o.dst r.d,m:=ov s.m r.wr,nx:=s.nx+r.new.length}
 | none=>match Zgy o.op s.t with
   | some (f,ds)=>Zar P f ds s.m s.nx fun d m' nx'=>K {s with t:=putT s.t o.dst d,m:=m',nx:=nx'}
   | none=>False
def opsA(P:Program)(ops:Array Oper):List Oper→St→(St→Prop)→Prop
 | [],s,K=>K s
 | o ::rest,s,K=>match Zfq ops o s.t with
   | some g=>(g=true→opA P o s fun s'=>opsA P ops rest s' K)∧(g=false→opsA P ops rest {s with t:=putT s.t o.dst (.v undef)} K)
   | none=>False
def ZdV(n:Nat):Operand→Bool
 | .tmp k=>decide (k<n)
 | _=>true
def Zbz(n:Nat)(o:Oper):Bool:=(match o.dst with|some k=>decide (k<n)|none=>true)&&o.op.operands.all (ZdV n)
section
variable {P:Program} {E:Env} {B:Base} {n:Nat} {β:Bet} {s:St} {a:Act} {w:World}
theorem ZjN{o:Oper}(hf:Zbz n o=true)(h:RelA E B n β s a w):∀ x∈o.op.operands.toList,Rep β s.m (safe E β s.m) w (a.eval x) (rd s.t x):=by
 intro x hx
 refine Ziw fun k hk=>h.tmp k ?_
 unfold Zbz at hf
 rw[Ya2]at hf
 have:=Array.all_eq_true_iff_forall_mem.1 hf.2 x (by simpa using hx)
 rw[hk]at this
 simpa[ZdV]using this
theorem ZhL{o:Oper}{t:Nat→D}{f:FuncId}{ds:List D}(h:Zgy o.op t=some (f,ds))(hb:ZeX P f){a:Act}{S:Nat→Nat→Prop}{m:Mem}(hop:∀ x∈o.op.operands.toList,Rep β m S w (a.eval x) (rd t x)) :
 ∃ vs:List Value,Reps β m S w vs ds∧(execOp a.eval o).run P w = .ok (.enter f vs.toArray) w:=by
 obtain⟨dst,op,oty,pos,af,gd⟩:=o
 simp only at h hop
 unfold Zgy at h
 split at h
 ·rename_i fo args ats
  split at h
  ·rename_i g caps hg
   simp only[Ya1,Prod.mk.injEq]at h
   obtain⟨rfl,rfl⟩:=h
   have h1:=hop fo (by simp[Op.operands,Call.operands])
   rw[hg]at h1
   obtain⟨cs,hv,h2,h3⟩:=h1.inv_clo
   obtain⟨fn,c,hfn,hc,hnm⟩:=hb
   have hargs:=Zhd (β:=β) (m:=m) (S:=S) (w:=w) (a:=a) (t:=t) args.toList (fun x hx=>hop x (by simp[Op.operands,Call.operands];exact .inr (by simpa using hx)))
   refine⟨args.toList.map a.eval++cs,hargs.append ⟨h2,h3⟩,?_⟩
   have hnm' : ¬ fn.name = "runtime.NumGoroutine" := by simpa using hnm
   simp[execOp,resolve,hv,Deferred.ofValue,invoke,callFunc,hfn,hnm',hc,Zl4]
  ·cases h
 ·cases h
theorem Zms{o:Oper}{f:FuncId}{vs:Array Value}{K:Act→World→Prop}{Q:Exit→Act→World→Prop}(he:(execOp a.eval o).run P w = .ok (.enter f vs) w)(h:Calls P f vs w fun e w'=>∃ v,e = .returned v∧K (a.put o.dst v) w'):o.wp P a w K Q:=by
 unfold Oper.wp
 rw[he,Oper.upon_enter]
 refine h.mono ?_
 rintro e w' ⟨v,rfl,hk⟩
 exact hk
theorem ZxS{o:Oper}{r:Res}{m:Mem}{nx:Nat}{K:Act→World→Prop}{Q:Exit→Act→World→Prop}(h:Zrg P E β m nx w o a r)(hK:∀ v w',ZbU E β m nx w (ov m r.wr) v r.d w'→K (a.put o.dst v) w'):o.wp P a w K Q:=by
 obtain⟨v,nn,w',h1,h2,h3⟩:=h
 unfold Oper.wp
 rw[h1]
 rcases h2 with rfl|⟨rfl,rfl⟩
 ·exact hK v w' h3
 ·exact hK undef w' h3
theorem Zni{o:Oper}{K:St→Prop}{K':Act→World→Prop}{Q:Exit→Act→World→Prop}(hf:Zbz n o=true)(h:RelA E B n β s a w)(hA:opA P o s K)
 (hK:∀ s' β' a' w',RelA E B n β' s' a' w'→K s'→K' a' w'):o.wp P a w K' Q:=by
 unfold opA at hA
 have hop:=ZjN hf h
 split at hA
 ·rename_i r hr
  obtain⟨h1,h2,h3⟩:=hA
  have hM:ZaK E β s.m (s.nx+r.new.length) w:=h.mem.mono_nx (Nat.le_add_right _ _)
  refine ZxS (Zo1 hr h1 hM ?_ hop) fun v w' ha=>?_
  ·intro i hi
   rcases h2 with h2|h2
   ·rw[h2]at hi;simp at hi
   ·rw[h2]at hi ⊢
    simp at hi
    subst hi
    exact⟨h.mem.none,by simp⟩
  ·obtain⟨β',h4⟩:=h.put (dst:=o.dst) ha
   exact hK _ β' _ _ h4 h3
 ·split at hA
  ·rename_i f ds hc
   obtain⟨hb,hA⟩:=hA
   obtain⟨vs,h1,h2⟩:=ZhL (P:=P) hc hb hop
   refine Zms h2 ((hA E β w vs h.mem h1).mono ?_)
   rintro e w' ⟨v,d,m',nx',rfl,ha,hk⟩
   obtain⟨β',h4⟩:=h.put (dst:=o.dst) ha
   exact⟨v,rfl,hK _ β' _ _ h4 hk⟩
  ·exact hA.elim
theorem Rep.inv_undef{S:Nat→Nat→Prop}{m:Mem}:Rep β m S w undef (.v undef):=.v _
theorem Zmd{ops:Array Oper}{o:Oper}{g:Bool}(hg:Zfq ops o s.t=some g){a:Act}{S:Nat→Nat→Prop}{m:Mem}(h:∀ k,k∈o.looksAt ops→Rep β m S w (a.eval (.tmp k)) (s.t k)):Region.wanted o (yielded ops a.tmps)=g:=by
 unfold Zfq at hg
 unfold Region.wanted
 split at hg
 ·rename_i hn
  rw[hn]
  simp only[Ya1]at hg
  exact hg
 ·rename_i j want hn
  rw[hn]
  split at hg
  ·cases hg
  ·rename_i k hk
   split at hg
   ·rename_i b hb
    simp only[Ya1]at hg
    subst hg
    have h1:=h k (by simp[Oper.looksAt,hn,hk])
    rw[hb]at h1
    have h2:=h1.inv_v
    simp only
    have h3:yielded ops a.tmps j=some b:=by
     unfold yielded
     simp only[Act.eval]at h2
     rw[hk]
     simp only[Option.bind_some]
     rw[Array.getD_eq_getD_getElem?]at h2
     cases hq:a.tmps[k]? with
     | none=>rw[hq]at h2;simp[undef]at h2
     | some u=>rw[hq]at h2;simp only[Option.getD_some]at h2;rw[h2]
    rw[h3]
    cases b<;>cases want<;>rfl
   ·rename_i u hb
    simp only[Ya1]at hg
    subst hg
    have h1:=h k (by simp[Oper.looksAt,hn,hk])
    rw[hb]at h1
    have h2:=h1.inv_v
    simp only
    have h3:yielded ops a.tmps j=none:=by
     unfold yielded
     simp only[Act.eval]at h2
     rw[hk]
     simp only[Option.bind_some]
     rw[Array.getD_eq_getD_getElem?]at h2
     cases hq:a.tmps[k]? with
     | none=>rfl
     | some u=>rw[hq]at h2;simp only[Option.getD_some]at h2;rw[h2]
    rw[h3]
    cases want<;>rfl
   ·cases hg
theorem Znu{ops:Array Oper}{o:Oper}(hall:ops.all (Zbz n)=true)(ho:Zbz n o=true)(h:RelA E B n β s a w):∀ k,k∈o.looksAt ops→Rep β s.m (safe E β s.m) w (a.eval (.tmp k)) (s.t k):=by
 intro k hk
 refine h.tmp k ?_
 unfold Oper.looksAt at hk
 rcases Yd5.1 hk with hk|hk
 ·obtain⟨x,hx,hxk⟩:=List.mem_filterMap.1 hk
  unfold Zbz at ho
  rw[Ya2]at ho
  have:=Array.all_eq_true_iff_forall_mem.1 ho.2 x (by simpa using hx)
  split at hxk
  ·simp only[Ya1]at hxk;subst hxk;simpa[ZdV]using this
  ·cases hxk
 ·split at hk
  ·rename_i g wnt hg
   cases hj:ops[g]? with
   | none=>rw[hj]at hk;simp at hk
   | some p =>
     rw[hj]at hk
     simp only[Option.bind_some,Option.mem_toList]at hk
     have:=Array.all_eq_true_iff_forall_mem.1 hall p (Array.mem_of_getElem? hj)
     unfold Zbz at this
     rw[Ya2,hk]at this
     simpa using this.1
  ·simp at hk
theorem ZoX{ops:Array Oper}{K:St→Prop}{Q:Exit→Act→World→Prop}(hall:ops.all (Zbz n)=true)(hQ:∀ s' β' a' w',RelA E B n β' s' a' w'→K s'→Q .normal a' w') :
 ∀ (l:List Oper)(s:St)(β:Bet)(a:Act)(w:World),l.all (Zbz n)=true→RelA E B n β s a w→opsA P ops l s K→wpList P ops Q l a w
 | [],s,β,a,w,_,h,hA=>hQ s β a w h hA
 | o ::rest,s,β,a,w,hl,h,hA=>by
   rw[List.all_cons,Ya2]at hl
   unfold opsA at hA
   split at hA
   ·rename_i g hg
    have hw:=Zmd hg (Znu hall hl.1 h)
    unfold wpList
    rw[hw]
    cases g with
    | true =>
      rw[if_pos rfl]
      refine .inl (Zni hl.1 h (hA.1 rfl) fun s' β' a' w' h' hk=>ZoX hall hQ rest s' β' a' w' hl.2 h' hk)
    | false =>
      rw[if_neg (by simp)]
      obtain⟨β',h'⟩:=h.put (dst:=o.dst) (ZbU.same h.mem (Rep.inv_undef:Rep β s.m (safe E β s.m) w undef (.v undef)))
      exact ZoX hall hQ rest _ β' _ w hl.2 h' (hA.2 rfl)
   ·exact hA.elim
end
end ifl
section ifl
variable [Ifl]
structure Ev where
 d:D
 touch:List Nat
 wr:List (Nat×Blk)
 ints:Bool
def EffC(P:Program)(f:FuncId)(ds:List D)(m:Mem)(nx:Nat)(ev:Ev)(n':Nat):Prop:=ZeX P f∧ev.ints=false∧nx≤n'∧(∀ p∈ev.wr,p.1∈ev.touch∧p.1<n') ∧
 ∀ E β m1 NX w (vs:List Value),n'≤NX→ZaK E β m1 NX w→(∀ id∈ev.touch,m1 id=m id)→Reps β m1 (safe E β m1) w vs ds→Calls P f vs.toArray w fun e w'=>∃ v,e = .returned v∧ZbU E β m1 NX w (ov m1 ev.wr) v ev.d w'
def ZxJ(P:Program)(f:FuncId)(ds:List D)(m:Mem)(nx:Nat)(K:Ev→Nat→Prop):Prop :=
 (∃ d b,((b=true∧Zae P f (Zd3 (ZdS m ds) ds) d)∨Zaa P f (Zd3 (ZdS m ds) ds) d)∧(ZbF (ZbI ds) m).all (fun p=>decide (p.1<nx))=true∧K ⟨d,ZbI ds++(ZbF (ZbI ds) m).map (·.1),ZbF (ZbI ds) m,b⟩ nx) ∨
 ∃ ev n',EffC P f ds m nx ev n'∧K ev n'
def opD(P:Program)(o:Oper)(s:St)(K:Ev→St→Prop):Prop :=
 match opF P o.op s.t s.m s.nx with
 | some r => r.ok ∧ (r.new = [] ∨ r.new = [s.nx]) ∧ r.wr.all (fun p => decide (p.1 < s.nx + r.new.length)) = true ∧
     K ⟨r.d,r.rd++r.new++r.wr.map (·.1),r.wr,false⟩ {s with t:=putT s.t o.dst r.d,m:=ov s.m r.wr,nx:=s.nx+r.new.length}
 | none=>match Zgy o.op s.t with
   | some (f,ds)=>ZxJ P f ds s.m s.nx fun ev n'=>K ev {s with t:=putT s.t o.dst ev.d,m:=ov s.m ev.wr,nx:=n'}
   | none=>False
def runD(P:Program)(ops:Array Oper):List Oper→St→List Ev→(List Ev→St→Prop)→Prop
 | [],s,tr,K=>K tr s
 | o ::rest,s,tr,K=>match Zfq ops o s.t with
   | some g => (g = true → opD P o s fun ev s' => runD P ops rest s' (tr ++ [ev]) K) ∧
       (g=false→runD P ops rest {s with t:=putT s.t o.dst (.v undef)} (tr++[⟨.v undef,[],[],false⟩]) K)
   | none=>False
theorem ZcC{m m':Mem}{id ver:Nat}(h:m' id=m id):ZbJ m' id ver=ZbJ m id ver:=by unfold ZbJ;rw[h]
theorem Zr9{ty:TyI}{x:D}{m m':Mem}{r:Res}(h:Zic ty x m=some r)(hm:∀ id∈r.rd,m' id=m id):Zic ty x m'=some r:=by
 unfold Zic at h ⊢
 split at h
 ·exact h
 ·rename_i id ver i off
  split at h
  ·rename_i b hb
   cases hl:ldE b.es i off ty with
   | none=>rw[hl]at h;cases h
   | some d =>
     rw[hl]at h
     simp only[Yd0,Ya1]at h
     subst h
     rw[ZcC (hm id (by simp)),hb]
     simp[hl]
  ·cases h
 ·cases h
theorem Zou{ty:TyI}{x y:D}{m m':Mem}{r:Res}(h:ZgA ty x y m=some r)(hm:∀ id∈r.rd,m' id=m id):ZgA ty x y m'=some r:=by
 unfold ZgA at h ⊢
 split at h
 ·rename_i id ver i off c hc
  split at h
  ·rename_i b hb
   split at h
   ·rename_i e he
    split at h
    ·rename_i hcond
     simp only[Ya1]at h
     subst h
     rw[ZcC (hm id (by simp)),hb]
     simp only[he]
     rw[if_pos hcond]
    ·cases h
   ·cases h
  ·cases h
 ·cases h
theorem Zpf{ty et:TyI}{x y:D}{m m':Mem}{r:Res}(h:Zci ty et x y m=some r)(hm:∀ id∈r.rd,m' id=m id):Zci ty et x y m'=some r:=by
 unfold Zci at h ⊢
 split at h
 ·rename_i hk
  rw[if_pos hk]
  split at h
  ·split at h
   ·exact h
   ·rename_i id ver
    split at h
    ·rename_i b hb
     split at h
     ·rename_i e he
      split at h
      ·rename_i hl
       simp only[Ya1]at h
       subst h
       rw[ZcC (hm id (by simp)),hb]
       simp only[he]
       rw[if_pos hl]
      ·cases h
     ·cases h
    ·cases h
   ·cases h
  ·cases h
 ·cases h
theorem Zui{ty:TyI}{x:D}{m m':Mem}{r:Res}(h:lenF ty x m=some r)(hm:∀ id∈r.rd,m' id=m id):lenF ty x m'=some r:=by
 unfold lenF at h ⊢
 split at h
 ·exact h
 ·exact h
 ·rename_i id ver
  split at h
  ·rename_i hk
   rw[if_pos hk]
   split at h
   ·rename_i b hb
    simp only[Ya1]at h
    subst h
    rw[ZcC (hm id (by simp)),hb]
   ·cases h
  ·cases h
 ·exact h
 ·cases h
theorem Zff{x:D}{m m':Mem}{es:List (List D)}{r:List Nat}(h:ZfR m x=some (es,r))(hm:∀ id∈r,m' id=m id):ZfR m' x=some (es,r):=by
 unfold ZfR at h ⊢
 split at h
 ·exact h
 ·exact h
 ·rename_i id ver
  split at h
  ·rename_i b hb
   simp only[Ya1,Prod.mk.injEq]at h
   obtain⟨rfl,rfl⟩:=h
   rw[ZcC (hm id (by simp)),hb]
  ·cases h
 ·cases h
theorem Zof{ty et:TyI}{x y:D}{m m':Mem}{nx:Nat}{r:Res}(h:Zfj ty et x y m nx=some r)(hm:∀ id∈r.rd,m' id=m id):Zfj ty et x y m' nx=some r:=by
 unfold Zfj at h ⊢
 split at h
 ·rename_i hk
  rw[if_pos hk]
  split at h
  ·rename_i es rr hes
   split at h
   ·simp only[Ya1]at h
    subst h
    rw[Zff hes hm]
   ·simp only[Ya1]at h
    subst h
    rw[Zff hes hm]
   ·rename_i id ver
    split at h
    ·rename_i b hb
     split at h
     ·rename_i hT
      simp only[Ya1]at h
      subst h
      rw[Zff hes (fun i hi=>hm i (by simp[hi]))]
      simp only
      rw[ZcC (hm id (by simp)),hb]
      simp only
      rw[if_pos hT]
     ·rename_i hT
      split at h
      ·rename_i hT2
       simp only[Ya1]at h
       subst h
       rw[Zff hes (fun i hi=>hm i (by simp[hi]))]
       simp only
       rw[ZcC (hm id (by simp)),hb]
       simp only
       rw[if_neg hT,if_pos hT2]
      ·cases h
    ·cases h
   ·cases h
  ·cases h
 ·cases h
set_option maxHeartbeats 1000000 in
theorem ZtR{P:Program}{o:Op}{t t':Nat→D}{m m':Mem}{nx:Nat}{r:Res}(h:opF P o t m nx=some r)(hm:∀ id∈r.rd,m' id=m id):opF P o t m' nx=some r:=by
 cases o with
 | load T x =>
   simp only[opF]at h ⊢
   split at h
   ·exact Zr9 h hm
   ·cases h
 | store T x y =>
   simp only[opF]at h ⊢
   split at h
   ·exact Zou h hm
   ·cases h
 | indexAddr T x i =>
   simp only[opF]at h ⊢
   split at h
   ·split at h
    ·exact Zpf h hm
    ·cases h
   ·cases h
 | call c =>
   obtain⟨f,args,ats⟩:=c
   cases f with
   | builtin b =>
     cases b<;>simp only[opF]at h ⊢<;>first
      | exact h
      | (split at h
         ·split at h
          ·exact Zui h hm
          ·cases h
         ·cases h)
      | (split at h
         ·split at h
          ·split at h
           ·split at h
            ·rw[if_pos (by assumption)]
             exact Zof h hm
            ·cases h
           ·cases h
          ·cases h
         ·cases h)
   | value f=>simp only[opF]at h;cases h
   | invoke r s=>simp only[opF]at h;cases h
 | slice T x lo hi mx=>cases mx<;>exact h
 | makeFunc f a b=>cases f<;>exact h
 | _=>exact h
end ifl
section ifl
variable [Ifl]
def Zpu(P:Program)(ops:Array Oper)(s:St)(o:Oper)(ev:Ev)(s':St):Prop :=
 ∃ g,Zfq ops o s.t=some g∧s'.t=putT s.t o.dst ev.d∧s'.m=ov s.m ev.wr∧s.nx≤s'.nx∧s'.lo=s.lo∧(∀ p∈ev.wr,p.1∈ev.touch∧p.1<s'.nx) ∧
  ((g=true∧((∃ r,opF P o.op s.t s.m s.nx=some r∧r.ok∧(r.new=[]∨r.new=[s.nx])∧s'.nx=s.nx+r.new.length∧ev=⟨r.d,r.rd++r.new++r.wr.map (·.1),r.wr,false⟩) ∨
    (∃ f ds d b,Zgy o.op s.t=some (f,ds)∧((b=true∧Zae P f (Zd3 (ZdS s.m ds) ds) d)∨Zaa P f (Zd3 (ZdS s.m ds) ds) d)∧ev=⟨d,ZbI ds++(ZbF (ZbI ds) s.m).map (·.1),ZbF (ZbI ds) s.m,b⟩) ∨
    (∃ f ds,Zgy o.op s.t=some (f,ds)∧EffC P f ds s.m s.nx ev s'.nx))) ∨
   (g=false∧ev=⟨.v undef,[],[],false⟩))
theorem Zm0{P:Program}{ops:Array Oper}{K:List Ev→St→Prop}:∀ (l:List Oper)(s:St)(tr:List Ev),runD P ops l s tr K →
 ∃ (evs:List Ev)(st:Nat→St),st 0=s∧evs.length=l.length∧(∀ (i:Nat)(o:Oper)(ev:Ev),l[i]? =some o→evs[i]? =some ev→Zpu P ops (st i) o ev (st (i+1)))∧K (tr++evs) (st l.length)
 | [],s,tr,h=>⟨[],fun _=>s,rfl,rfl,by simp,by simpa[runD]using h⟩
 | o ::rest,s,tr,h=>by
   have main:∀ ev s',Zpu P ops s o ev s'→runD P ops rest s' (tr++[ev]) K→∃ (evs:List Ev)(st:Nat→St),st 0=s∧evs.length=(o ::rest).length∧(∀ (i:Nat)(p:Oper)(ev:Ev),(o ::rest)[i]? =some p→evs[i]? =some ev→Zpu P ops (st i) p ev (st (i+1)))∧K (tr++evs) (st (o ::rest).length):=by
    intro ev s' h1 h2
    obtain⟨evs,st,g1,g2,g3,g4⟩:=Zm0 rest s' _ h2
    refine⟨ev ::evs,fun i=>match i with|0=>s|i+1=>st i,rfl,by simp[g2],?_,?_⟩
    ·intro i p e hp he
     cases i with
     | zero =>
       simp only[List.getElem?_cons_zero,Ya1]at hp he
       subst hp;subst he
       simp only
       rw[g1]
       exact h1
     | succ i=>exact g3 i p e (by simpa using hp) (by simpa using he)
    ·simpa using g4
   unfold runD at h
   split at h
   ·rename_i g hg
    cases g with
    | true =>
      have h:=h.1 rfl
      unfold opD at h
      split at h
      ·rename_i r hr
       obtain⟨h1,h2,h3,h4⟩:=h
       refine main _ _ ?_ h4
       refine⟨true,hg,rfl,rfl,Nat.le_add_right _ _,rfl,?_,.inl ⟨rfl,.inl ⟨r,hr,h1,h2,rfl,rfl⟩⟩⟩
       intro p hp
       refine⟨by simp;exact .inr (.inr ⟨p.2,hp⟩),?_⟩
       have:=Ya6.1 h3 p hp
       simpa using this
      ·split at h
       ·rename_i f ds hc
        rcases h with⟨d,b,h1,h2,h3⟩|⟨ev,n',h1,h3⟩
        ·refine main _ _ ?_ h3
         refine⟨true,hg,rfl,rfl,Ya4 _,rfl,?_,.inl ⟨rfl,.inr (.inl ⟨f,ds,d,b,hc,h1,rfl⟩)⟩⟩
         intro p hp
         refine⟨by simp;exact .inr ⟨p.2,hp⟩,?_⟩
         have:=Ya6.1 h2 p hp
         simpa using this
        ·refine main _ _ ?_ h3
         exact⟨true,hg,rfl,rfl,h1.2.2.1,rfl,h1.2.2.2.1,.inl ⟨rfl,.inr (.inr ⟨f,ds,hc,h1⟩)⟩⟩
       ·exact h.elim
    | false =>
      refine main _ _ ?_ (h.2 rfl)
      exact⟨false,hg,rfl,rfl,Ya4 _,rfl,by simp,.inr ⟨rfl,rfl⟩⟩
   ·exact h.elim
def ZvE(s:St):Prop:=∀ id,s.nx≤id→s.m id=none
theorem Zy4{m:Mem}{wr:List (Nat×Blk)}{id:Nat}(h:m id=none)(hw:∀ p∈wr,p.1≠id):ov m wr id=none:=by
 induction wr generalizing m with
 | nil=>exact h
 | cons p l ih =>
   refine ih ?_ fun q hq=>hw q (by simp[hq])
   rw[Zab _ _ (Ne.symm (hw p (by simp)))]
   exact h
theorem Zpu.fresh{P:Program}{ops:Array Oper}{s s':St}{o:Oper}{ev:Ev}(h:Zpu P ops s o ev s')(hf:ZvE s):ZvE s':=by
 obtain⟨g,_,_,h3,h4,_,h5,_⟩:=h
 intro id hid
 rw[h3]
 exact Zy4 (hf id (by omega)) fun p hp e=>by have:=(h5 p hp).2;omega
section
variable {P:Program} {E:Env} {β:Bet} {w:World}
theorem Zs3{ops:Array Oper}{s s':St}{o:Oper}{ev:Ev}(h:Zpu P ops s o ev s')(hf:ZvE s){m1:Mem}{NX:Nat}{a:Act}(hM:ZaK E β m1 NX w)(hnx:s'.nx≤NX)(hm:∀ id∈ev.touch,m1 id=s.m id)
 (hop:∀ k,k∈o.looksAt ops→Rep β m1 (safe E β m1) w (a.eval (.tmp k)) (s.t k)) (hi:ev.ints=true→ZbQ (ov m1 ev.wr)) {K:Act→World→Prop} {Q:Exit→Act→World→Prop} (hK:∀ v w',ZbU E β m1 NX w (ov m1 ev.wr) v ev.d w'→K (a.put o.dst v) w') :
 if Region.wanted o (yielded ops a.tmps)=true then o.wp P a w K Q else K (a.put o.dst undef) w:=by
 obtain⟨g,hg,h1,h2,h3,h4,h5,h6⟩:=h
 have hw:=Zmd hg (β:=β) (w:=w) (a:=a) (S:=safe E β m1) (m:=m1) hop
 rw[hw]
 have hop':∀ x∈o.op.operands.toList,Rep β m1 (safe E β m1) w (a.eval x) (rd s.t x):=by
  intro x hx
  refine Ziw fun k hk=>hop k ?_
  unfold Oper.looksAt
  refine Yd5.2 (.inl (List.mem_filterMap.2 ⟨x,hx,by rw[hk]⟩))
 rcases h6 with⟨rfl,h6⟩|⟨rfl,rfl⟩
 ·rw[if_pos rfl]
  rcases h6 with⟨r,hr,q1,q2,q3,rfl⟩|⟨f,ds,d,b,hc,q1,rfl⟩|⟨f,ds,hc,q1⟩
  ·have hr':=ZtR (t':=s.t) hr (m':=m1) (fun id hid=>hm id (by simp[hid]))
   refine ZxS (Zo1 hr' q1 hM ?_ hop') hK
   intro i hin
   have ht:=hm i (by simp[hin])
   rcases q2 with q2|q2
   ·rw[q2]at hin;simp at hin
   ·rw[q2]at hin q3
    simp at hin
    subst hin
    refine⟨ht.trans (hf _ (Ya4 _)),?_⟩
    simp at q3
    omega
  ·have hrf:∀ id∈ZbI ds,m1 id=s.m id:=fun id hid=>hm id (by simp[hid])
   have hkw:ZbF (ZbI ds) m1=ZbF (ZbI ds) s.m:=ZgR _ _ _ hrf
   have hag:∀ id∈ZbI ds,ZdS m1 ds id=ZdS s.m ds id:=by
    intro id hid
    unfold ZdS
    rw[hkw]
    have:∀ (wr:List (Nat×Blk)) (m m':Mem),m id=m' id→ov m wr id=ov m' wr id:=by
     intro wr
     induction wr with
     | nil=>intro m m' h;exact h
     | cons p l ih =>
       intro m m' h
       refine ih _ _ ?_
       by_cases e:id=p.1
       ·subst e;rw[Zac,Zac]
       ·rw[Zab _ _ e,Zab _ _ e];exact h
    exact this _ _ _ (hrf id hid)
   have hargs:=Zd2 ds hag
   have hka:ZdS m1 ds=ov m1 (ZbF (ZbI ds) s.m):=by unfold ZdS;rw[hkw]
   rcases q1 with⟨hb,hC⟩|hC
   ·rw[← hargs]at hC
    obtain⟨vs,p1,p2⟩:=ZhL (P:=P) hc hC.1 hop'
    refine Zms p2 ((hC.after ?_ hM p1).mono ?_)
    ·rw[hka];exact hi hb
    ·rintro e w' ⟨v,rfl,ha⟩
     rw[hka]at ha
     exact⟨v,rfl,hK v w' ha⟩
   ·rw[← hargs]at hC
    obtain⟨vs,p1,p2⟩:=ZhL (P:=P) hc hC.1 hop'
    refine Zms p2 ((hC.after hM p1).mono ?_)
    rintro e w' ⟨v,rfl,ha⟩
    rw[hka]at ha
    exact⟨v,rfl,hK v w' ha⟩
  ·obtain⟨vs,p1,p2⟩:=ZhL (P:=P) hc q1.1 hop'
   refine Zms p2 ((q1.2.2.2.2 E β m1 NX w vs hnx hM hm p1).mono ?_)
   rintro e w' ⟨v,rfl,ha⟩
   exact⟨v,rfl,hK v w' ha⟩
 ·rw[if_neg (by simp)]
  exact hK undef w (ZbU.same hM (.v _))
end
def ZcN(ops:Array Oper)(i:Nat):List Nat :=
 match ops[i]? with
 | some o=>Zp9 ops o i []
 | none=>[]
def Zj1(a b:List Nat):Bool:=a.any b.contains
def Zso(ops:Array Oper):Bool :=
 Region.noSelect ops &&
 (List.range ops.size).all fun i=>match ops[i]? with
   | none=>true
   | some o =>
     (o.after.all fun e=> !Region.binds .any e||decide (e.on<i)) &&
     (List.range ops.size).all fun j=>match ops[j]? with
       | none=>true
       | some p=>match p.dst with
         | none=>true
         | some t=>(i==j||o.dst !=some t)&&(!(o.looksAt ops).contains t||(decide (j<i)&&(ZcN ops i).contains j)||(decide (i≤j)&&((ZcN ops j).contains i||i==j)))
def ZgL(ops:Array Oper)(tr:List (List Nat×List Nat)):Bool :=
 (List.range ops.size).all fun j=>(List.range j).all fun i=>match tr[i]?,tr[j]? with
   | some x,some y=>(!Zj1 x.2 y.1 && !Zj1 x.1 y.2)||(ZcN ops j).contains i
   | _,_=>true
structure Zyu (ops:Array Oper):Prop where
 noSel:∀ (i:Nat)(o:Oper) cs b,ops[i]? =some o→o.op ≠ .select cs b
 back:∀ (i:Nat)(o:Oper),ops[i]? =some o→∀ e∈o.after,Region.binds .any e=true→e.on<i
 once:∀ (i j:Nat)(o p:Oper) t,ops[i]? =some o→ops[j]? =some p→o.dst=some t→p.dst=some t→i=j
 reads:∀ (i j:Nat)(o p:Oper) t,ops[i]? =some o→ops[j]? =some p→p.dst=some t→t∈o.looksAt ops→(j<i∧j∈ZcN ops i)∨(i<j∧i∈ZcN ops j)∨i=j
theorem Zxk{ops:Array Oper}(h:Zso ops=true):Zyu ops:=by
 simp only[Zso,Ya2,Ya6,Yd2]at h
 obtain⟨h0,h1⟩:=h
 have get:∀ {i:Nat} {o:Oper},ops[i]? =some o→i<ops.size:=fun hi=>(Ya5.1 hi).1
 refine⟨fun i o cs b hi=>Region.noSelect_spec h0 i o cs b hi,fun i o hi e he hb=>?_,fun i j o p t hi hj ho hp=>?_,fun i j o p t hi hj hp ht=>?_⟩
 ·have:=h1 i (get hi)
  rw[hi]at this
  simp only[Ya2]at this
  have:=Array.all_eq_true_iff_forall_mem.1 this.1 e he
  simpa[hb]using this
 ·have:=h1 i (get hi)
  rw[hi]at this
  simp only[Ya2,Ya6,Yd2]at this
  have:=this.2 j (get hj)
  rw[hj]at this
  simp only[hp,Ya2,Bool.or_eq_true,beq_iff_eq]at this
  rcases this.1 with h|h
  ·exact h
  ·simp[ho]at h
 ·have:=h1 i (get hi)
  rw[hi]at this
  simp only[Ya2,Ya6,Yd2]at this
  have:=this.2 j (get hj)
  rw[hj]at this
  simp only[hp,Ya2,Bool.or_eq_true]at this
  have h2:=this.2
  rcases h2 with(h2|h2)|h2
  ·simp[List.contains_iff_mem]at h2;exact absurd ht h2
  ·exact .inl ⟨by simpa using h2.1,List.contains_iff_mem.1 h2.2⟩
  ·rcases h2.2 with h3|h3
   ·by_cases e:i=j
    ·exact .inr (.inr e)
    ·have:i≤j:=by simpa using h2.1
     exact .inr (.inl ⟨by omega,List.contains_iff_mem.1 h3⟩)
   ·exact .inr (.inr (by simpa using h3))
theorem Ziv{ops:Array Oper}{listed:Array Bool}(hc:∀ (i:Nat)(o:Oper),ops[i]? =some o→listed[i]? =some true→∀ e∈o.after,Region.binds .any e=true→listed[e.on]? =some true)
 {i:Nat} {o:Oper} (ho:ops[i]? =some o) (h:∀ e∈o.after,Region.binds .any e=true→listed[e.on]? =some true):∀ j∈ZcN ops i,listed[j]? =some true:=by
 intro j hj
 unfold ZcN at hj
 rw[ho]at hj
 refine Zna (P:=fun j=>listed[j]? =some true) (fun j hd=>?_) (fun k p j hk hp hd=>?_) i [] (by simp) j hj
 ·obtain⟨e,he,hb,rfl⟩:=Zce.1 hd
  exact h e he hb
 ·obtain⟨e,he,hb,rfl⟩:=Zce.1 hd
  exact hc k p hp hk e he hb
def mixM(m:Mem):List Ev→List Bool→Mem
 | ev ::evs,b ::bs=>mixM (if b=true then ov m ev.wr else m) evs bs
 | _,_=>m
def ids(l:List (Nat×Blk)):List Nat:=l.map (·.1)
theorem Zk0{m:Mem}{wr:List (Nat×Blk)}{id:Nat}(h:id∉ids wr):ov m wr id=m id:=by
 induction wr generalizing m with
 | nil=>rfl
 | cons p l ih =>
   simp only[ids,List.map_cons,List.mem_cons,not_or]at h
   have:=ih (m:=upd m p.1 (some p.2)) h.2
   simp only[ov,this]
   exact Zab _ _ h.1
theorem ZA4{m m':Mem}{wr:List (Nat×Blk)}{id:Nat}(h:id∈ids wr):ov m wr id=ov m' wr id:=by
 induction wr generalizing m m' with
 | nil=>simp[ids]at h
 | cons p l ih =>
   simp only[ov]
   by_cases hl:id∈ids l
   ·exact ih hl
   ·rw[Zk0 hl,Zk0 hl]
    simp only[ids,List.map_cons,List.mem_cons]at h
    rcases h with rfl|h
    ·rw[Zac,Zac]
    ·exact absurd h hl
theorem Zhq{id:Nat}:∀ (evs:List Ev)(bs cs:List Bool)(m m':Mem),m id=m' id→bs.length=evs.length→cs.length=evs.length→(∀ (j:Nat)(ev:Ev),evs[j]? =some ev→id∈ids ev.wr→bs[j]? =cs[j]?)→mixM m evs bs id=mixM m' evs cs id
 | [],bs,cs,m,m',hm,_,_,_=>by cases bs<;>cases cs<;>exact hm
 | ev ::evs,[],_,_,_,_,h,_,_=>by simp at h
 | ev ::evs,_ ::_,[],_,_,_,_,h,_=>by simp at h
 | ev ::evs,b ::bs,c ::cs,m,m',hm,hb,hc,h=>by
   simp only[mixM]
   refine Zhq evs bs cs _ _ ?_ (by simpa using hb) (by simpa using hc) (fun j e he hid=>by simpa using h (j+1) e (by simpa using he) hid)
   by_cases hid:id∈ids ev.wr
   ·have:=h 0 ev rfl hid
    simp at this
    subst this
    cases b
    ·simpa using hm
    ·simp only[if_true];exact ZA4 hid
   ·cases b<;>cases c<;>simp[Zk0 hid,hm]
theorem Zo6:∀ (evs:List Ev)(bs:List Bool)(m:Mem)(i:Nat)(ev:Ev),bs.length=evs.length→evs[i]? =some ev→bs[i]? =some false →
 (∀ (j:Nat)(e:Ev),i<j→evs[j]? =some e→bs[j]? =some true→∀ id∈ids ev.wr,id∉ids e.wr)→mixM m evs (bs.set i true)=ov (mixM m evs bs) ev.wr
 | [],bs,m,i,ev,_,he,_,_=>by simp at he
 | e ::evs,[],_,_,_,h,_,_,_=>by simp at h
 | e ::evs,b ::bs,m,0,ev,hl,he,hb,hno=>by
   simp only[List.getElem?_cons_zero,Ya1]at he hb
   subst he;subst hb
   simp only[List.set_cons_zero,mixM,if_true,Bool.false_eq_true,if_false]
   funext id
   by_cases hid:id∈ids e.wr
   ·have key:∀ (evs:List Ev)(bs:List Bool)(m:Mem),bs.length=evs.length→(∀ (j:Nat)(x:Ev),evs[j]? =some x→bs[j]? =some true→id∉ids x.wr)→mixM m evs bs id=m id:=by
     intro evs
     induction evs with
     | nil=>intro bs m _ _;cases bs<;>rfl
     | cons x evs ih =>
       intro bs m hl h
       cases bs with
       | nil=>rfl
       | cons b bs =>
         simp only[mixM]
         rw[ih bs _ (by simpa using hl) (fun j y hy hb=>h (j+1) y (by simpa using hy) (by simpa using hb))]
         cases b
         ·rfl
         ·simp only[if_true];exact Zk0 (h 0 x rfl rfl)
    rw[key evs bs _ (by simpa using hl) (fun j x hx hb=>hno (j+1) x (by omega) (by simpa using hx) (by simpa using hb) id hid)]
    exact ZA4 hid
   ·rw[Zk0 hid]
    exact Zhq evs bs bs _ _ (Zk0 hid) (by simpa using hl) (by simpa using hl) (fun _ _ _ _=>rfl)
 | e ::evs,b ::bs,m,i+1,ev,hl,he,hb,hno=>by
   simp only[List.set_cons_succ,mixM]
   exact Zo6 evs bs _ i ev (by simpa using hl) (by simpa using he) (by simpa using hb) (fun j x hj hx hbx=>hno (j+1) x (by omega) (by simpa using hx) (by simpa using hbx))
end ifl
section ifl
variable [Ifl]
theorem ZoW{m:Mem}{wr:List (Nat×Blk)}{id:Nat}{b:Blk}(h:ov m wr id=some b):m id=some b∨(id,b)∈wr:=by
 induction wr generalizing m with
 | nil=>exact .inl h
 | cons p l ih =>
   rcases ih h with h1|h1
   ·by_cases e:id=p.1
    ·subst e;rw[Zac]at h1;simp only[Ya1]at h1;subst h1;exact .inr (by simp)
    ·rw[Zab _ _ e]at h1;exact .inl h1
   ·exact .inr (by simp[h1])
theorem Zl1{id:Nat}{b:Blk}:∀ (evs:List Ev)(bs:List Bool)(m:Mem),mixM m evs bs id=some b→m id=some b∨∃ ev∈evs,(id,b)∈ev.wr
 | [],bs,m,h=>by cases bs<;>exact .inl h
 | ev ::evs,[],m,h=>.inl h
 | ev ::evs,c ::bs,m,h=>by
   simp only[mixM]at h
   rcases Zl1 evs bs _ h with h1|⟨e,he,h1⟩
   ·cases c with
    | false=>exact .inl h1
    | true =>
      simp only[if_true]at h1
      rcases ZoW h1 with h2|h2
      ·exact .inl h2
      ·exact .inr ⟨ev,by simp,h2⟩
   ·exact .inr ⟨e,by simp[he],h1⟩
def ZnC(evs:List Ev):List Nat:=evs.flatMap fun e=>e.wr.filterMap fun p=>if p.2.T==3 then some p.1 else none
theorem Zk8{evs:List Ev}{e:Ev}{p:Nat×Blk}(he:e∈evs)(hp:p∈e.wr)(hT:p.2.T=3):p.1∈ZnC evs:=by
 unfold ZnC
 refine List.mem_flatMap.2 ⟨e,he,List.mem_filterMap.2 ⟨p,hp,?_⟩⟩
 rw[hT];rfl
def Zi9(ops:Array Oper)(evs:List Ev):Bool :=
 (List.range evs.length).all fun i=>match evs[i]? with
   | none=>true
   | some ev=> !ev.ints||(List.range evs.length).all fun j=>match evs[j]? with
     | none=>true
     | some e=>j==i||(e.wr.all fun p=> !(ZnC evs).contains p.1)||(decide (j<i)&&(ZcN ops i).contains j)||(decide (i<j)&&(ZcN ops j).contains i)
theorem Zsd{ops:Array Oper}{evs:List Ev}(h:Zi9 ops evs=true){i j:Nat}{ev e:Ev}(hi:evs[i]? =some ev)(hj:evs[j]? =some e)(hin:ev.ints=true){id:Nat}(hid:id∈ids e.wr)(hI:id∈ZnC evs)(hne:j≠i) :
 (j<i∧j∈ZcN ops i)∨(i<j∧i∈ZcN ops j):=by
 unfold Zi9 at h
 simp only[Ya6,Yd2]at h
 have h1:=h i (Ya3.1 hi).1
 simp only[hi,hin,Bool.not_true,Bool.false_or,Ya6,Yd2]at h1
 have h2:=h1 j (Ya3.1 hj).1
 simp only[hj,Bool.or_eq_true,beq_iff_eq,Ya2,decide_eq_true_eq,List.contains_iff_mem]at h2
 rcases h2 with((h2|h2)|h2)|h2
 ·exact absurd h2 hne
 ·obtain⟨p,hp,rfl⟩:=Yc6.1 hid
  have:=Ya6.1 h2 p hp
  simp only[Bool.not_eq_true',← Bool.not_eq_true,List.contains_iff_mem]at this
  exact absurd hI this
 ·exact .inl h2
 ·exact .inr h2
def ZiC(ops:Array Oper)(m:Mem)(tr:List Ev):Prop:=tr.any (·.ints)=true→ZbQ m∧((∀ ev∈tr,∀ p∈ev.wr,p.2.T=3→p.2.dead=true) ∨
 (Zi9 ops tr=true∧∀ (i:Nat)(ev:Ev),tr[i]? =some ev→ev.ints=true→ZbQ (ov (mixM m tr ((List.range tr.length).map fun j=>decide (j<i))) ev.wr)))
structure Text (P:Program) (n:Nat) (ops:Array Oper) (evs:List Ev) (st:Nat→St):Prop where
 ok:Zyu ops
 fits:ops.all (Zbz n)=true
 len:evs.length=ops.size
 step:∀ (i:Nat)(o:Oper)(ev:Ev),ops[i]? =some o→evs[i]? =some ev→Zpu P ops (st i) o ev (st (i+1))
 fresh:ZvE (st 0)
 race:ZgL ops (evs.map fun e=>(e.touch,ids e.wr))=true
 ints:ZiC ops (st 0).m evs
section
variable {P:Program} {n:Nat} {ops:Array Oper} {evs:List Ev} {st:Nat→St}
theorem Text.get(h:Text P n ops evs st){i:Nat}(hi:i<ops.size):∃ o ev,ops[i]? =some o∧evs[i]? =some ev :=
 ⟨ops[i],evs[i]'(by rw[h.len];exact hi),Yb5 hi,Ya0 (by rw[h.len];exact hi)⟩
theorem Text.freshAt(h:Text P n ops evs st):∀ i,i≤ops.size→ZvE (st i)
 | 0,_=>h.fresh
 | i+1,hi=>by
   obtain⟨o,ev,h1,h2⟩:=h.get (show i<ops.size by omega)
   exact(h.step i o ev h1 h2).fresh (h.freshAt i (by omega))
theorem Text.nx(h:Text P n ops evs st):∀ k i,i+k≤ops.size→(st i).nx≤(st (i+k)).nx
 | 0,i,_=>Ya4 _
 | k+1,i,hi=>by
   obtain⟨o,ev,h1,h2⟩:=h.get (show i+k<ops.size by omega)
   obtain⟨g,_,_,_,h4,_⟩:=h.step (i+k) o ev h1 h2
   exact Yc7 (h.nx k i (by omega)) h4
theorem Text.lo(h:Text P n ops evs st):∀ i,i≤ops.size→(st i).lo=(st 0).lo
 | 0,_=>rfl
 | i+1,hi=>by
   obtain⟨o,ev,h1,h2⟩:=h.get (show i<ops.size by omega)
   obtain⟨g,_,_,_,_,h5,_⟩:=h.step i o ev h1 h2
   rw[h5];exact h.lo i (by omega)
theorem Text.tmp0(h:Text P n ops evs st){t:Tmp}:∀ i,i≤ops.size→(∀ (j:Nat)(p:Oper),j<i→ops[j]? =some p→p.dst≠some t)→(st i).t t=(st 0).t t
 | 0,_,_=>rfl
 | i+1,hi,hno=>by
   obtain⟨o,ev,h1,h2⟩:=h.get (show i<ops.size by omega)
   obtain⟨g,_,h3,_⟩:=h.step i o ev h1 h2
   rw[h3]
   have hd:=hno i o (by omega) h1
   rw[← h.tmp0 i (by omega) fun j p hj hp=>hno j p (by omega) hp]
   unfold putT
   cases hdd:o.dst with
   | none=>rfl
   | some k=>simp only;exact Zab _ _ (fun e=>hd (by rw[hdd,e]))
theorem Text.tmpW(h:Text P n ops evs st){t:Tmp}{j:Nat}{p:Oper}{ev:Ev}(hp:ops[j]? =some p)(hev:evs[j]? =some ev)(hd:p.dst=some t):∀ i,i≤ops.size→j<i→(st i).t t=ev.d
 | 0,_,hj=>by omega
 | i+1,hi,hj=>by
   obtain⟨o,e,h1,h2⟩:=h.get (show i<ops.size by omega)
   obtain⟨g,_,h3,_⟩:=h.step i o e h1 h2
   rw[h3]
   by_cases hij:j=i
   ·subst hij
    rw[hp]at h1;cases h1
    rw[hev]at h2;cases h2
    rw[hd]
    simp only[putT,Zac]
   ·rw[← h.tmpW hp hev hd i (by omega) (by omega)]
    unfold putT
    cases hdd:o.dst with
    | none=>rfl
    | some k=>simp only;exact Zab _ _ (fun e=>hij (h.ok.once j i p o t hp h1 hd (by rw[hdd,e])))
theorem Text.memAt(h:Text P n ops evs st):∀ i,i≤ops.size→(st i).m=mixM (st 0).m evs ((List.range ops.size).map fun j=>decide (j<i))
 | 0,_=>by
   have:∀ (evs:List Ev)(bs:List Bool)(m:Mem),(∀ b∈bs,b=false)→mixM m evs bs=m:=by
    intro evs
    induction evs with
    | nil=>intro bs m _;cases bs<;>rfl
    | cons e evs ih =>
      intro bs m hb
      cases bs with
      | nil=>rfl
      | cons b bs =>
        simp only[mixM]
        rw[hb b (by simp)]
        simp only[Bool.false_eq_true,if_false]
        exact ih bs m fun b hb'=>hb b (by simp[hb'])
   rw[this]
   intro b hb
   obtain⟨j,_,rfl⟩:=Yc6.1 hb
   simp
 | i+1,hi=>by
   obtain⟨o,ev,h1,h2⟩:=h.get (show i<ops.size by omega)
   obtain⟨g,_,_,h4,_⟩:=h.step i o ev h1 h2
   rw[h4,h.memAt i (by omega)]
   have hget:∀ k j,((List.range ops.size).map fun j=>decide (j<k))[j]? =if j<ops.size then some (decide (j<k))else none:=by
    intro k j
    rw[Yb8]
    by_cases hj:j<ops.size
    ·rw[List.getElem?_range hj,if_pos hj];rfl
    ·rw[List.getElem?_eq_none (by simpa using hj),if_neg hj];rfl
   have e:((List.range ops.size).map fun j=>decide (j<i+1))=((List.range ops.size).map fun j=>decide (j<i)).set i true:=by
    apply List.ext_getElem?
    intro j
    rw[List.getElem?_set,hget]
    by_cases hij:i=j
    ·subst hij
     have hl:i<((List.range ops.size).map fun j=>decide (j<i)).length:=by simp;omega
     rw[if_pos rfl,if_pos hl,if_pos (by omega)]
     simp
    ·rw[if_neg hij,hget]
     split
     ·congr 1
      exact decide_eq_decide.2 (by omega)
     ·rfl
   rw[e]
   refine(Zo6 evs _ _ i ev (by simp[h.len]) h2 ?_ ?_).symm
   ·rw[hget,if_pos (by omega)];simp
   ·intro j x hj hx hb
    rw[hget]at hb
    split at hb
    ·simp at hb;omega
    ·cases hb
structure ZvF (P:Program) (E:Env) (B:Base) (n:Nat) (ops:Array Oper) (evs:List Ev) (st:Nat→St) (β:Bet) (listed:Array Bool) (a:Act) (w:World):Prop where
 size:listed.size=ops.size
 closed:∀ (i:Nat)(o:Oper),ops[i]? =some o→listed[i]? =some true→∀ e∈o.after,Region.binds .any e=true→listed[e.on]? =some true
 mem:ZaK E β (mixM (st 0).m evs listed.toList) (st ops.size).nx w
 le:Za7 B.β B.m B.w β (mixM (st 0).m evs listed.toList) w
 sle:Zaw (safe E B.β B.m) B.w (safe E β (mixM (st 0).m evs listed.toList)) w
 vals:∀ (i:Nat)(o:Oper)(ev:Ev) t,ops[i]? =some o→listed[i]? =some true→o.dst=some t→evs[i]? =some ev→Rep β (mixM (st 0).m evs listed.toList) (safe E β (mixM (st 0).m evs listed.toList)) w (a.eval (.tmp t)) ev.d
 rest:∀ t,t<n→(∀ (i:Nat)(o:Oper),ops[i]? =some o→listed[i]? =some true→o.dst≠some t)→Rep β (mixM (st 0).m evs listed.toList) (safe E β (mixM (st 0).m evs listed.toList)) w (a.eval (.tmp t)) ((st 0).t t)
 width:a.tmps.size=n
 defers:ZdE B.w.heap.size a.defers w
 lo:∀ id x,B.m id=some x→id<(st 0).lo
theorem Text.race_at(h:Text P n ops evs st){i j:Nat}{x y:Ev}(hij:i<j)(hj:j<ops.size)(hx:evs[i]? =some x)(hy:evs[j]? =some y)(hc:(∃ id,id∈ids x.wr∧id∈y.touch)∨(∃ id,id∈x.touch∧id∈ids y.wr)):i∈ZcN ops j:=by
 have hr:=h.race
 simp only[ZgL,Ya6,Yd2]at hr
 have:=hr j hj i hij
 simp only[Yb8,hx,hy,Yd0]at this
 rw[Bool.or_eq_true,Ya2]at this
 rcases this with⟨h1,h2⟩|h1
 ·exfalso
  simp only[Zj1,Bool.not_eq_true',List.any_eq_false,List.contains_iff_mem]at h1 h2
  rcases hc with⟨id,c1,c2⟩|⟨id,c1,c2⟩
  ·exact h1 id c1 c2
  ·exact h2 id c1 c2
 ·exact List.contains_iff_mem.1 h1
theorem Text.fit(h:Text P n ops evs st){i:Nat}{o:Oper}{t:Tmp}(ho:ops[i]? =some o)(hd:o.dst=some t):t<n:=by
 have:=Array.all_eq_true_iff_forall_mem.1 h.fits o (Array.mem_of_getElem? ho)
 unfold Zbz at this
 rw[Ya2,hd]at this
 simpa using this.1
theorem Text.looks(h:Text P n ops evs st){i:Nat}{o:Oper}{t:Tmp}(ho:ops[i]? =some o)(ht:t∈o.looksAt ops):t<n:=by
 have hf:=Array.all_eq_true_iff_forall_mem.1 h.fits o (Array.mem_of_getElem? ho)
 unfold Oper.looksAt at ht
 rcases Yd5.1 ht with ht|ht
 ·obtain⟨x,hx,hxk⟩:=List.mem_filterMap.1 ht
  unfold Zbz at hf
  rw[Ya2]at hf
  have:=Array.all_eq_true_iff_forall_mem.1 hf.2 x (by simpa using hx)
  split at hxk
  ·simp only[Ya1]at hxk;subst hxk;simpa[ZdV]using this
  ·cases hxk
 ·split at ht
  ·rename_i g wnt hg
   cases hj:ops[g]? with
   | none=>rw[hj]at ht;simp at ht
   | some p =>
     rw[hj]at ht
     simp only[Option.bind_some,Option.mem_toList]at ht
     exact h.fit hj ht
  ·simp at ht
theorem Zxj{E:Env}{B:Base}{Q:Exit→Act→World→Prop}(T:Text P n ops evs st)(hQ:∀ β a w,RelA E B n β (st ops.size) a w→Q .normal a w) :
 ∀ (fuel:Nat)(listed:Array Bool)(β:Bet)(a:Act)(w:World),ZvF P E B n ops evs st β listed a w→listed.toList.countP (fun b=> !b)=fuel→wpAny P .any ops Q fuel listed a w:=by
 have ok:=T.ok
 have fin:∀ (listed:Array Bool)(β:Bet)(a:Act)(w:World),ZvF P E B n ops evs st β listed a w→(∀ i,i<ops.size→listed[i]? =some true)→Q .normal a w:=by
  intro listed β a w hI hall
  have hl:listed.toList=(List.range ops.size).map fun j=>decide (j<ops.size):=by
   apply List.ext_getElem?
   intro j
   rw[Yb8]
   by_cases hj:j<ops.size
   ·rw[List.getElem?_range hj]
    simpa[hj]using hall j hj
   ·rw[List.getElem?_eq_none (l:=List.range ops.size) (by simpa using hj),List.getElem?_eq_none (by simp[hI.size];omega)];rfl
  have hm:=T.memAt ops.size (Ya4 _)
  rw[← hl]at hm
  refine hQ β a w ⟨by rw[hm];exact hI.mem,fun k hk=>?_,hI.width,hI.defers,by rw[hm];exact hI.le,by rw[hm];exact hI.sle,by rw[T.lo _ (Ya4 _)];exact hI.lo⟩
  rw[hm]
  by_cases hw:∃ (j:Nat)(p:Oper),ops[j]? =some p∧p.dst=some k
  ·obtain⟨j,p,hp,hd⟩:=hw
   have hj:=(Ya5.1 hp).1
   obtain⟨_,ev,_,hev⟩:=T.get hj
   rw[T.tmpW hp hev hd ops.size (Ya4 _) hj]
   exact hI.vals j p ev k hp (hall j hj) hd hev
  ·have hno:∀ (j:Nat)(p:Oper),ops[j]? =some p→p.dst≠some k:=fun j p hp hd=>hw ⟨j,p,hp,hd⟩
   rw[T.tmp0 ops.size (Ya4 _) fun j p _ hp=>hno j p hp]
   exact hI.rest k hk fun j p hp _=>hno j p hp
 have relOk:∀ {listed:Array Bool},listed.size=ops.size→Region.ready .any ops listed=[]→∀ i,i<ops.size→listed[i]? =some true:=by
  intro listed hs h i
  induction i using Nat.strongRecOn with
  | ind i ih =>
    intro hi
    cases hl:listed.getD i true with
    | true=>exact(Zcj (by omega)).1 hl
    | false =>
      exfalso
      have:i∈Region.ready .any ops listed:=by
       refine mem_ready.2 ⟨hl,ops[i],Yb5 hi,fun e he hb=>?_⟩
       have hlt:=ok.back i _ (Yb5 hi) e he hb
       exact(Zcj (by omega)).2 (ih e.on hlt (by omega))
      rw[h]at this
      cases this
 intro fuel
 induction fuel with
 | zero =>
   intro listed β a w hI hc
   have hall:∀ i,i<ops.size→listed[i]? =some true:=by
    intro i hi
    rw[List.countP_eq_zero]at hc
    have hs:=hI.size
    have hm:listed[i]'(by omega)∈listed.toList:=by simp
    have:=hc _ hm
    rw[Yb5 (by omega)]
    simpa using this
   refine⟨?_,fin listed β a w hI hall⟩
   apply List.eq_nil_iff_forall_not_mem.2
   intro i hi
   obtain⟨h1,o,ho,_⟩:=mem_ready.1 hi
   have hio:=(Ya5.1 ho).1
   have hs:=hI.size
   have:=(Zcj (d:=true) (show i<listed.size by omega)).2 (hall i hio)
   rw[this]at h1
   cases h1
 | succ fuel ih =>
   intro listed β a w hI hc
   refine⟨fun h=>fin listed β a w hI (relOk hI.size h),fun i hi=>?_⟩
   obtain⟨hun,o,ho,hall⟩:=mem_ready.1 hi
   have hio:=(Ya5.1 ho).1
   have hs:=hI.size
   have hlf:listed[i]? =some false:=by
    rw[Yb5 (by omega)]
    simpa[Array.getD,show i<listed.size from by omega]using hun
   obtain⟨_,ev,_,hev⟩:=T.get hio
   have hdeps:∀ e∈o.after,Region.binds .any e=true→listed[e.on]? =some true:=by
    intro e he hb
    have hlt:=ok.back i o ho e he hb
    exact(Zcj (by omega)).1 (hall e he hb)
   have hR:=Ziv hI.closed ho hdeps
   have hnot:∀ j,listed[j]? =some true→i∉ZcN ops j:=by
    intro j hj hij
    have hjo:j<ops.size:=by have:=(Ya5.1 hj).1;omega
    have:=Ziv hI.closed (Yb5 hjo) (hI.closed j _ (Yb5 hjo) hj) i hij
    rw[hlf]at this
    cases this
   have hwt:∀ (j:Nat)(o:Oper)(e:Ev),ops[j]? =some o→evs[j]? =some e→∀ id∈ids e.wr,id∈e.touch:=by
    intro j o e h1 h2 id hid
    obtain⟨g,_,_,_,_,_,h5,_⟩:=T.step j o e h1 h2
    obtain⟨p,hp,rfl⟩:=Yc6.1 hid
    exact(h5 p hp).1
   have htouch:∀ id∈ev.touch,mixM (st 0).m evs listed.toList id=(st i).m id:=by
    intro id hid
    rw[T.memAt i (by omega)]
    refine Zhq evs _ _ _ _ rfl (by simp[T.len,hs]) (by simp[T.len]) fun j e he hide=>?_
    have hj:j<ops.size:=by rw[← T.len];exact(Ya3.1 he).1
    rw[Yb8,List.getElem?_range hj,Yd0]
    rw[Array.getElem?_toList]
    rcases Nat.lt_trichotomy j i with h|h|h
    ·rw[hR j (T.race_at h hio he hev (.inl ⟨id,hide,hid⟩))];simp[h]
    ·subst h;rw[hlf];simp
    ·have:listed[j]? ≠ some true:=fun hl=>hnot j hl (T.race_at h hj hev he (.inr ⟨id,hid,hide⟩))
     rw[Yb5 (by omega)]at this ⊢
     simp only[ne_eq,Ya1,Bool.not_eq_true]at this
     rw[this]
     simp;omega
   have hlook:∀ k,k∈o.looksAt ops→Rep β (mixM (st 0).m evs listed.toList) (safe E β (mixM (st 0).m evs listed.toList)) w (a.eval (.tmp k)) ((st i).t k):=by
    intro k hk
    have hkn:=T.looks ho hk
    by_cases hw:∃ (j:Nat)(p:Oper),ops[j]? =some p∧p.dst=some k
    ·obtain⟨j,p,hp,hd⟩:=hw
     have hj:=(Ya5.1 hp).1
     have rest0:listed[j]? ≠ some true→i≤j→Rep β (mixM (st 0).m evs listed.toList) (safe E β (mixM (st 0).m evs listed.toList)) w (a.eval (.tmp k)) ((st i).t k):=by
      intro hl hij
      rw[T.tmp0 i (by omega) fun j' p' hj' hp' hd'=>by
       have:=ok.once j j' p p' k hp hp' hd hd'
       omega]
      refine hI.rest k hkn fun j' p' hp' hl' hd'=>?_
      have:=ok.once j j' p p' k hp hp' hd hd'
      subst this
      exact hl hl'
     rcases ok.reads i j o p k ho hp hd hk with⟨h1,h2⟩|⟨h1,h2⟩|h1
     ·obtain⟨_,e,_,he⟩:=T.get hj
      rw[T.tmpW hp he hd i (by omega) h1]
      exact hI.vals j p e k hp (hR j h2) hd he
     ·exact rest0 (fun hl=>hnot j hl h2) (by omega)
     ·subst h1;exact rest0 (by rw[hlf];simp) (Ya4 _)
    ·have hno:∀ (j:Nat)(p:Oper),ops[j]? =some p→p.dst≠some k:=fun j p hp hd=>hw ⟨j,p,hp,hd⟩
     rw[T.tmp0 i (by omega) fun j p _ hp=>hno j p hp]
     exact hI.rest k hkn fun j p hp _=>hno j p hp
   have hints:ev.ints=true→ZbQ (ov (mixM (st 0).m evs listed.toList) ev.wr):=by
    intro hin
    obtain⟨g1,g2⟩:=T.ints (List.any_eq_true.2 ⟨ev,Ya7 hev,hin⟩)
    rcases g2 with g2|⟨g2,g3⟩
    ·refine⟨g1.1,fun id b hb hT=>?_⟩
     rcases ZoW hb with hb|hb
     case inr=>exact g2 ev (Ya7 hev) (id,b) hb hT
     rcases Zl1 evs _ _ hb with h|⟨e,he,h⟩
     ·exact g1.2 id b h hT
     ·exact g2 e he (id,b) h hT
    ·refine⟨g1.1,fun id b hb hT=>?_⟩
     by_cases hI:id∈ZnC evs
     ·have e1:mixM (st 0).m evs listed.toList id=mixM (st 0).m evs ((List.range evs.length).map fun j=>decide (j<i)) id:=by
       refine Zhq evs _ _ _ _ rfl (by simp[T.len,hs]) (by simp) fun j e he hide=>?_
       have hj:j<evs.length:=(Ya3.1 he).1
       have hjo:j<ops.size:=by rw[← T.len];exact hj
       rw[Yb8,List.getElem?_range hj,Yd0,Array.getElem?_toList]
       by_cases hji:j=i
       ·subst hji;rw[hlf];simp
       ·rcases Zsd g2 hev he hin hide hI hji with⟨h1,h2⟩|⟨h1,h2⟩
        ·rw[hR j h2];simp[h1]
        ·have:listed[j]? ≠ some true:=fun hl=>hnot j hl h2
         rw[Yb5 (by omega)]at this ⊢
         simp only[ne_eq,Ya1,Bool.not_eq_true]at this
         rw[this]
         simp;omega
      have e2:∀ (m m':Mem) (l:List (Nat×Blk)),m id=m' id→ov m l id=ov m' l id:=by
       intro m m' l
       induction l generalizing m m' with
       | nil=>exact fun h=>h
       | cons p l ih =>
         intro h
         refine ih _ _ ?_
         unfold upd
         split
         ·rfl
         ·exact h
      rw[e2 _ _ ev.wr e1]at hb
      exact(g3 i ev hev hin).2 id b hb hT
     ·rcases ZoW hb with hb|hb
      case inr=>exact absurd (Zk8 (Ya7 hev) hb hT) hI
      rcases Zl1 evs _ _ hb with h|⟨e,he,h⟩
      ·exact g1.2 id b h hT
      ·exact absurd (Zk8 he h hT) hI
   have hstep:=T.step i o ev ho hev
   have hnx:(st (i+1)).nx≤(st ops.size).nx:=by
    have:=T.nx (ops.size-(i+1)) (i+1) (by omega)
    rwa [show i+1+(ops.size-(i+1))=ops.size by omega]at this
   have hlist:(listed.setIfInBounds i true).toList=listed.toList.set i true:=by simp
   have hmix:mixM (st 0).m evs (listed.setIfInBounds i true).toList=ov (mixM (st 0).m evs listed.toList) ev.wr:=by
    rw[hlist]
    refine Zo6 evs _ _ i ev (by simp[T.len,hs]) hev (by simpa using hlf) fun j e hj he hl id hid hide=>?_
    have hjo:j<ops.size:=by rw[← T.len];exact(Ya3.1 he).1
    have hl':listed[j]? =some true:=by simpa using hl
    exact hnot j hl' (T.race_at hj hjo hev he (.inl ⟨id,hid,hwt j _ e (Yb5 hjo) he id hide⟩))
   unfold wpOp
   rw[ho]
   have hrun:=Zs3 (E:=E) (K:=wpAny P .any ops Q fuel (listed.setIfInBounds i true)) (Q:=Q) hstep (T.freshAt i (by omega)) hI.mem hnx htouch hlook hints (fun v w' ha=>?_)
   ·simp only
    split
    ·rename_i hw
     rw[if_pos hw]at hrun
     exact .inl hrun
    ·rename_i hw
     rw[if_neg hw]at hrun
     exact hrun
   ·obtain⟨β',h1,h2,h3,h4⟩:=ha
    rw[← hmix]at h1 h2 h3 h4
    have hget:∀ k,(listed.setIfInBounds i true)[k]? =some true↔k=i∨listed[k]? =some true:=by
     intro k
     by_cases hk:i=k
     ·subst hk;simp[show i<listed.size from by omega]
     ·rw[Array.getElem?_setIfInBounds_ne hk];simp[Ne.symm hk]
    refine ih (listed.setIfInBounds i true) β' (a.put o.dst v) w' ⟨by simpa using hs,fun k p hp hl e he hb=>?_,h1,hI.le.trans h2,hI.sle.trans h3,fun k p e t hp hl hd he=>?_,fun t ht hno=>?_,?_,?_,hI.lo⟩ ?_
    ·refine(hget _).2 ?_
     rcases(hget k).1 hl with rfl|h
     ·rw[ho]at hp;cases hp
      exact .inr (hdeps e he hb)
     ·exact .inr (hI.closed k p hp h e he hb)
    ·rcases(hget k).1 hl with rfl|h
     ·rw[ho]at hp;cases hp
      rw[hev]at he;cases he
      rw[hd,ZbR (by rw[hI.width];exact T.fit ho hd)]
      exact h4
     ·by_cases hki:k=i
      ·subst hki;rw[h]at hlf;cases hlf
      ·rw[ZbS (fun hd'=>hki (ok.once k i p o t hp ho hd hd'))]
       exact(hI.vals k p e t hp h hd he).mono h2 h3
    ·rw[ZbS (hno i o ho ((hget i).2 (.inl rfl)))]
     exact(hI.rest t ht fun k p hp h=>hno k p hp ((hget k).2 (.inr h))).mono h2 h3
    ·cases o.dst<;>simp[Act.put,hI.width]
    ·rw[Zf7];exact hI.defers.le h2
    ·have h5:=ZnZ (l:=listed.toList) (i:=i) (by simpa using hlf)
     rw[hlist]
     omega
end
end ifl
section ifl
variable [Ifl]
def AWP(P:Program)(n:Nat)(c:Code)(Q:Exit→St→Prop)(s:St):Prop :=
 ∀ E B β a w,RelA E B n β s a w→c.wp P (fun e a' w'=>∃ s' β',RelA E B n β' s' a' w'∧Q e s') a w
def Zrl(K:St→Prop)(Q:Exit→St→Prop):Exit→St→Prop
 | .normal,s=>K s
 | e,s=>Q e s
def Zgd(id:Nat)(Q:Exit→St→Prop):Exit→St→Prop
 | .exit id',s=>if id'=id then Q .normal s else Q (.exit id') s
 | e,s=>Q e s
section
variable {P:Program} {n:Nat} {Q:Exit→St→Prop} {s:St}
theorem aLe{c:Code}{s':St}(h:StLe s s')(k:AWP P n c Q s'):AWP P n c Q s:=by
 intro E B β a w hr
 obtain⟨β',hr'⟩:=h E B n β a w hr
 exact k E B β' a w hr'
theorem ZhQ(h:Q .normal s):AWP P n .skip Q s:=fun E B β a w hr=>wp_skip ⟨s,β,hr,h⟩
theorem ZhT{id:Nat}(h:Q (.exit id) s):AWP P n (.exit id) Q s:=fun E B β a w hr=>wp_exit ⟨s,β,hr,h⟩
theorem aRet(h:Q .ret s):AWP P n .ret Q s:=fun E B β a w hr=>wp_ret ⟨s,β,hr,h⟩
theorem aSeq{x y:Code}(h:∀ K:St→Prop,(∀ s,AWP P n y Q s→K s)→AWP P n x (Zrl K Q) s):AWP P n (.seq x y) Q s:=by
 intro E B β a w hr
 refine wp_seq (wp_mono (h _ (fun _ h=>h) E B β a w hr) ?_)
 rintro e a' w' ⟨s',β',h1,h2⟩
 cases e with
 | normal=>exact h2 E B β' a' w' h1
 | _=>exact⟨s',β',h1,h2⟩
theorem Zee{id:Nat}{c:Code}(h:AWP P n c (Zgd id Q) s):AWP P n (.block id c) Q s:=by
 intro E B β a w hr
 refine wp_block (wp_mono (h E B β a w hr) ?_)
 rintro e a' w' ⟨s',β',h1,h2⟩
 cases e with
 | exit id' =>
   simp only[Exit.inBlock,Zgd]at h2 ⊢
   split
   ·rename_i he;rw[if_pos he]at h2;exact⟨s',β',h1,h2⟩
   ·rename_i he;rw[if_neg he]at h2;exact⟨s',β',h1,h2⟩
 | _=>exact⟨s',β',h1,h2⟩
theorem ZBO{c:Operand}{x y:Code}{b:Bool}(hf:ZdV n c=true)(hc:rd s.t c = .v (.bool b))(h1:b=true→AWP P n x Q s)(h2:b=false→AWP P n y Q s):AWP P n (.cond c x y) Q s:=by
 intro E B β a w hr
 have hv:Rep β s.m (safe E β s.m) w (a.eval c) (rd s.t c):=Ziw fun k hk=>hr.tmp k (by rw[hk]at hf;simpa[ZdV]using hf)
 rw[hc]at hv
 refine wp_cond_split hv.inv_v (fun hb=>h1 hb E B β a w hr) (fun hb=>h2 hb E B β a w hr)
theorem Zz6{id:Nat}{l:List Oper}(hf:l.toArray.all (Zbz n)=true)(h:opsA P l.toArray l s (Q .normal)):AWP P n (.region id l.toArray false) Q s:=by
 intro E B β a w hr
 refine wp_region_lit (ZoX hf (fun s' β' a' w' h1 h2=>⟨s',β',h1,h2⟩) l s β a w ?_ hr h)
 rw[← hf];simp
theorem aDraw{id:Nat}{l:List Oper}(hm:P.follows .mixedOrders=true)(hd:Zso l.toArray=true)(hf:l.toArray.all (Zbz n)=true)
 (h:runD P l.toArray l s [] fun tr s'=>ZgL l.toArray (tr.map fun e=>(e.touch,ids e.wr))=true∧ZiC l.toArray s.m tr∧Q .normal s'):AWP P n (.region id l.toArray true) Q s:=by
 intro E B β a w hr
 obtain⟨evs,st,g1,g2,g3,g4,g5,g6⟩:=Zm0 l s [] h
 simp only[Yc8]at g4 g5
 have hsz:l.toArray.size=l.length:=by simp
 have T:Text P n l.toArray evs st:=by
  refine⟨Zxk hd,hf,by rw[hsz];exact g2,fun i o ev ho he=>g3 i o ev (by simpa using ho) he,?_,g4,?_⟩
  ·rw[g1]
   intro id hid
   cases hq:s.m id with
   | none=>rfl
   | some b=>exact absurd (hr.mem.lt id b hq) (by omega)
  ·rw[g1];exact g5
 have hmix:mixM (st 0).m evs (Array.replicate l.toArray.size false).toList=s.m:=by
  have:=T.memAt 0 (Yb0 _)
  rw[show(Array.replicate l.toArray.size false).toList=(List.range l.toArray.size).map fun j=>decide (j<0) by simp[List.map_const'],← this,g1]
 refine wp_region_any hm ?_
 have hdr:Below w.heap.size w {w with drawn:=w.drawn+1}:=(Below.refl _ _).drew
 obtain⟨q1,q2,q3⟩:=ZeI hr.mem hdr
 have hnx:s.nx≤(st l.toArray.size).nx:=by have:=T.nx l.toArray.size 0 (by omega);rw[g1,Nat.zero_add]at this;exact this
 refine Zxj (B:=B) (E:=E) T (fun β' a' w' h1=>⟨_,β',h1,by rw[hsz];exact g6⟩) _ _ β a _ ⟨by simp,?_,?_,?_,?_,?_,?_,hr.width,hr.defers.le q2,by rw[g1];exact hr.lo⟩ ?_
 ·intro i o _ hl
  rw[Array.getElem?_replicate]at hl
  split at hl
  ·simp at hl
  ·cases hl
 ·rw[hmix];exact q1.mono_nx hnx
 ·rw[hmix];exact hr.le.trans q2
 ·rw[hmix];exact hr.sle.trans q3
 ·intro i o ev t _ hl
  rw[Array.getElem?_replicate]at hl
  split at hl
  ·simp at hl
  ·cases hl
 ·intro t ht _
  rw[hmix,g1]
  exact(hr.tmp t ht).mono q2 q3
 ·simp[List.countP_replicate]
theorem Zl6{p:Nat→Prop}(h:∃ n,p n):∃ n,p n∧∀ k,k<n→¬ p k:=by
 obtain⟨n,hn⟩:=h
 induction n using Nat.strongRecOn with
 | ind n ih =>
   by_cases hk:∃ k,k<n∧p k
   ·obtain⟨k,h1,h2⟩:=hk;exact ih k h1 h2
   ·exact⟨n,hn,fun k h1 h2=>hk ⟨k,h1,h2⟩⟩
open Classical in
noncomputable def Zj3 (p:Nat→Prop):Nat:=if h:∃ n,p n then Classical.choose (Zl6 h)else 0
theorem Zcb{p:Nat→Prop}(h:∃ n,p n):p (Zj3 p)∧∀ k,p k→Zj3 p≤k:=by
 unfold Zj3
 rw[dif_pos h]
 have:=Classical.choose_spec (Zl6 h)
 refine⟨this.1,fun k hk=>?_⟩
 rcases Nat.lt_or_ge k (Classical.choose (Zl6 h))with hlt|hge
 ·exact absurd hk (this.2 k hlt)
 ·exact hge
theorem Zz7{c:Code}{X:Type}(H:X→St)(Pre:X→Prop)(μ:X→Nat)(h0:∃ x,Pre x∧StLe s (H x))
 (h:∀ x,Pre x→AWP P n c (Zrl (fun s2=>∃ y,Pre y∧μ y<μ x∧StLe s2 (H y)) Q) (H x)):AWP P n (.loop c) Q s:=by
 intro E B β a w hr
 let p:Act→World→Nat→Prop:=fun a w k=>∃ x β,μ x=k∧Pre x∧RelA E B n β (H x) a w
 refine wp_loop (fun a w=>∃ k,p a w k) (fun a w=>Zj3 (p a w)) ?_ ?_
 ·obtain⟨x,hx,hle⟩:=h0
  obtain⟨β',h1⟩:=hle E B n β a w hr
  exact⟨_,x,β',rfl,hx,h1⟩
 ·intro a w hI
  obtain⟨x,β',h1,h2,h3⟩:=(Zcb hI).1
  refine wp_mono (h x h2 E B β' a w h3) ?_
  rintro e a' w' ⟨s',β2,h4,h5⟩
  cases e with
  | normal =>
    obtain⟨y,h6,h7,h8⟩:=h5
    obtain⟨β3,h9⟩:=h8 E B n β2 a' w' h4
    have hp:p a' w' (μ y):=⟨y,β3,rfl,h6,h9⟩
    refine⟨⟨_,hp⟩,Nat.lt_of_le_of_lt ((Zcb ⟨_,hp⟩).2 _ hp) ?_⟩
    rw[← h1];exact h7
  | _=>exact⟨s',β2,h4,h5⟩
end
def ZiV(ds:List D):Nat→D:=fun k=>(ds[k]?).getD (.v undef)
def resD(P:Program)(s:St):ResultVar→Option D
 | .tmp k=>some (s.t k)
 | .cell k T=>match tyOf P T with
   | some ty=>(Zic ty (s.t k) s.m).map (·.d)
   | none=>none
def Zgt(P:Program)(s:St):List ResultVar→Option (List D)
 | []=>some []
 | r ::l=>match resD P s r,Zgt P s l with
   | some d,some ds=>some (d ::ds)
   | _,_=>none
def oneD:List D→D
 | [d]=>d
 | ds=>.tup ds
def endA(P:Program)(fn:Func)(K:D→Mem→Nat→Prop):Exit→St→Prop
 | .normal,s=>∃ ds,Zgt P s fn.results.toList=some ds∧K (oneD ds) s.m s.nx
 | .ret,s=>∃ ds,Zgt P s fn.results.toList=some ds∧K (oneD ds) s.m s.nx
 | _,_=>False
def ZiW(n:Nat):ResultVar→Bool
 | .tmp k=>decide (k<n)
 | .cell k _=>decide (k<n)
section
variable {P:Program} {E:Env} {B:Base} {n:Nat} {β:Bet} {s:St} {a:Act} {w:World}
def resS(tmps:Array Value):ResultVar→Sem Value
 | .tmp t=>pure (tmps.getD t undef)
 | .cell k T=>do loadVar T (← asAddr (tmps.getD k undef))
theorem ZrN(fn:Func)(tmps:Array Value):results fn tmps=(do let vs←fn.results.mapM (resS tmps);pure (if h:vs.size=1 then vs[0]else .tuple vs)):=by
 unfold results
 congr 1
theorem ZyV(hr:RelA E B n β s a w){r:ResultVar}{d:D}(hf:ZiW n r=true)(h:resD P s r=some d) :
 ∃ v,(resS a.tmps r).run P w = .ok v w∧Rep β s.m (safe E β s.m) w v d:=by
 cases r with
 | tmp k =>
   simp only[resD,Ya1]at h
   subst h
   exact⟨_,rfl,hr.tmp k (by simpa[ZiW]using hf)⟩
 | cell k T =>
   simp only[resD]at h
   split at h
   ·rename_i ty hty
    cases hl:Zic ty (s.t k) s.m with
    | none=>rw[hl]at h;cases h
    | some r =>
      rw[hl]at h
      simp only[Yd0,Ya1]at h
      subst h
      have hk:=hr.tmp k (by simpa[ZiW]using hf)
      -- the load leaves the world
      have key:∃ v,(Instr.loadAt T (a.eval (.tmp k))).run P w = .ok v w∧Rep β s.m (safe E β s.m) w v r.d:=by
       unfold Zic at hl
       split at hl
       ·rename_i es i off hx
        rw[hx]at hk
        cases hq:ldE es i off ty with
        | none=>rw[hq]at hl;cases hl
        | some q =>
          rw[hq]at hl;simp only[Yd0,Ya1]at hl;subst hl
          obtain⟨b,base,k',hv,g1,g2⟩:=hk.inv_ep
          obtain⟨u,hr',hu⟩:=ZqC (P:=P) hty g1 (fun i j d hd=>let ⟨u,_,h4,h5⟩:=g2 i j d hd;⟨u,h4,h5.lift⟩) hq
          exact⟨u,by rw[hv];simpa[Instr.loadAt,Instr.sureAddr]using hr',hu⟩
       ·rename_i id ver i off hx
        rw[hx]at hk
        split at hl
        ·rename_i b hb
         cases hq:ldE b.es i off ty with
         | none=>rw[hq]at hl;cases hl
         | some q =>
           rw[hq]at hl;simp only[Yd0,Ya1]at hl;subst hl
           obtain⟨B',cs,g1,hv,g2,g3,g4⟩:=Zue hr.mem hk hb
           obtain⟨u,hr',hu⟩:=ZqC (P:=P) (b:=B') (base:=0) hty (hr.mem.wid id b (ZaZ hb).1) (fun i j d hd=>by
            obtain⟨u,h4,h5⟩:=g4 i j d hd
            exact⟨u,by rw[Nat.zero_add,Zcr g2];exact h4,h5⟩) hq
           rw[Nat.zero_add]at hr'
           exact⟨u,by rw[hv];simpa[Instr.loadAt,Instr.sureAddr]using hr',hu⟩
        ·cases hl
       ·cases hl
      obtain⟨v,h1,h2⟩:=key
      refine⟨v,?_,h2⟩
      have hp:∃ ad,a.eval (.tmp k) = .pointer (some ad):=by
       unfold Zic at hl
       split at hl
       ·rename_i es i off hx
        rw[hx]at hk
        obtain⟨b,base,k',hv,_⟩:=hk.inv_ep
        exact⟨_,hv⟩
       ·rename_i id ver i off hx
        rw[hx]at hk
        obtain⟨b,p,blk,hv,_⟩:=hk.inv_lp
        exact⟨_,hv⟩
       ·cases hl
      obtain⟨ad,hp⟩:=hp
      have hp':a.tmps.getD k undef = .pointer (some ad):=hp
      rw[hp]at h1
      simp only[resS,hp',asAddr,Sem.run_bind,Sem.run_pure,Result.andThen_ok]
      simpa[Instr.loadAt,Instr.sureAddr]using h1
   ·cases h
theorem Zp6(hr:RelA E B n β s a w):∀ (l:List ResultVar)(ds:List D),l.all (ZiW n)=true→Zgt P s l=some ds →
 ∃ vs,(l.mapM (resS a.tmps)).run P w = .ok vs w∧Reps β s.m (safe E β s.m) w vs ds
 | [],ds,_,h=>by simp only[Zgt,Ya1]at h;subst h;exact⟨[],by simp,Reps.nil⟩
 | r ::l,ds,hf,h=>by
   simp only[Zgt]at h
   rw[List.all_cons,Ya2]at hf
   split at h
   ·rename_i d ds' hd hds
    simp only[Ya1]at h
    subst h
    obtain⟨v,h1,h2⟩:=ZyV (P:=P) hr hf.1 hd
    obtain⟨vs,h3,h4⟩:=Zp6 hr l ds' hf.2 hds
    refine⟨v ::vs,?_,Reps.cons h2 h4⟩
    simp only[List.mapM_cons,Sem.run_bind,h1,Result.andThen_ok,h3,Sem.run_pure]
   ·cases h
theorem ZkT(hr:RelA E B n β s a w){fn:Func}{ds:List D}(hf:fn.results.toList.all (ZiW n)=true)(h:Zgt P s fn.results.toList=some ds) :
 ∃ v,(results fn a.tmps).run P w = .ok v w∧Rep β s.m (safe E β s.m) w v (oneD ds):=by
 obtain⟨vs,h1,h2⟩:=Zp6 (P:=P) hr _ ds hf h
 have h3:(results fn a.tmps).run P w = .ok (if h:vs.toArray.size=1 then vs.toArray[0]else .tuple vs.toArray) w:=by
  rw[ZrN,Array.mapM_eq_mapM_toList]
  simp[h1]
 refine⟨_,h3,?_⟩
 match ds,h2 with
 | [],h2 =>
   obtain rfl:vs=[]:=Ya9 h2.1
   exact h2.rep_tup
 | [d],h2 =>
   match vs,h2 with
   | [v],h2=>exact h2.2 0 v d rfl rfl
 | d ::e ::ds,h2 =>
   have:vs.length=ds.length+2:=h2.1
   rw[dif_neg (by simp;omega)]
   exact h2.rep_tup
def ZvW:List Deferred→World→World
 | [],w=>w
 | d ::ds,w=>match d.target with
   | .collected D=>ZvW ds (w.putObj D (.deferred none))
   | _=>ZvW ds w
theorem ZdE.put{b0 D:Nat}{w:World}:∀ {ds:List Deferred},ZdE b0 ds w→(∀ e∈ds,e≠{target:=.collected D,args:=#[]})→ZdE b0 ds (w.putObj D (.deferred none))
 | [],_,_=>trivial
 | d ::ds,⟨⟨D',h1,h2,h3⟩,h4,h5⟩,h=>by
   refine⟨⟨D',h1,h2,?_⟩,h4,ZdE.put h5 fun e he=>h e (Yb6 _ he)⟩
   rw[World.putObj_heap_other (fun e=>h d Yb7 (by rw[h1,e]))]
   exact h3
theorem RelA.shut1(hB:E.w0.heap.size≤B.w.heap.size)(h:RelA E B n β s a w){D:Nat}(hD:B.w.heap.size≤D)(hd:w.heap[D]? =some (.deferred (some []))){ds:List Deferred}(hds:ZdE B.w.heap.size ds (w.putObj D (.deferred none))) :
 RelA E B n β s {a with defers:=ds} (w.putObj D (.deferred none)):=by
 have hcells:∀ (b:Nat)(o:Obj),w.heap[b]? =some o→o.isCells=true→(w.putObj D (.deferred none)).heap[b]? =some o:=fun b o hb ho=>by
  rw[World.putObj_heap_other (fun e=>by subst e;rw[hd]at hb;cases hb;cases ho)]
  exact hb
 have hc:∀ b k,Zd7 w b k→Zd7 (w.putObj D (.deferred none)) b k:=fun b k ⟨cs,T,fr,h1,h2⟩=>⟨cs,T,fr,hcells b _ h1 rfl,h2⟩
 have hcell:∀ b o u,w.cell? ⟨b,o,none⟩=some u→(w.putObj D (.deferred none)).cell? ⟨b,o,none⟩=some u:=fun b o u hu=>by
  by_cases e:b=D
  ·subst e
   simp[World.cell?,hd]at hu
  ·rw[World.cell?_of_block (w:=w) (a:=⟨b,o,none⟩) (World.putObj_heap_other e)]
   exact hu
 have hs:Zaw (safe E β s.m) w (safe E β s.m) (w.putObj D (.deferred none)):=fun b o u h1 h2=>⟨h1,hcell b o u h2⟩
 have hm0:Zrh β s.m w β s.m (w.putObj D (.deferred none)):=⟨fun _ x hx=>⟨x,hx,Ya4 _,fun _=>⟨rfl,rfl,rfl⟩⟩,hc⟩
 have hM:=h.mem
 refine⟨⟨?_,hM.lt,hM.fz,hM.wid,hM.non,fun id blk b h1 h2=>?_,hM.inj⟩,fun k hk=>(h.tmp k hk).mono0 hm0 hs,h.width,hds,⟨h.le.blk,fun b k hk=>?_⟩,h.sle.trans hs,h.lo⟩
 ·exact hM.below.trans ((Below.refl E.w0.heap.size w).grown (grownBy_putObj' w D _) (by have:=(Ya5.1 hd).1;have:=hM.below.size;omega) (fun k e=>by cases e;omega))
 ·obtain⟨h3,cs,h4,h5,h6⟩:=hM.row id blk b h1 h2
  refine⟨h3,cs,hcells b _ h4 rfl,h5,fun i j d hd'=>?_⟩
  obtain⟨u,h7,h8⟩:=h6 i j d hd'
  exact⟨u,h7,h8.mono0 hm0 hs⟩
 ·have hlt:b<B.w.heap.size:=by
   cases k with
   | inl k=>obtain⟨cs,T,fr,h1,_⟩:=hk;exact(Ya5.1 h1).1
   | inr o=>exact(Ya5.1 hk.2).1
  have hb:(w.putObj D (.deferred none)).heap[b]? =w.heap[b]?:=World.putObj_heap_other (by omega)
  have:=h.le.cap b k hk
  cases k with
  | inl k=>exact hc b k this
  | inr o=>exact⟨this.1,by rw[hb];exact this.2⟩
theorem RelA.shut(hB:E.w0.heap.size≤B.w.heap.size):∀ (ds:List Deferred) {a:Act} {w:World},RelA E B n β s {a with defers:=ds} w→RelA E B n β s {a with defers:=[]} (ZvW ds w)
 | [],a,w,h=>h
 | d ::ds,a,w,h=>by
   obtain⟨⟨D,rfl,h1,h2⟩,h3,h4⟩:=h.defers
   exact RelA.shut hB ds (a:=a) (RelA.shut1 hB h h1.1 h2 (ds:=ds) (h4.put fun e he=>h3 e he))
theorem ZiB{P:Program}{fn:Func}{tmps:Array Value}{R:Ending→World→Prop}{b0:Nat}:∀ (ds:List Deferred)(w:World),ZdE b0 ds w→LeavesInM Fence.wide 0 P fn tmps R [] .returning (ZvW ds w)→LeavesInM Fence.wide 0 P fn tmps R ds .returning w
 | [],_,_,h=>h
 | d ::ds,w,⟨⟨D,h1,h2,h3⟩,h4,h5⟩,h=>by
   subst h1
   refine⟨by simp,.inl ⟨D,_,rfl,run_takeDeferred h3,?_⟩⟩
   exact ZiB ds _ (h5.put fun e he=>h4 e he) h
theorem Zar.inline {f : FuncId} {fn : Func} {c : Code} {ds : List D} {m : Mem} {nx : Nat} {K : D → Mem → Nat → Prop} (hf : P.funcs[f]? = some fn) (hb : fn.body = some c) (hnm : (fn.name == "runtime.NumGoroutine") = false)
 (hn:decide (ds.length≤fn.ntmps)=true) (Zr:fn.results.toList.all (ZiW fn.ntmps)=true) (h:AWP P fn.ntmps c (endA P fn K) ⟨ZiV ds,m,nx,nx⟩):Zar P f ds m nx K:=by
 refine⟨⟨fn,c,hf,hb,hnm⟩,fun E β w vs hM hvs=>?_⟩
 have hn:=of_decide_eq_true hn
 have hvl:vs.length=ds.length:=hvs.1
 refine(callsIn_wide (n:=0)).1 (callsIn_of_wp_marks hf hb trivial (wpIn_wide.2 (wp_mono (h E ⟨β,m,w⟩ β _ w ⟨hM,fun k hk=>?_,?_,trivial,Za7.refl _ _ _,Zaw.refl _ _,hM.lt⟩) ?_)))
 ·simp only[Act.eval,ZiV]
  by_cases hkv:k<vs.length
  ·have e:(vs.toArray++Array.replicate (fn.ntmps-vs.toArray.size) undef).getD k undef=vs[k]:=by
    rw[Array.getD_eq_getD_getElem?,Array.getElem?_append_left (by simpa using hkv)]
    simp[hkv]
   rw[e,Ya0 (by omega),Option.getD_some]
   exact hvs.2 k _ _ (Ya0 hkv) (Ya0 (by omega))
  ·have e:(vs.toArray++Array.replicate (fn.ntmps-vs.toArray.size) undef).getD k undef=undef:=by
    rw[Array.getD_eq_getD_getElem?,Array.getElem?_append_right (by simp;omega)]
    rw[Array.getElem?_replicate]
    split<;>rfl
   rw[e,List.getElem?_eq_none (by omega),Option.getD_none]
   exact .v _
 ·simp;omega
 ·rintro e a' w' ⟨s',β',h1,h2⟩
  have done:∀ (hh:∃ ds,Zgt P s' fn.results.toList=some ds∧K (oneD ds) s'.m s'.nx),LeavesInM Fence.wide 0 P fn a'.tmps (fun e w''=>∃ v d m' nx',e = .returned v∧ZbU E β m nx' w m' v d w''∧K d m' nx') a'.defers .returning w':=by
   rintro⟨ds',g1,g2⟩
   refine ZiB a'.defers w' h1.defers ?_
   have h1:=RelA.shut (n:=fn.ntmps) (s:=s') hM.below.size a'.defers (a:=a') h1
   obtain⟨v,g3,g4⟩:=ZkT (P:=P) h1 Zr g1
   exact⟨v,g3,v,_,_,_,rfl,⟨β',h1.mem,h1.le,h1.sle,g4⟩,g2⟩
  cases e with
  | normal=>exact done h2
  | ret=>exact done h2
  | _=>exact h2.elim
end
end ifl
section ifl
variable [Ifl]
def fzT(all:Bool)(m:Mem):Nat→D→D
 | 0,_=>.junk
 | _+1,.v x=>.v x
 | _+1,.nil=>.sl []
 | n+1,.agg l=>.agg (l.map (fzT all m n))
 | n+1,.tup l=>.tup (l.map (fzT all m n))
 | _+1,.sl es=>.sl es
 | _+1,.cl es=>.sl es
 | _+1,.ep es i o=>.ep es i o
 | n+1,.ls id ver=>match ZbJ m id ver with
   | some b=>if (all||b.dead)=true then .sl (b.es.map (List.map (fzT all m n)))else .junk
   | none=>.junk
 | n+1,.lp id ver i o=>match ZbJ m id ver with
   | some b=>if (all||b.dead)=true then .ep (b.es.map (List.map (fzT all m n))) i o else .junk
   | none=>.junk
 | n+1,.clo f l=>.clo f (l.map (fzT all m n))
 | _+1,.junk=>.junk
section
variable {E:Env} {β:Bet} {m:Mem} {nx:Nat} {w:World}
theorem Zyb{all:Bool}{SS:Nat→Nat→Prop}(hM:ZaK E β m nx w)(hS:∀ b o,safe E β m b o→SS b o)(hB:∀ id b B o,m id=some b→(all||b.dead)=true→β id=some B→SS B o) :
 ∀ (n:Nat)(d:D)(x:Value),Rep β m (safe E β m) w x d→Rep noB noM SS w x (fzT all m n d):=by
 intro n
 induction n with
 | zero=>intro d x _;exact .junk _
 | succ n ih =>
   have hSL:Zaw (safe E β m) w SS w:=fun b o u h1 h2=>⟨hS b o h1,h2⟩
   have hl:∀ (vs:List Value)(l:List D),vs.length=l.length→(∀ (i:Nat)(y:Value)(d:D),vs[i]? =some y→l[i]? =some d→Rep β m (safe E β m) w y d)→Reps noB noM SS w vs (l.map (fzT all m n)):=by
    intro vs l h1 h2
    refine⟨by simp[h1],fun i y d hy hd=>?_⟩
    rw[Yb8]at hd
    cases hq:l[i]? with
    | none=>rw[hq]at hd;cases hd
    | some e =>
      rw[hq]at hd
      simp only[Yd0,Ya1]at hd
      subst hd
      exact ih e y (h2 i y e hy hq)
   intro d x h
   cases d with
   | v y=>rw[h.inv_v];exact .v _
   | nil=>exact ZeD h.inv_nil
   | agg l =>
     obtain⟨vs,rfl,h1,h2⟩:=h.inv_agg
     exact(hl vs l h1 h2).rep_agg
   | tup l =>
     obtain⟨vs,rfl,h1,h2⟩:=h.inv_tup
     exact(hl vs l h1 h2).rep_tup
   | sl es=>exact h.sl_no.mono (Za7.refl _ _ _) hSL
   | cl es=>exact h.inv_cl.choose_spec.2.mono (Za7.refl _ _ _) hSL
   | ep es i o=>exact h.ep_no.mono (Za7.refl _ _ _) hSL
   | ls id ver =>
     simp only[fzT]
     cases hb:ZbJ m id ver with
     | none=>exact .junk _
     | some b =>
       simp only
       split
       ·rename_i hd
        obtain⟨a,cap,rfl,g1,g2,g3⟩:=Zpa hM h hb
        rcases g3 with⟨_,_,_,he⟩|⟨B,cs,q1,rfl,q2,q3,q4⟩
        ·rw[he];exact .sl0 _ _ g2
        ·have:=ZkV (β:=noB) (m:=noM) (S:=SS) (w:=w) (b:=B) (off:=0) (k:=b.k) (cap:=cap) (es:=b.es.map (List.map (fzT all m n))) ⟨fun i e he=>?_,fun i j d hd'=>?_⟩ (by simpa using g1) g2
         ·simpa using this
         ·rw[Yb8]at he
          cases hq:b.es[i]? with
          | none=>rw[hq]at he;cases he
          | some e' =>
            rw[hq]at he
            simp only[Yd0,Ya1]at he
            subst he
            rw[Yc0]
            exact hM.wid id b (ZaZ hb).1 i e' hq
         ·obtain⟨d',h1,rfl⟩:=Zgo hd'
          obtain⟨u,h2,h3⟩:=q4 i j d' h1
          exact⟨u,hB id b B _ (ZaZ hb).1 hd q1,by rw[Nat.zero_add,Zcr q2];exact h2,ih d' u h3⟩
       ·exact .junk _
   | lp id ver i o =>
     simp only[fzT]
     cases hb:ZbJ m id ver with
     | none=>exact .junk _
     | some b =>
       simp only
       split
       ·rename_i hd
        obtain⟨B,cs,q1,rfl,q2,q3,q4⟩:=Zue hM h hb
        have:=Zp7 (β:=noB) (m:=noM) (S:=SS) (w:=w) (b:=B) (off:=0) (k:=b.k) (es:=b.es.map (List.map (fzT all m n))) ⟨fun i e he=>?_,fun i j d hd'=>?_⟩ i o
        ·rw[Nat.zero_add]at this;exact this
        ·rw[Yb8]at he
         cases hq:b.es[i]? with
         | none=>rw[hq]at he;cases he
         | some e' =>
           rw[hq]at he
           simp only[Yd0,Ya1]at he
           subst he
           rw[Yc0]
           exact hM.wid id b (ZaZ hb).1 i e' hq
        ·obtain⟨d',h1,rfl⟩:=Zgo hd'
         obtain⟨u,h2,h3⟩:=q4 i j d' h1
         exact⟨u,hB id b B _ (ZaZ hb).1 hd q1,by rw[Nat.zero_add,Zcr q2];exact h2,ih d' u h3⟩
       ·exact .junk _
   | clo f l =>
     obtain⟨vs,rfl,h1,h2⟩:=h.inv_clo
     have:=hl vs l h1 h2
     exact .clo f vs _ this.1 this.2
   | junk=>exact .junk _
theorem ZuC(hM:ZaK E β m nx w)(n:Nat){d:D}{x:Value}(h:Rep β m (safe E β m) w x d):Rep β m (safe E β m) w x (fzT false m n d) :=
 (Zyb (all:=false) hM (fun _ _ h=>h) (fun id b B o h1 h2 h3=>Zp2 hM h1 (by simpa using h2) h3 o) n d x h).lift
end
theorem Zar.toC{P:Program}{f:FuncId}{ds:List D}{d:D}(h:Zar P f ds noM 0 fun d' m' _=>fzT true m' 8 d'=d)(S:Nat→Nat→Prop)(w:World)(vs:List Value)(hf:∀ b o,w.heap.size≤b→S b o)(hi:Ifl.i=true→Zg0 S w)(hvs:Reps noB noM S w vs ds):Calls P f vs.toArray w (CRet S w d):=by
 have hE:ZaK ⟨S,w,hf,hi⟩ noB noM 0 w:=⟨Below.refl _ _,(fun _ _ h=>by cases h),(fun _ _ h=>by cases h),(fun _ _ h=>by cases h),(fun _ _ h=>by cases h),(fun _ _ _ h=>by cases h),(fun _ _ _ _ _ h=>by cases h)⟩
 have hs:Zaw S w (safe ⟨S,w,hf,hi⟩ noB noM) w:=fun b o u h1 h2=>⟨⟨h1,fun _ _ h=>by cases h⟩,h2⟩
 refine(h.2 ⟨S,w,hf,hi⟩ noB w vs hE (hvs.mono (Za7.refl _ _ _) hs)).mono ?_
 rintro e w' ⟨v,d',m',nx',rfl,⟨β',h1,h2,h3,h4⟩,rfl⟩
 refine⟨v,rfl,h1.below,?_⟩
 exact Zyb (all:=true) h1 (fun b o h=>h.1) (fun id b B o g1 _ g2=>hf B o (h1.row id b B g1 g2).1) 8 d' v h4
theorem Zae.ofA{P:Program}{f:FuncId}{ds:List D}{d:D}(h:@Zar Ifl.on P f ds noM 0 fun d' m' _=>fzT true m' 8 d'=d):Zae P f ds d :=
 ⟨h.1,fun S w vs hf hi hvs=>@Zar.toC Ifl.on _ _ _ _ h S w vs hf (fun _=>hi) hvs⟩
theorem Zaa.ofA{P:Program}{f:FuncId}{ds:List D}{d:D}(h:∀ I:Ifl,@Zar I P f ds noM 0 fun d' m' _=>fzT true m' 8 d'=d):Zaa P f ds d :=
 ⟨(h Ifl.off).1,fun S w vs hf hvs=>@Zar.toC Ifl.off _ _ _ _ (h Ifl.off) S w vs hf (fun e=>by cases e) hvs⟩
mutual
def Zew:D→Bool
 | .v _=>true
 | .agg l=>ZjA l
 | .tup l=>ZjA l
 | .junk=>true
 | _=>false
def ZjA:List D→Bool
 | []=>true
 | d ::l=>Zew d&&ZjA l
end
section
variable {β:Bet} {m:Mem} {S S':Nat→Nat→Prop} {w:World}
mutual
theorem ZkR:∀ (d:D)(x:Value),Zew d=true→Rep β m S w x d→Rep β m S' w x d
 | .v y,x,_,h=>by rw[h.inv_v];exact .v _
 | .agg l,x,hs,h=>by
   obtain⟨vs,rfl,h1,h2⟩:=h.inv_agg
   exact(ZfE l vs (by simpa[Zew]using hs) ⟨h1,h2⟩).rep_agg
 | .tup l,x,hs,h=>by
   obtain⟨vs,rfl,h1,h2⟩:=h.inv_tup
   exact(ZfE l vs (by simpa[Zew]using hs) ⟨h1,h2⟩).rep_tup
 | .junk,x,_,_=>.junk _
 | .nil,_,h,_=>by simp[Zew]at h
 | .sl _,_,h,_=>by simp[Zew]at h
 | .cl _,_,h,_=>by simp[Zew]at h
 | .ep _ _ _,_,h,_=>by simp[Zew]at h
 | .ls _ _,_,h,_=>by simp[Zew]at h
 | .lp _ _ _ _,_,h,_=>by simp[Zew]at h
 | .clo _ _,_,h,_=>by simp[Zew]at h
theorem ZfE:∀ (l:List D)(vs:List Value),ZjA l=true→Reps β m S w vs l→Reps β m S' w vs l
 | [],vs,_,h=>by
   obtain rfl:vs=[]:=Ya9 h.1
   exact Reps.nil
 | d ::l,vs,hs,h=>by
   simp only[ZjA,Ya2]at hs
   match vs,h with
   | [],h=>exact absurd h.1 (by simp)
   | v ::vs,h =>
     exact Reps.cons (ZkR d v hs.1 (h.2 0 v d rfl rfl)) (ZfE l vs hs.2 ⟨by simpa using h.1,fun i y e hy he=>h.2 (i+1) y e (by simpa using hy) (by simpa using he)⟩)
end
end
theorem Zaa.toN{P:Program}{f:FuncId}{ds:List D}{d:D}(h:Zaa P f ds d)(_:Zew d=true):Zaa P f ds d:=h
theorem Zae.toN{P:Program}{f:FuncId}{ds:List D}{d:D}(h:Zae P f ds d)(hs:Zew d=true):Zaa P f ds d:=by
 refine⟨h.1,fun S w vs _ hvs=>?_⟩
 refine(h.2 (fun _ _=>True) w vs (fun _ _ _=>trivial) (fun _ _ _ _ _=>trivial) (hvs.mono (Za7.refl _ _ _) (fun b o u _ h2=>⟨trivial,h2⟩))).mono ?_
 rintro e w' ⟨v,rfl,hb,hr⟩
 exact⟨v,rfl,hb,ZkR d v hs hr⟩
theorem Zie{s:St}(k:Nat)(n:Nat):StLe s {s with t:=upd s.t k (fzT false s.m n (s.t k))}:=by
 intro E B nn β a w h
 refine⟨β,h.mem,fun j hj=>?_,h.width,h.defers,h.le,h.sle,h.lo⟩
 by_cases e:j=k
 ·subst e;simp only[Zac];exact ZuC h.mem n (h.tmp j hj)
 ·simp only[Zab _ _ e];exact h.tmp j hj
theorem ZgQ{s:St}(id:Nat){b:Blk}(hb:s.m id=some b):StLe s {s with m:=upd s.m id (some {b with dead:=true})}:=by
 intro E B nn β a w h
 obtain⟨h1,h2,h3⟩:=Zqw h.mem hb
 exact⟨β,h1,fun j hj=>(h.tmp j hj).mono h2 h3,h.width,h.defers,h.le.trans h2,h.sle.trans h3,h.lo⟩
theorem Zd9{s:St}(k:Nat)(T:TypeId)(kk:Nat)(hk:s.t k = .nil):StLe s {s with t:=upd s.t k (.ls s.nx 0),m:=upd s.m s.nx (some ⟨T,0,kk,[],0,false⟩),nx:=s.nx+1}:=by
 intro E B nn β a w h
 obtain⟨h1,h2,h3⟩:=Ze9 (id:=s.nx) (h.mem.mono_nx (Nat.le_succ _)) (Nat.lt_succ_self _) ⟨T,0,kk,[],0,false⟩ rfl rfl (.inl h.mem.none)
 refine⟨_,h1,fun j hj=>?_,h.width,h.defers,h.le.trans h2,h.sle.trans h3,h.lo⟩
 by_cases e:j=k
 ·subst e
  simp only[Zac]
  have:=h.tmp j hj
  rw[hk]at this
  rw[this.inv_nil]
  exact .ls _ _ _ _ _ ⟨T,0,kk,[],0,false⟩ (Zac _ _ _) (Ya4 _) (fun _ _=>rfl) fun _=>⟨rfl,Ya4 _,Yb0 _,.inl ⟨Zac _ _ _,rfl,rfl⟩⟩
 ·simp only[Zab _ _ e];exact(h.tmp j hj).mono h2 h3
theorem ZqB{s:St}(id:Nat)(n:Nat){b:Blk}(hb:s.m id=some b):StLe s {s with m:=upd s.m id (some {b with es:=b.es.map (List.map (fzT false s.m n))})}:=by
 intro E B nn β a w h
 have hM:=h.mem
 have hm:Za7 β s.m w β (upd s.m id (some {b with es:=b.es.map (List.map (fzT false s.m n))})) w:=by
  refine⟨fun x y hx=>?_,fun _ _ h=>h⟩
  by_cases e:x=id
  ·subst e
   rw[hb]at hx;cases hx
   exact⟨_,Zac _ _ _,Ya4 _,fun _=>⟨rfl,by simp,rfl⟩⟩
  ·exact⟨y,by rw[Zab _ _ e];exact hx,Ya4 _,fun _=>⟨rfl,rfl,rfl⟩⟩
 have hget:∀ x y,upd s.m id (some {b with es:=b.es.map (List.map (fzT false s.m n))}) x=some y→∃ z,s.m x=some z∧y.T=z.T∧y.k=z.k∧y.es.length=z.es.length∧y.fz=z.fz∧y.dead=z.dead∧(y.es=z.es∨y.es=z.es.map (List.map (fzT false s.m n))):=by
  intro x y hx
  by_cases e:x=id
  ·subst e;rw[Zac]at hx;cases hx;exact⟨b,hb,rfl,rfl,by simp,rfl,rfl,.inr rfl⟩
  ·rw[Zab _ _ e]at hx;exact⟨y,hx,rfl,rfl,rfl,rfl,rfl,.inl rfl⟩
 have hs:Zaw (safe E β s.m) w (safe E β (upd s.m id (some {b with es:=b.es.map (List.map (fzT false s.m n))}))) w:=by
  intro c o u h1 h2
  refine⟨⟨h1.1,fun x y hx hy=>?_⟩,h2⟩
  obtain⟨z,hz,e1,e2,e3,e4,e5,_⟩:=hget x y hx
  rw[e4,e2,e5]
  exact h1.2 x z hz hy
 refine⟨β,⟨hM.below,?_,?_,?_,?_,?_,?_⟩,fun j hj=>(h.tmp j hj).mono hm hs,h.width,h.defers,h.le.trans hm,h.sle.trans hs,h.lo⟩
 ·intro x y hx
  obtain⟨z,hz,_⟩:=hget x y hx
  exact hM.lt x z hz
 ·intro x y hx
  obtain⟨z,hz,e1,e2,e3,e4,_⟩:=hget x y hx
  rw[e3,e4];exact hM.fz x z hz
 ·intro x y hx i e he
  obtain⟨z,hz,e1,e2,e3,e4,e5,e6⟩:=hget x y hx
  rw[e2]
  rcases e6 with e6|e6
  ·rw[e6]at he;exact hM.wid x z hz i e he
  ·rw[e6,Yb8]at he
   cases hq:z.es[i]? with
   | none=>rw[hq]at he;cases he
   | some e' =>
     rw[hq]at he
     simp only[Yd0,Ya1]at he
     rw[← he,Yc0];exact hM.wid x z hz i e' hq
 ·intro x y hx hbx
  obtain⟨z,hz,e1,e2,e3,_⟩:=hget x y hx
  have:=hM.non x z hz hbx
  rw[this]at e3
  exact Ya9 e3
 ·intro x y c hx hbx
  obtain⟨z,hz,e1,e2,e3,e4,e5,e6⟩:=hget x y hx
  obtain⟨h3,cs',h4,h5,h6⟩:=hM.row x z c hz hbx
  rw[e1,e2,e3]
  refine⟨h3,cs',h4,h5,fun i j d hd=>?_⟩
  rcases e6 with e6|e6
  ·rw[e6]at hd
   obtain⟨u,h7,h8⟩:=h6 i j d hd
   exact⟨u,h7,h8.mono hm hs⟩
  ·rw[e6]at hd
   obtain⟨d',h7,rfl⟩:=Zgo hd
   obtain⟨u,h8,h9⟩:=h6 i j d' h7
   exact⟨u,h8,(ZuC hM n h9).mono hm hs⟩
 ·intro x1 x2 y1 y2 c h1 h2 h3 h4
  obtain⟨z1,hz1,_⟩:=hget x1 y1 h1
  obtain⟨z2,hz2,_⟩:=hget x2 y2 h2
  exact hM.inj x1 x2 z1 z2 c hz1 hz2 h3 h4
mutual
def okD(keep:Nat→Bool):D→Bool
 | .ls id _=>keep id
 | .lp id _ _ _=>keep id
 | .agg l=>okDs keep l
 | .tup l=>okDs keep l
 | .clo _ l=>okDs keep l
 | _=>true
def okDs(keep:Nat→Bool):List D→Bool
 | []=>true
 | d ::l=>okD keep d&&okDs keep l
end
section
variable {β:Bet} {m m':Mem} {S S':Nat→Nat→Prop} {w:World} {keep:Nat→Bool}
mutual
theorem Zix(hm:∀ id,keep id=true→m' id=m id)(hs:Zaw S w S' w):∀ (d:D)(x:Value),okD keep d=true→Rep β m S w x d→Rep β m' S' w x d
 | .v y,x,_,h=>by rw[h.inv_v];exact .v _
 | .nil,x,_,h=>by rw[h.inv_nil];exact .nil
 | .agg l,x,ho,h=>by
   obtain⟨vs,rfl,h1,h2⟩:=h.inv_agg
   exact(ZlS hm hs l vs (by simpa[okD]using ho) ⟨h1,h2⟩).rep_agg
 | .tup l,x,ho,h=>by
   obtain⟨vs,rfl,h1,h2⟩:=h.inv_tup
   exact(ZlS hm hs l vs (by simpa[okD]using ho) ⟨h1,h2⟩).rep_tup
 | .sl es,x,_,h=>(h.sl_no.mono (Za7.refl _ _ _) hs).lift
 | .cl es,x,_,h=>by obtain⟨a,rfl,h1⟩:=h.inv_cl;exact .cl a es (h1.mono (Za7.refl _ _ _) hs)
 | .ep es i o,x,_,h=>(h.ep_no.mono (Za7.refl _ _ _) hs).lift
 | .ls id ver,x,ho,h=>by
   obtain⟨a,n,cap,blk,rfl,h1,h2,hx,h3⟩:=h.inv_lsx
   exact .ls a n cap id ver blk ((hm id (by simpa[okD]using ho)).trans h1) h2 hx h3
 | .lp id ver i o,x,ho,h=>by
   obtain⟨b,p,blk,rfl,h1,h2,h3⟩:=h.inv_lp
   exact .lp b p id ver i o blk ((hm id (by simpa[okD]using ho)).trans h1) h2 h3
 | .clo f l,x,ho,h=>by
   obtain⟨vs,rfl,h1,h2⟩:=h.inv_clo
   have:=ZlS hm hs l vs (by simpa[okD]using ho) ⟨h1,h2⟩
   exact .clo f vs l this.1 this.2
 | .junk,x,_,_=>.junk _
theorem ZlS(hm:∀ id,keep id=true→m' id=m id)(hs:Zaw S w S' w):∀ (l:List D)(vs:List Value),okDs keep l=true→Reps β m S w vs l→Reps β m' S' w vs l
 | [],vs,_,h=>by
   obtain rfl:vs=[]:=Ya9 h.1
   exact Reps.nil
 | d ::l,vs,ho,h=>by
   simp only[okDs,Ya2]at ho
   match vs,h with
   | [],h=>exact absurd h.1 (by simp)
   | v ::vs,h =>
     exact Reps.cons (Zix hm hs d v ho.1 (h.2 0 v d rfl rfl)) (ZlS hm hs l vs ho.2 ⟨by simpa using h.1,fun i y e hy he=>h.2 (i+1) y e (by simpa using hy) (by simpa using he)⟩)
end
end
def tabT:List (Nat×D)→Nat→D
 | []=>fun _=>.junk
 | p ::l=>upd (tabT l) p.1 p.2
def tabM:List (Nat×Blk)→Mem
 | []=>fun _=>none
 | p ::l=>upd (tabM l) p.1 (some p.2)
theorem Zf1:∀ (l:List (Nat×D)) (k:Nat),tabT l k = .junk∨∃ d,(k,d)∈l∧tabT l k=d
 | [],k=>.inl rfl
 | p ::l,k=>by
   simp only[tabT]
   by_cases e:k=p.1
   ·subst e;rw[Zac];exact .inr ⟨p.2,by simp,rfl⟩
   ·rw[Zab _ _ e]
    rcases Zf1 l k with h|⟨d,h1,h2⟩
    ·exact .inl h
    ·exact .inr ⟨d,by simp[h1],h2⟩
theorem Zg5:∀ (l:List (Nat×Blk)) (k:Nat),(tabM l k=none∧k∉l.map (·.1))∨∃ b,(k,b)∈l∧tabM l k=some b
 | [],k=>.inl ⟨rfl,by simp⟩
 | p ::l,k=>by
   simp only[tabM]
   by_cases e:k=p.1
   ·subst e;rw[Zac];exact .inr ⟨p.2,by simp,rfl⟩
   ·rw[Zab _ _ e]
    rcases Zg5 l k with⟨h,h'⟩|⟨d,h1,h2⟩
    ·exact .inl ⟨h,by simp[e];simpa using h'⟩
    ·exact .inr ⟨d,by simp[h1],h2⟩
def Zb8(keep:Nat→Bool)(b:Blk):Prop:=∀ e∈b.es,okDs keep e=true
theorem Zhm{keep:Nat→Bool}:∀ {l:List D},okDs keep l=true→∀ d∈l,okD keep d=true
 | [],_,d,h=>by simp at h
 | x ::l,ho,d,h=>by
   simp only[okDs,Ya2]at ho
   rcases List.mem_cons.1 h with rfl|h
   ·exact ho.1
   ·exact Zhm ho.2 d h
theorem Zb1{s:St}(l:List (Nat×D))(bl:List (Nat×Blk))(nx:Nat)(ht:∀ p∈l,s.t p.1=p.2)(hm:∀ p∈bl,s.m p.1=some p.2)(hok:∀ p∈l,okD (fun id=>(bl.map (·.1)).contains id) p.2=true)
 (hbk:∀ p∈bl,Zb8 (fun id=>(bl.map (·.1)).contains id) p.2) (hnx:∀ p∈bl,p.1<nx) (hlo:s.lo=0∨∀ id,id<s.lo→(bl.map (·.1)).contains id=true):StLe s ⟨tabT l,tabM bl,nx,s.lo⟩:=by
 intro E B nn β a w h
 have hM:=h.mem
 have hk:∀ id,(bl.map (·.1)).contains id=true→tabM bl id=s.m id:=by
  intro id hid
  rcases Zg5 bl id with⟨_,h1⟩|⟨b,h1,h2⟩
  ·exact absurd (List.contains_iff_mem.1 hid) h1
  ·rw[h2];exact(hm _ h1).symm
 have hget:∀ id b,tabM bl id=some b→s.m id=some b∧(id,b)∈bl:=by
  intro id b hb
  rcases Zg5 bl id with⟨h1,_⟩|⟨b',h1,h2⟩
  ·rw[h1]at hb;cases hb
  ·rw[h2]at hb;cases hb;exact⟨hm _ h1,h1⟩
 have hs:Zaw (safe E β s.m) w (safe E β (tabM bl)) w:=fun b o u h1 h2=>⟨⟨h1.1,fun id blk h3 h4=>h1.2 id blk (hget id blk h3).1 h4⟩,h2⟩
 refine⟨β,⟨hM.below,?_,?_,?_,?_,?_,?_⟩,?_,h.width,h.defers,?_,h.sle.trans hs,h.lo⟩
 ·intro id b hb;exact hnx _ (hget id b hb).2
 ·intro id b hb;exact hM.fz id b (hget id b hb).1
 ·intro id b hb;exact hM.wid id b (hget id b hb).1
 ·intro id b hb;exact hM.non id b (hget id b hb).1
 ·intro id b c hb hc
  obtain⟨h3,cs',h4,h5,h6⟩:=hM.row id b c (hget id b hb).1 hc
  refine⟨h3,cs',h4,h5,fun i j d hd=>?_⟩
  obtain⟨u,h7,h8⟩:=h6 i j d hd
  obtain⟨e,he,hj⟩:=Zak.1 hd
  exact⟨u,h7,Zix hk hs d u (Zhm (hbk _ (hget id b hb).2 e (Ya7 he)) d (Ya7 hj)) h8⟩
 ·intro x1 x2 y1 y2 c h1 h2 h3 h4
  exact hM.inj x1 x2 y1 y2 c (hget _ _ h1).1 (hget _ _ h2).1 h3 h4
 ·intro k hk'
  rcases Zf1 l k with h1|⟨d,h1,h2⟩
  ·simp only[h1];exact .junk _
  ·simp only[h2]
   have:=h.tmp k hk'
   rw[ht _ h1]at this
   exact Zix hk hs d _ (hok _ h1) this
 ·refine⟨fun id x hx=>?_,h.le.cap⟩
  obtain⟨y,h1,h2,h3⟩:=h.le.blk id x hx
  have hid:=h.lo id x hx
  have hkeep:(bl.map (·.1)).contains id=true:=by
   rcases hlo with h0|h0
   ·omega
   ·exact h0 id hid
  exact⟨y,(hk id hkeep).trans h1,h2,h3⟩
end ifl
end Go.Proofs.YtiincpioidnciaaGreat
