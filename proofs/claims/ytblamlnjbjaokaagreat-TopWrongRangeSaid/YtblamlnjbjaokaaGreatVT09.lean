/-
  TopWrongRange, lifted: the frame round the law's contract: the law returns true for every input, and each argument reads behind the call as it read before.
-/
import Derived.Test.YtblamlnjbjaokaaGreatVT01
import Derived.Test.YtblamlnjbjaokaaGreatVT08
namespace Go.Proofs.YtblamlnjbjaokaaGreat.topWrongRangeDone
set_option linter.unusedVariables false
set_option linter.unusedSimpArgs false
set_option linter.unusedSectionVars false
open Go.ChangeShapes Go.WideShapes Go.ChangeAt Go.RowKit
set_option linter.unusedVariables false
theorem own:ownKnob Tryz.prog.godebug=none:=by kernel_rfl
theorem laidOut:laidOutB Tryz.prog=true:=by kernel_rfl
set_option maxRecDepth 100000 in
theorem lifted(os:Os)(started:os.Started)(H:Type)(enc:TypeId×Value→H) :
 ReturnsInHanded {} Tryz.checked os 3 .any (Rows.topWrongRangeSpec.pre6 enc Tryz.prog Tryz.f3 Rows.topWrongRangeRow.domain false) (Rows.topWrongRangeSpec.post enc Tryz.prog Tryz.f3 false true false false):=by
 refine returnsInHanded_of_change (C:=Tryz.checked) own started (by kernel_rfl) Tryz.func3
  (ChangeSpec.witness6 (enc:=enc) (C:=Tryz.checked) false ⟨#[],#[.agg #[.int .i64 0,.int .i64 0,.int .i64 0,.slice none 0 0,.slice none 0 0,.slice none 0 0,.slice none 0 0,.slice none 0 0],.slice none 0 0,.agg #[.int .i64 0,.int .i64 0,.slice none 0 0,.int .i64 0,.slice none 0 0,.slice none 0 0,.slice none 0 0,.slice none 0 0,.int .i64 0,.int .i64 0,.slice none 0 0,.int .i64 0,.slice none 0 0,.slice none 0 0,.slice none 0 0,.slice none 0 0],.slice none 0 0,.slice none 0 0],[]⟩ 8 (by kernel_rfl) (by kernel_rfl) (by kernel_rfl) (by kernel_rfl)) ?_
 intro W base args ds gs before hval0 hW hcnd _
 have hval:∀ (j:Nat) t v,Tryz.f3.params[j]? =some t→args[j]? =some v→Value.okWide Tryz.prog W .any base t v:=hval0
 have hW':=hW
 obtain⟨p,q,hA0,hV,rfl,hfz,hnd⟩:=hW
 have hA:DataW.TrodAll enc Tryz.prog W 0 (fun _=>true) true Tryz.f3.params.toList args.toList ds p:=hA0
 rw[Tryz.params3]at hA hval
 obtain⟨v0,vs0,d0,ds0,p0,q0,hargs,rfl,rfl,h0,r0⟩:=trodAll_cons hA
 obtain⟨v1,vs1,d1,ds1,p1,q1,rfl,rfl,rfl,h1,r1⟩:=trodAll_cons r0
 obtain⟨v2,vs2,d2,ds2,p2,q2,rfl,rfl,rfl,h2,r2⟩:=trodAll_cons r1
 obtain⟨v3,vs3,d3,ds3,p3,q3,rfl,rfl,rfl,h3,r3⟩:=trodAll_cons r2
 obtain⟨v4,vs4,d4,ds4,p4,q4,rfl,rfl,rfl,h4,r4⟩:=trodAll_cons r3
 obtain⟨rfl,rfl,rfl⟩:=trodAll_nil r4
 obtain rfl:args=#[v0,v1,v2,v3,v4]:=by cases args;simp_all
 obtain⟨rfl,rfl⟩:=trodVars_none hV
 have k0:=h0
 have lt0:∀ x∈p0,x.block<W.heap.size:=by obtain⟨m,hm⟩:=k0;exact DataW.trod_lt m _ _ _ hm
 obtain⟨cs0,sh0,w0⟩:=Zic (n:=12) Tryz.underlying28 (by kernel_rfl) (hval 0 28 v0 rfl rfl) h0
 obtain⟨c0,rfl⟩:=ZxC sh0
 have k1:=h1
 have lt1:∀ x∈p1,x.block<W.heap.size:=by obtain⟨m,hm⟩:=k1;exact DataW.trod_lt m _ _ _ hm
 obtain⟨es1,z1,sh1,w1⟩:=ZgO (n:=12) Tryz.underlying29 (by kernel_rfl) (hval 1 29 v1 rfl rfl) h1
 obtain⟨l1,rfl⟩:=Zcj (f:=cPk) (fun x hx=>Zt8 (sh1 x hx))
 have k2:=h2
 have lt2:∀ x∈p2,x.block<W.heap.size:=by obtain⟨m,hm⟩:=k2;exact DataW.trod_lt m _ _ _ hm
 obtain⟨cs2,sh2,w2⟩:=Zic (n:=12) Tryz.underlying39 (by kernel_rfl) (hval 2 39 v2 rfl rfl) h2
 obtain⟨c2,rfl⟩:=ZtZ sh2
 have k3:=h3
 have lt3:∀ x∈p3,x.block<W.heap.size:=by obtain⟨m,hm⟩:=k3;exact DataW.trod_lt m _ _ _ hm
 obtain⟨es3,z3,sh3,w3⟩:=ZgO (n:=12) Tryz.underlying35 (by kernel_rfl) (hval 3 35 v3 rfl rfl) h3
 obtain⟨l3,rfl⟩:=Zcj (f:=cF) (fun x hx=>ZnA (sh3 x hx))
 have k4:=h4
 have lt4:∀ x∈p4,x.block<W.heap.size:=by obtain⟨m,hm⟩:=k4;exact DataW.trod_lt m _ _ _ hm
 obtain⟨es4,z4,sh4,w4⟩:=ZgO (n:=12) Tryz.underlying40 (by kernel_rfl) (hval 4 40 v4 rfl rfl) h4
 obtain⟨l4,rfl⟩:=Zcj (f:=(fun y=>[ZaM y])) (fun x hx=>ZhI (sh4 x hx))
 clear hA0 hval0
 have hc:=(Zwe c0 l1 c2 l3 l4).2 allS W [v0,v1,v2,v3,v4] (fun _ _ _=>trivial) (fun _ _ _ _ _=>trivial) (Reps.cons (w0) (Reps.cons (w1) (Reps.cons (w2) (Reps.cons (w3) (Reps.cons (w4) (Reps.nil))))))
 refine hc.mono fun e W' he=>?_
 obtain⟨u,rfl,bel,hu⟩:=he
 rw[hu.inv_v]
 exact⟨_,rfl,_,_,_,[],_,[],hW',trodAll_mk1 (shut_bool Tryz.underlying4 _),(trodAll_cons_mk (Below.trod laidOut (by kernel_rfl) (of_decide_eq_true (by kernel_rfl)) k0 bel lt0) (trodAll_cons_mk (Below.trod laidOut (by kernel_rfl) (of_decide_eq_true (by kernel_rfl)) k1 bel lt1) (trodAll_cons_mk (Below.trod laidOut (by kernel_rfl) (of_decide_eq_true (by kernel_rfl)) k2 bel lt2) (trodAll_cons_mk (Below.trod laidOut (by kernel_rfl) (of_decide_eq_true (by kernel_rfl)) k3 bel lt3) (trodAll_cons_mk (Below.trod laidOut (by kernel_rfl) (of_decide_eq_true (by kernel_rfl)) k4 bel lt4) (trodAll_mk0)))))),rfl,bel.frame _,fun h=>by cases h⟩
end Go.Proofs.YtblamlnjbjaokaaGreat.topWrongRangeDone
