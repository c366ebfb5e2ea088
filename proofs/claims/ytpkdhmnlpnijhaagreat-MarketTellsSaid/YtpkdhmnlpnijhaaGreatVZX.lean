/-
  The walk over data: the reference's dictionary in memory.
-/
import Derived.Test.YtpkdhmnlpnijhaaGreatVZN
import Derived.Test.YtpkdhmnlpnijhaaGreatVZI
import Derived.Test.YtpkdhmnlpnijhaaGreatVSimD
namespace Go.Proofs.YtpkdhmnlpnijhaaGreat
set_option linter.unusedVariables false
set_option linter.unusedSimpArgs false
set_option linter.unusedSectionVars false
open Go Go.RowKit
set_option maxRecDepth 100000
set_option maxHeartbeats 16000000
abbrev zL (n : Nat) (c : Nat → Int) : List (List D) := tabL n fun u => cZ (c u)
theorem zl_len (n : Nat) (c : Nat → Int) : (zL n c).length = n := tab_len _ _
theorem zl_get {n k : Nat} (c : Nat → Int) (h : k < n) : (zL n c)[k]? = some [dI (c k).sign, encInts (digs (c k).natAbs)] := tab_get _ h
theorem zl_set {n k : Nat} (c : Nat → Int) (x : Int) : (zL n c).set k [dI x.sign, encInts (digs x.natAbs)] = zL n (fun u => if u = k then x else c u) := by
 unfold zL
 rw [tab_set]
 refine tab_congr fun u _ => ?_
 by_cases e : u = k
 · show _ = cZ (if u = k then x else c u)
   rw [if_pos e, if_pos e]
 · show _ = cZ (if u = k then x else c u)
   rw [if_neg e, if_neg e]
theorem zl_congr {n : Nat} {c d : Nat → Int} (h : ∀ k, k < n → c k = d k) : zL n c = zL n d := tab_congr fun k hk => by rw [h k hk]
theorem zl_set' {n k : Nat} (c : Nat → Int) (x : Int) {e : Nat → Int} (h : ∀ u, u < n → e u = if u = k then x else c u) : (zL n c).set k [dI x.sign, encInts (digs x.natAbs)] = zL n e := by
 rw [zl_set]; exact zl_congr fun u hu => (h u hu).symm
theorem fz_zl (all : Bool) (m : Mem) (k n : Nat) (c : Nat → Int) : (zL n c).map (List.map (fzT all m (k + 1))) = zL n c := by
 unfold zL tabL
 rw [List.map_map]
 exact List.map_congr_left fun u _ => rfl
abbrev bB (ver n : Nat) (c : Nat → Int) : Blk := ⟨30, ver, 2, zL n c, 0, false⟩
structure ZI where
 p : Nat
 V : Nat
 A : Nat
 C : Nat
 O : Nat
 Fr : Nat
 F : Nat
 S : Nat
 Sc : Nat
 R : Nat → Nat
 vV : Nat
 vA : Nat
 vO : Nat
 vFr : Nat
 vF : Nat
 vS : Nat
 vSc : Nat
structure ZK where
 frm : Nat → Nat
 neg : Nat → Bool
 scl : Nat → Nat
 gol : Nat
abbrev sgI (b : Bool) : Int := if b then -1 else 1
abbrev zpC (I : ZI) (g : Nat) (q : Int) : List D := [.ls I.V I.vV, .ls I.A I.vA, .ls I.C 1, dI q.sign, encInts (digs q.natAbs), .ls I.O I.vO, .ls I.Fr I.vFr, .ls I.F I.vF, .ls I.S I.vS, .ls I.Sc I.vSc, dI (nsg g), encInts (digs g)]
abbrev zpB (I : ZI) (g : Nat) (q : Int) : Blk := ⟨164, 0, 12, [zpC I g q], 0, false⟩
abbrev rwB (I : ZI) (m : Nat) : Blk := ⟨161, I.vA, 1, tabL m fun k => [.ls (I.R k) 1], 0, false⟩
abbrev sgB (ver m : Nat) (s : Nat → Bool) : Blk := ⟨3, ver, 1, tabL m fun i => [dI (sgI (s i))], 0, false⟩
structure ZFr (fr : List (List D)) (m : Mem) (I : ZI) (K : ZK) (Z : ZD) : Prop where
 hp : m I.p = some (zpB I K.gol Z.D)
 hV : m I.V = some (bB I.vV Z.m Z.v)
 hA : m I.A = some (rwB I Z.m)
 hC : m I.C = some (bB 1 Z.n Z.g)
 hO : m I.O = some (iB 3 I.vO Z.m Z.own)
 hFr : m I.Fr = some ⟨3, I.vFr, 1, fr, 0, false⟩
 hF : m I.F = some (iB 3 I.vF Z.m K.frm)
 hS : m I.S = some (sgB I.vS Z.m K.neg)
 hSc : m I.Sc = some (bB I.vSc Z.m fun i => (K.scl i : Int))
 hR : ∀ k, k < Z.m → m (I.R k) = some (bB 1 Z.n (Z.a k))
abbrev ZAt (m : Mem) (I : ZI) (K : ZK) (Z : ZD) : Prop := ZFr (tabL Z.n fun j => [dI (Z.free j)]) m I K Z
abbrev nineZ (I : ZI) : List Nat := [I.p, I.V, I.A, I.C, I.O, I.Fr, I.F, I.S, I.Sc]
structure ZAp (I : ZI) (m : Nat) : Prop where
 nd : (nineZ I).Nodup
 rx : ∀ k, k < m → I.R k ∉ nineZ I
 rr : ∀ k l, k < m → l < m → k ≠ l → I.R k ≠ I.R l
def inZ (I : ZI) (m : Nat) (id : Nat) : Prop := id ∈ nineZ I ∨ ∃ k, k < m ∧ id = I.R k
theorem inZR {I : ZI} {m k : Nat} (h : k < m) : inZ I m (I.R k) := .inr ⟨k, h, rfl⟩
section
variable {fr : List (List D)} {m m' : Mem} {I : ZI} {K : ZK} {Z : ZD} {nx : Nat}
theorem inZ_p : inZ I nx I.p := .inl (by simp)
theorem inZ_V : inZ I nx I.V := .inl (by simp)
theorem inZ_A : inZ I nx I.A := .inl (by simp)
theorem inZ_C : inZ I nx I.C := .inl (by simp)
theorem inZ_O : inZ I nx I.O := .inl (by simp)
theorem inZ_Fr : inZ I nx I.Fr := .inl (by simp)
theorem inZ_F : inZ I nx I.F := .inl (by simp)
theorem inZ_S : inZ I nx I.S := .inl (by simp)
theorem inZ_Sc : inZ I nx I.Sc := .inl (by simp)
theorem inZ_cases {P : Nat → Prop} (hp : P I.p) (hV : P I.V) (hA : P I.A) (hC : P I.C) (hO : P I.O) (hFr : P I.Fr) (hF : P I.F) (hS : P I.S) (hSc : P I.Sc) (hR : ∀ k, k < nx → P (I.R k)) : ∀ id, inZ I nx id → P id := by
 rintro id (h | ⟨k, hk, rfl⟩)
 · simp only [List.mem_cons, List.not_mem_nil, or_false] at h
   rcases h with rfl | rfl | rfl | rfl | rfl | rfl | rfl | rfl | rfl <;> assumption
 · exact hR k hk
theorem ZFr.lt (h : ZFr fr m I K Z) (hc : Cl m nx) : ∀ id, inZ I Z.m id → id < nx :=
 inZ_cases (P := fun id => id < nx) (hc _ _ h.hp).1 (hc _ _ h.hV).1 (hc _ _ h.hA).1 (hc _ _ h.hC).1 (hc _ _ h.hO).1 (hc _ _ h.hFr).1 (hc _ _ h.hF).1 (hc _ _ h.hS).1 (hc _ _ h.hSc).1 fun k hk => (hc _ _ (h.hR k hk)).1
theorem ZFr.keep (h : ZFr fr m I K Z) (hf : ∀ id, inZ I Z.m id → m' id = m id) : ZFr fr m' I K Z :=
 ⟨(hf _ inZ_p).trans h.hp, (hf _ inZ_V).trans h.hV, (hf _ inZ_A).trans h.hA, (hf _ inZ_C).trans h.hC, (hf _ inZ_O).trans h.hO, (hf _ inZ_Fr).trans h.hFr, (hf _ inZ_F).trans h.hF, (hf _ inZ_S).trans h.hS, (hf _ inZ_Sc).trans h.hSc,
   fun k hk => (hf _ (inZR hk)).trans (h.hR k hk)⟩
structure ZNe (I : ZI) : Prop where
 pV : I.p ≠ I.V
 pA : I.p ≠ I.A
 pC : I.p ≠ I.C
 pO : I.p ≠ I.O
 pFr : I.p ≠ I.Fr
 pF : I.p ≠ I.F
 pS : I.p ≠ I.S
 pSc : I.p ≠ I.Sc
 VA : I.V ≠ I.A
 VC : I.V ≠ I.C
 VO : I.V ≠ I.O
 VFr : I.V ≠ I.Fr
 VF : I.V ≠ I.F
 VS : I.V ≠ I.S
 VSc : I.V ≠ I.Sc
 AC : I.A ≠ I.C
 AO : I.A ≠ I.O
 AFr : I.A ≠ I.Fr
 AF : I.A ≠ I.F
 AS : I.A ≠ I.S
 ASc : I.A ≠ I.Sc
 CO : I.C ≠ I.O
 CFr : I.C ≠ I.Fr
 CF : I.C ≠ I.F
 CS : I.C ≠ I.S
 CSc : I.C ≠ I.Sc
 OFr : I.O ≠ I.Fr
 OF : I.O ≠ I.F
 OS : I.O ≠ I.S
 OSc : I.O ≠ I.Sc
 FrF : I.Fr ≠ I.F
 FrS : I.Fr ≠ I.S
 FrSc : I.Fr ≠ I.Sc
 Fs : I.F ≠ I.S
 FSc : I.F ≠ I.Sc
 SSc : I.S ≠ I.Sc
theorem ZAp.ne {k : Nat} (ap : ZAp I k) : ZNe I := by
 have nd := ap.nd
 simp only [nineZ, List.nodup_cons, List.mem_cons, List.not_mem_nil, or_false, not_or, not_false_eq_true, List.nodup_nil, and_true] at nd
 obtain ⟨⟨a1, a2, a3, a4, a5, a6, a7, a8⟩, ⟨b1, b2, b3, b4, b5, b6, b7⟩, ⟨c1, c2, c3, c4, c5, c6⟩, ⟨d1, d2, d3, d4, d5⟩, ⟨e1, e2, e3, e4⟩, ⟨f1, f2, f3⟩, ⟨g1, g2⟩, h1⟩ := nd
 constructor <;> assumption
structure RNe (I : ZI) (k : Nat) : Prop where
 p : I.R k ≠ I.p
 V : I.R k ≠ I.V
 A : I.R k ≠ I.A
 C : I.R k ≠ I.C
 O : I.R k ≠ I.O
 Fr : I.R k ≠ I.Fr
 F : I.R k ≠ I.F
 S : I.R k ≠ I.S
 Sc : I.R k ≠ I.Sc
theorem ZAp.rne {k l : Nat} (ap : ZAp I k) (hl : l < k) : RNe I l := by
 have nd := ap.rx l hl
 simp only [nineZ, List.mem_cons, List.not_mem_nil, or_false, not_or] at nd
 obtain ⟨a1, a2, a3, a4, a5, a6, a7, a8, a9⟩ := nd
 constructor <;> assumption
theorem ZFr.new (h : ZFr fr m I K Z) {x : Nat} {b : Option Blk} (hx : ∀ id, inZ I Z.m id → id ≠ x) : ZFr fr (upd m x b) I K Z := h.keep fun id hi => upd_ne _ _ (hx id hi)
theorem ZFr.setP (h : ZFr fr m I K Z) (ap : ZAp I Z.m) (d : Int) : ZFr fr (upd m I.p (some (zpB I K.gol d))) I K { Z with D := d } := by
 have n := ap.ne
 refine ⟨upd_same _ _ _, ?_, ?_, ?_, ?_, ?_, ?_, ?_, ?_, fun k hk => ?_⟩
 · rw [upd_ne _ _ n.pV.symm]; exact h.hV
 · rw [upd_ne _ _ n.pA.symm]; exact h.hA
 · rw [upd_ne _ _ n.pC.symm]; exact h.hC
 · rw [upd_ne _ _ n.pO.symm]; exact h.hO
 · rw [upd_ne _ _ n.pFr.symm]; exact h.hFr
 · rw [upd_ne _ _ n.pF.symm]; exact h.hF
 · rw [upd_ne _ _ n.pS.symm]; exact h.hS
 · rw [upd_ne _ _ n.pSc.symm]; exact h.hSc
 · rw [upd_ne _ _ (ap.rne hk).p]; exact h.hR k hk
theorem ZFr.setV (h : ZFr fr m I K Z) (ap : ZAp I Z.m) (c : Nat → Int) : ZFr fr (upd m I.V (some (bB I.vV Z.m c))) I K { Z with v := c } := by
 have n := ap.ne
 refine ⟨?_, upd_same _ _ _, ?_, ?_, ?_, ?_, ?_, ?_, ?_, fun k hk => ?_⟩
 · rw [upd_ne _ _ n.pV]; exact h.hp
 · rw [upd_ne _ _ n.VA.symm]; exact h.hA
 · rw [upd_ne _ _ n.VC.symm]; exact h.hC
 · rw [upd_ne _ _ n.VO.symm]; exact h.hO
 · rw [upd_ne _ _ n.VFr.symm]; exact h.hFr
 · rw [upd_ne _ _ n.VF.symm]; exact h.hF
 · rw [upd_ne _ _ n.VS.symm]; exact h.hS
 · rw [upd_ne _ _ n.VSc.symm]; exact h.hSc
 · rw [upd_ne _ _ (ap.rne hk).V]; exact h.hR k hk
theorem ZFr.setC (h : ZFr fr m I K Z) (ap : ZAp I Z.m) (c : Nat → Int) : ZFr fr (upd m I.C (some (bB 1 Z.n c))) I K { Z with g := c } := by
 have n := ap.ne
 refine ⟨?_, ?_, ?_, upd_same _ _ _, ?_, ?_, ?_, ?_, ?_, fun k hk => ?_⟩
 · rw [upd_ne _ _ n.pC]; exact h.hp
 · rw [upd_ne _ _ n.VC]; exact h.hV
 · rw [upd_ne _ _ n.AC]; exact h.hA
 · rw [upd_ne _ _ n.CO.symm]; exact h.hO
 · rw [upd_ne _ _ n.CFr.symm]; exact h.hFr
 · rw [upd_ne _ _ n.CF.symm]; exact h.hF
 · rw [upd_ne _ _ n.CS.symm]; exact h.hS
 · rw [upd_ne _ _ n.CSc.symm]; exact h.hSc
 · rw [upd_ne _ _ (ap.rne hk).C]; exact h.hR k hk
theorem ZFr.setO (h : ZFr fr m I K Z) (ap : ZAp I Z.m) (f : Nat → Nat) : ZFr fr (upd m I.O (some (iB 3 I.vO Z.m f))) I K { Z with own := f } := by
 have n := ap.ne
 refine ⟨?_, ?_, ?_, ?_, upd_same _ _ _, ?_, ?_, ?_, ?_, fun k hk => ?_⟩
 · rw [upd_ne _ _ n.pO]; exact h.hp
 · rw [upd_ne _ _ n.VO]; exact h.hV
 · rw [upd_ne _ _ n.AO]; exact h.hA
 · rw [upd_ne _ _ n.CO]; exact h.hC
 · rw [upd_ne _ _ n.OFr.symm]; exact h.hFr
 · rw [upd_ne _ _ n.OF.symm]; exact h.hF
 · rw [upd_ne _ _ n.OS.symm]; exact h.hS
 · rw [upd_ne _ _ n.OSc.symm]; exact h.hSc
 · rw [upd_ne _ _ (ap.rne hk).O]; exact h.hR k hk
theorem ZFr.setFr (h : ZFr fr m I K Z) (ap : ZAp I Z.m) (f : Nat → Nat) : ZAt (upd m I.Fr (some (iB 3 I.vFr Z.n f))) I K { Z with free := f } := by
 have n := ap.ne
 refine ⟨?_, ?_, ?_, ?_, ?_, upd_same _ _ _, ?_, ?_, ?_, fun k hk => ?_⟩
 · rw [upd_ne _ _ n.pFr]; exact h.hp
 · rw [upd_ne _ _ n.VFr]; exact h.hV
 · rw [upd_ne _ _ n.AFr]; exact h.hA
 · rw [upd_ne _ _ n.CFr]; exact h.hC
 · rw [upd_ne _ _ n.OFr]; exact h.hO
 · rw [upd_ne _ _ n.FrF.symm]; exact h.hF
 · rw [upd_ne _ _ n.FrS.symm]; exact h.hS
 · rw [upd_ne _ _ n.FrSc.symm]; exact h.hSc
 · rw [upd_ne _ _ (ap.rne hk).Fr]; exact h.hR k hk
theorem ZFr.setR (h : ZFr fr m I K Z) (ap : ZAp I Z.m) {r : Nat} (hr : r < Z.m) (c : Nat → Int) : ZFr fr (upd m (I.R r) (some (bB 1 Z.n c))) I K { Z with a := fun k => if k = r then c else Z.a k } := by
 have n := ap.rne hr
 refine ⟨?_, ?_, ?_, ?_, ?_, ?_, ?_, ?_, ?_, fun k hk => ?_⟩
 · rw [upd_ne _ _ n.p.symm]; exact h.hp
 · rw [upd_ne _ _ n.V.symm]; exact h.hV
 · rw [upd_ne _ _ n.A.symm]; exact h.hA
 · rw [upd_ne _ _ n.C.symm]; exact h.hC
 · rw [upd_ne _ _ n.O.symm]; exact h.hO
 · rw [upd_ne _ _ n.Fr.symm]; exact h.hFr
 · rw [upd_ne _ _ n.F.symm]; exact h.hF
 · rw [upd_ne _ _ n.S.symm]; exact h.hS
 · rw [upd_ne _ _ n.Sc.symm]; exact h.hSc
 · by_cases e : k = r
   · subst e; rw [upd_same]; simp
   · rw [upd_ne _ _ (ap.rr k r hk hr e)]; simp only [if_neg e]; exact h.hR k hk
theorem ZFr.congr (h : ZFr fr m I K Z) {v : Nat → Int} {a : Nat → Nat → Int} {g : Nat → Int} (hv : ∀ k, k < Z.m → v k = Z.v k) (ha : ∀ k j, k < Z.m → j < Z.n → a k j = Z.a k j) (hg : ∀ j, j < Z.n → g j = Z.g j) : ZFr fr m I K { Z with v := v, a := a, g := g } :=
 ⟨h.hp, by have := h.hV; unfold bB at this ⊢; rwa [← zl_congr hv] at this, h.hA, by have := h.hC; unfold bB at this ⊢; rwa [← zl_congr hg] at this, h.hO, h.hFr, h.hF, h.hS, h.hSc,
   fun k hk => by have := h.hR k hk; unfold bB at this ⊢; rwa [← zl_congr (ha k · hk)] at this⟩
theorem ZFr.congrA (h : ZFr fr m I K Z) {a : Nat → Nat → Int} (ha : ∀ k j, k < Z.m → j < Z.n → a k j = Z.a k j) : ZFr fr m I K { Z with a := a } := h.congr (fun _ _ => rfl) ha fun _ _ => rfl
end
section
variable [Ifl] {P : Program} {f : FuncId} {ds : List D} {m : Mem} {nx : Nat}
theorem CallA.same {d0 : D} (hd : okD (fun _ => false) d0 = true) (h : CallA P f ds m nx fun d m' nx' => d = d0 ∧ nx ≤ nx' ∧ ∀ id, id < nx → m' id = m id) : CallA P f ds m nx fun d m' nx' => d = d0 ∧ m' = m ∧ nx' = nx := by
 refine CallA.cl h.1 fun hcl => CallA.sub (h.mono ?_)
 rintro d m' nx' ⟨rfl, h1, h3⟩
 refine ⟨m, nx, Cl.sub hcl fun id b hi => ?_, okD_mono (fun _ h => by cases h) d hd, fun id hi => ?_, rfl, rfl, rfl⟩
 · rw [h3 id (hcl id b hi).1]; exact hi
 · cases hm : m id with
   | none => rw [hm] at hi; cases hi
   | some b => rw [h3 id (hcl id b hm).1, hm]
theorem EffC.look {d : D} {touch : List Nat} (hb : bodied P f) (hd : okD (fun _ => false) d = true)
    (h : ∀ (m1 : Mem) (NX : Nat), nx ≤ NX → (∀ id ∈ touch, m1 id = m id) → CallA P f ds m1 NX fun d' m' nx' => d' = d ∧ NX ≤ nx' ∧ ∀ id, id < NX → m' id = m1 id) : EffC P f ds m nx ⟨d, touch, [], false⟩ nx :=
 EffC.of hb (fun p hp => by cases hp) fun m1 NX hN ht => CallA.same hd (h m1 NX hN ht)
end
theorem ty_zp : tyOf Tryz.prog 94 = some ⟨0, 1, 8, some [.v (.pointer none)], 0, none, []⟩ := by kernel_rfl
theorem znext_a [Ifl] {I : ZI} {g : Nat} {q : Int} {m : Mem} {nx : Nat} (hp : m I.p = some (zpB I g q)) (lp : I.p < nx) (D0 : 0 < q) (x p f y : Int) (hd : q ∣ x * p - f * y)
    (zD : szZ q ≤ 20000) (zx : szZ x ≤ 20000) (zp : szZ p ≤ 20000) (zf : szZ f ≤ 20000) (zy : szZ y ≤ 20000) :
    CallA Tryz.prog 217 [.lp I.p 0 0 0, encZ x, encZ p, encZ f, encZ y] m nx fun d' m' nx' => d' = encZ ((x * p - f * y) / q) ∧ nx ≤ nx' ∧ ∀ id, id < nx → m' id = m id := by
 have hres := Tryz.results217
 have m1 := szZ_mul x p
 have m2 := szZ_mul f y
 have m3 := szZ_add (x * p) (-(f * y))
 rw [szZ_neg, ← Int.sub_eq_add_neg] at m3
 have k1 := zmul_c x p (by omega) (by omega)
 have k2 := zmul_c f y (by omega) (by omega)
 have k3 := zsub_c (x * p) (f * y) (by omega) (by omega)
 have k4 := exact_c (x * p - f * y) q D0 hd (by omega) (by omega)
 have n1 : I.p ≠ nx := by omega
 have n2 : I.p ≠ nx + 1 := by omega
 have n3 : I.p ≠ nx + 2 := by omega
 have n4 : I.p ≠ nx + 3 := by omega
 have n5 : I.p ≠ nx + 4 := by omega
 refine inA Tryz.func217 rfl Tryz.ntmps217 ?_
 have o1 : nx ≠ nx + 1 := by omega
 have o2 : nx ≠ nx + 2 := by omega
 have o3 : nx ≠ nx + 3 := by omega
 have o4 : nx ≠ nx + 4 := by omega
 refine aGoM (cj4 hres ty_zp hp (cj4 n1 n2 n3 (cj4 n4 n5 o1 (cj3 o2 o3 o4)))) ?_
 intro id hid
 repeat (rw [if_neg (by omega)])
theorem znext_e [Ifl] {I : ZI} {g : Nat} {q : Int} {m : Mem} {nx : Nat} (hp : m I.p = some (zpB I g q)) (lp : I.p < nx) (D0 : 0 < q) (x p f y : Int) (hd : q ∣ x * p - f * y)
    (zD : szZ q ≤ 20000) (zx : szZ x ≤ 20000) (zp : szZ p ≤ 20000) (zf : szZ f ≤ 20000) (zy : szZ y ≤ 20000) :
    EffC Tryz.prog 217 [.lp I.p 0 0 0, encZ x, encZ p, encZ f, encZ y] m nx ⟨encZ ((x * p - f * y) / q), [I.p], [], false⟩ nx :=
 EffC.look ⟨_, _, Tryz.func217, rfl, by kernel_rfl⟩ rfl fun m1 NX hN ht => znext_a ((ht I.p (by simp)).trans hp) (by omega) D0 x p f y hd zD zx zp zf zy
def ngU (j : Nat) (c : Nat → Int) : Nat → Int := fun u => if u < j then -(c u) else c u
theorem ngU_zero (c : Nat → Int) : ngU 0 c = c := by funext u; unfold ngU; rw [if_neg (by omega)]
theorem ngU_at (j : Nat) (c : Nat → Int) : ngU j c j = c j := by unfold ngU; rw [if_neg (by omega)]
theorem ngU_set {n j : Nat} (c : Nat → Int) : (zL n (ngU j c)).set j [dI (-(c j)).sign, encInts (digs (-(c j)).natAbs)] = zL n (ngU (j + 1) c) :=
 zl_set' _ _ fun u _ => by
  unfold ngU
  by_cases e : u = j
  · subst e; rw [if_pos rfl, if_pos (by omega)]
  · rw [if_neg e]
    by_cases h2 : u < j
    · rw [if_pos (by omega), if_pos h2]
    · rw [if_neg (by omega), if_neg h2]
theorem ngU_all {n k : Nat} (c : Nat → Int) (h : k < n) : ngU n c k = -(c k) := by unfold ngU; rw [if_pos h]
def ngA (i n : Nat) (a : Nat → Nat → Int) : Nat → Nat → Int := fun k => if k < i then ngU n (a k) else a k
theorem ngA_zero (n : Nat) (a : Nat → Nat → Int) : ngA 0 n a = a := by funext u; unfold ngA; rw [if_neg (by omega)]
theorem ngA_at (i n : Nat) (a : Nat → Nat → Int) : ngA i n a i = a i := by unfold ngA; rw [if_neg (by omega)]
theorem ngA_succ (i n : Nat) (a : Nat → Nat → Int) (k : Nat) : ngA (i + 1) n a k = if k = i then ngU n (a i) else ngA i n a k := by
 unfold ngA
 by_cases e : k = i
 · subst e; rw [if_pos rfl, if_pos (by omega)]
 · rw [if_neg e]
   by_cases h : k < i
   · rw [if_pos (by omega), if_pos h]
   · rw [if_neg (by omega), if_neg h]
theorem zturn_a [Ifl] {fr : List (List D)} {I : ZI} {K : ZK} {Z : ZD} {m : Mem} {nx : Nat} (h : ZFr fr m I K Z) (ap : ZAp I Z.m) (hm : (Z.m : Int) ≤ 4096) (hn : (Z.n : Int) ≤ 4096) (sz : ZSz Z 20000) :
    CallA Tryz.prog 218 [.lp I.p 0 0 0] m nx fun d' m' nx' => d' = oneD [] ∧ nx ≤ nx' ∧ ZFr fr m' I K Z.turn ∧ ∀ id, id < nx → ¬ inZ I Z.m id → m' id = m id := by
 refine CallA.cl ⟨_, _, Tryz.func218, rfl, by kernel_rfl⟩ fun hcl => ?_
 have hres := Tryz.results218
 refine inA Tryz.func218 rfl Tryz.ntmps218 ?_
 have lt := h.lt hcl
 have lp := lt _ inZ_p
 have lV := lt _ inZ_V
 have lC := lt _ inZ_C
 have ne := ap.ne
 have hp := h.hp
 have kD := pNeg_c Z.D (by have := sz.D; omega)
 refine aGoM (cj4 hres ty_zp hp Nat.zero_le) ?_
 repeat with_reducible intro K' hK
 refine aLoopM (fun (i : Nat) => [(0, .lp I.p 0 0 0), (2, dI i)]) nx
  (fun i m1 nx1 => i ≤ Z.m ∧ nx ≤ nx1 ∧ ZFr fr m1 I K { Z with D := -Z.D, v := ngU i Z.v, a := ngA i Z.n Z.a } ∧ ∀ id, id < nx → ¬ inZ I Z.m id → m1 id = m id) (fun i => Z.m - i) 0 ?_ ?_ ?_ ?_
 · rw [ngU_zero, ngA_zero]
   exact ⟨Nat.zero_le _, Nat.le_refl _, h.setP ap (-Z.D), fun id h1 h2 => upd_ne _ _ fun e => h2 (by rw [e]; exact inZ_p)⟩
 · rfl
 · simp [go_sem]
 · rintro i m1 nx1 ⟨hi, hnx, hD, hfr⟩
   obtain ⟨hw, i0⟩ := wrap2 i
   have hp1 : m1 I.p = some (zpB I K.gol (-Z.D)) := hD.hp
   have hV1 : m1 I.V = some (bB I.vV Z.m (ngU i Z.v)) := hD.hV
   have hC1 : m1 I.C = some (bB 1 Z.n Z.g) := hD.hC
   have lv := zl_len Z.m (ngU i Z.v)
   have lc := zl_len Z.n Z.g
   by_cases h1 : (i : Int) < Z.m
   · have him : i < Z.m := by omega
     have gv := zl_get (ngU i Z.v) him
     rw [ngU_at] at gv
     have sv := ngU_set (n := Z.m) (j := i) Z.v
     have kV := pNeg_c (Z.v i) (by have := sz.v i him; omega)
     refine aGoM (cj4 hres ty_zp hp1 (cj4 hV1 h1 lv (cj4 gv sv i0 (cj2 Nat.zero_le hw)))) ?_
     repeat with_reducible intro K' hK
     have eV := hD.setV ap (ngU (i + 1) Z.v)
     refine aLoopM (fun (j : Nat) => [(0, .lp I.p 0 0 0), (2, dI i), (3, dI j)]) nx
      (fun j m2 nx2 => j ≤ Z.n ∧ nx ≤ nx2 ∧ ZFr fr m2 I K { Z with D := -Z.D, v := ngU (i + 1) Z.v, a := fun k => if k = i then ngU j (Z.a i) else ngA i Z.n Z.a k } ∧ ∀ id, id < nx → ¬ inZ I Z.m id → m2 id = m id) (fun j => Z.n - j) 0 ?_ ?_ ?_ ?_
     · refine ⟨Nat.zero_le _, hnx, eV.congrA fun k j _ _ => ?_, fun id g1 g2 => (upd_ne _ _ fun e => g2 (by rw [e]; exact inZ_V)).trans (hfr id g1 g2)⟩
       by_cases e : k = i
       · subst e; rw [if_pos rfl, ngU_zero]; show _ = ngA k Z.n Z.a k j; rw [ngA_at]
       · rw [if_neg e]
     · rfl
     · simp [go_sem]
     · rintro j m2 nx2 ⟨hj, hnx2, hE, hfr2⟩
       obtain ⟨hwj, j0⟩ := wrap2 j
       have hp2 : m2 I.p = some (zpB I K.gol (-Z.D)) := hE.hp
       have hC2 : m2 I.C = some (bB 1 Z.n Z.g) := hE.hC
       by_cases h2 : (j : Int) < Z.n
       · have hjn : j < Z.n := by omega
         have hA2 : m2 I.A = some (rwB I Z.m) := hE.hA
         have gA := tab_get (fun k => [D.ls (I.R k) 1]) him
         have hR2 : m2 (I.R i) = some (bB 1 Z.n (ngU j (Z.a i))) := by
          have := hE.hR i him
          simp only [if_pos] at this
          exact this
         have gr := zl_get (ngU j (Z.a i)) hjn
         rw [ngU_at] at gr
         have sr := ngU_set (n := Z.n) (j := j) (Z.a i)
         have lr := zl_len Z.n (ngU j (Z.a i))
         have kR := pNeg_c (Z.a i j) (by have := sz.a i j him hjn; omega)
         have lR := lt _ (inZR him)
         refine aGoM (cj4 hres ty_zp hp2 (cj4 hC2 h2 lc (cj4 hA2 gA hR2 (cj4 gr sr lr (cj4 j0 i0 hwj (cj2 Nat.zero_le trivial)))))) ?_
         repeat with_reducible intro K' hK
         refine loop_endM (j + 1) ⟨by omega, hnx2, (hE.setR ap him (ngU (j + 1) (Z.a i))).congrA fun k u _ _ => ?_, fun id g1 g2 => (upd_ne _ _ fun e => g2 (by rw [e]; exact inZR him)).trans (hfr2 id g1 g2)⟩ (by omega) rfl (by simp [go_sem])
         by_cases e : k = i
         · subst e; simp only [if_pos]
         · simp only [if_neg e]
       · obtain rfl : j = Z.n := by omega
         refine aGoM (cj4 hres ty_zp hp2 (cj4 hC2 h2 lc hw)) ?_
         repeat with_reducible intro K' hK
         refine loop_endM (i + 1) ⟨by omega, hnx2, hE.congrA fun k u _ _ => by rw [ngA_succ], hfr2⟩ (by omega) rfl (by simp [go_sem])
   · obtain rfl : i = Z.m := by omega
     refine aGoM (cj4 hres ty_zp hp1 (cj4 hV1 h1 lv Nat.zero_le)) ?_
     repeat with_reducible intro K' hK
     refine aLoopM (fun (j : Nat) => [(0, .lp I.p 0 0 0), (4, dI j)]) nx
      (fun j m2 nx2 => j ≤ Z.n ∧ nx ≤ nx2 ∧ ZFr fr m2 I K { Z with D := -Z.D, v := ngU Z.m Z.v, a := ngA Z.m Z.n Z.a, g := ngU j Z.g } ∧ ∀ id, id < nx → ¬ inZ I Z.m id → m2 id = m id) (fun j => Z.n - j) 0 ?_ ?_ ?_ ?_
     · rw [ngU_zero]
       exact ⟨Nat.zero_le _, hnx, hD, hfr⟩
     · rfl
     · simp [go_sem]
     · rintro j m2 nx2 ⟨hj, hnx2, hE, hfr2⟩
       obtain ⟨hwj, j0⟩ := wrap2 j
       have hp2 : m2 I.p = some (zpB I K.gol (-Z.D)) := hE.hp
       have hC2 : m2 I.C = some (bB 1 Z.n (ngU j Z.g)) := hE.hC
       have lc2 := zl_len Z.n (ngU j Z.g)
       by_cases h2 : (j : Int) < Z.n
       · have hjn : j < Z.n := by omega
         have gr := zl_get (ngU j Z.g) hjn
         rw [ngU_at] at gr
         have sr := ngU_set (n := Z.n) (j := j) Z.g
         have kR := pNeg_c (Z.g j) (by have := sz.g j hjn; omega)
         refine aGoM (cj4 hres ty_zp hp2 (cj4 hC2 h2 lc2 (cj4 gr sr j0 (cj2 hwj Nat.zero_le)))) ?_
         repeat with_reducible intro K' hK
         exact loop_endM (j + 1) ⟨by omega, hnx2, hE.setC ap (ngU (j + 1) Z.g), fun id g1 g2 => (upd_ne _ _ fun e => g2 (by rw [e]; exact inZ_C)).trans (hfr2 id g1 g2)⟩ (by omega) rfl (by simp [go_sem])
       · obtain rfl : j = Z.n := by omega
         refine aGoM (cj4 hres ty_zp hp2 (cj4 hC2 h2 lc2 trivial)) ?_
         refine ⟨hE.congr (fun k hk => ?_) (fun k u hk hu => ?_) fun u hu => ?_, hfr2⟩
         · show -(Z.v k) = ngU Z.m Z.v k; rw [ngU_all _ hk]
         · show -(Z.a k u) = ngA Z.m Z.n Z.a k u; unfold ngA; rw [if_pos hk, ngU_all _ hu]
         · show -(Z.g u) = ngU Z.n Z.g u; rw [ngU_all _ hu]
section
variable (Z : ZD) (r s : Nat)
def zvK (i : Nat) : Nat → Int := fun k => if k < i then Z.v1 r s k else Z.v k
def zaK (i : Nat) : Nat → Nat → Int := fun k => if k < i ∧ k ≠ r then Z.a1 r s k else Z.a k
def zrJ (i j : Nat) : Nat → Int := fun u => if u < j ∧ u ≠ s then Z.a1 r s i u else Z.a i u
def zgJ (j : Nat) : Nat → Int := fun u => if u < j ∧ u ≠ s then Z.g1 r s u else Z.g u
theorem zvK_zero : zvK Z r s 0 = Z.v := by funext k; unfold zvK; rw [if_neg (by omega)]
theorem zaK_zero : zaK Z r s 0 = Z.a := by funext k; unfold zaK; rw [if_neg (by omega)]
theorem v1_r : Z.v1 r s r = Z.v r := by unfold ZD.v1; rw [if_pos rfl]
theorem zvK_r : zvK Z r s (r + 1) = zvK Z r s r := by
 funext k; unfold zvK
 by_cases e : k = r
 · subst e; rw [if_pos (by omega), if_neg (by omega), v1_r]
 · by_cases h : k < r
   · rw [if_pos (by omega), if_pos h]
   · rw [if_neg (by omega), if_neg h]
theorem zaK_r : zaK Z r s (r + 1) = zaK Z r s r := by
 funext k; unfold zaK
 by_cases e : k = r
 · subst e; rw [if_neg (by omega), if_neg (by omega)]
 · by_cases h : k < r
   · rw [if_pos ⟨by omega, e⟩, if_pos ⟨h, e⟩]
   · rw [if_neg (by omega), if_neg (by omega)]
variable {Z r s}
theorem zvK_at {i : Nat} : zvK Z r s i i = Z.v i := by unfold zvK; rw [if_neg (by omega)]
theorem zvK_ar {i : Nat} : zvK Z r s i r = Z.v r := by
 unfold zvK; split
 · exact v1_r Z r s
 · rfl
theorem zaK_at {i : Nat} : zaK Z r s i i = Z.a i := by unfold zaK; rw [if_neg (by omega)]
theorem zaK_ar {i : Nat} : zaK Z r s i r = Z.a r := by unfold zaK; rw [if_neg (by omega)]
theorem zv_set {m i : Nat} (h : i ≠ r) {x : Int} (hx : x = Z.nx (Z.v i) (Z.a r s) (Z.a i s) (Z.v r)) : (zL m (zvK Z r s i)).set i [dI x.sign, encInts (digs x.natAbs)] = zL m (zvK Z r s (i + 1)) :=
 zl_set' _ _ fun u _ => by
  unfold zvK
  by_cases e : u = i
  · subst e
    rw [if_pos rfl, if_pos (by omega), hx]; unfold ZD.v1; rw [if_neg h]
  · rw [if_neg e]
    by_cases h2 : u < i
    · rw [if_pos (by omega), if_pos h2]
    · rw [if_neg (by omega), if_neg h2]
theorem zrJ_zero {i : Nat} : zrJ Z r s i 0 = Z.a i := by funext u; unfold zrJ; rw [if_neg (by omega)]
theorem zrJ_skip {i : Nat} : zrJ Z r s i (s + 1) = zrJ Z r s i s := by
 funext u; unfold zrJ
 by_cases h : u < s
 · rw [if_pos ⟨by omega, by omega⟩, if_pos ⟨h, by omega⟩]
 · rw [if_neg (by omega), if_neg (by omega)]
theorem zrJ_at {i j : Nat} : zrJ Z r s i j j = Z.a i j := by unfold zrJ; rw [if_neg (by omega)]
theorem zr_set {n i j : Nat} (hi : i ≠ r) (h : j ≠ s) {x : Int} (hx : x = Z.nx (Z.a i j) (Z.a r s) (Z.a i s) (Z.a r j)) : (zL n (zrJ Z r s i j)).set j [dI x.sign, encInts (digs x.natAbs)] = zL n (zrJ Z r s i (j + 1)) :=
 zl_set' _ _ fun u _ => by
  unfold zrJ
  by_cases e : u = j
  · subst e
    rw [if_pos rfl, if_pos ⟨by omega, h⟩, hx]; unfold ZD.a1; rw [if_neg hi, if_neg h]
  · rw [if_neg e]
    by_cases h2 : u < j ∧ u ≠ s
    · rw [if_pos ⟨by omega, h2.2⟩, if_pos h2]
    · rw [if_neg (by omega), if_neg h2]
theorem zr_end {n i : Nat} (hi : i ≠ r) : (zL n (zrJ Z r s i n)).set s [dI (-(Z.a i s)).sign, encInts (digs (-(Z.a i s)).natAbs)] = zL n (Z.a1 r s i) :=
 zl_set' _ _ fun u hu => by
  unfold zrJ
  by_cases e : u = s
  · subst e; rw [if_pos rfl]; unfold ZD.a1; rw [if_neg hi, if_pos rfl]
  · rw [if_neg e, if_pos ⟨hu, e⟩]
theorem zaK_succ {i : Nat} (hi : i ≠ r) (k : Nat) : zaK Z r s (i + 1) k = if k = i then Z.a1 r s i else zaK Z r s i k := by
 unfold zaK
 by_cases e : k = i
 · subst e; rw [if_pos rfl, if_pos ⟨by omega, hi⟩]
 · rw [if_neg e]
   by_cases h : k < i ∧ k ≠ r
   · rw [if_pos ⟨by omega, h.2⟩, if_pos h]
   · rw [if_neg (by omega), if_neg h]
theorem zgJ_zero : zgJ Z r s 0 = Z.g := by funext u; unfold zgJ; rw [if_neg (by omega)]
theorem zgJ_skip : zgJ Z r s (s + 1) = zgJ Z r s s := by
 funext u; unfold zgJ
 by_cases h : u < s
 · rw [if_pos ⟨by omega, by omega⟩, if_pos ⟨h, by omega⟩]
 · rw [if_neg (by omega), if_neg (by omega)]
theorem zgJ_at {j : Nat} : zgJ Z r s j j = Z.g j := by unfold zgJ; rw [if_neg (by omega)]
theorem zg_set {n j : Nat} (h : j ≠ s) {x : Int} (hx : x = Z.nx (Z.g j) (Z.a r s) (Z.g s) (Z.a r j)) : (zL n (zgJ Z r s j)).set j [dI x.sign, encInts (digs x.natAbs)] = zL n (zgJ Z r s (j + 1)) :=
 zl_set' _ _ fun u _ => by
  unfold zgJ
  by_cases e : u = j
  · subst e
    rw [if_pos rfl, if_pos ⟨by omega, h⟩, hx]; unfold ZD.g1; rw [if_neg h]
  · rw [if_neg e]
    by_cases h2 : u < j ∧ u ≠ s
    · rw [if_pos ⟨by omega, h2.2⟩, if_pos h2]
    · rw [if_neg (by omega), if_neg h2]
theorem zg_end {n : Nat} : (zL n (zgJ Z r s n)).set s [dI (-(Z.g s)).sign, encInts (digs (-(Z.g s)).natAbs)] = zL n (Z.g1 r s) :=
 zl_set' _ _ fun u hu => by
  unfold zgJ
  by_cases e : u = s
  · subst e; rw [if_pos rfl]; unfold ZD.g1; rw [if_pos rfl]
  · rw [if_neg e, if_pos ⟨hu, e⟩]
theorem za_piv {n : Nat} : (zL n (Z.a r)).set s [dI Z.D.sign, encInts (digs Z.D.natAbs)] = zL n (Z.a1 r s r) :=
 zl_set' _ _ fun u hu => by
  unfold ZD.a1
  rw [if_pos rfl]
theorem zaK_end {m : Nat} (k : Nat) (hk : k < m) : (if k = r then Z.a1 r s r else zaK Z r s m k) = Z.a1 r s k := by
 by_cases e : k = r
 · rw [if_pos e, e]
 · rw [if_neg e]; unfold zaK; rw [if_pos ⟨hk, e⟩]
end
structure ZDiv (Z : ZD) (r s : Nat) : Prop where
 a : ∀ i j, i < Z.m → j < Z.n → i ≠ r → j ≠ s → Z.D ∣ Z.a i j * Z.a r s - Z.a i s * Z.a r j
 v : ∀ i, i < Z.m → i ≠ r → Z.D ∣ Z.v i * Z.a r s - Z.a i s * Z.v r
 g : ∀ j, j < Z.n → j ≠ s → Z.D ∣ Z.g j * Z.a r s - Z.g s * Z.a r j
def ZS (Z : ZD) : Prop := ZSz Z 20000
theorem zs_ex1 {Z : ZD} {r s : Nat} (h : ZS (Z.ex r s)) : ZS (Z.ex1 r s) := by
 unfold ZS ZD.ex at h
 by_cases e : Z.a r s < 0
 · rw [if_pos e] at h
   refine ⟨fun i j hi hj => ?_, fun i hi => ?_, fun j hj => ?_, ?_⟩
   · have := h.a i j hi hj
     have e : szZ (-((Z.ex1 r s).a i j)) ≤ 20000 := this
     rwa [szZ_neg] at e
   · have := h.v i hi
     have e : szZ (-((Z.ex1 r s).v i)) ≤ 20000 := this
     rwa [szZ_neg] at e
   · have := h.g j hj
     have e : szZ (-((Z.ex1 r s).g j)) ≤ 20000 := this
     rwa [szZ_neg] at e
   · have := h.D
     have e : szZ (-((Z.ex1 r s).D)) ≤ 20000 := this
     rwa [szZ_neg] at e
 · rw [if_neg e] at h
   exact ⟨h.a, h.v, h.g, h.D⟩
theorem zsign_lt {z : Int} : z.sign < 0 ↔ z < 0 := by
 rcases Int.lt_trichotomy z 0 with h | h | h
 · rw [Int.sign_eq_neg_one_of_neg h]; exact ⟨fun _ => h, fun _ => by decide⟩
 · subst h; decide
 · rw [Int.sign_eq_one_of_pos h]; exact ⟨fun h2 => absurd h2 (by decide), fun h2 => by omega⟩
theorem zsign_gt {z : Int} : z.sign > 0 ↔ z > 0 := by
 rcases Int.lt_trichotomy z 0 with h | h | h
 · rw [Int.sign_eq_neg_one_of_neg h]; exact ⟨fun h2 => absurd h2 (by decide), fun h2 => by omega⟩
 · subst h; decide
 · rw [Int.sign_eq_one_of_pos h]; exact ⟨fun _ => h, fun _ => by decide⟩
theorem zexch_a [Ifl] {I : ZI} {K : ZK} {Z : ZD} {m : Mem} {nx r s : Nat} (h : ZAt m I K Z) (ap : ZAp I Z.m) (hr : r < Z.m) (hs : s < Z.n) (D0 : 0 < Z.D) (sz : ZS Z) (szx : ZS (Z.ex r s)) (hm : (Z.m : Int) ≤ 4096) (hn : (Z.n : Int) ≤ 4096) (dv : ZDiv Z r s) :
    CallA Tryz.prog 167 [.lp I.p 0 0 0, dI r, dI s] m nx fun d' m' nx' => d' = oneD [] ∧ nx ≤ nx' ∧ ZAt m' I K (Z.ex r s) ∧ ∀ id, id < nx → ¬ inZ I Z.m id → m' id = m id := by
 refine CallA.cl ⟨_, _, Tryz.func167, rfl, by kernel_rfl⟩ fun hcl => ?_
 have hres := Tryz.results167
 refine inA Tryz.func167 rfl Tryz.ntmps167 ?_
 have lt := h.lt hcl
 have ne := ap.ne
 have rr := ap.rne hr
 have lp := lt _ inZ_p
 have lV := lt _ inZ_V
 have lA := lt _ inZ_A
 have lC := lt _ inZ_C
 have lO := lt _ inZ_O
 have lFr := lt _ inZ_Fr
 have lR := lt _ (inZR hr)
 have n1 : I.p ≠ nx := by omega
 have n2 : I.A ≠ nx := by omega
 have n3 : I.R r ≠ nx := by omega
 have hp := h.hp
 have hA := h.hA
 have hR := h.hR r hr
 have r0 : (0 : Int) ≤ r := by omega
 have s0 : (0 : Int) ≤ s := by omega
 have gA := tab_get (fun k => [D.ls (I.R k) 1]) hr
 have gR := zl_get (Z.a r) hs
 have zp := sz.a r s hr hs
 refine aGoM (cj4 hres ty_zp hp (cj4 hA hR n1 (cj4 n2 n3 r0 (cj4 s0 gA gR trivial)))) ?_
 repeat with_reducible intro K' hK
 refine aLoopM (fun (i : Nat) => [(0, .lp I.p 0 0 0), (1, dI r), (2, dI s), (6, .lp nx 0 0 0), (7, dI i)]) nx
  (fun i m1 nx1 => i ≤ Z.m ∧ nx < nx1 ∧ ZAt m1 I K { Z with v := zvK Z r s i, a := zaK Z r s i } ∧ m1 nx = some ⟨30, 0, 2, [cZ (Z.a r s)], 0, false⟩ ∧ ∀ id, id < nx → ¬ inZ I Z.m id → m1 id = m id) (fun i => Z.m - i) 0 ?_ ?_ ?_ ?_
 · rw [zvK_zero, zaK_zero]
   refine ⟨Nat.zero_le _, Nat.lt_succ_self _, (h.new fun id hi => ?_).new fun id hi => ?_, upd_same _ _ _, fun id h1 h2 => ?_⟩
   · have := lt id hi; omega
   · have := lt id hi; omega
   · exact (upd_ne _ _ (by omega)).trans (upd_ne _ _ (by omega))
 · rfl
 · simp [go_sem]
 · rintro i m1 nx1 ⟨hi, hnx, hD, eP, hfr⟩
   obtain ⟨hw, i0⟩ := wrap2 i
   have hp1 : m1 I.p = some (zpB I K.gol Z.D) := hD.hp
   have hV1 : m1 I.V = some (bB I.vV Z.m (zvK Z r s i)) := hD.hV
   have hA1 : m1 I.A = some (rwB I Z.m) := hD.hA
   have hC1 : m1 I.C = some (bB 1 Z.n Z.g) := hD.hC
   have lv := zl_len Z.m (zvK Z r s i)
   have lc := zl_len Z.n Z.g
   have x1 : nx ≠ nx1 := by omega
   have x2 : I.p ≠ nx1 := by omega
   have x3 : I.A ≠ nx1 := by omega
   have x4 : I.V ≠ nx1 := by omega
   by_cases h1 : (i : Int) < Z.m
   · have him : i < Z.m := by omega
     by_cases h2 : i = r
     · subst h2
       have h2b : ((i : Int) == i) = true := by simp
       refine aGoM (cj4 hres ty_zp hp1 (cj4 hV1 h1 lv (cj2 h2b hw))) ?_
       repeat with_reducible intro K' hK
       refine loop_endM (i + 1) ⟨by omega, hnx, ?_, eP, hfr⟩ (by omega) rfl (by simp [go_sem])
       rw [zvK_r, zaK_r]; exact hD
     · have h2b : ((i : Int) == r) = false := by simp; omega
       have hRi : m1 (I.R i) = some (bB 1 Z.n (Z.a i)) := (hD.hR i him).trans (by show some (bB 1 Z.n (zaK Z r s i i)) = _; rw [zaK_at])
       have gAi := tab_get (fun k => [D.ls (I.R k) 1]) him
       have gRi := zl_get (Z.a i) hs
       have gVi := zl_get (zvK Z r s i) him
       have gVr := zl_get (zvK Z r s i) hr
       rw [zvK_at] at gVi
       rw [zvK_ar] at gVr
       have lRi := lt _ (inZR him)
       have x5 : I.R i ≠ nx1 := by omega
       refine aGoM (cj4 hres ty_zp hp1 (cj4 hV1 h1 lv (cj4 hw hA1 hRi (cj4 gAi gRi gVi (cj4 gVr h2b x1 (cj4 x2 x3 x4 (cj4 x5 i0 s0 (cj3 eP r0 Nat.zero_le)))))))) ?_
       repeat with_reducible intro K' hK
       have hp2 : (upd (upd m1 nx1 (some ⟨30, 0, 2, [[dI 0, .nil]], 0, false⟩)) nx1 (some ⟨30, 0, 2, [cZ (Z.a i s)], 0, false⟩)) I.p = some (zpB I K.gol Z.D) := (upd_ne _ _ x2).trans ((upd_ne _ _ x2).trans hp1)
       refine callU_eff (znext_e hp2 (by omega) D0 (Z.v i) (Z.a r s) (Z.a i s) (Z.v r) (dv.v i him h2) sz.D (sz.v i him) zp (sz.a i s him hs) (sz.v r hr)) ?_
       have sv := zv_set (m := Z.m) h2 (x := (Z.v i * Z.a r s - Z.a i s * Z.v r) / Z.D) rfl
       refine aGoM (cj4 hres ty_zp hV1 (cj4 lv sv x4 (cj4 i0 x2 x1 (cj2 gVi Nat.zero_le)))) ?_
       repeat with_reducible intro K' hK
       have hm0 : ZAt (upd (upd m1 nx1 (some ⟨30, 0, 2, [[dI 0, .nil]], 0, false⟩)) nx1 (some ⟨30, 0, 2, [cZ (Z.a i s)], 0, false⟩)) I K { Z with v := zvK Z r s i, a := zaK Z r s i } :=
        (hD.new fun id hi => by have := lt id hi; omega).new fun id hi => by have := lt id hi; omega
       have hD2 := hm0.setV ap (zvK Z r s (i + 1))
       refine aLoopM (fun (j : Nat) => [(0, .lp I.p 0 0 0), (1, dI r), (2, dI s), (6, .lp nx 0 0 0), (7, dI i), (8, .lp nx1 0 0 0), (9, dI j)]) nx
        (fun j m2 nx2 => j ≤ Z.n ∧ nx1 < nx2 ∧ ZAt m2 I K { Z with v := zvK Z r s (i + 1), a := fun k => if k = i then zrJ Z r s i j else zaK Z r s i k } ∧ m2 nx = some ⟨30, 0, 2, [cZ (Z.a r s)], 0, false⟩ ∧ m2 nx1 = some ⟨30, 0, 2, [cZ (Z.a i s)], 0, false⟩ ∧ ∀ id, id < nx → ¬ inZ I Z.m id → m2 id = m id) (fun j => Z.n - j) 0 ?_ ?_ ?_ ?_
       · refine ⟨Nat.zero_le _, Nat.lt_succ_self _, hD2.congrA fun k u _ _ => ?_, ?_, ?_, fun id g1 g2 => ?_⟩
         · by_cases e : k = i
           · subst e; rw [if_pos rfl, zrJ_zero]; show _ = zaK Z r s k k u; rw [zaK_at]
           · rw [if_neg e]
         · exact (upd_ne _ _ (by omega)).trans ((upd_ne _ _ (by omega)).trans ((upd_ne _ _ (by omega)).trans eP))
         · exact (upd_ne _ _ (by omega)).trans (upd_same _ _ _)
         · exact (upd_ne _ _ fun e => g2 (by rw [e]; exact inZ_V)).trans ((upd_ne _ _ (by omega)).trans ((upd_ne _ _ (by omega)).trans (hfr id g1 g2)))
       · rfl
       · simp [go_sem]
       · clear hm0 hD2 hp2 sv gVi gVr hV1 hp1 hA1 hRi hC1 lv
         rintro j m2 nx2 ⟨hj, hnx2, hE, eP2, eF2, hfr2⟩
         obtain ⟨hwj, j0⟩ := wrap2 j
         have hp2 : m2 I.p = some (zpB I K.gol Z.D) := hE.hp
         have hC2 : m2 I.C = some (bB 1 Z.n Z.g) := hE.hC
         have hA2 : m2 I.A = some (rwB I Z.m) := hE.hA
         have hRi : m2 (I.R i) = some (bB 1 Z.n (zrJ Z r s i j)) := by
          have := hE.hR i him
          simp only [if_pos] at this
          exact this
         have lr := zl_len Z.n (zrJ Z r s i j)
         by_cases h3 : (j : Int) < Z.n
         · have hjn : j < Z.n := by omega
           by_cases h4 : j = s
           · subst h4
             have h4b : ((j : Int) != j) = false := by simp
             refine aGoM (cj4 hres ty_zp hp2 (cj4 hC2 h3 lc (cj2 h4b hwj))) ?_
             repeat with_reducible intro K' hK
             refine loop_endM (j + 1) ⟨by omega, hnx2, ?_, eP2, eF2, hfr2⟩ (by omega) rfl (by simp [go_sem])
             rw [zrJ_skip]; exact hE
           · have h4b : ((j : Int) != s) = true := by simp; omega
             have hRr : m2 (I.R r) = some (bB 1 Z.n (Z.a r)) := by
              have := hE.hR r hr
              simp only [if_neg (Ne.symm h2)] at this
              rw [zaK_ar] at this
              exact this
             have gAr := tab_get (fun k => [D.ls (I.R k) 1]) hr
             have gij := zl_get (zrJ Z r s i j) hjn
             rw [zrJ_at] at gij
             have grj := zl_get (Z.a r) hjn
             refine aGoM (cj4 hres ty_zp hp2 (cj4 hC2 h3 lc (cj4 hwj hA2 hRi (cj4 hRr gAi gAr (cj4 gij grj h4b (cj4 j0 i0 r0 (cj4 eP2 eF2 Nat.zero_le trivial))))))) ?_
             repeat with_reducible intro K' hK
             refine callU_eff (znext_e hp2 (by omega) D0 (Z.a i j) (Z.a r s) (Z.a i s) (Z.a r j) (dv.a i j him hjn h2 h4) sz.D (sz.a i j him hjn) zp (sz.a i s him hs) (sz.a r j hr hjn)) ?_
             have sr := zr_set (n := Z.n) h2 h4 (x := (Z.a i j * Z.a r s - Z.a i s * Z.a r j) / Z.D) rfl
             refine aGoM (cj4 hres ty_zp hRi (cj4 lr sr j0 (cj3 hwj gij Nat.zero_le))) ?_
             repeat with_reducible intro K' hK
             refine loop_endM (j + 1) ⟨by omega, hnx2, (hE.setR ap him (zrJ Z r s i (j + 1))).congrA fun k u _ _ => ?_, ?_, ?_, fun id g1 g2 => (upd_ne _ _ fun e => g2 (by rw [e]; exact inZR him)).trans (hfr2 id g1 g2)⟩ (by omega) rfl (by simp [go_sem])
             · by_cases e : k = i
               · subst e; simp only [if_pos]
               · simp only [if_neg e]
             · exact (upd_ne _ _ (by omega)).trans eP2
             · exact (upd_ne _ _ (by omega)).trans eF2
         · obtain rfl : j = Z.n := by omega
           have kN := pNeg_c (Z.a i s) (by have := sz.a i s him hs; omega)
           have sr := zr_end (n := Z.n) (Z := Z) (s := s) h2
           have gis : (zL Z.n (zrJ Z r s i Z.n))[s]? = some _ := zl_get (zrJ Z r s i Z.n) hs
           refine aGoM (cj4 hres ty_zp hp2 (cj4 hC2 h3 lc (cj4 hA2 hRi gAi (cj4 lr sr s0 (cj4 i0 hw eF2 (cj2 gis Nat.zero_le)))))) ?_
           repeat with_reducible intro K' hK
           refine loop_endM (i + 1) ⟨by omega, Nat.lt_trans hnx hnx2, (hE.setR ap him (Z.a1 r s i)).congrA fun k u _ _ => ?_, ?_, fun id g1 g2 => (upd_ne _ _ fun e => g2 (by rw [e]; exact inZR him)).trans (hfr2 id g1 g2)⟩ (by omega) rfl (by simp [go_sem])
           · rw [zaK_succ h2]
             by_cases e : k = i
             · subst e; simp only [if_pos]
             · simp only [if_neg e]
           · exact (upd_ne _ _ (by omega)).trans eP2
   · obtain rfl : i = Z.m := by omega
     have gC := zl_get Z.g hs
     refine aGoM (cj4 hres ty_zp hp1 (cj4 hV1 h1 lv (cj4 hC1 gC s0 x2))) ?_
     repeat with_reducible intro K' hK
     refine aLoopM (fun (j : Nat) => [(0, .lp I.p 0 0 0), (1, dI r), (2, dI s), (6, .lp nx 0 0 0), (10, .lp nx1 0 0 0), (11, dI j)]) nx
      (fun j m2 nx2 => j ≤ Z.n ∧ nx1 < nx2 ∧ ZAt m2 I K { Z with v := Z.v1 r s, a := zaK Z r s Z.m, g := zgJ Z r s j } ∧ m2 nx = some ⟨30, 0, 2, [cZ (Z.a r s)], 0, false⟩ ∧ m2 nx1 = some ⟨30, 0, 2, [cZ (Z.g s)], 0, false⟩ ∧ ∀ id, id < nx → ¬ inZ I Z.m id → m2 id = m id) (fun j => Z.n - j) 0 ?_ ?_ ?_ ?_
     · rw [zgJ_zero]
       have hm0 : ZAt (upd (upd m1 nx1 (some ⟨30, 0, 2, [[dI 0, .nil]], 0, false⟩)) nx1 (some ⟨30, 0, 2, [cZ (Z.g s)], 0, false⟩)) I K { Z with v := zvK Z r s Z.m, a := zaK Z r s Z.m } :=
        (hD.new fun id hi => by have := lt id hi; omega).new fun id hi => by have := lt id hi; omega
       refine ⟨Nat.zero_le _, Nat.lt_succ_self _, hm0.congr (fun k hk => ?_) (fun _ _ _ _ => rfl) (fun _ _ => rfl), ?_, upd_same _ _ _, fun id g1 g2 => ?_⟩
       · show Z.v1 r s k = zvK Z r s Z.m k
         unfold zvK; rw [if_pos hk]
       · exact (upd_ne _ _ x1).trans ((upd_ne _ _ x1).trans eP)
       · exact (upd_ne _ _ (by omega)).trans ((upd_ne _ _ (by omega)).trans (hfr id g1 g2))
     · rfl
     · simp [go_sem]
     · clear hV1 hp1 hA1 hC1 lv gC
       rintro j m2 nx2 ⟨hj, hnx2, hE, eP2, eF2, hfr2⟩
       obtain ⟨hwj, j0⟩ := wrap2 j
       have hp2 : m2 I.p = some (zpB I K.gol Z.D) := hE.hp
       have hC2 : m2 I.C = some (bB 1 Z.n (zgJ Z r s j)) := hE.hC
       have hA2 : m2 I.A = some (rwB I Z.m) := hE.hA
       have hRr : m2 (I.R r) = some (bB 1 Z.n (Z.a r)) := (hE.hR r hr).trans (by show some (bB 1 Z.n (zaK Z r s Z.m r)) = _; rw [zaK_ar])
       have gAr := tab_get (fun k => [D.ls (I.R k) 1]) hr
       have lc2 := zl_len Z.n (zgJ Z r s j)
       by_cases h3 : (j : Int) < Z.n
       · have hjn : j < Z.n := by omega
         by_cases h4 : j = s
         · subst h4
           have h4b : ((j : Int) != j) = false := by simp
           refine aGoM (cj4 hres ty_zp hp2 (cj4 hC2 h3 lc2 (cj2 h4b hwj))) ?_
           repeat with_reducible intro K' hK
           refine loop_endM (j + 1) ⟨by omega, hnx2, ?_, eP2, eF2, hfr2⟩ (by omega) rfl (by simp [go_sem])
           rw [zgJ_skip]; exact hE
         · have h4b : ((j : Int) != s) = true := by simp; omega
           have gj := zl_get (zgJ Z r s j) hjn
           rw [zgJ_at] at gj
           have grj := zl_get (Z.a r) hjn
           refine aGoM (cj4 hres ty_zp hp2 (cj4 hC2 h3 lc2 (cj4 hwj hA2 hRr (cj4 gAr gj grj (cj4 h4b j0 r0 (cj3 eP2 eF2 Nat.zero_le)))))) ?_
           repeat with_reducible intro K' hK
           refine callU_eff (znext_e hp2 (by omega) D0 (Z.g j) (Z.a r s) (Z.g s) (Z.a r j) (dv.g j hjn h4) sz.D (sz.g j hjn) zp (sz.g s hs) (sz.a r j hr hjn)) ?_
           have sr := zg_set (n := Z.n) h4 (x := (Z.g j * Z.a r s - Z.g s * Z.a r j) / Z.D) rfl
           refine aGoM (cj4 hres ty_zp hC2 (cj4 lc2 sr j0 (cj3 hwj gj Nat.zero_le))) ?_
           repeat with_reducible intro K' hK
           refine loop_endM (j + 1) ⟨by omega, hnx2, hE.setC ap (zgJ Z r s (j + 1)), ?_, ?_, fun id g1 g2 => (upd_ne _ _ fun e => g2 (by rw [e]; exact inZ_C)).trans (hfr2 id g1 g2)⟩ (by omega) rfl (by simp [go_sem])
           · exact (upd_ne _ _ (by omega)).trans eP2
           · exact (upd_ne _ _ (by omega)).trans eF2
       · obtain rfl : j = Z.n := by omega
         have kN := pNeg_c (Z.g s) (by have := sz.g s hs; omega)
         have sr := zg_end (n := Z.n) (Z := Z) (s := s) (r := r)
         have gis : (zL Z.n (zgJ Z r s Z.n))[s]? = some _ := zl_get (zgJ Z r s Z.n) hs
         have grs : (zL Z.n (Z.a r))[s]? = some _ := zl_get (Z.a r) hs
         have sa := za_piv (n := Z.n) (Z := Z) (s := s) (r := r)
         have la := zl_len Z.n (Z.a r)
         have y1 := rr.C
         have y2 := rr.p
         have y3 := rr.A
         have y4 := ne.pC
         have y5 := ne.AC
         have y6 := rr.p.symm
         have y7 := rr.C.symm
         have y8 : nx ≠ I.C := by omega
         have y9 : nx ≠ I.R r := by omega
         have y10 : nx ≠ I.p := by omega
         have y11 := ne.pC.symm
         have hX : ZAt (upd (upd (upd m2 I.C (some (bB 1 Z.n (Z.g1 r s)))) (I.R r) (some (bB 1 Z.n (Z.a1 r s r)))) I.p (some (zpB I K.gol (Z.a r s)))) I K (Z.ex1 r s) :=
          (((hE.setC ap (Z.g1 r s)).setR ap hr (Z.a1 r s r)).setP ap (Z.a r s)).congrA fun k u hk _ => (congrFun (zaK_end k hk) u).symm
         have go := tab_get (fun i => [dI (Z.own i)]) hr
         have gf := tab_get (fun i => [dI (Z.free i)]) hs
         have so := ints_set (k := Z.m) (r := r) Z.own (Z.free s)
         have sf := ints_set (k := Z.n) (r := s) Z.free (Z.own r)
         have u1 := ne.pO
         have u2 := ne.pFr
         have u3 := ne.OFr
         have u4 := ne.OFr.symm
         have hfX : ∀ id, id < nx → ¬ inZ I Z.m id → (upd (upd (upd m2 I.C (some (bB 1 Z.n (Z.g1 r s)))) (I.R r) (some (bB 1 Z.n (Z.a1 r s r)))) I.p (some (zpB I K.gol (Z.a r s)))) id = m id := fun id g1 g2 =>
          (upd_ne _ _ fun e => g2 (by rw [e]; exact inZ_p)).trans ((upd_ne _ _ fun e => g2 (by rw [e]; exact inZR hr)).trans ((upd_ne _ _ fun e => g2 (by rw [e]; exact inZ_C)).trans (hfr2 id g1 g2)))
         by_cases hneg : (Z.a r s).sign < 0
         · refine aGoM (cj4 hres ty_zp hp2 (cj4 hC2 h3 lc2 (cj4 hA2 hRr gAr (cj4 gis sr s0 (cj4 r0 eF2 eP2 (cj4 grs sa la (cj4 y1 y2 y3 (cj4 y4 y5 y6 (cj4 y7 y8 y9 (cj4 y10 y11 hneg Nat.zero_le)))))))))) ?_
           repeat with_reducible intro K' hK
           refine callT_eff (zturn_a hX ap hm hn (zs_ex1 szx)) ?_
           rintro _ m3 nx3 ⟨rfl, hn3, hT, hf3⟩
           have hp3 : m3 I.p = some (zpB I K.gol (-(Z.a r s))) := hT.hp
           have hO3 : m3 I.O = some (iB 3 I.vO Z.m Z.own) := hT.hO
           have hF3 : m3 I.Fr = some (iB 3 I.vFr Z.n Z.free) := hT.hFr
           refine aGoM (cj4 hres ty_zp hp3 (cj4 hO3 hF3 go (cj4 gf so sf (cj4 u1 u2 u3 (cj4 u4 r0 s0 Nat.zero_le))))) ?_
           refine ⟨?_, fun id g1 g2 => ?_⟩
           · have := (hT.setO ap (Dic.up Z.own r (Z.free s))).setFr ap (Dic.up Z.free s (Z.own r))
             unfold ZD.ex
             rw [if_pos (zsign_lt.1 hneg)]
             exact this
           · rw [if_neg (fun e => g2 (by rw [e]; exact inZ_Fr)), if_neg (fun e => g2 (by rw [e]; exact inZ_O))]
             exact (hf3 id (by omega) g2).trans (hfX id g1 g2)
         · have hO2 : m2 I.O = some (iB 3 I.vO Z.m Z.own) := hE.hO
           have hF2 : m2 I.Fr = some (iB 3 I.vFr Z.n Z.free) := hE.hFr
           have v1 := ne.pO.symm
           have v2 := ne.pFr.symm
           have v3 := rr.O.symm
           have v4 := rr.Fr.symm
           have v5 := ne.CO.symm
           have v6 := ne.CFr.symm
           refine aGoM (cj4 hres ty_zp hp2 (cj4 hC2 h3 lc2 (cj4 hA2 hRr gAr (cj4 gis sr s0 (cj4 r0 eF2 eP2 (cj4 grs sa la (cj4 y1 y2 y3 (cj4 y4 y5 y6 (cj4 y7 y8 y9 (cj4 y10 y11 hneg (cj4 hO2 hF2 go (cj4 gf so sf (cj4 u1 u2 u3 (cj4 u4 v1 v2 (cj4 v3 v4 v5 (cj2 v6 Nat.zero_le)))))))))))))))) ?_
           refine ⟨?_, fun id g1 g2 => ?_⟩
           · have := (hX.setO ap (Dic.up Z.own r (Z.free s))).setFr ap (Dic.up Z.free s (Z.own r))
             unfold ZD.ex
             rw [if_neg (fun h => hneg (zsign_lt.2 h))]
             exact this
           · have := hfX id g1 g2
             rw [if_neg (fun e => g2 (by rw [e]; exact inZ_Fr)), if_neg (fun e => g2 (by rw [e]; exact inZ_O))]
             simp only [upd_get] at this
             exact this
end Go.Proofs.YtpkdhmnlpnijhaaGreat
