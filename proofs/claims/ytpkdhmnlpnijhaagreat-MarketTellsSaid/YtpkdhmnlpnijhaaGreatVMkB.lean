/-
  Layer 44: offers and deals as data; market's between, Right, dot, cost, terms.
-/
import Derived.Test.YtpkdhmnlpnijhaaGreatVMkA
import Derived.Test.YtpkdhmnlpnijhaaGreatVNf
import Derived.Test.YtpkdhmnlpnijhaaGreatVLinB
import Derived.Test.YtpkdhmnlpnijhaaGreatVSimI
namespace Go.Proofs.YtpkdhmnlpnijhaaGreat
set_option linter.unusedVariables false
set_option linter.unusedSimpArgs false
set_option linter.unusedSectionVars false
open Go Go.RowKit
set_option maxRecDepth 100000
set_option maxHeartbeats 8000000
structure DealD where
 x : List FracD
 p : List FracD
 v : FracD
abbrev cOf (o : OffD) : List D := [encInts o.wants, dI o.price]
abbrev encOf (o : OffD) : D := .agg (cOf o)
abbrev encOfs (l : List OffD) : D := .sl (l.map cOf)
abbrev cDl (d : DealD) : List D := [encFs d.x, encFs d.p, dI d.v.p.s, encInts d.v.p.d, dI d.v.q.s, encInts d.v.q.d]
abbrev encDl (d : DealD) : D := .agg (cDl d)
abbrev zDl : DealD := ⟨[], [], zF⟩
def inB (most x : Int) : Bool := decide (0 ≤ x) && decide (x ≤ most)
def betB (most : Int) (l : List Int) : Bool := l.all (inB most)
def outI (most : Int) (l : List Int) : Int := if betB most l then -1 else l.findIdx (fun y => !inB most y)
theorem outI_ge (most : Int) (l : List Int) : decide (outI most l ≥ 0) = !betB most l := by
 unfold outI
 cases betB most l
 · simp only [Bool.false_eq_true, if_false, Bool.not_false]; exact decide_eq_true (by omega)
 · rfl
theorem bet1_c (most x : Int) : ContractN Tryz.prog 180 [dI x, .ep [[dI most]] 0 0] (dB (!inB most x)) := by
 refine Contract.toN ?_ rfl
 have hres := Tryz.results180
 refine inC Tryz.func180 rfl Tryz.ntmps180 ?_
 by_cases h1 : x < 0
 · refine aGo (cj2 hres h1) ?_
   repeat with_reducible intro K hK
   exact bool_eq (by simp [inB]; omega)
 by_cases h2 : x > most
 · refine aGo (cj3 hres h1 h2) ?_
   repeat with_reducible intro K hK
   exact bool_eq (by simp [inB]; omega)
 · refine aGo (cj3 hres h1 h2) ?_
   repeat with_reducible intro K hK
   exact bool_eq (by simp [inB]; omega)
theorem betI_c (most : Int) (l : List Int) (hl : (l.length : Int) ≤ 4096) : ContractN Tryz.prog 196 [encInts l, .clo 180 [.ep [[dI most]] 0 0]] (dI (outI most l)) := by
 refine Contract.toN ?_ rfl
 refine inC Tryz.func196 rfl Tryz.ntmps196 ?_
 have hres := Tryz.results196
 refine aGo hres ?_
 repeat with_reducible intro K hK
 refine aLoopT (fun (k : Nat) => [(0, encInts l), (1, .clo 180 [.ep [[dI most]] 0 0]), (7, dI l.length), (8, dI k)]) (fun _ => []) 0 0 (fun k => k ≤ l.length ∧ (l.take k).all (inB most) = true) (fun k => l.length - k) 0 ⟨by omega, rfl⟩ ?_ ?_
 · exact leGo trivial
 · rintro k ⟨hk, hn⟩
   obtain ⟨hw, h0⟩ := wrap2 k
   by_cases h1 : (k : Int) < l.length
   · obtain ⟨f, hx⟩ := getE (l := l) (k := k) (by omega)
     have hc := bet1_c most f
     cases h2 : inB most f
     · rw [h2] at hc
       refine aGo (cj4 hres h0 h1 (cj2 hx hw)) ?_
       repeat with_reducible intro K hK
       have : outI most l = k := by
        have h3 : betB most l = false := all_not hx h2
        simp only [outI, h3, any_take_no hx hn h2]; rfl
       rw [this]
     · rw [h2] at hc
       refine aGo (cj4 hres h0 h1 (cj2 hx hw)) ?_
       repeat with_reducible intro K hK
       exact loop_end (k + 1) ⟨by omega, all_take_succ hx hn h2⟩ (by omega) (by exact leGo trivial)
   · refine aGo (cj2 hres h1) ?_
     repeat with_reducible intro K hK
     rw [List.take_of_length_le (by omega)] at hn
     have : outI most l = -1 := by have h3 : betB most l = true := hn; simp only [outI, h3]; rfl
     rw [this]
theorem betC_c (most : Int) (l : List Int) (hl : (l.length : Int) ≤ 4096) : ContractN Tryz.prog 179 [encInts l, .clo 180 [.ep [[dI most]] 0 0]] (dB (!betB most l)) := by
 refine Contract.toN ?_ rfl
 refine inC Tryz.func179 rfl Tryz.ntmps179 ?_
 have hres := Tryz.results179
 have hc := betI_c most l hl
 refine aGo hres ?_
 repeat with_reducible intro K hK
 exact bool_eq (outI_ge _ _)
theorem between_c (most : Int) (l : List Int) (hl : (l.length : Int) ≤ 4096) : ContractN Tryz.prog 94 [dI most, encInts l] (dB (betB most l)) := by
 refine Contract.toN ?_ rfl
 refine inC Tryz.func94 rfl Tryz.ntmps94 ?_
 have hres := Tryz.results94
 have hc := betC_c most l hl
 refine aGo hres ?_
 repeat with_reducible intro K hK
 exact bool_eq (by simp)
def rightO (n : Nat) (o : OffD) : Bool := decide (o.wants.length = n) && betB 1000000 o.wants && betB 1125899906842624 [o.price]
def right44 (supply : List Int) (offers : List OffD) : Bool := decide (1 ≤ supply.length) && decide (supply.length ≤ 6) && decide (offers.length ≤ 12) && betB 1000000 supply && offers.all (rightO supply.length)
structure SmM (supply : List Int) (offers : List OffD) : Prop where
 s : supply.length ≤ 8
 o : offers.length ≤ 15
 w : ∀ o ∈ offers, o.wants.length ≤ 8
theorem right44_c (supply : List Int) (offers : List OffD) (h : SmM supply offers) : ContractN Tryz.prog 18 [encInts supply, encOfs offers] (dB (right44 supply offers)) := by
 refine Contract.toN ?_ rfl
 have hres := Tryz.results18
 obtain ⟨hs, ho, hw⟩ := h
 have kb := between_c 1000000 supply (by omega)
 by_cases h1 : (supply.length : Int) < 1
 · refine inC Tryz.func18 rfl Tryz.ntmps18 ?_
   refine aGo (cj2 hres h1) ?_
   repeat with_reducible intro K hK
   exact bool_eq (by simp [right44]; omega)
 by_cases h2 : (supply.length : Int) > 6
 · refine inC Tryz.func18 rfl Tryz.ntmps18 ?_
   refine aGo (cj3 hres h1 h2) ?_
   repeat with_reducible intro K hK
   exact bool_eq (by simp [right44]; omega)
 by_cases h3 : (offers.length : Int) > 12
 · refine inC Tryz.func18 rfl Tryz.ntmps18 ?_
   refine aGo (cj4 hres h1 h2 h3) ?_
   repeat with_reducible intro K hK
   exact bool_eq (by simp [right44]; omega)
 cases h4 : betB 1000000 supply
 · rw [h4] at kb
   refine inC Tryz.func18 rfl Tryz.ntmps18 ?_
   refine aGo (cj4 hres h1 h2 h3) ?_
   repeat with_reducible intro K hK
   exact bool_eq (by simp [right44, h4])
 rw [h4] at kb
 have e0 : right44 supply offers = offers.all (rightO supply.length) := by
  have a1 : decide (1 ≤ supply.length) = true := decide_eq_true (by omega)
  have a2 : decide (supply.length ≤ 6) = true := decide_eq_true (by omega)
  have a3 : decide (offers.length ≤ 12) = true := decide_eq_true (by omega)
  simp only [right44, a1, a2, a3, h4, Bool.true_and]
 rw [e0]
 refine inC Tryz.func18 rfl Tryz.ntmps18 ?_
 refine aGo (cj4 hres h1 h2 h3) ?_
 repeat with_reducible intro K hK
 refine aLoopT (fun (k : Nat) => [(0, encInts supply), (1, encOfs offers), (25, encOfs offers), (26, dI offers.length), (27, dI k)]) (fun _ => []) 0 0 (fun k => k ≤ offers.length ∧ (offers.take k).all (rightO supply.length) = true) (fun k => offers.length - k) 0 ⟨by omega, rfl⟩ ?_ ?_
 · exact leGo trivial
 · rintro k ⟨hk, hg⟩
   obtain ⟨hwk, h0⟩ := wrap2 k
   by_cases h5 : (k : Int) < offers.length
   · obtain ⟨o, hx⟩ := getE (l := offers) (k := k) (by omega)
     have hm := hw o (mem_at hx)
     have k1 := between_c 1000000 o.wants (by omega)
     have k2 := between_c 1125899906842624 [o.price] (by simp)
     have bad : rightO supply.length o = false → D.v (.bool false) = dB (offers.all (rightO supply.length)) := fun h => bool_eq (by rw [all_not hx h])
     cases h6 : (o.wants.length : Int) != supply.length
     · have h6' : o.wants.length = supply.length := by simp at h6; omega
       cases h7 : betB 1000000 o.wants
       · rw [h7] at k1
         refine aGo (cj4 hres h0 h5 (cj3 hx hwk h6)) ?_
         repeat with_reducible intro K hK
         exact bad (by simp [rightO, h7])
       rw [h7] at k1
       cases h8 : betB 1125899906842624 [o.price]
       · rw [h8] at k2
         refine aGo (cj4 hres h0 h5 (cj3 hx hwk h6)) ?_
         repeat with_reducible intro K hK
         exact bad (by simp [rightO, h8])
       · rw [h8] at k2
         refine aGo (cj4 hres h0 h5 (cj3 hx hwk h6)) ?_
         repeat with_reducible intro K hK
         exact loop_end (k + 1) ⟨by omega, all_take_succ hx hg (by simp [rightO, h6', h7, h8])⟩ (by omega) (by exact leGo trivial)
     · refine aGo (cj4 hres h0 h5 (cj3 hx hwk h6)) ?_
       repeat with_reducible intro K hK
       exact bad (by simp at h6; simp [rightO]; omega)
   · refine aGo (cj2 hres h5) ?_
     repeat with_reducible intro K hK
     rw [List.take_of_length_le (by omega)] at hg
     exact bool_eq hg.symm
theorem nI_c (n : Int) (h0 : 0 ≤ n) (h : n ≤ 9223372036854775807) : ContractN Tryz.prog 80 [dI n] (encF (ofQ (n : Rat))) := by
 exact nInt_c n (by omega) h
def dotI (fs : List FracD) (n : Nat → Int) (k : Nat) : Rat := sumN k fun i => atP fs i * (n i : Rat)
theorem dotI_sz {fs : List FracD} {n : Nat → Int} {B C : Nat} (of : okP fs = true) (hz : ∀ f ∈ fs, szF f ≤ B) (hn : ∀ i, i < fs.length → szQ (n i : Rat) ≤ C) : ∀ k, k ≤ fs.length → szQ (dotI fs n k) ≤ 1 + k * (B + C + 1)
 | 0, _ => by have := sz_0; simp only [dotI, sumN]; omega
 | k + 1, hk => by
   have ih := dotI_sz of hz hn k (by omega)
   have e : dotI fs n (k + 1) = dotI fs n k + atP fs k * (n k : Rat) := rfl
   have hx : fs[k]? = some fs[k] := List.getElem?_eq_getElem (by omega)
   have ha : atP fs k = qOf fs[k] := by unfold atP; rw [Int.toNat_natCast, hx]; rfl
   have o := List.all_eq_true.1 of _ (List.getElem_mem (show k < fs.length by omega))
   have z := hz _ (List.getElem_mem (show k < fs.length by omega))
   have a := szQ_mul (qOf fs[k]) (n k : Rat)
   rw [szF_ok o] at a
   have b := szQ_add (dotI fs n k) (qOf fs[k] * (n k : Rat))
   have c := hn k (by omega)
   rw [e, ha, Nat.add_mul, Nat.one_mul]
   omega
theorem szI_le (n : Int) (h0 : 0 ≤ n) (h : n ≤ 1125899906842624) : szQ (n : Rat) ≤ 4 := szQ_int n (by omega) (by omega)
theorem dotI_succ (fs : List FracD) (n : Nat → Int) {k : Nat} {f : FracD} (h : fs[k]? = some f) : dotI fs n (k + 1) = dotI fs n k + qOf f * (n k : Rat) := by
 show sumN k _ + atP fs k * (n k : Rat) = _
 have : atP fs k = qOf f := by unfold atP; rw [Int.toNat_natCast, h]; rfl
 rw [this]; rfl
theorem dotA_c (fs : List FracD) (n : Nat → Int) (g : FuncId) (caps : List D) {B : Nat} (of : okP fs = true) (hl : fs.length ≤ 16) (hz : ∀ f ∈ fs, szF f ≤ B) (hB : B ≤ 262144) (hn : ∀ i, i < fs.length → -9223372036854775808 ≤ n i ∧ n i ≤ 9223372036854775807)
    (hca : ∀ m, argDs m caps = caps) (hrf : refsL caps = []) (hok : ∀ keep, okDs keep caps = true) (hg : ∀ i, i < fs.length → ContractN Tryz.prog g (dI i :: caps) (dI (n i))) : ContractN Tryz.prog 103 [encFs fs, .clo g caps] (encF (ofQ (dotI fs n fs.length))) := by
 have hres := Tryz.results103
 have kz := nZ_c
 have e0 : dotI fs n 0 = 0 := rfl
 refine inN Tryz.func103 rfl Tryz.ntmps103 fun I => ?_
 refine aGo (cj3 hres hca hrf) ?_
 repeat with_reducible intro K hK
 refine aLoopT (fun (k : Nat) => [(1, .clo g caps), (4, .lp 0 0 0 0), (5, .lp 1 0 0 0), (11, encFs fs), (12, dI fs.length), (13, dI k)]) (fun k => [(0, ⟨32, 0, 4, [zc], 0, false⟩), (1, ⟨32, 0, 4, [cF (ofQ (dotI fs n k))], 0, false⟩)]) 2 0 (fun k => k ≤ fs.length) (fun k => fs.length - k) 0 (by omega) ?_ ?_
 · exact leGo (cj2 hok e0)
 · rintro k hk
   obtain ⟨hw, h0⟩ := wrap2 k
   by_cases h1 : (k : Int) < fs.length
   · obtain ⟨f, hx⟩ := getE (l := fs) (k := k) (by omega)
     have o := List.all_eq_true.1 of f (mem_at hx)
     have z := hz f (mem_at hx)
     obtain ⟨n0, n1⟩ := hn k (by omega)
     have sn := szQ_int (n k) n0 (by omega)
     have sm := szQ_mul (qOf f) (n k : Rat)
     rw [szF_ok o] at sm
     have ss := dotI_sz of hz (fun i hi => szQ_int (n i) (hn i hi).1 (by have := (hn i hi).2; omega)) k hk
     have sk : k * (B + 4 + 1) ≤ 16 * (B + 4 + 1) := Nat.mul_le_mul_right _ (by omega)
     have kg := hg k (by omega)
     have ki := nInt_c (n k) n0 n1
     have km := nmul_c (qOf f) (n k : Rat) (by rw [szF_ok o]; omega) (by omega)
     rw [← okF_eq o] at km
     have ka := nadd_c (dotI fs n k) (qOf f * (n k : Rat)) (by omega) (by omega)
     rw [← dotI_succ fs n hx] at ka
     refine aGo (cj4 hres h0 h1 (cj4 hx hw hca hrf)) ?_
     repeat with_reducible intro K hK
     exact loop_end (k + 1) (by omega) (by omega) (by exact leGo hok)
   · obtain rfl : k = fs.length := by omega
     exact aGo (cj2 hres h1) trivial
theorem dot_c (fs : List FracD) (n : Nat → Int) (g : FuncId) (caps : List D) {B : Nat} (of : okP fs = true) (hl : fs.length ≤ 16) (hz : ∀ f ∈ fs, szF f ≤ B) (hB : B ≤ 262144) (hn : ∀ i, i < fs.length → 0 ≤ n i ∧ n i ≤ 1125899906842624)
    (hca : ∀ m, argDs m caps = caps) (hrf : refsL caps = []) (hok : ∀ keep, okDs keep caps = true) (hg : ∀ i, i < fs.length → ContractN Tryz.prog g (dI i :: caps) (dI (n i))) : ContractN Tryz.prog 103 [encFs fs, .clo g caps] (encF (ofQ (dotI fs n fs.length))) :=
 dotA_c fs n g caps of hl hz hB (fun i hi => by have := hn i hi; omega) hca hrf hok hg
theorem terms_c (n : Nat) (f : Nat → Int) (g : FuncId) (caps : List D) (hl : n ≤ 16) (hn : ∀ i, i < n → -1125899906842624 ≤ f i ∧ f i ≤ 1125899906842624)
    (hca : ∀ m, argDs m caps = caps) (hrf : refsL caps = []) (hok : ∀ keep, okDs keep caps = true) (hg : ∀ i, i < n → ContractN Tryz.prog g (dI i :: caps) (dI (f i))) : Contract Tryz.prog 84 [dI n, .clo g caps] (encTs (termsOf n fun i => (f i : Rat))) := by
 have hres := Tryz.results84
 obtain ⟨c, hc⟩ : ∃ c : Nat → Rat, (fun i => (f i : Rat)) = c := ⟨_, rfl⟩
 have hci : ∀ i, (f i : Rat) = c i := fun i => by rw [← hc]
 rw [hc]
 have ht0 := termsOf_zero c
 refine inC Tryz.func84 rfl Tryz.ntmps84 ?_
 refine aGo (cj3 hres hca hrf) ?_
 repeat with_reducible intro K hK
 refine aLe (le_row 5 107 5 rfl) ?_
 refine aLoopT (fun (u : Nat) => [(1, .clo g caps), (5, .ls 0 (termsOf u c).length), (8, dI n), (9, dI u)]) (fun u => [(0, ⟨107, (termsOf u c).length, 5, (termsOf u c).map cT, 0, false⟩)]) 1 0 (fun u => u ≤ n) (fun u => n - u) 0 (by omega) ?_ ?_
 · exact leGo (cj2 hok ht0)
 · rintro u hu
   obtain ⟨hwu, u0⟩ := wrap2 u
   have htl := termsOf_len c u
   by_cases h1 : (u : Int) < n
   · obtain ⟨n0, n1⟩ := hn u (by omega)
     have kg := hg u (by omega)
     have ki := fint_c (f u) (by omega) (by omega)
     rw [hci] at ki
     by_cases h7 : f u = 0
     · have h8 : (f u != 0) = false := by simp [h7]
       have e3 := termsOf_skip (c := c) (n := u) (by rw [← hci, h7]; rfl)
       refine aGo (cj4 hres u0 h1 (cj4 hwu h8 hca hrf)) ?_
       repeat with_reducible intro K hK
       exact loop_end (u + 1) (by omega) (by omega) (by exact leGo (cj2 hok e3))
     · have h8 : (f u != 0) = true := by simp [h7]
       have e3 := termsOf_yes (c := c) (n := u) (by rw [← hci]; exact_mod_cast h7)
       refine aGo (cj4 hres u0 h1 (cj4 hwu h8 hca hrf)) ?_
       repeat with_reducible intro K hK
       exact loop_end (u + 1) (by omega) (by omega) (by exact leGo (cj2 hok e3))
   · obtain rfl : u = n := by omega
     refine aGo (cj2 hres h1) ?_
     repeat with_reducible intro K hK
     rw [map_map_id (fun _ => rfl)]
theorem terms_n (n : Nat) (f : Nat → Int) (g : FuncId) (caps : List D) (hl : n ≤ 16) (hn : ∀ i, i < n → 0 ≤ f i ∧ f i ≤ 1125899906842624)
    (hca : ∀ m, argDs m caps = caps) (hrf : refsL caps = []) (hok : ∀ keep, okDs keep caps = true) (hg : ∀ i, i < n → ContractN Tryz.prog g (dI i :: caps) (dI (f i))) : ContractN Tryz.prog 84 [dI n, .clo g caps] (encTs (termsOf n fun i => (f i : Rat))) := by
 have hres := Tryz.results84
 obtain ⟨c, hc⟩ : ∃ c : Nat → Rat, (fun i => (f i : Rat)) = c := ⟨_, rfl⟩
 have hci : ∀ i, (f i : Rat) = c i := fun i => by rw [← hc]
 rw [hc]
 have ht0 := termsOf_zero c
 refine ContractN.ofA fun I => (CallA.inline Tryz.func84 rfl (by kernel_rfl) (by kernel_rfl) (by kernel_rfl) ?_)
 rw [Tryz.ntmps84]
 refine aGo (cj3 hres hca hrf) ?_
 repeat with_reducible intro K hK
 refine aLe (le_row 5 107 5 rfl) ?_
 refine aLoopT (fun (u : Nat) => [(1, .clo g caps), (5, .ls 0 (termsOf u c).length), (8, dI n), (9, dI u)]) (fun u => [(0, ⟨107, (termsOf u c).length, 5, (termsOf u c).map cT, 0, false⟩)]) 1 0 (fun u => u ≤ n) (fun u => n - u) 0 (by omega) ?_ ?_
 · exact leGo (cj2 hok ht0)
 · rintro u hu
   obtain ⟨hwu, u0⟩ := wrap2 u
   have htl := termsOf_len c u
   by_cases h1 : (u : Int) < n
   · obtain ⟨n0, n1⟩ := hn u (by omega)
     have kg := hg u (by omega)
     have ki := nI_c (f u) (by omega) (by omega)
     rw [hci] at ki
     by_cases h7 : f u = 0
     · have h8 : (f u != 0) = false := by simp [h7]
       have e3 := termsOf_skip (c := c) (n := u) (by rw [← hci, h7]; rfl)
       refine aGo (cj4 hres u0 h1 (cj4 hwu h8 hca hrf)) ?_
       repeat with_reducible intro K hK
       exact loop_end (u + 1) (by omega) (by omega) (by exact leGo (cj2 hok e3))
     · have h8 : (f u != 0) = true := by simp [h7]
       have e3 := termsOf_yes (c := c) (n := u) (by rw [← hci]; exact_mod_cast h7)
       refine aGo (cj4 hres u0 h1 (cj4 hwu h8 hca hrf)) ?_
       repeat with_reducible intro K hK
       exact loop_end (u + 1) (by omega) (by omega) (by exact leGo (cj2 hok e3))
   · obtain rfl : u = n := by omega
     refine aGo (cj2 hres h1) ?_
     repeat with_reducible intro K hK
     rw [map_map_id (fun _ => rfl)]
def costI (p : List FracD) (o : OffD) : Rat := dotI p (fun i => o.wants[i]?.getD 0) p.length
theorem cost1_c (o : OffD) (i : Nat) {x : Int} (hx : o.wants[i]? = some x) : ContractN Tryz.prog 190 [dI i, .ep [cOf o] 0 0] (dI x) := by
 refine Contract.toN ?_ rfl
 refine inC Tryz.func190 rfl Tryz.ntmps190 ?_
 have hres := Tryz.results190
 have i0 : (0 : Int) ≤ i := by omega
 exact aGo (cj3 hres i0 hx) trivial
theorem costA_c (p : List FracD) (o : OffD) {B : Nat} (op : okP p = true) (hl : p.length ≤ 16) (hz : ∀ f ∈ p, szF f ≤ B) (hB : B ≤ 262144) (hw : o.wants.length = p.length) (hn : ∀ x ∈ o.wants, -9223372036854775808 ≤ x ∧ x ≤ 9223372036854775807) : ContractN Tryz.prog 108 [encFs p, encOf o] (encF (ofQ (costI p o))) := by
 have hres := Tryz.results108
 have hat : ∀ i, i < p.length → o.wants[i]? = some (o.wants[i]?.getD 0) := fun i hi => by rw [List.getElem?_eq_getElem (by omega)]; rfl
 have kd := dotA_c p (fun i => o.wants[i]?.getD 0) 190 [.ep [cOf o] 0 0] op hl hz hB (fun i hi => hn _ (List.mem_of_getElem? (hat i hi))) (fun _ => rfl) rfl (fun _ => rfl) (fun i hi => cost1_c o i (hat i hi))
 refine inN Tryz.func108 rfl Tryz.ntmps108 fun I => ?_
 refine aGo hres ?_
 repeat with_reducible intro K hK
 rfl
theorem cost44_c (p : List FracD) (o : OffD) {B : Nat} (op : okP p = true) (hl : p.length ≤ 16) (hz : ∀ f ∈ p, szF f ≤ B) (hB : B ≤ 262144) (hw : o.wants.length = p.length) (hn : ∀ x ∈ o.wants, 0 ≤ x ∧ x ≤ 1125899906842624) : ContractN Tryz.prog 108 [encFs p, encOf o] (encF (ofQ (costI p o))) :=
 costA_c p o op hl hz hB hw (fun x hx => by have := hn x hx; omega)
set_option maxHeartbeats 16000000
noncomputable def optM (supply : List Int) (offers : List OffD) : OptD := leastE (sysM (mkt supply offers)) (goalM (mkt supply offers))
noncomputable def dealM (supply : List Int) (offers : List OffD) : DealD := ⟨(optM supply offers).x, ((optM supply offers).y.take supply.length).map negD, negD (optM supply offers).v⟩
noncomputable def best44 (supply : List Int) (offers : List OffD) : DealD × Int := if right44 supply offers then (dealM supply offers, 0) else (zDl, 1)
def wantI (offers : List OffD) (k i : Nat) : Int := (((offers[i]?).map OffD.wants).getD [])[k]?.getD 0
def bidI (offers : List OffD) (i : Nat) : Int := ((offers[i]?).map OffD.price).getD 0
structure RightM (supply : List Int) (offers : List OffD) : Prop where
 m0 : 1 ≤ supply.length
 m1 : supply.length ≤ 6
 n1 : offers.length ≤ 12
 s : ∀ x ∈ supply, 0 ≤ x ∧ x ≤ 1000000
 w : ∀ o ∈ offers, o.wants.length = supply.length ∧ (∀ x ∈ o.wants, 0 ≤ x ∧ x ≤ 1000000) ∧ 0 ≤ o.price ∧ o.price ≤ 1125899906842624
theorem betB_iff {most : Int} {l : List Int} : betB most l = true ↔ ∀ x ∈ l, 0 ≤ x ∧ x ≤ most := by
 unfold betB
 rw [List.all_eq_true]
 exact ⟨fun h x hx => by have := h x hx; simpa [inB] using this, fun h x hx => by have := h x hx; simpa [inB] using this⟩
theorem right44_iff {supply : List Int} {offers : List OffD} : right44 supply offers = true ↔ RightM supply offers := by
 simp only [right44, rightO, Bool.and_eq_true, decide_eq_true_eq, List.all_eq_true, betB_iff, List.mem_singleton, forall_eq]
 constructor
 · rintro ⟨⟨⟨⟨a, b⟩, c⟩, d⟩, e⟩
   exact ⟨a, b, c, d, fun o ho => ⟨(e o ho).1.1, (e o ho).1.2, (e o ho).2⟩⟩
 · rintro ⟨a, b, c, d, e⟩
   exact ⟨⟨⟨⟨a, b⟩, c⟩, d⟩, fun o ho => ⟨⟨(e o ho).1, (e o ho).2.1⟩, (e o ho).2.2⟩⟩
theorem szOne : szF (ofQ 1) ≤ 4 := by decide +kernel
section
variable {supply : List Int} {offers : List OffD} (h : RightM supply offers)
include h
theorem RightM.want {k i : Nat} {o : OffD} (ho : offers[i]? = some o) (hk : k < supply.length) : o.wants[k]? = some (wantI offers k i) ∧ 0 ≤ wantI offers k i ∧ wantI offers k i ≤ 1000000 := by
 have hw := h.w o (List.mem_of_getElem? ho)
 have e : o.wants[k]? = some o.wants[k] := List.getElem?_eq_getElem (by omega)
 have e2 : wantI offers k i = o.wants[k] := by unfold wantI; rw [ho]; simp only [Option.map_some, Option.getD_some]; rw [e]; rfl
 rw [e2]
 exact ⟨e, hw.2.1 _ (List.getElem_mem _)⟩
theorem RightM.bid {i : Nat} {o : OffD} (ho : offers[i]? = some o) : o.price = bidI offers i ∧ 0 ≤ bidI offers i ∧ bidI offers i ≤ 1125899906842624 := by
 have hw := h.w o (List.mem_of_getElem? ho)
 have e : bidI offers i = o.price := by unfold bidI; rw [ho]; rfl
 rw [e]
 exact ⟨rfl, hw.2.2⟩
theorem RightM.wb (k i : Nat) : 0 ≤ wantI offers k i ∧ wantI offers k i ≤ 1000000 := by
 unfold wantI
 cases ho : offers[i]? with
 | none => simp
 | some o =>
   simp only [Option.map_some, Option.getD_some]
   cases hx : o.wants[k]? with
   | none => simp
   | some x => exact (h.w o (List.mem_of_getElem? ho)).2.1 x (List.mem_of_getElem? hx)
theorem RightM.pb (i : Nat) : 0 ≤ bidI offers i ∧ bidI offers i ≤ 1125899906842624 := by
 unfold bidI
 cases ho : offers[i]? with
 | none => simp
 | some o => exact (h.w o (List.mem_of_getElem? ho)).2.2
theorem RightM.sb (k : Nat) : 0 ≤ supply[k]?.getD 0 ∧ supply[k]?.getD 0 ≤ 1000000 := by
 cases hx : supply[k]? with
 | none => simp
 | some x => exact h.s x (List.mem_of_getElem? hx)
theorem RightM.fit (h6 : offers.length ≤ 6) : Fit (sysM (mkt supply offers)) (goalM (mkt supply offers)) 4 6 := by
 have hm := h.m1
 have zt : ∀ (f : Nat → Rat), (∀ i, szQ (f i) ≤ 4) → (termsOf offers.length f).length ≤ 16 ∧ ∀ t ∈ termsOf offers.length f, szF t.f ≤ 4 := fun f hf => by
  refine ⟨by have := termsOf_len f offers.length; omega, fun t ht => ?_⟩
  simp only [termsOf, List.mem_filterMap, List.mem_range] at ht
  obtain ⟨u, _, hu⟩ := ht
  split at hu
  · cases hu
  · cases hu; exact hf u
 refine ⟨by rw [sysM_len]; show supply.length + offers.length ≤ 20; omega, fun _ => by show (offers.length : Int) ≤ 16; omega, fun _ => .inl (by show (offers.length : Int) ≤ 6; omega), fun w hw => ?_, ?_, by decide, by decide⟩
 · obtain ⟨j, hj⟩ := List.getElem?_of_mem hw
   rcases sysM_cases hj with ⟨_, rfl⟩ | ⟨i, _, _, rfl⟩
   · obtain ⟨a, b⟩ := zt (fun i => (mkt supply offers).W i j) fun i => by have := h.wb j i; exact szQ_int (wantI offers j i) (by omega) (by omega)
     refine ⟨by show (termsOf offers.length _).length ≤ 64; omega, ?_, b⟩
     have := h.sb j
     exact szQ_int (supply[j]?.getD 0) (by omega) (by omega)
   · refine ⟨by simp [oneW], szOne, fun t ht => ?_⟩
     rw [List.mem_singleton.1 ht]
     exact szOne
 · obtain ⟨a, b⟩ := zt (fun i => -((mkt supply offers).P i)) fun i => by rw [szQ_neg]; have := h.pb i; exact szQ_int (bidI offers i) (by omega) (by omega)
   exact ⟨a, b⟩
theorem RightM.opt : checkD (sysM (mkt supply offers)) (goalM (mkt supply offers)) (optM supply offers) = true :=
 least_check (sysM_right (by have := h.n1; show offers.length ≤ 700; omega) (by have := h.m1; show supply.length ≤ 700; omega)) goalM_right
end
theorem want1_c (offers : List OffD) (k i : Nat) {o : OffD} {x : Int} (ho : offers[i]? = some o) (hx : o.wants[k]? = some x) : ContractN Tryz.prog 85 [dI i, .ep [[encOfs offers]] 0 0, .ep [[dI k]] 0 0] (dI x) := by
 refine Contract.toN ?_ rfl
 refine inC Tryz.func85 rfl Tryz.ntmps85 ?_
 have hres := Tryz.results85
 have i0 : (0 : Int) ≤ i := by omega
 have k0 : (0 : Int) ≤ k := by omega
 exact aGo (cj4 hres i0 k0 (cj2 ho hx)) trivial
theorem bid1_c (offers : List OffD) (i : Nat) {o : OffD} (ho : offers[i]? = some o) (h : 0 ≤ o.price ∧ o.price ≤ 1125899906842624) : ContractN Tryz.prog 86 [dI i, .ep [[encOfs offers]] 0 0] (dI (-o.price)) := by
 refine Contract.toN ?_ rfl
 refine inC Tryz.func86 rfl Tryz.ntmps86 ?_
 have hres := Tryz.results86
 have i0 : (0 : Int) ≤ i := by omega
 have hw : IntKind.i64.wrap (0 - o.price) = -o.price := (wrap_in (by omega) (by omega)).trans (by omega)
 exact aGo (cj4 hres i0 ho hw) trivial
def shOk (f : FracD) : Bool := okF f && (decide (0 ≤ qOf f) && decide (qOf f ≤ 1))
def prOk (f : FracD) : Bool := okF f && decide (0 ≤ qOf f)
def usedI (offers : List OffD) (x : List FracD) (k : Nat) : Rat := dotI x (wantI offers k) x.length
def costK (offers : List OffD) (p : List FracD) (i : Nat) : Rat := dotI p (fun k => wantI offers k i) p.length
def worthI (offers : List OffD) (x : List FracD) : Rat := dotI x (bidI offers) x.length
def paidI (supply : List Int) (p : List FracD) : Rat := dotI p (fun k => supply[k]?.getD 0) p.length
def boundI (supply : List Int) (offers : List OffD) (p : List FracD) (n : Nat) : Rat := paidI supply p + sumN n fun i => max0 ((bidI offers i : Rat) - costK offers p i)
def fitsM (supply : List Int) (offers : List OffD) (x : List FracD) (k : Nat) : Bool := decide (usedI offers x k ≤ ((supply[k]?.getD 0 : Int) : Rat))
def matOk (supply : List Int) (offers : List OffD) (d : DealD) (k : Nat) : Bool := ((d.p[k]?).map prOk).getD false && fitsM supply offers d.x k
def check44 (supply : List Int) (offers : List OffD) (d : DealD) : Bool := right44 supply offers && (decide (d.x.length = offers.length) && (decide (d.p.length = supply.length) && (d.x.all shOk && ((List.range supply.length).all (matOk supply offers d) && (sameF d.v (ofQ (worthI offers d.x)) && sameF d.v (ofQ (boundI supply offers d.p offers.length)))))))
def divB (supply : List Int) (offers : List OffD) (x : List FracD) : Bool := decide (x.length = offers.length) && (x.all shOk && (List.range supply.length).all (fitsM supply offers x))
structure GoodD (supply : List Int) (offers : List OffD) (d : DealD) : Prop where
 r : RightM supply offers
 lx : d.x.length = offers.length
 lp : d.p.length = supply.length
 ox : okP d.x = true
 op : okP d.p = true
 b : Mkt.Best (mkt supply offers) (fun i => atP d.x i) (fun k => atP d.p k)
 v : d.v = ofQ ((mkt supply offers).worth fun i => atP d.x i)
section
variable {supply : List Int} {offers : List OffD} {d : DealD} {x p : List FracD}
theorem used_eq (h : x.length = offers.length) (k : Nat) : usedI offers x k = (mkt supply offers).used (fun i => atP x i) k := by unfold usedI dotI; rw [h]; rfl
theorem cost_eq (h : p.length = supply.length) (i : Nat) : costK offers p i = (mkt supply offers).cost (fun k => atP p k) i := by unfold costK dotI; rw [h]; rfl
theorem worth_eq (h : x.length = offers.length) : worthI offers x = (mkt supply offers).worth fun i => atP x i := by unfold worthI dotI; rw [h]; rfl
theorem paid_eq (h : p.length = supply.length) : paidI supply p = (mkt supply offers).paid fun k => atP p k := by unfold paidI dotI; rw [h]; rfl
theorem bound_eq (h : p.length = supply.length) : boundI supply offers p offers.length = (mkt supply offers).bound fun k => atP p k := by
 unfold boundI Mkt.bound
 rw [paid_eq h]
 congr 1
 exact sumN_congr _ fun i _ => by rw [cost_eq h]; rfl
theorem at_get {i : Nat} {f : FracD} (h : x[i]? = some f) : atP x (i : Nat) = qOf f := by unfold atP; rw [Int.toNat_natCast, h]; rfl
theorem shares_ok (h : x.all shOk = true) : okP x = true ∧ ∀ i, i < x.length → 0 ≤ atP x (i : Nat) ∧ atP x (i : Nat) ≤ 1 := by
 have h' := List.all_eq_true.1 h
 simp only [shOk, Bool.and_eq_true, decide_eq_true_eq] at h'
 refine ⟨List.all_eq_true.2 fun f hf => (h' f hf).1, fun i hi => ?_⟩
 have e : x[i]? = some x[i] := List.getElem?_eq_getElem hi
 rw [at_get e]
 exact (h' _ (List.getElem_mem hi)).2
theorem shares_of (ho : okP x = true) (h : ∀ i, i < x.length → 0 ≤ atP x (i : Nat) ∧ atP x (i : Nat) ≤ 1) : x.all shOk = true := by
 refine List.all_eq_true.2 fun f hf => ?_
 obtain ⟨i, hi⟩ := List.getElem?_of_mem hf
 have := h i (List.getElem?_eq_some_iff.1 hi).1
 rw [at_get hi] at this
 simp only [shOk, Bool.and_eq_true, decide_eq_true_eq]
 exact ⟨List.all_eq_true.1 ho f hf, this⟩
theorem divB_iff : divB supply offers x = true ↔ x.length = offers.length ∧ okP x = true ∧ (mkt supply offers).Div fun i => atP x i := by
 simp only [divB, fitsM, Bool.and_eq_true, decide_eq_true_eq, List.all_eq_true (l := List.range _), List.mem_range]
 constructor
 · rintro ⟨a, b, c⟩
   obtain ⟨s1, s2⟩ := shares_ok b
   exact ⟨a, s1, fun i hi => (s2 i (by rw [a]; exact hi)).1, fun i hi => (s2 i (by rw [a]; exact hi)).2, fun k hk => by rw [← used_eq a]; exact c k hk⟩
 · rintro ⟨a, b, c⟩
   exact ⟨a, shares_of b fun i hi => ⟨c.lo i (by rw [← show x.length = (mkt supply offers).n from a]; exact hi), c.hi i (by rw [← show x.length = (mkt supply offers).n from a]; exact hi)⟩, fun k hk => by rw [used_eq (supply := supply) a]; exact c.sup k hk⟩
theorem check44_iff : check44 supply offers d = true ↔ GoodD supply offers d := by
 simp only [check44, matOk, fitsM, Bool.and_eq_true, decide_eq_true_eq, List.all_eq_true (l := List.range _), List.mem_range, right44_iff, sameF_iff]
 constructor
 · rintro ⟨r, a, b, c, e, f, g⟩
   obtain ⟨s1, s2⟩ := shares_ok c
   have hp : ∀ k, k < supply.length → ∃ q, d.p[k]? = some q ∧ okF q = true ∧ 0 ≤ atP d.p (k : Nat) := fun k hk => by
    have hk' : d.p[k]? = some (d.p[k]'(by omega)) := List.getElem?_eq_getElem (by omega)
    have := (e k hk).1
    rw [hk'] at this
    simp only [Option.map_some, Option.getD_some, prOk, Bool.and_eq_true, decide_eq_true_eq] at this
    exact ⟨_, hk', this.1, by rw [at_get hk']; exact this.2⟩
   have hv : d.v = ofQ ((mkt supply offers).worth fun i => atP d.x i) := by rw [← worth_eq a]; exact f
   refine ⟨r, a, b, s1, List.all_eq_true.2 fun q hq => ?_, ⟨⟨fun i hi => (s2 i (by rw [a]; exact hi)).1, fun i hi => (s2 i (by rw [a]; exact hi)).2, fun k hk => by rw [← used_eq a]; exact (e k hk).2⟩, fun k hk => ?_, ?_⟩, hv⟩
   · obtain ⟨k, hk⟩ := List.getElem?_of_mem hq
     have hk' := (List.getElem?_eq_some_iff.1 hk).1
     obtain ⟨q', h1, h2, _⟩ := hp k (by omega)
     rw [hk] at h1; cases h1; exact h2
   · obtain ⟨_, _, _, h3⟩ := hp k hk
     exact h3
   · rw [hv, bound_eq b] at g
     have := congrArg qOf g
     rwa [qOf_ofQ, qOf_ofQ] at this
 · intro h
   refine ⟨h.r, h.lx, h.lp, shares_of h.ox fun i hi => ⟨h.b.x.lo i (by rw [← show d.x.length = (mkt supply offers).n from h.lx]; exact hi), h.b.x.hi i (by rw [← show d.x.length = (mkt supply offers).n from h.lx]; exact hi)⟩, fun k hk => ⟨?_, by rw [used_eq (supply := supply) h.lx]; exact h.b.x.sup k hk⟩, by rw [worth_eq (supply := supply) h.lx]; exact h.v, by rw [bound_eq h.lp, ← h.b.e]; exact h.v⟩
   have hk' : d.p[k]? = some (d.p[k]'(by have := h.lp; omega)) := List.getElem?_eq_getElem (by have := h.lp; omega)
   have := h.b.y k hk
   rw [at_get hk'] at this
   rw [hk']
   simp only [Option.map_some, Option.getD_some, prOk, Bool.and_eq_true, decide_eq_true_eq]
   exact ⟨List.all_eq_true.1 h.op _ (List.getElem_mem _), this⟩
end
theorem okP_neg {l : List FracD} (h : okP l = true) : okP (l.map negD) = true := by
 refine List.all_eq_true.2 fun f hf => ?_
 obtain ⟨g, hg, rfl⟩ := List.mem_map.1 hf
 rw [okF_eq (List.all_eq_true.1 h g hg), negD_ofQ]; exact okF_ofQ _
theorem at_neg {l : List FracD} (h : okP l = true) {m k : Nat} (hk : k < m) (hm : m ≤ l.length) : atP ((l.take m).map negD) (k : Nat) = -(atP l (k : Nat)) := by
 have e : l[k]? = some l[k] := List.getElem?_eq_getElem (by omega)
 have e2 : ((l.take m).map negD)[k]? = some (negD l[k]) := by rw [List.getElem?_map, List.getElem?_take, if_pos hk, e]; rfl
 rw [at_get e2, at_get e, okF_eq (List.all_eq_true.1 h _ (List.getElem_mem (show k < l.length by omega))), negD_ofQ, qOf_ofQ, qOf_ofQ]
theorem deal_good {supply : List Int} {offers : List OffD} (h : RightM supply offers) : GoodD supply offers (dealM supply offers) := by
 have hn := h.n1
 have hm := h.m1
 obtain ⟨_, lx, ly, ox, oy, hD, hp, he, hv⟩ := sysM_best (M := mkt supply offers) (by show offers.length ≤ 700; omega) (by show supply.length ≤ 700; omega) (fun k _ => by have := h.sb k; show (0 : Rat) ≤ ((supply[k]?.getD 0 : Int) : Rat); exact Rat.intCast_nonneg.2 this.1) h.opt
 have ly' : (optM supply offers).y.length = supply.length + offers.length := ly
 have ea : ∀ k, k < supply.length → atP (((optM supply offers).y.take supply.length).map negD) (k : Nat) = -(atP (optM supply offers).y (k : Nat)) := fun k hk => at_neg oy hk (by omega)
 have ec : ∀ i, (mkt supply offers).cost (fun k => atP (((optM supply offers).y.take supply.length).map negD) k) i = (mkt supply offers).cost (fun k => -(atP (optM supply offers).y k)) i := fun i => sumN_congr _ fun k hk => by show atP (((optM supply offers).y.take supply.length).map negD) (k : Nat) * _ = -(atP (optM supply offers).y (k : Nat)) * _; rw [ea k hk]
 refine ⟨h, lx, by show (((optM supply offers).y.take supply.length).map negD).length = supply.length; rw [List.length_map, List.length_take, ly']; omega, ox, okP_neg (List.all_eq_true.2 fun f hf => List.all_eq_true.1 oy f (List.mem_of_mem_take hf)), ⟨hD, fun k hk => by show 0 ≤ atP (((optM supply offers).y.take supply.length).map negD) (k : Nat); rw [ea k hk]; exact hp k hk, ?_⟩, ?_⟩
 · refine he.trans ?_
   unfold Mkt.bound
   congr 1
   · exact (sumN_congr _ fun k hk => by show atP (((optM supply offers).y.take supply.length).map negD) (k : Nat) * _ = _; rw [ea k hk]).symm
   · exact sumN_congr _ fun i _ => by rw [← ec i]; rfl
 · show negD (optM supply offers).v = ofQ ((mkt supply offers).worth fun i => atP (optM supply offers).x i)
   rw [hv, negD_ofQ, Rat.neg_neg]
theorem best44_good {supply : List Int} {offers : List OffD} (h : right44 supply offers = true) : (best44 supply offers).2 = 0 ∧ GoodD supply offers (best44 supply offers).1 := by
 have e : best44 supply offers = (dealM supply offers, 0) := by unfold best44; rw [if_pos h]
 rw [e]
 exact ⟨rfl, deal_good (right44_iff.1 h)⟩
end Go.Proofs.YtpkdhmnlpnijhaaGreat
