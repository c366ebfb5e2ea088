/-
  Layer 44: the head of the laws; small arguments.
-/
import Derived.Test.YtpkdhmnlpnijhaaGreatVMkC
import Derived.Test.YtpkdhmnlpnijhaaGreatVLinB
import Derived.Test.YtpkdhmnlpnijhaaGreatVShapeL
import Derived.Test.YtpkdhmnlpnijhaaGreatVMkB
namespace Go.Proofs.YtpkdhmnlpnijhaaGreat
set_option linter.unusedVariables false
set_option linter.unusedSimpArgs false
set_option linter.unusedSectionVars false
open Go Go.RowKit
set_option maxRecDepth 100000
set_option maxHeartbeats 16000000
def w8 (o : OffD) : Bool := decide ((o.wants.length : Int) ≤ 8)
def many44 (s o m most : Int) : Bool := ((decide (s > m) && decide (s ≤ 6)) || decide (s > 8)) || ((decide (o > most) && decide (o ≤ 12)) || decide (o > 15))
def few44 (supply : List Int) (offers : List OffD) (d : DealD) (m most : Int) : Bool := (offers.take 15).all w8 && (!many44 supply.length offers.length m most && (fewP d.x 15 6 && (fewP d.p 15 6 && fewF 8 d.v)))
theorem few44_c (supply : List Int) (offers : List OffD) (d : DealD) (m most : Int) : ContractN Tryz.prog 15 [encInts supply, encOfs offers, encDl d, dI m, dI most] (dB (few44 supply offers d m most)) := by
 refine Contract.toN ?_ rfl
 have hres := Tryz.results15
 obtain ⟨X, p, v⟩ := d
 have q1 := fewP_c X 15 6 (by decide)
 have q2 := fewP_c p 15 6 (by decide)
 have q3 := (rfew_c v 8).toN rfl
 have hd : (decide ((v.p.d.length : Int) ≤ 8) && decide ((v.q.d.length : Int) ≤ 8)) = fewF 8 v := rfl
 rw [hd] at q3
 have e0 : few44 supply offers ⟨X, p, v⟩ m most = ((offers.take 15).all w8 && (!many44 supply.length offers.length m most && (fewP X 15 6 && (fewP p 15 6 && fewF 8 v)))) := rfl
 generalize few44 supply offers ⟨X, p, v⟩ m most = R at e0 ⊢
 refine inC Tryz.func15 rfl Tryz.ntmps15 ?_
 refine aGo hres ?_
 repeat with_reducible intro K hK
 have r1 : (offers.take 15).all w8 = true → ∀ st, StLe st ⟨tabT [(0, encInts supply), (1, encOfs offers), (3, dI m), (4, dI most), (7, .lp 0 0 0 0)], tabM [(0, ⟨44, 0, 6, [cDl ⟨X, p, v⟩], 0, false⟩)], 1, 0⟩ → K st := by
  intro hall st hle
  rw [hall, Bool.true_and] at e0
  refine hK _ (aLe hle ?_)
  clear hle hK
  repeat ((fail_if_success (with_reducible refine at_region 6 ?_)); first
   | (refine hK _ ?_; clear hK; clear K)
   | (refine aSeq fun K hK => ?_)
   | (refine aBlock ?_)
   | (refine aSkip ?_)
   | (refine aExit ?_)
   | (refine aRet ?_)
   | (refine aOps _ rfl (by kernel_rfl) ?_)
   | (refine aRunK _ rfl mixed (by kernel_rfl) (by kernel_rfl) fun KE hE => ?_)
   | (refine hE _ _ (by kernel_rfl) (intsOk_no rfl) ?_; clear hE; clear KE)
   | (refine hE _ _ (by kernel_rfl) (intsOk_yes ?hi ?hj) ?_; (case hi => (repeat (refine intsDead_updB rfl ?_)); exact intsDead_nil); (case hj => simp); clear hE; clear KE)
   | (refine aCondT rfl ?hc ?_; case hc => simp only [go_sem, ↓reduceIte, hres])
   | (refine aCondF rfl ?hc ?_; case hc => simp only [go_sem, ↓reduceIte, hres])
   | (simp only [go_sem, ↓reduceIte, hres])
   | (refine And.intro ?ho ?_; (case ho => omega))
   | (clear hK; clear K))
  have r2 : many44 supply.length offers.length m most = false → ∀ st, StLe st ⟨tabT [(7, .lp 0 0 0 0), (58, dB false)], tabM [(0, ⟨44, 0, 6, [cDl ⟨X, p, v⟩], 0, false⟩)], 1, 0⟩ → K st := by
   intro hm st hle
   rw [hm, Bool.not_false, Bool.true_and] at e0
   refine hK _ (aLe hle ?_)
   clear hle hK
   cases h1 : fewP X 15 6
   · rw [h1] at q1 e0
     refine aGo hres ?_
     repeat with_reducible intro K hK
     exact bool_eq (by rw [e0]; rfl)
   rw [h1, Bool.true_and] at e0
   rw [h1] at q1
   cases h2 : fewP p 15 6
   · rw [h2] at q2 e0
     refine aGo hres ?_
     repeat with_reducible intro K hK
     exact bool_eq (by rw [e0]; rfl)
   rw [h2, Bool.true_and] at e0
   rw [h2] at q2
   rw [← e0] at q3
   exact aGo hres trivial
  have bad : many44 supply.length offers.length m most = true → D.v (.bool false) = dB R := fun hm => bool_eq (by rw [e0, hm]; rfl)
  by_cases a1 : (supply.length : Int) > m
  · by_cases a2 : (supply.length : Int) ≤ 6
    · refine aGo (cj3 hres a1 a2) ?_
      repeat with_reducible intro K hK
      exact bad (by simp [many44, a1, a2])
    · by_cases a3 : (supply.length : Int) > 8
      · refine aGo (cj4 hres a1 a2 a3) ?_
        repeat with_reducible intro K hK
        exact bad (by simp [many44, a1, a2, a3])
      · by_cases a4 : (offers.length : Int) > most
        · by_cases a5 : (offers.length : Int) ≤ 12
          · refine aGo (cj4 hres a1 a2 (cj3 a3 a4 a5)) ?_
            repeat with_reducible intro K hK
            exact bad (by simp [many44, a1, a2, a3, a4, a5])
          · by_cases a6 : (offers.length : Int) > 15
            · refine aGo (cj4 hres a1 a2 (cj4 a3 a4 a5 a6)) ?_
              repeat with_reducible intro K hK
              exact bad (by simp [many44, a1, a2, a3, a4, a5, a6])
            · clear hK
              refine aGo (cj4 hres a1 a2 (cj4 a3 a4 a5 a6)) ?_
              repeat with_reducible intro K hK
              exact r2 (by simp [many44, a1, a2, a3, a4, a5, a6]) _ (by exact leGo trivial)
        · by_cases a6 : (offers.length : Int) > 15
          · refine aGo (cj4 hres a1 a2 (cj3 a3 a4 a6)) ?_
            repeat with_reducible intro K hK
            exact bad (by simp [many44, a1, a2, a3, a4, a6])
          · clear hK
            refine aGo (cj4 hres a1 a2 (cj3 a3 a4 a6)) ?_
            repeat with_reducible intro K hK
            exact r2 (by simp [many44, a1, a2, a3, a4, a6]) _ (by exact leGo trivial)
  · by_cases a3 : (supply.length : Int) > 8
    · refine aGo (cj3 hres a1 a3) ?_
      repeat with_reducible intro K hK
      exact bad (by simp [many44, a1, a3])
    · by_cases a4 : (offers.length : Int) > most
      · by_cases a5 : (offers.length : Int) ≤ 12
        · refine aGo (cj4 hres a1 a3 (cj2 a4 a5)) ?_
          repeat with_reducible intro K hK
          exact bad (by simp [many44, a1, a3, a4, a5])
        · by_cases a6 : (offers.length : Int) > 15
          · refine aGo (cj4 hres a1 a3 (cj3 a4 a5 a6)) ?_
            repeat with_reducible intro K hK
            exact bad (by simp [many44, a1, a3, a4, a5, a6])
          · clear hK
            refine aGo (cj4 hres a1 a3 (cj3 a4 a5 a6)) ?_
            repeat with_reducible intro K hK
            exact r2 (by simp [many44, a1, a3, a4, a5, a6]) _ (by exact leGo trivial)
      · by_cases a6 : (offers.length : Int) > 15
        · refine aGo (cj4 hres a1 a3 (cj2 a4 a6)) ?_
          repeat with_reducible intro K hK
          exact bad (by simp [many44, a1, a3, a4, a6])
        · clear hK
          refine aGo (cj4 hres a1 a3 (cj2 a4 a6)) ?_
          repeat with_reducible intro K hK
          exact r2 (by simp [many44, a1, a3, a4, a6]) _ (by exact leGo trivial)
 clear hK
 refine aLoopT (fun (k : Nat) => [(0, encInts supply), (1, encOfs offers), (3, dI m), (4, dI most), (7, .lp 0 0 0 0), (11, dI k)]) (fun _ => [(0, ⟨44, 0, 6, [cDl ⟨X, p, v⟩], 0, false⟩)]) 1 0 (fun k => k ≤ 15 ∧ k ≤ offers.length ∧ (offers.take k).all w8 = true) (fun k => offers.length - k) 0 ⟨by omega, by omega, rfl⟩ ?_ ?_
 · exact leGo trivial
 rintro k ⟨hk, hk2, hg⟩
 obtain ⟨hw, h0⟩ := wrap2 k
 by_cases h1 : (k : Int) < offers.length
 · by_cases h2 : (k : Int) < 15
   · obtain ⟨x, hx⟩ := getE (l := offers) (k := k) (by omega)
     by_cases h3 : (x.wants.length : Int) > 8
     · refine aGo (cj4 hres h0 h1 (cj4 h2 hx hw h3)) ?_
       repeat with_reducible intro K hK
       have hb : (offers.take 15).all w8 = false := by
        rw [List.all_eq_false]
        refine ⟨x, ?_, by simp [w8]; omega⟩
        refine List.mem_of_getElem? (i := k) ?_
        rw [List.getElem?_take, if_pos (by omega), hx]
       exact bool_eq (by rw [e0, hb]; rfl)
     · refine aGo (cj4 hres h0 h1 (cj4 h2 hx hw h3)) ?_
       repeat with_reducible intro K hK
       exact loop_end (k + 1) ⟨by omega, by omega, all_take_succ hx hg (by simp [w8]; omega)⟩ (by omega) (by exact leGo trivial)
   · have e15 : k = 15 := by omega
     refine aGo (cj3 hres h1 h2) ?_
     repeat with_reducible intro K hK
     exact r1 (by rw [← e15]; exact hg) _ (by exact leGo trivial)
 · obtain rfl : k = offers.length := by omega
   refine aGo (cj2 hres h1) ?_
   repeat with_reducible intro K hK
   exact r1 (by rw [List.take_of_length_le (by omega)]; rw [List.take_of_length_le (by omega)] at hg; exact hg) _ (by exact leGo trivial)
theorem few44_sm {supply : List Int} {offers : List OffD} {d : DealD} {m most : Int} (h : few44 supply offers d m most = true) : SmM supply offers := by
 simp only [few44, many44, Bool.and_eq_true, Bool.not_eq_true', Bool.or_eq_false_iff, decide_eq_false_iff_not] at h
 obtain ⟨a, ⟨⟨_, b⟩, _, c⟩, _⟩ := h
 refine ⟨by omega, by omega, fun o ho => ?_⟩
 rw [List.take_of_length_le (by omega)] at a
 have := List.all_eq_true.1 a o ho
 simp only [w8, decide_eq_true_eq] at this
 omega
theorem few44_sz {supply : List Int} {offers : List OffD} {d : DealD} {m most : Int} (h : few44 supply offers d m most = true) : (∀ f ∈ d.x, szF f ≤ 6) ∧ (∀ f ∈ d.p, szF f ≤ 6) ∧ szF d.v ≤ 8 := by
 simp only [few44, Bool.and_eq_true] at h
 obtain ⟨_, _, a, b, c⟩ := h
 exact ⟨fewP_nat 6 (by decide) a, fewP_nat 6 (by decide) b, fewF_nat 8 (by decide) c⟩
theorem few44_o {supply : List Int} {offers : List OffD} {d : DealD} {m most : Int} (hm : most ≤ 12) (h : few44 supply offers d m most = true) (hr : right44 supply offers = true) : (offers.length : Int) ≤ most := by
 have h12 := (right44_iff.1 hr).n1
 simp only [few44, many44, Bool.and_eq_true, Bool.not_eq_true', Bool.or_eq_false_iff, Bool.and_eq_false_iff, decide_eq_false_iff_not] at h
 obtain ⟨_, ⟨_, c, _⟩, _⟩ := h
 omega
theorem of44_c (p q : Int) (hq : 0 < q) (p1 : -9223372036854775808 ≤ p) (p2 : p ≤ 9223372036854775807) (q2 : q ≤ 9223372036854775807) : Contract Tryz.prog 81 [dI p, dI q] (encF (ofQ ((p : Rat) / q))) := by
 have hres := Tryz.results81
 have k1 := fof_c p q (by omega) p1 p2 (by omega) q2
 rw [Rat.divInt_eq_div] at k1
 refine inC Tryz.func81 rfl Tryz.ntmps81 ?_
 exact aGo hres trivial
def exS : List Int := [10, 4]
def exO : List OffD := [⟨[6, 0], 60⟩, ⟨[8, 4], 120⟩, ⟨[0, 4], 20⟩]
theorem example44_c : Contract Tryz.prog 79 [] (.tup [encInts exS, encOfs exO]) := by
 have hres := Tryz.results79
 refine inC Tryz.func79 rfl Tryz.ntmps79 ?_
 refine aGo hres ?_
 repeat with_reducible intro K hK
 rfl
theorem samep_c (a : List FracD) (hl : (a.length : Int) ≤ 4096) (hz : ∀ f ∈ a, (szF f : Int) ≤ 9007199254740992) : Contract Tryz.prog 22 [encFs a, encFs a] (dB true) := by
 have hres := Tryz.results22
 have h0 : ((a.length : Int) != a.length) = false := by simp
 refine inC Tryz.func22 rfl Tryz.ntmps22 ?_
 refine aGo (cj2 hres h0) ?_
 repeat with_reducible intro K hK
 refine aLoopT (fun (k : Nat) => [(0, encFs a), (1, encFs a), (5, dI k)]) (fun _ => []) 0 0 (fun k => k ≤ a.length) (fun k => a.length - k) 0 (by omega) ?_ ?_
 · exact leGo trivial
 rintro k hk
 obtain ⟨hw, k0⟩ := wrap2 k
 by_cases h1 : (k : Int) < a.length
 · obtain ⟨x, hx⟩ := getE (l := a) (k := k) (by omega)
   have q1 := (rsameF_c x x (hz x (mem_at hx))).toN rfl
   rw [sameF_self] at q1
   refine aGo (cj4 hres k0 h1 (cj2 hx hw)) ?_
   repeat with_reducible intro K hK
   exact loop_end (k + 1) (by omega) (by omega) (by exact leGo trivial)
 · exact aGo (cj2 hres h1) trivial
def costW (p : List FracD) (l : List Int) : Rat := dotI p (fun i => l[i]?.getD 0) p.length
theorem deal_sz {supply : List Int} {offers : List OffD} (h : RightM supply offers) (h6 : offers.length ≤ 6) : (∀ f ∈ (dealM supply offers).x, szF f ≤ 262144) ∧ (∀ f ∈ (dealM supply offers).p, szF f ≤ 262144) := by
 have hs := sysM_right (M := mkt supply offers) (by have := h.n1; show offers.length ≤ 700; omega) (by have := h.m1; show supply.length ≤ 700; omega)
 have tn := least_tnB (h.fit h6) (by rw [sysM_n, show Dic.grow 4 6 = 17749 from rfl]; show (offers.length + 1) * (17749 + 4 + 1) ≤ 262144; omega) (by have := termsOf_len (fun i => -((mkt supply offers).P i)) offers.length; rw [show Dic.grow 4 6 = 17749 from rfl]; show ((termsOf offers.length fun i => -((mkt supply offers).P i)).length + 1) * (17749 + 4 + 1) ≤ 262144; omega) hs goalM_right
 refine ⟨fun f hf => ?_, fun f hf => ?_⟩
 · have := tn.2.1.2 f hf
   unfold tnF at this; omega
 · obtain ⟨g, hg, rfl⟩ := List.mem_map.1 hf
   have := tn.2.2.1.2 g (List.mem_of_mem_take hg)
   unfold tnF at this
   have : szF (negD g) ≤ szF g := by
    unfold negD
    split
    · rename_i ho
      rw [szF_ofQ, szQ_neg, szF_ok ho]; exact Nat.le_refl _
    · exact Nat.zero_le _
   omega
theorem lt3 {P : Nat → Prop} (h0 : P 0) (h1 : P 1) (h2 : P 2) : ∀ i, i < 3 → P i
 | 0, _ => h0
 | 1, _ => h1
 | 2, _ => h2
 | n + 3, h => absurd h (by omega)
theorem lt2 {P : Nat → Prop} (h0 : P 0) (h1 : P 1) : ∀ i, i < 2 → P i
 | 0, _ => h0
 | 1, _ => h1
 | n + 2, h => absurd h (by omega)
def exX (i : Nat) : Rat := if i = 0 then 1 / 3 else if i = 1 then 1 else 0
def exY (k : Nat) : Rat := if k = 0 then 10 else 7
theorem ex_best : Mkt.Best (mkt exS exO) exX exY :=
 ⟨⟨lt3 (by decide +kernel) (by decide +kernel) (by decide +kernel), lt3 (by decide +kernel) (by decide +kernel) (by decide +kernel), lt2 (by decide +kernel) (by decide +kernel)⟩, lt2 (by decide +kernel) (by decide +kernel), by decide +kernel⟩
theorem ex_worth : (mkt exS exO).worth exX = 140 := by decide +kernel
theorem ex_good {d : DealD} (g : GoodD exS exO d) : d.v = ofQ 140 ∧ atP d.x 0 = 1 / 3 ∧ atP d.x 1 = 1 ∧ atP d.x 2 = 0 ∧ atP d.p 0 = 10 ∧ costK exO d.p 0 = 60 := by
 have b := g.b
 have hw := b.same ex_best
 have b2 : Mkt.Best (mkt exS exO) (fun i => atP d.x i) exY := ⟨b.x, ex_best.y, hw.trans ex_best.e⟩
 have b3 : Mkt.Best (mkt exS exO) exX (fun k => atP d.p k) := ⟨ex_best.x, b.y, hw.symm.trans b.e⟩
 have c0 : (mkt exS exO).cost exY 1 = 108 := by decide +kernel
 have c1 : (mkt exS exO).cost exY 2 = 28 := by decide +kernel
 have p0 : (mkt exS exO).P 0 = 60 := by decide +kernel
 have p1 : (mkt exS exO).P 1 = 120 := by decide +kernel
 have p2 : (mkt exS exO).P 2 = 20 := by decide +kernel
 have s0 : (mkt exS exO).S 0 = 10 := by decide +kernel
 have w00 : (mkt exS exO).W 0 0 = 6 := by decide +kernel
 have w10 : (mkt exS exO).W 1 0 = 8 := by decide +kernel
 have w20 : (mkt exS exO).W 2 0 = 0 := by decide +kernel
 have w01 : (mkt exS exO).W 0 1 = 0 := by decide +kernel
 have h1 : atP d.x 1 = 1 := by
  have hi := b.x.hi 1 (by decide)
  by_cases h : atP d.x 1 < 1
  · have := Mkt.unserved b2.x b2.y b2.e (i := 1) (by decide) h
    rw [c0, p1] at this
    exact absurd this (by decide +kernel)
  · have hi' : atP d.x 1 ≤ 1 := hi
    grind
 have h2 : atP d.x 2 = 0 := by
  have lo : 0 ≤ atP d.x 2 := b.x.lo 2 (by decide)
  by_cases h : 0 < atP d.x 2
  · have := Mkt.served b2.x b2.y b2.e (i := 2) (by decide) h
    rw [c1, p2] at this
    exact absurd this (by decide +kernel)
  · grind
 have hu : (mkt exS exO).used (fun i => atP d.x i) 0 = 0 + atP d.x 0 * 6 + atP d.x 1 * 8 + atP d.x 2 * 0 := by
  rw [← w00, ← w10, ← w20]; rfl
 have h0 : atP d.x 0 = 1 / 3 := by
  have su := b.x.sup 0 (by decide)
  by_cases h : (mkt exS exO).used (fun i => atP d.x i) 0 < (mkt exS exO).S 0
  · have := Mkt.leftover b2.x b2.y b2.e (k := 0) (by decide) h
    exact absurd this (by decide +kernel)
  · rw [hu, s0, h1, h2] at su h
    grind
 have hc : (mkt exS exO).cost (fun k => atP d.p k) 0 = 60 := by
  have a := Mkt.served b3.x b3.y b3.e (i := 0) (by decide) (by decide +kernel)
  have c := Mkt.unserved b3.x b3.y b3.e (i := 0) (by decide) (by decide +kernel)
  rw [p0] at a c
  exact Rat.le_antisymm a c
 have hc2 : (mkt exS exO).cost (fun k => atP d.p k) 0 = 0 + atP d.p 0 * 6 + atP d.p 1 * 0 := by
  rw [← w00, ← w01]; rfl
 refine ⟨by rw [g.v, hw, ex_worth], h0, h1, h2, by rw [hc2] at hc; grind, by rw [cost_eq g.lp]; exact hc⟩
abbrev exD (y : Rat) : DealD := ⟨[ofQ (((1 : Int) : Rat) / ((3 : Int) : Rat)), ofQ (((1 : Int) : Rat) / ((1 : Int) : Rat)), ofQ (((0 : Int) : Rat) / ((1 : Int) : Rat))], [ofQ ((10 : Int) : Rat), ofQ y], ofQ ((140 : Int) : Rat)⟩
theorem ex_deal {d : DealD} (g : GoodD exS exO d) : ∃ y, d = exD y := by
 obtain ⟨e1, e2, e3, e4, e5, _⟩ := ex_good g
 have a := list_fracs g.ox
 have b := list_fracs g.op
 rw [g.lx] at a
 rw [g.lp] at b
 have a' : d.x = [ofQ (atP d.x 0), ofQ (atP d.x 1), ofQ (atP d.x 2)] := a
 have b' : d.p = [ofQ (atP d.p 0), ofQ (atP d.p 1)] := b
 rw [e2, e3, e4] at a'
 rw [e5] at b'
 have c1 : (1 / 3 : Rat) = ((1 : Int) : Rat) / ((3 : Int) : Rat) := by decide +kernel
 have c2 : (1 : Rat) = ((1 : Int) : Rat) / ((1 : Int) : Rat) := by decide +kernel
 have c3 : (0 : Rat) = ((0 : Int) : Rat) / ((1 : Int) : Rat) := by decide +kernel
 have a2 : d.x = [ofQ (((1 : Int) : Rat) / ((3 : Int) : Rat)), ofQ (((1 : Int) : Rat) / ((1 : Int) : Rat)), ofQ (((0 : Int) : Rat) / ((1 : Int) : Rat))] := by rw [a', ← c1, ← c2, ← c3]
 have b2 : d.p = [ofQ ((10 : Int) : Rat), ofQ (atP d.p 1)] := b'
 have v2 : d.v = ofQ ((140 : Int) : Rat) := e1
 generalize atP d.p 1 = y at b2
 refine ⟨y, ?_⟩
 obtain ⟨x, p, v⟩ := d
 simp only at a2 b2 v2
 subst a2 b2 v2
 rfl
theorem ex_right : right44 exS exO = true := by decide +kernel
theorem small44_c : Contract Tryz.prog 14 [] (dB true) := by
 have hres := Tryz.results14
 have ke := example44_c
 have sm : SmM exS exO := ⟨by decide, by decide, by decide⟩
 have kb := best44_c exS exO (fun _ => by decide) sm
 obtain ⟨b0, bg⟩ := best44_good ex_right
 have bz := deal_sz (right44_iff.1 ex_right) (by decide)
 have eb : (best44 exS exO).1 = dealM exS exO := by unfold best44; rw [ex_right]; rfl
 rw [← eb] at bz
 obtain ⟨y, hy⟩ := ex_deal bg
 rw [b0] at kb
 have hcost := (ex_good bg).2.2.2.2.2
 rw [hy] at kb bg bz hcost
 have kn := best44_c [] exO (fun h => by exact absurd h (by decide)) ⟨by decide, by decide, by decide⟩
 rw [show best44 [] exO = (zDl, 1) from rfl] at kn
 have kp := pays44_c exS exO (exD y) bg bz.1 bz.2
 have ep : fracsOf exO.length (payI exO (exD y)) = [ofQ ((20 : Int) : Rat), ofQ (payI exO (exD y) 1), ofQ ((0 : Int) : Rat)] := by
  have e0 : payI exO (exD y) 0 = ((20 : Int) : Rat) := by
   show atP (exD y).x (0 : Nat) * costK exO (exD y).p 0 = _
   rw [hcost]
   have : atP (exD y).x ((0 : Nat) : Int) = ((1 : Int) : Rat) / ((3 : Int) : Rat) := by unfold atP; simp [qOf_ofQ]
   rw [this]; decide +kernel
  have e2 : payI exO (exD y) 2 = ((0 : Int) : Rat) := by
   show atP (exD y).x (2 : Nat) * costK exO (exD y).p 2 = _
   have : atP (exD y).x ((2 : Nat) : Int) = ((0 : Int) : Rat) / ((1 : Int) : Rat) := by unfold atP; simp [qOf_ofQ]
   rw [this, show ((0 : Int) : Rat) / ((1 : Int) : Rat) = 0 by decide +kernel]; grind
  rw [← e0, ← e2]; rfl
 rw [ep] at kp
 have kc := check44_c exS exO (exD y) sm bz.1 bz.2
 rw [check44_iff.2 bg] at kc
 have kw := check44_c exS exO { exD y with v := ofQ ((150 : Int) : Rat) } sm bz.1 bz.2
 have hw : check44 exS exO { exD y with v := ofQ ((150 : Int) : Rat) } = false := by
  cases h : check44 exS exO { exD y with v := ofQ ((150 : Int) : Rat) } with
  | false => rfl
  | true =>
    have g := (ex_good (check44_iff.1 h)).1
    have g' := congrArg qOf g
    rw [qOf_ofQ, qOf_ofQ] at g'
    exact absurd g' (by decide +kernel)
 rw [hw] at kw
 have kr := right44_c exS exO sm
 rw [ex_right] at kr
 have i1 := fint_c 150 (by decide) (by decide)
 have i2 := fint_c 140 (by decide) (by decide)
 have i3 := fint_c 10 (by decide) (by decide)
 have i4 := fint_c 20 (by decide) (by decide)
 have i5 := fint_c 0 (by decide) (by decide)
 have o1 := of44_c 1 3 (by decide) (by decide) (by decide) (by decide)
 have o2 := of44_c 1 1 (by decide) (by decide) (by decide) (by decide)
 have o3 := of44_c 0 1 (by decide) (by decide) (by decide) (by decide)
 have ks := samep_c (exD y).x (by show ((3 : Nat) : Int) ≤ 4096; decide) (fun f hf => by have := bz.1 f hf; omega)
 have s2 := fsame_c (ofQ ((140 : Int) : Rat)) (ofQ ((140 : Int) : Rat))
 have s3 := fsame_c (ofQ ((10 : Int) : Rat)) (ofQ ((10 : Int) : Rat))
 have s4 := fsame_c (ofQ ((20 : Int) : Rat)) (ofQ ((20 : Int) : Rat))
 have s5 := fsame_c (ofQ ((0 : Int) : Rat)) (ofQ ((0 : Int) : Rat))
 rw [sameF_self] at s2 s3 s4 s5
 have b00 : ((0 : Int) != 0) = false := rfl
 have b11 : ((1 : Int) != 1) = false := rfl
 refine inC Tryz.func14 rfl Tryz.ntmps14 ?_
 exact aGo (cj3 hres b00 b11) trivial
set_option maxHeartbeats 32000000
theorem rdotA_c (p : List FracD) (l : List Int) {B : Nat} (op : okP p = true) (hl : p.length ≤ 16) (hz : ∀ f ∈ p, szF f ≤ B) (hB : B ≤ 262144) (hw : l.length = p.length) (hn : ∀ x ∈ l, -9223372036854775808 ≤ x ∧ x ≤ 9223372036854775807) : Contract Tryz.prog 115 [encFs p, encInts l] (encF (ofQ (costW p l))) := by
 have hres := Tryz.results115
 have kz := rint_c 0 (by decide) (by decide)
 obtain ⟨n, hN⟩ : ∃ n : Nat → Int, n = fun i => l[i]?.getD 0 := ⟨_, rfl⟩
 have hat : ∀ i x, l[i]? = some x → x = n i := fun i x h => by rw [hN]; simp only [h]; rfl
 have hnb : ∀ i, i < p.length → -9223372036854775808 ≤ n i ∧ n i ≤ 9223372036854775807 := fun i hi => by
  have e : l[i]? = some (l[i]'(by omega)) := List.getElem?_eq_getElem (by omega)
  rw [← hat i _ e]; exact hn _ (List.getElem_mem _)
 unfold costW
 rw [← hN]
 have e0 : dotI p n 0 = ((0 : Int) : Rat) := rfl
 refine inC Tryz.func115 rfl Tryz.ntmps115 ?_
 refine aGo hres ?_
 repeat with_reducible intro K hK
 refine aLoopT (fun (k : Nat) => [(0, encFs p), (1, encInts l), (4, .lp 0 0 0 0), (5, .lp 1 0 0 0), (6, dI k)]) (fun k => [(0, ⟨32, 0, 4, [zc], 0, false⟩), (1, ⟨32, 0, 4, [cF (ofQ (dotI p n k))], 0, false⟩)]) 2 0 (fun k => k ≤ p.length) (fun k => p.length - k) 0 (by omega) ?_ ?_
 · exact leGo e0
 rintro k hk
 obtain ⟨hwk, h0⟩ := wrap2 k
 by_cases h1 : (k : Int) < p.length
 · have h2 : (k : Int) < l.length := by omega
   obtain ⟨f, hx⟩ := getE (l := p) (k := k) (by omega)
   obtain ⟨x, hy⟩ := getE (l := l) (k := k) (by omega)
   obtain rfl := hat k x hy
   have o := List.all_eq_true.1 op f (mem_at hx)
   have z := hz f (mem_at hx)
   obtain ⟨n0, n1⟩ := hnb k (by omega)
   have sn := szQ_int (n k) n0 (by omega)
   have sm := szQ_mul (qOf f) (n k : Rat)
   rw [szF_ok o] at sm
   have ss := dotI_sz op hz (fun i hi => szQ_int (n i) (hnb i hi).1 (by have := (hnb i hi).2; omega)) k hk
   have sk : k * (B + 4 + 1) ≤ 16 * (B + 4 + 1) := Nat.mul_le_mul_right _ (by omega)
   have ki := rint_c (n k) n0 n1
   have km := rmulF_c f (ofQ (n k : Rat)) (by omega) (by rw [szF_ofQ]; omega)
   have em : mulD f (ofQ (n k : Rat)) = (ofQ (qOf f * (n k : Rat)), 0) := by rw [okF_eq o, mulD_ofQ, qOf_ofQ]
   rw [em] at km
   have ka := raddF_c (ofQ (dotI p n k)) (ofQ (qOf f * (n k : Rat))) (by rw [szF_ofQ]; omega) (by rw [szF_ofQ]; omega)
   rw [addD_ofQ, ← dotI_succ p n hx] at ka
   refine aGo (cj4 hres h0 h1 (cj4 h2 hx hy hwk)) ?_
   repeat with_reducible intro K hK
   exact loop_end (k + 1) (by omega) (by omega) (by exact leGo trivial)
 · obtain rfl : k = p.length := by omega
   exact aGo (cj2 hres h1) trivial
theorem rdot44_c (p : List FracD) (l : List Int) {B : Nat} (op : okP p = true) (hl : p.length ≤ 16) (hz : ∀ f ∈ p, szF f ≤ B) (hB : B ≤ 262144) (hw : l.length = p.length) (hn : ∀ x ∈ l, 0 ≤ x ∧ x ≤ 1125899906842624) : Contract Tryz.prog 115 [encFs p, encInts l] (encF (ofQ (costW p l))) :=
 rdotA_c p l op hl hz hB hw (fun x hx => by have := hn x hx; omega)
def wantsL (offers : List OffD) (k : Nat) : List Int := (List.range offers.length).map (wantI offers k)
def bidsL (offers : List OffD) : List Int := (List.range offers.length).map (bidI offers)
section
variable {supply : List Int} {offers : List OffD} (R : RightM supply offers)
include R
theorem rwants_c (m : Nat) (hm : m < supply.length) : Contract Tryz.prog 89 [encOfs offers, dI m] (encInts (wantsL offers m)) := by
 have hres := Tryz.results89
 have hn := R.n1
 obtain ⟨F, hF⟩ : ∃ F : Nat → List Int, F = fun n => (List.range n).map (wantI offers m) := ⟨_, rfl⟩
 have F0 : F 0 = [] := by rw [hF]; rfl
 have Fs : ∀ n, F (n + 1) = F n ++ [wantI offers m n] := fun n => by rw [hF]; simp only [List.range_succ, List.map_append]; rfl
 have Fl : ∀ n, (F n).length = n := fun n => by rw [hF]; simp
 have Fe : wantsL offers m = F offers.length := by rw [hF]; rfl
 have m0 : (0 : Int) ≤ m := by omega
 refine inC Tryz.func89 rfl Tryz.ntmps89 ?_
 refine aGo hres ?_
 repeat with_reducible intro K hK
 refine aLe (le_row 5 3 1 rfl) ?_
 refine aLoopT (fun (k : Nat) => [(0, encOfs offers), (1, dI m), (5, .ls 0 k), (6, dI k)]) (fun k => [(0, ⟨3, k, 1, (F k).map fun x => [dI x], 0, false⟩)]) 1 0 (fun k => k ≤ offers.length) (fun k => offers.length - k) 0 (by omega) ?_ ?_
 · exact leGo F0
 rintro k hk
 obtain ⟨hw, k0⟩ := wrap2 k
 by_cases h1 : (k : Int) < offers.length
 · obtain ⟨o, ho⟩ := getE (l := offers) (k := k) (by omega)
   obtain ⟨hwt, w0, w1⟩ := R.want (k := m) ho hm
   have h1w : (m : Int) < o.wants.length := by have := (R.w o (mem_at ho)).1; omega
   have F1 := Fs k
   have F2 := Fl k
   refine aGo (cj4 hres k0 m0 (cj4 h1 h1w ho (cj3 hwt hw F2))) ?_
   repeat with_reducible intro K hK
   exact loop_end (k + 1) (by omega) (by omega) (by exact leGo F1)
 · obtain rfl : k = offers.length := by omega
   refine aGo (cj2 hres h1) ?_
   repeat with_reducible intro K hK
   rw [map_map_id (fun _ => rfl), Fe]
theorem rbids_c : Contract Tryz.prog 92 [encOfs offers] (encInts (bidsL offers)) := by
 have hres := Tryz.results92
 have hn := R.n1
 obtain ⟨F, hF⟩ : ∃ F : Nat → List Int, F = fun n => (List.range n).map (bidI offers) := ⟨_, rfl⟩
 have F0 : F 0 = [] := by rw [hF]; rfl
 have Fs : ∀ n, F (n + 1) = F n ++ [bidI offers n] := fun n => by rw [hF]; simp only [List.range_succ, List.map_append]; rfl
 have Fl : ∀ n, (F n).length = n := fun n => by rw [hF]; simp
 have Fe : bidsL offers = F offers.length := by rw [hF]; rfl
 refine inC Tryz.func92 rfl Tryz.ntmps92 ?_
 refine aGo hres ?_
 repeat with_reducible intro K hK
 refine aLe (le_row 3 3 1 rfl) ?_
 refine aLoopT (fun (k : Nat) => [(0, encOfs offers), (3, .ls 0 k), (4, dI k)]) (fun k => [(0, ⟨3, k, 1, (F k).map fun x => [dI x], 0, false⟩)]) 1 0 (fun k => k ≤ offers.length) (fun k => offers.length - k) 0 (by omega) ?_ ?_
 · exact leGo F0
 rintro k hk
 obtain ⟨hw, k0⟩ := wrap2 k
 by_cases h1 : (k : Int) < offers.length
 · obtain ⟨o, ho⟩ := getE (l := offers) (k := k) (by omega)
   have eb := R.bid_at ho
   have F1 := Fs k
   have F2 := Fl k
   refine aGo (cj4 hres k0 h1 (cj4 ho hw F2 eb)) ?_
   repeat with_reducible intro K hK
   exact loop_end (k + 1) (by omega) (by omega) (by exact leGo F1)
 · obtain rfl : k = offers.length := by omega
   refine aGo (cj2 hres h1) ?_
   repeat with_reducible intro K hK
   rw [map_map_id (fun _ => rfl), Fe]
omit R in
theorem costW_range {x : List FracD} {f : Nat → Int} {n : Nat} (h : x.length = n) : costW x ((List.range n).map f) = dotI x f x.length := by
 unfold costW dotI
 refine sumN_congr _ fun i hi => ?_
 have : ((List.range n).map f)[i]? = some (f i) := by rw [List.getElem?_map, List.getElem?_range (by omega)]; rfl
 show atP x (i : Nat) * ((((List.range n).map f)[i]?.getD 0 : Int) : Rat) = _
 rw [this]; rfl
theorem worth44_c (x : List FracD) (ox : okP x = true) (lx : x.length = offers.length) (zx : ∀ f ∈ x, szF f ≤ 262144) : Contract Tryz.prog 98 [encOfs offers, encFs x] (encF (ofQ (worthI offers x))) := by
 have hres := Tryz.results98
 have hn := R.n1
 have k1 := rbids_c R
 have k2 := rdot44_c x (bidsL offers) ox (by omega) zx (Nat.le_refl _) (by simp [bidsL]; omega) (fun y hy => by
  obtain ⟨i, _, rfl⟩ := List.mem_map.1 hy
  exact R.pb i)
 rw [show costW x (bidsL offers) = worthI offers x from costW_range lx] at k2
 refine inC Tryz.func98 rfl Tryz.ntmps98 ?_
 exact aGo hres trivial
theorem division44_c (x : List FracD) (zx : ∀ f ∈ x, szF f ≤ 262144) (lx15 : x.length ≤ 15) : Contract Tryz.prog 95 [encInts supply, encOfs offers, encFs x] (dB (divB supply offers x)) := by
 have hres := Tryz.results95
 have hn := R.n1
 have hm := R.m1
 have e0 : divB supply offers x = (decide (x.length = offers.length) && (x.all shOk && (List.range supply.length).all (fitsM supply offers x))) := rfl
 generalize divB supply offers x = Z at e0 ⊢
 cases h1 : (x.length : Int) != offers.length
 rotate_left
 · refine inC Tryz.func95 rfl Tryz.ntmps95 ?_
   refine aGo (cj2 hres h1) ?_
   repeat with_reducible intro K hK
   exact bool_eq (by rw [e0, decide_eq_false (by simp at h1; omega), Bool.false_and])
 have lx : x.length = offers.length := by simp at h1; omega
 rw [decide_eq_true lx, Bool.true_and] at e0
 refine inC Tryz.func95 rfl Tryz.ntmps95 ?_
 refine aGo (cj2 hres h1) ?_
 repeat with_reducible intro K hK
 refine aLoopT (fun (k : Nat) => [(0, encInts supply), (1, encOfs offers), (2, encFs x), (7, dI k)]) (fun _ => []) 0 0 (fun k => k ≤ x.length ∧ (x.take k).all shOk = true) (fun k => x.length - k) 0 ⟨by omega, rfl⟩ ?_ ?_
 · exact leGo trivial
 rintro k ⟨hk, hg⟩
 obtain ⟨hw, k0⟩ := wrap2 k
 by_cases h2 : (k : Int) < x.length
 · obtain ⟨f, hf⟩ := getE (l := x) (k := k) (by omega)
   have zf := zx f (mem_at hf)
   have q1 := (rrightF_c f (by omega)).toN rfl
   have q2 := (rsignF_c f (by omega)).toN rfl
   have q3 := rint_c 1 (by decide) (by decide)
   have q4 := (rcompareF_c f (ofQ ((1 : Int) : Rat)) (by omega) (by decide +kernel)).toN rfl
   have bad : shOk f = false → D.v (.bool false) = dB Z := fun e => bool_eq (by rw [e0, all_not hf e]; rfl)
   cases h4 : okF f
   · rw [h4] at q1
     refine aGo (cj4 hres k0 h2 (cj2 hf hw)) ?_
     repeat with_reducible intro K hK
     exact bad (by simp [shOk, h4])
   rw [h4] at q1
   by_cases h5 : sgnD f < 0
   · refine aGo (cj4 hres k0 h2 (cj3 hf hw h5)) ?_
     repeat with_reducible intro K hK
     exact bad (by have := (sgn_lt h4).1 h5; simp only [shOk, h4, Bool.true_and, Bool.and_eq_false_iff, decide_eq_false_iff_not]; left; grind)
   by_cases h6 : cmpD f (ofQ ((1 : Int) : Rat)) > 0
   · refine aGo (cj4 hres k0 h2 (cj4 hf hw h5 h6)) ?_
     repeat with_reducible intro K hK
     exact bad (by have := (cmp_gt h4 (okF_ofQ _)).1 h6; rw [qOf_ofQ] at this; simp only [shOk, h4, Bool.true_and, Bool.and_eq_false_iff, decide_eq_false_iff_not]; right; grind)
   refine aGo (cj4 hres k0 h2 (cj4 hf hw h5 h6)) ?_
   repeat with_reducible intro K hK
   exact loop_end (k + 1) ⟨by omega, all_take_succ hf hg (by
    have a := mt (sgn_lt h4).2 h5
    have b := mt (cmp_gt h4 (okF_ofQ _)).2 h6
    rw [qOf_ofQ] at b
    simp only [shOk, h4, Bool.true_and, Bool.and_eq_true, decide_eq_true_eq]
    constructor <;> grind)⟩ (by omega) (by exact leGo trivial)
 obtain rfl : k = x.length := by omega
 rw [List.take_of_length_le (by omega)] at hg
 clear hk k0 hw
 rw [hg, Bool.true_and] at e0
 have ox := (shares_ok hg).1
 refine aGo (cj2 hres h2) ?_
 repeat with_reducible intro K hK
 refine aLoopT (fun (k : Nat) => [(0, encInts supply), (1, encOfs offers), (2, encFs x), (8, dI k)]) (fun _ => []) 0 0 (fun k => k ≤ supply.length ∧ (List.range k).all (fitsM supply offers x) = true) (fun k => supply.length - k) 0 ⟨by omega, rfl⟩ ?_ ?_
 · exact leGo trivial
 rintro k ⟨hk, hg2⟩
 obtain ⟨hw, k0⟩ := wrap2 k
 by_cases h3 : (k : Int) < supply.length
 · obtain ⟨s, hs⟩ := getE (l := supply) (k := k) (by omega)
   have hsb := R.s s (mem_at hs)
   have ef : fitsM supply offers x k = decide (usedI offers x k ≤ (s : Rat)) := by unfold fitsM; rw [hs]; rfl
   have q1 := rwants_c R k (by omega)
   have q2 := rdot44_c x (wantsL offers k) ox (by omega) zx (Nat.le_refl _) (by simp [wantsL]; omega) (fun y hy => by
    obtain ⟨i, _, rfl⟩ := List.mem_map.1 hy
    exact ⟨(R.wb k i).1, by have := (R.wb k i).2; omega⟩)
   rw [show costW x (wantsL offers k) = usedI offers x k from costW_range lx] at q2
   have q3 := rint_c s (by omega) (by omega)
   have uz : (szQ (usedI offers x k) : Int) ≤ 4500000 := R.dot_sz ox (by omega) zx (Nat.le_refl _) (n := wantI offers k) (fun i => ⟨(R.wb k i).1, by have := (R.wb k i).2; omega⟩)
   have sz := szI_le s hsb.1 (by omega)
   have q4 := (rcompareF_c (ofQ (usedI offers x k)) (ofQ (s : Rat)) (by rw [szF_ofQ]; omega) (by rw [szF_ofQ]; omega)).toN rfl
   by_cases h4 : cmpD (ofQ (usedI offers x k)) (ofQ (s : Rat)) > 0
   · refine aGo (cj4 hres k0 h3 (cj3 hs hw h4)) ?_
     repeat with_reducible intro K hK
     exact bool_eq (by
      have a := (cmp_gt (okF_ofQ _) (okF_ofQ _)).1 h4
      rw [qOf_ofQ, qOf_ofQ] at a
      rw [e0]
      refine (List.all_eq_false.2 ⟨k, List.mem_range.2 (by omega), ?_⟩).symm
      rw [ef]; simp; grind)
   · refine aGo (cj4 hres k0 h3 (cj3 hs hw h4)) ?_
     repeat with_reducible intro K hK
     exact loop_end (k + 1) ⟨by omega, by
      have a := mt (cmp_gt (okF_ofQ _) (okF_ofQ _)).2 h4
      rw [qOf_ofQ, qOf_ofQ] at a
      rw [List.range_succ, List.all_append, hg2, Bool.true_and]
      simp only [List.all_cons, List.all_nil, Bool.and_true]
      rw [ef]; simp; grind⟩ (by omega) (by exact leGo trivial)
 · obtain rfl : k = supply.length := by omega
   refine aGo (cj2 hres h3) ?_
   repeat with_reducible intro K hK
   exact bool_eq (by rw [e0, hg2])
end
theorem GoodD.top {supply : List Int} {offers : List OffD} {d : DealD} {x : List FracD} (g : GoodD supply offers d) (h : divB supply offers x = true) : cmpD (ofQ (worthI offers x)) d.v ≤ 0 := by
 obtain ⟨a, b, c⟩ := divB_iff.1 h
 have e := g.b.top c
 rw [g.v]
 have := mt (cmp_gt (okF_ofQ (worthI offers x)) (okF_ofQ ((mkt supply offers).worth fun i => atP d.x i))).1
 rw [qOf_ofQ, qOf_ofQ, worth_eq (supply := supply) a] at this
 have h2 := this (by grind)
 rw [worth_eq (supply := supply) a]
 omega
set_option linter.constructorNameAsVariable false
section
variable {n : Nat} {x : List D}
theorem fracs_of (h : Shown Tryz.prog (n + 5) 33 x) : ∃ l, x = [encFs l] := by
 unfold Shown at h
 simp only [Tryz.underlying33] at h
 obtain ⟨es, rfl, _, h⟩ := h
 obtain ⟨l, rfl⟩ := map_of_all (f := cF) (fun x hx => frac_of (h x hx))
 exact ⟨l, rfl⟩
theorem deal_of (h : Shown Tryz.prog (n + 6) 44 x) : ∃ d, x = cDl d := by
 unfold Shown at h
 simp only [Tryz.underlying44, List.foldr] at h
 obtain ⟨_, _, rfl, h1, _, _, rfl, h2, _, _, rfl, h3, rfl⟩ := h
 obtain ⟨a, rfl⟩ := fracs_of h1
 obtain ⟨b, rfl⟩ := fracs_of h2
 obtain ⟨c, rfl⟩ := frac_of h3
 exact ⟨⟨a, b, c⟩, rfl⟩
end
end Go.Proofs.YtpkdhmnlpnijhaaGreat
