/-
  Fractions: Right, Sign, Same, times, slim, Int: the walks.
-/
import Derived.Test.YtpkdhmnlpnijhaaGreatVBigB
import Derived.Test.YtpkdhmnlpnijhaaGreatVLib
namespace Go.Proofs.YtpkdhmnlpnijhaaGreat
set_option linter.unusedVariables false
set_option linter.unusedSimpArgs false
set_option linter.unusedSectionVars false
open Go.RowKit
attribute [local go_sem] relOp relAt relUpon
theorem okF_parts {P Q : Int} : okF ⟨ofZ P, ofZ Q⟩ = ((ofZ Q).s == 1 && decide ((Nat.gcd P.natAbs Q.natAbs : Int) = 1)) := by
 simp only [okF, okB_ofZ, zOf_ofZ, Bool.true_and]
 congr 1
 rw [Bool.eq_iff_iff]; simp; omega
theorem ofQ_int (n : Int) : ofQ (n : Rat) = ⟨ofZ n, ofZ 1⟩ := rfl
theorem divInt_parts {p q : Int} (hq : 0 < q) : ∃ c d : Int, p = (Nat.gcd p.natAbs q.natAbs : Int) * c ∧ q = (Nat.gcd p.natAbs q.natAbs : Int) * d ∧ ofQ (Rat.divInt p q) = ⟨ofZ c, ofZ d⟩ ∧ 0 < (Nat.gcd p.natAbs q.natAbs : Int) := by
 have hg : 0 < Nat.gcd p.natAbs q.natAbs := Nat.gcd_pos_of_pos_right _ (by omega)
 have e1 : ((Nat.gcd p.natAbs q.natAbs : Nat) : Int) ∣ p := Int.gcd_dvd_left ..
 have e2 : ((Nat.gcd p.natAbs q.natAbs : Nat) : Int) ∣ q := Int.gcd_dvd_right ..
 refine ⟨p / (Nat.gcd p.natAbs q.natAbs : Int), q / (Nat.gcd p.natAbs q.natAbs : Int), (Int.mul_ediv_cancel' e1).symm, (Int.mul_ediv_cancel' e2).symm, ?_, by omega⟩
 have hgc : Int.gcd q p = Nat.gcd p.natAbs q.natAbs := Nat.gcd_comm _ _
 have h1 : (Rat.divInt p q).num = p / (Nat.gcd p.natAbs q.natAbs : Int) := by
  rw [Rat.num_divInt, Int.sign_eq_one_of_pos hq, hgc, Int.one_mul]
 have h2 : (((Rat.divInt p q).den : Nat) : Int) = q / (Nat.gcd p.natAbs q.natAbs : Int) := by
  rw [Rat.den_divInt, if_neg (by omega), hgc, Int.natCast_ediv]
  congr 1; omega
 unfold ofQ
 rw [h1, h2]
theorem szZ_gcd {p q : Int} : szZ (Nat.gcd p.natAbs q.natAbs : Nat) ≤ max (szZ p) (szZ q) := by
 by_cases h : p = 0
 · subst h; rw [show Nat.gcd (0 : Int).natAbs q.natAbs = q.natAbs by simp]
   have : szZ ((q.natAbs : Nat) : Int) = szZ q := by unfold szZ; simp
   omega
 · have : szZ ((Nat.gcd p.natAbs q.natAbs : Nat) : Int) ≤ szZ p := szZ_mono (by
     have := Nat.gcd_le_left q.natAbs (show 0 < p.natAbs by omega)
     simpa using this)
   omega
theorem szQ_parts (r : Rat) : szZ r.num ≤ szQ r ∧ szZ (r.den : Int) ≤ szQ r := by rw [szQ_eq]; omega
theorem sgQ_divInt {p q : Int} (hq : 0 < q) : sgQ (Rat.divInt p q) = p.sign := by
 obtain ⟨c, d, h1, h2, h3, h4⟩ := divInt_parts (p := p) hq
 have h5 : (Rat.divInt p q).num = c := ofZ_inj (congrArg FracD.p h3)
 unfold sgQ
 rw [h5]
 conv => rhs; rw [h1]
 rw [Int.sign_mul, Int.sign_eq_one_of_pos h4]; omega
theorem sgQ_sub (a b : Rat) : sgQ (a - b) = (a.num * b.den - b.num * a.den).sign := by
 rw [sub_divInt, sgQ_divInt]
 have h1 := a.den_pos
 have h2 := b.den_pos
 exact Int.mul_pos (by omega) (by omega)
def sameF (f g : FracD) : Bool := sameB f.p g.p && sameB f.q g.q
end Go.Proofs.YtpkdhmnlpnijhaaGreat
