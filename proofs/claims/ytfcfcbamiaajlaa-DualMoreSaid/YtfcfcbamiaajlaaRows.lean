/-
  No cell of these rows narrows 'for every input' (looked for: loops, veiled, ifaces, maps, wideKeys, modest, calm, conditions, laid).
  DERIVED. THE GIVEN ROWS OF THIS SEAT. 5 by the template 'for every input the law returns true; each argument reads behind the call as it read before'; 0 by the template 'total and deterministic' (their statements: YtfcfcbamiaajlaaTotals.lean).
  GIVEN WITH THE SEED: the statements are not yours to turn. If you find one false, say at which input.
  Laid BY PROGRAM, IN A SANDBOX (cutbox-rows.mjs): the forced cells as the released guide's own fill.sh prints them over the translation 4dfe25e0d9aab6a6… (all of the seat's roots in one cut). By AI agents, Wed Nov 11 2026. No macro, syntax, notation, axiom, sorry.
-/
import Derived.Test.YtfcfcbamiaajlaaChecked
import GoSem.Claim
import GoSem.ClaimJoined
import GoSem.ClaimMapViews
import Derived.JoinedTies
import Derived.KernelRfl
namespace Go.Proofs.Ytfcfcbamiaajlaa
/- THE CELL 'sum', in the pinned program and in every row, IS THE sha256 OF THE DUMP (.gsa) THAT YtfcfcbamiaajlaaProg.lean LOADS. Nothing in Lean hashes anything: it is a label: what it is worth is what the hold of that sum in a sandbox is worth. -/
noncomputable def Try.pinned : Pinned := { name := "ytfcfcbamiaajlaa", sum := "4dfe25e0d9aab6a6883d271b4b1cbec9068b2c9146706c7471d9162257427aca", checked := Try.checked }
namespace Rows
def none {H : Type} : Left H := { results := [], args := [] }

/-- 'kerbsidelaw09.DualBounds': WHATEVER THE INPUT: true; the input reads as it did. -/
def dualBoundsSpec : ChangeSpec := { name := "dualBounds", fn := fun _ => fun
  | [d1, d2, d3, d4] => { results := [.lit (.bool true)], args := [d1, d2, d3, d4] }
  | _ => none }
def dualBoundsRow : OpenClaim := { program := "ytfcfcbamiaajlaa", sum := "4dfe25e0d9aab6a6883d271b4b1cbec9068b2c9146706c7471d9162257427aca", func := "kerbside/kerbsidelaw09.DualBounds", spec := "dualBounds", unfollowed := true, recurses := true, apart := false }
def DualBoundsSaid : Prop := dualBoundsRow.holds Try.pinned (OpenSpec.ofChange dualBoundsSpec)

/-- ITS FALSE NEIGHBOUR: 'it returns false'. Refute it at one input. -/
def dualBoundsWrong : ChangeSpec := { name := "dualBounds", fn := fun _ => fun
  | [d1, d2, d3, d4] => { results := [.lit (.bool false)], args := [d1, d2, d3, d4] }
  | _ => none }
def DualBoundsWrongFalsely : Prop := dualBoundsRow.holds Try.pinned (OpenSpec.ofChange dualBoundsWrong)

/-- 'kerbsidelaw09.DualAgrees': WHATEVER THE INPUT: true; the input reads as it did. -/
def dualAgreesSpec : ChangeSpec := { name := "dualAgrees", fn := fun _ => fun
  | [d1, d2, d3, d4, d5] => { results := [.lit (.bool true)], args := [d1, d2, d3, d4, d5] }
  | _ => none }
def dualAgreesRow : OpenClaim := { program := "ytfcfcbamiaajlaa", sum := "4dfe25e0d9aab6a6883d271b4b1cbec9068b2c9146706c7471d9162257427aca", func := "kerbside/kerbsidelaw09.DualAgrees", spec := "dualAgrees", unfollowed := true, recurses := true, apart := false }
def DualAgreesSaid : Prop := dualAgreesRow.holds Try.pinned (OpenSpec.ofChange dualAgreesSpec)

/-- ITS FALSE NEIGHBOUR: 'it returns false'. Refute it at one input. -/
def dualAgreesWrong : ChangeSpec := { name := "dualAgrees", fn := fun _ => fun
  | [d1, d2, d3, d4, d5] => { results := [.lit (.bool false)], args := [d1, d2, d3, d4, d5] }
  | _ => none }
def DualAgreesWrongFalsely : Prop := dualAgreesRow.holds Try.pinned (OpenSpec.ofChange dualAgreesWrong)

/-- 'kerbsidelaw09.DualMore': WHATEVER THE INPUT: true; the input reads as it did. -/
def dualMoreSpec : ChangeSpec := { name := "dualMore", fn := fun _ => fun
  | [d1, d2, d3, d4, d5] => { results := [.lit (.bool true)], args := [d1, d2, d3, d4, d5] }
  | _ => none }
def dualMoreRow : OpenClaim := { program := "ytfcfcbamiaajlaa", sum := "4dfe25e0d9aab6a6883d271b4b1cbec9068b2c9146706c7471d9162257427aca", func := "kerbside/kerbsidelaw09.DualMore", spec := "dualMore", unfollowed := true, recurses := true, apart := false }
def DualMoreSaid : Prop := dualMoreRow.holds Try.pinned (OpenSpec.ofChange dualMoreSpec)

/-- ITS FALSE NEIGHBOUR: 'it returns false'. Refute it at one input. -/
def dualMoreWrong : ChangeSpec := { name := "dualMore", fn := fun _ => fun
  | [d1, d2, d3, d4, d5] => { results := [.lit (.bool false)], args := [d1, d2, d3, d4, d5] }
  | _ => none }
def DualMoreWrongFalsely : Prop := dualMoreRow.holds Try.pinned (OpenSpec.ofChange dualMoreWrong)

/-- 'kerbsidelaw09.DualRay': WHATEVER THE INPUT: true; the input reads as it did. -/
def dualRaySpec : ChangeSpec := { name := "dualRay", fn := fun _ => fun
  | [d1, d2, d3, d4, d5, d6] => { results := [.lit (.bool true)], args := [d1, d2, d3, d4, d5, d6] }
  | _ => none }
def dualRayRow : OpenClaim := { program := "ytfcfcbamiaajlaa", sum := "4dfe25e0d9aab6a6883d271b4b1cbec9068b2c9146706c7471d9162257427aca", func := "kerbside/kerbsidelaw09.DualRay", spec := "dualRay", unfollowed := true, recurses := true, apart := false }
def DualRaySaid : Prop := dualRayRow.holds Try.pinned (OpenSpec.ofChange dualRaySpec)

/-- ITS FALSE NEIGHBOUR: 'it returns false'. Refute it at one input. -/
def dualRayWrong : ChangeSpec := { name := "dualRay", fn := fun _ => fun
  | [d1, d2, d3, d4, d5, d6] => { results := [.lit (.bool false)], args := [d1, d2, d3, d4, d5, d6] }
  | _ => none }
def DualRayWrongFalsely : Prop := dualRayRow.holds Try.pinned (OpenSpec.ofChange dualRayWrong)

/-- 'kerbsidelaw09.DualSums': WHATEVER THE INPUT: true; the input reads as it did. -/
def dualSumsSpec : ChangeSpec := { name := "dualSums", fn := fun _ => fun
  | [d1, d2, d3, d4, d5, d6] => { results := [.lit (.bool true)], args := [d1, d2, d3, d4, d5, d6] }
  | _ => none }
def dualSumsRow : OpenClaim := { program := "ytfcfcbamiaajlaa", sum := "4dfe25e0d9aab6a6883d271b4b1cbec9068b2c9146706c7471d9162257427aca", func := "kerbside/kerbsidelaw09.DualSums", spec := "dualSums", unfollowed := true, recurses := true, apart := false }
def DualSumsSaid : Prop := dualSumsRow.holds Try.pinned (OpenSpec.ofChange dualSumsSpec)

/-- ITS FALSE NEIGHBOUR: 'it returns false'. Refute it at one input. -/
def dualSumsWrong : ChangeSpec := { name := "dualSums", fn := fun _ => fun
  | [d1, d2, d3, d4, d5, d6] => { results := [.lit (.bool false)], args := [d1, d2, d3, d4, d5, d6] }
  | _ => none }
def DualSumsWrongFalsely : Prop := dualSumsRow.holds Try.pinned (OpenSpec.ofChange dualSumsWrong)

/- THE SECOND FORM. 'bulk': how many values and letters a reading holds, each counted each time it is reached (what is shared counts as often as it is met; a slice's spare places count too). A statement '..UptoSaid' is the law's where the arguments, and the package variables that the reading takes, are together of bulk at most 1048576: NARROWER than '..Said'. Prove '..Said' where nothing that the law and all that it calls make is longer than what came in: it says more and counts as full. Else prove '..UptoSaid'. A law counts once. -/
mutual
def uptoBulk {H : Type} : DataW H → Nat
  | .lit (.string bytes) => bytes.length + 1
  | .lit _ => 1
  | .nil => 1
  | .ptr d => uptoBulk d + 1
  | .slice elems spare => uptoBulkAll elems + uptoBulkAll spare + 1
  | .agg parts => uptoBulkAll parts + 1
  | .iface _ d => uptoBulk d + 1
  | .map entries => uptoBulkEntries entries + 1
  | .held _ => 1
def uptoBulkAll {H : Type} : List (DataW H) → Nat
  | [] => 0
  | d :: r => uptoBulk d + uptoBulkAll r
def uptoBulkEntries {H : Type} : List (Lit × DataW H) → Nat
  | [] => 0
  | x :: r => uptoBulkEntry x + uptoBulkEntries r
def uptoBulkEntry {H : Type} : Lit × DataW H → Nat
  | (.string bytes, d) => bytes.length + uptoBulk d + 1
  | (_, d) => uptoBulk d + 1
 end
def uptoSmall : (H : Type) → List (DataW H) → Bool := fun _ ds => decide (uptoBulkAll ds ≤ 1048576)
def OpenSpec.upto (s : _root_.Go.ChangeSpec) : _root_.Go.OpenSpec := { _root_.Go.OpenSpec.ofChange s with cond := some uptoSmall }

/-- 'kerbsidelaw09.DualBounds', WHERE WHAT IT READS IS OF BULK AT MOST 1048576: true; the input reads as it did. -/
def dualBoundsUptoRow : OpenClaim := { program := "ytfcfcbamiaajlaa", sum := "4dfe25e0d9aab6a6883d271b4b1cbec9068b2c9146706c7471d9162257427aca", func := "kerbside/kerbsidelaw09.DualBounds", spec := "dualBounds", unfollowed := true, recurses := true, apart := false, narrowed := true }
def DualBoundsUptoSaid : Prop := dualBoundsUptoRow.holds Try.pinned (OpenSpec.upto dualBoundsSpec)

/-- 'kerbsidelaw09.DualAgrees', WHERE WHAT IT READS IS OF BULK AT MOST 1048576: true; the input reads as it did. -/
def dualAgreesUptoRow : OpenClaim := { program := "ytfcfcbamiaajlaa", sum := "4dfe25e0d9aab6a6883d271b4b1cbec9068b2c9146706c7471d9162257427aca", func := "kerbside/kerbsidelaw09.DualAgrees", spec := "dualAgrees", unfollowed := true, recurses := true, apart := false, narrowed := true }
def DualAgreesUptoSaid : Prop := dualAgreesUptoRow.holds Try.pinned (OpenSpec.upto dualAgreesSpec)

/-- 'kerbsidelaw09.DualMore', WHERE WHAT IT READS IS OF BULK AT MOST 1048576: true; the input reads as it did. -/
def dualMoreUptoRow : OpenClaim := { program := "ytfcfcbamiaajlaa", sum := "4dfe25e0d9aab6a6883d271b4b1cbec9068b2c9146706c7471d9162257427aca", func := "kerbside/kerbsidelaw09.DualMore", spec := "dualMore", unfollowed := true, recurses := true, apart := false, narrowed := true }
def DualMoreUptoSaid : Prop := dualMoreUptoRow.holds Try.pinned (OpenSpec.upto dualMoreSpec)

/-- 'kerbsidelaw09.DualRay', WHERE WHAT IT READS IS OF BULK AT MOST 1048576: true; the input reads as it did. -/
def dualRayUptoRow : OpenClaim := { program := "ytfcfcbamiaajlaa", sum := "4dfe25e0d9aab6a6883d271b4b1cbec9068b2c9146706c7471d9162257427aca", func := "kerbside/kerbsidelaw09.DualRay", spec := "dualRay", unfollowed := true, recurses := true, apart := false, narrowed := true }
def DualRayUptoSaid : Prop := dualRayUptoRow.holds Try.pinned (OpenSpec.upto dualRaySpec)

/-- 'kerbsidelaw09.DualSums', WHERE WHAT IT READS IS OF BULK AT MOST 1048576: true; the input reads as it did. -/
def dualSumsUptoRow : OpenClaim := { program := "ytfcfcbamiaajlaa", sum := "4dfe25e0d9aab6a6883d271b4b1cbec9068b2c9146706c7471d9162257427aca", func := "kerbside/kerbsidelaw09.DualSums", spec := "dualSums", unfollowed := true, recurses := true, apart := false, narrowed := true }
def DualSumsUptoSaid : Prop := dualSumsUptoRow.holds Try.pinned (OpenSpec.upto dualSumsSpec)

end Rows
end Go.Proofs.Ytfcfcbamiaajlaa
