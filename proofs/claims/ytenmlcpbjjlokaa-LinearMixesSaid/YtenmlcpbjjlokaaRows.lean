/-
  No cell of these rows narrows 'for every input' (looked for: loops, veiled, ifaces, maps, wideKeys, modest, calm, conditions, laid).
  DERIVED. THE GIVEN ROWS OF THIS SEAT. 11 by the template 'for every input the law returns true; each argument reads behind the call as it read before'; 0 by the template 'total and deterministic' (their statements: YtenmlcpbjjlokaaTotals.lean).
  GIVEN WITH THE SEED: the statements are not yours to turn. If you find one false, say at which input.
  Laid BY PROGRAM, IN A SANDBOX (cutbox-rows.mjs): the forced cells as the released guide's own fill.sh prints them over the translation 937e992ff2ef0f1a… (all of the seat's roots in one cut). By AI agents, Wed Nov 11 2026. No macro, syntax, notation, axiom, sorry.
-/
import Derived.Test.YtenmlcpbjjlokaaChecked
import GoSem.Claim
import GoSem.ClaimJoined
import GoSem.ClaimMapViews
import Derived.JoinedTies
import Derived.KernelRfl
namespace Go.Proofs.Ytenmlcpbjjlokaa
/- THE CELL 'sum', in the pinned program and in every row, IS THE sha256 OF THE DUMP (.gsa) THAT YtenmlcpbjjlokaaProg.lean LOADS. Nothing in Lean hashes anything: it is a label: what it is worth is what the hold of that sum in a sandbox is worth. -/
noncomputable def Try.pinned : Pinned := { name := "ytenmlcpbjjlokaa", sum := "937e992ff2ef0f1aa7ca8ec08f43d8c2ea6fe9747f05cb8087bd0aac0ddb4a0c", checked := Try.checked }
namespace Rows
def none {H : Type} : Left H := { results := [], args := [] }

/-- 'kerbsidelaw13.ScaleTells': WHATEVER THE INPUT: true; the input reads as it did. -/
def scaleTellsSpec : ChangeSpec := { name := "scaleTells", fn := fun _ => fun
  | [d1, d2, d3, d4, d5, d6] => { results := [.lit (.bool true)], args := [d1, d2, d3, d4, d5, d6] }
  | _ => none }
def scaleTellsRow : OpenClaim := { program := "ytenmlcpbjjlokaa", sum := "937e992ff2ef0f1aa7ca8ec08f43d8c2ea6fe9747f05cb8087bd0aac0ddb4a0c", func := "kerbside/kerbsidelaw13.ScaleTells", spec := "scaleTells", unfollowed := true, recurses := true, apart := false }
def ScaleTellsSaid : Prop := scaleTellsRow.holds Try.pinned (OpenSpec.ofChange scaleTellsSpec)

/-- ITS FALSE NEIGHBOUR: 'it returns false'. Refute it at one input. -/
def scaleTellsWrong : ChangeSpec := { name := "scaleTells", fn := fun _ => fun
  | [d1, d2, d3, d4, d5, d6] => { results := [.lit (.bool false)], args := [d1, d2, d3, d4, d5, d6] }
  | _ => none }
def ScaleTellsWrongFalsely : Prop := scaleTellsRow.holds Try.pinned (OpenSpec.ofChange scaleTellsWrong)

/-- 'kerbsidelaw13.ScaleHolds': WHATEVER THE INPUT: true; the input reads as it did. -/
def scaleHoldsSpec : ChangeSpec := { name := "scaleHolds", fn := fun _ => fun
  | [d1, d2, d3, d4, d5] => { results := [.lit (.bool true)], args := [d1, d2, d3, d4, d5] }
  | _ => none }
def scaleHoldsRow : OpenClaim := { program := "ytenmlcpbjjlokaa", sum := "937e992ff2ef0f1aa7ca8ec08f43d8c2ea6fe9747f05cb8087bd0aac0ddb4a0c", func := "kerbside/kerbsidelaw13.ScaleHolds", spec := "scaleHolds", unfollowed := true, recurses := true, apart := false }
def ScaleHoldsSaid : Prop := scaleHoldsRow.holds Try.pinned (OpenSpec.ofChange scaleHoldsSpec)

/-- ITS FALSE NEIGHBOUR: 'it returns false'. Refute it at one input. -/
def scaleHoldsWrong : ChangeSpec := { name := "scaleHolds", fn := fun _ => fun
  | [d1, d2, d3, d4, d5] => { results := [.lit (.bool false)], args := [d1, d2, d3, d4, d5] }
  | _ => none }
def ScaleHoldsWrongFalsely : Prop := scaleHoldsRow.holds Try.pinned (OpenSpec.ofChange scaleHoldsWrong)

/-- 'kerbsidelaw13.ScaleGrows': WHATEVER THE INPUT: true; the input reads as it did. -/
def scaleGrowsSpec : ChangeSpec := { name := "scaleGrows", fn := fun _ => fun
  | [d1, d2, d3, d4, d5, d6, d7] => { results := [.lit (.bool true)], args := [d1, d2, d3, d4, d5, d6, d7] }
  | _ => none }
def scaleGrowsRow : OpenClaim := { program := "ytenmlcpbjjlokaa", sum := "937e992ff2ef0f1aa7ca8ec08f43d8c2ea6fe9747f05cb8087bd0aac0ddb4a0c", func := "kerbside/kerbsidelaw13.ScaleGrows", spec := "scaleGrows", unfollowed := true, recurses := true, apart := false }
def ScaleGrowsSaid : Prop := scaleGrowsRow.holds Try.pinned (OpenSpec.ofChange scaleGrowsSpec)

/-- ITS FALSE NEIGHBOUR: 'it returns false'. Refute it at one input. -/
def scaleGrowsWrong : ChangeSpec := { name := "scaleGrows", fn := fun _ => fun
  | [d1, d2, d3, d4, d5, d6, d7] => { results := [.lit (.bool false)], args := [d1, d2, d3, d4, d5, d6, d7] }
  | _ => none }
def ScaleGrowsWrongFalsely : Prop := scaleGrowsRow.holds Try.pinned (OpenSpec.ofChange scaleGrowsWrong)

/-- 'kerbsidelaw13.ScaleOthers': WHATEVER THE INPUT: true; the input reads as it did. -/
def scaleOthersSpec : ChangeSpec := { name := "scaleOthers", fn := fun _ => fun
  | [d1, d2, d3, d4, d5] => { results := [.lit (.bool true)], args := [d1, d2, d3, d4, d5] }
  | _ => none }
def scaleOthersRow : OpenClaim := { program := "ytenmlcpbjjlokaa", sum := "937e992ff2ef0f1aa7ca8ec08f43d8c2ea6fe9747f05cb8087bd0aac0ddb4a0c", func := "kerbside/kerbsidelaw13.ScaleOthers", spec := "scaleOthers", unfollowed := true, recurses := true, apart := false }
def ScaleOthersSaid : Prop := scaleOthersRow.holds Try.pinned (OpenSpec.ofChange scaleOthersSpec)

/-- ITS FALSE NEIGHBOUR: 'it returns false'. Refute it at one input. -/
def scaleOthersWrong : ChangeSpec := { name := "scaleOthers", fn := fun _ => fun
  | [d1, d2, d3, d4, d5] => { results := [.lit (.bool false)], args := [d1, d2, d3, d4, d5] }
  | _ => none }
def ScaleOthersWrongFalsely : Prop := scaleOthersRow.holds Try.pinned (OpenSpec.ofChange scaleOthersWrong)

/-- 'kerbsidelaw13.ScaleRecalls': WHATEVER THE INPUT: true; the input reads as it did. -/
def scaleRecallsSpec : ChangeSpec := { name := "scaleRecalls", fn := fun _ => fun
  | [d1, d2, d3, d4, d5, d6, d7] => { results := [.lit (.bool true)], args := [d1, d2, d3, d4, d5, d6, d7] }
  | _ => none }
def scaleRecallsRow : OpenClaim := { program := "ytenmlcpbjjlokaa", sum := "937e992ff2ef0f1aa7ca8ec08f43d8c2ea6fe9747f05cb8087bd0aac0ddb4a0c", func := "kerbside/kerbsidelaw13.ScaleRecalls", spec := "scaleRecalls", unfollowed := true, recurses := true, apart := false }
def ScaleRecallsSaid : Prop := scaleRecallsRow.holds Try.pinned (OpenSpec.ofChange scaleRecallsSpec)

/-- ITS FALSE NEIGHBOUR: 'it returns false'. Refute it at one input. -/
def scaleRecallsWrong : ChangeSpec := { name := "scaleRecalls", fn := fun _ => fun
  | [d1, d2, d3, d4, d5, d6, d7] => { results := [.lit (.bool false)], args := [d1, d2, d3, d4, d5, d6, d7] }
  | _ => none }
def ScaleRecallsWrongFalsely : Prop := scaleRecallsRow.holds Try.pinned (OpenSpec.ofChange scaleRecallsWrong)

/-- 'kerbsidelaw08.LinearTells': WHATEVER THE INPUT: true; the input reads as it did. -/
def linearTellsSpec : ChangeSpec := { name := "linearTells", fn := fun _ => fun
  | [d1, d2, d3, d4, d5, d6] => { results := [.lit (.bool true)], args := [d1, d2, d3, d4, d5, d6] }
  | _ => none }
def linearTellsRow : OpenClaim := { program := "ytenmlcpbjjlokaa", sum := "937e992ff2ef0f1aa7ca8ec08f43d8c2ea6fe9747f05cb8087bd0aac0ddb4a0c", func := "kerbside/kerbsidelaw08.LinearTells", spec := "linearTells", unfollowed := true, recurses := true, apart := false }
def LinearTellsSaid : Prop := linearTellsRow.holds Try.pinned (OpenSpec.ofChange linearTellsSpec)

/-- ITS FALSE NEIGHBOUR: 'it returns false'. Refute it at one input. -/
def linearTellsWrong : ChangeSpec := { name := "linearTells", fn := fun _ => fun
  | [d1, d2, d3, d4, d5, d6] => { results := [.lit (.bool false)], args := [d1, d2, d3, d4, d5, d6] }
  | _ => none }
def LinearTellsWrongFalsely : Prop := linearTellsRow.holds Try.pinned (OpenSpec.ofChange linearTellsWrong)

/-- 'kerbsidelaw08.LinearAdds': WHATEVER THE INPUT: true; the input reads as it did. -/
def linearAddsSpec : ChangeSpec := { name := "linearAdds", fn := fun _ => fun
  | [d1, d2, d3, d4] => { results := [.lit (.bool true)], args := [d1, d2, d3, d4] }
  | _ => none }
def linearAddsRow : OpenClaim := { program := "ytenmlcpbjjlokaa", sum := "937e992ff2ef0f1aa7ca8ec08f43d8c2ea6fe9747f05cb8087bd0aac0ddb4a0c", func := "kerbside/kerbsidelaw08.LinearAdds", spec := "linearAdds", unfollowed := true, recurses := true, apart := false }
def LinearAddsSaid : Prop := linearAddsRow.holds Try.pinned (OpenSpec.ofChange linearAddsSpec)

/-- ITS FALSE NEIGHBOUR: 'it returns false'. Refute it at one input. -/
def linearAddsWrong : ChangeSpec := { name := "linearAdds", fn := fun _ => fun
  | [d1, d2, d3, d4] => { results := [.lit (.bool false)], args := [d1, d2, d3, d4] }
  | _ => none }
def LinearAddsWrongFalsely : Prop := linearAddsRow.holds Try.pinned (OpenSpec.ofChange linearAddsWrong)

/-- 'kerbsidelaw08.LinearRing': WHATEVER THE INPUT: true; the input reads as it did. -/
def linearRingSpec : ChangeSpec := { name := "linearRing", fn := fun _ => fun
  | [d1, d2, d3, d4, d5] => { results := [.lit (.bool true)], args := [d1, d2, d3, d4, d5] }
  | _ => none }
def linearRingRow : OpenClaim := { program := "ytenmlcpbjjlokaa", sum := "937e992ff2ef0f1aa7ca8ec08f43d8c2ea6fe9747f05cb8087bd0aac0ddb4a0c", func := "kerbside/kerbsidelaw08.LinearRing", spec := "linearRing", unfollowed := true, recurses := true, apart := false }
def LinearRingSaid : Prop := linearRingRow.holds Try.pinned (OpenSpec.ofChange linearRingSpec)

/-- ITS FALSE NEIGHBOUR: 'it returns false'. Refute it at one input. -/
def linearRingWrong : ChangeSpec := { name := "linearRing", fn := fun _ => fun
  | [d1, d2, d3, d4, d5] => { results := [.lit (.bool false)], args := [d1, d2, d3, d4, d5] }
  | _ => none }
def LinearRingWrongFalsely : Prop := linearRingRow.holds Try.pinned (OpenSpec.ofChange linearRingWrong)

/-- 'kerbsidelaw08.LinearRows': WHATEVER THE INPUT: true; the input reads as it did. -/
def linearRowsSpec : ChangeSpec := { name := "linearRows", fn := fun _ => fun
  | [d1, d2] => { results := [.lit (.bool true)], args := [d1, d2] }
  | _ => none }
def linearRowsRow : OpenClaim := { program := "ytenmlcpbjjlokaa", sum := "937e992ff2ef0f1aa7ca8ec08f43d8c2ea6fe9747f05cb8087bd0aac0ddb4a0c", func := "kerbside/kerbsidelaw08.LinearRows", spec := "linearRows", unfollowed := true, recurses := true, apart := false }
def LinearRowsSaid : Prop := linearRowsRow.holds Try.pinned (OpenSpec.ofChange linearRowsSpec)

/-- ITS FALSE NEIGHBOUR: 'it returns false'. Refute it at one input. -/
def linearRowsWrong : ChangeSpec := { name := "linearRows", fn := fun _ => fun
  | [d1, d2] => { results := [.lit (.bool false)], args := [d1, d2] }
  | _ => none }
def LinearRowsWrongFalsely : Prop := linearRowsRow.holds Try.pinned (OpenSpec.ofChange linearRowsWrong)

/-- 'kerbsidelaw08.LinearTurns': WHATEVER THE INPUT: true; the input reads as it did. -/
def linearTurnsSpec : ChangeSpec := { name := "linearTurns", fn := fun _ => fun
  | [d1, d2, d3] => { results := [.lit (.bool true)], args := [d1, d2, d3] }
  | _ => none }
def linearTurnsRow : OpenClaim := { program := "ytenmlcpbjjlokaa", sum := "937e992ff2ef0f1aa7ca8ec08f43d8c2ea6fe9747f05cb8087bd0aac0ddb4a0c", func := "kerbside/kerbsidelaw08.LinearTurns", spec := "linearTurns", unfollowed := true, recurses := true, apart := false }
def LinearTurnsSaid : Prop := linearTurnsRow.holds Try.pinned (OpenSpec.ofChange linearTurnsSpec)

/-- ITS FALSE NEIGHBOUR: 'it returns false'. Refute it at one input. -/
def linearTurnsWrong : ChangeSpec := { name := "linearTurns", fn := fun _ => fun
  | [d1, d2, d3] => { results := [.lit (.bool false)], args := [d1, d2, d3] }
  | _ => none }
def LinearTurnsWrongFalsely : Prop := linearTurnsRow.holds Try.pinned (OpenSpec.ofChange linearTurnsWrong)

/-- 'kerbsidelaw08.LinearMixes': WHATEVER THE INPUT: true; the input reads as it did. -/
def linearMixesSpec : ChangeSpec := { name := "linearMixes", fn := fun _ => fun
  | [d1, d2, d3, d4, d5] => { results := [.lit (.bool true)], args := [d1, d2, d3, d4, d5] }
  | _ => none }
def linearMixesRow : OpenClaim := { program := "ytenmlcpbjjlokaa", sum := "937e992ff2ef0f1aa7ca8ec08f43d8c2ea6fe9747f05cb8087bd0aac0ddb4a0c", func := "kerbside/kerbsidelaw08.LinearMixes", spec := "linearMixes", unfollowed := true, recurses := true, apart := false }
def LinearMixesSaid : Prop := linearMixesRow.holds Try.pinned (OpenSpec.ofChange linearMixesSpec)

/-- ITS FALSE NEIGHBOUR: 'it returns false'. Refute it at one input. -/
def linearMixesWrong : ChangeSpec := { name := "linearMixes", fn := fun _ => fun
  | [d1, d2, d3, d4, d5] => { results := [.lit (.bool false)], args := [d1, d2, d3, d4, d5] }
  | _ => none }
def LinearMixesWrongFalsely : Prop := linearMixesRow.holds Try.pinned (OpenSpec.ofChange linearMixesWrong)

/- THE SECOND FORM. 'bulk': how many values and letters a reading holds, each counted each time it is reached (what is shared counts as often as it is met; a slice's spare places count too). A statement '..UptoSaid' is the law's where the arguments, and the package variables that the reading takes, are together of bulk at most 1048576: NARROWER than '..Said'. Prove '..Said' where nothing that the law and all that it calls make is longer than what came in: it says more and counts as full. Else prove '..UptoSaid'. A law counts once. -/
mutual
def uptoBulk {H : Type} : DataW H → Nat
  | .lit (.string bytes) => bytes.length + 1
  | .lit _ => 1
  | .nil => 1
  | .ptr d => uptoBulk d + 1
  | .slice elems spare => uptoBulkAll elems + uptoBulkAll spare + 1
  | .agg parts => uptoBulkAll parts + 1
  | .iface _ d => uptoBulk d + 1
  | .map entries => uptoBulkEntries entries + 1
  | .held _ => 1
def uptoBulkAll {H : Type} : List (DataW H) → Nat
  | [] => 0
  | d :: r => uptoBulk d + uptoBulkAll r
def uptoBulkEntries {H : Type} : List (Lit × DataW H) → Nat
  | [] => 0
  | x :: r => uptoBulkEntry x + uptoBulkEntries r
def uptoBulkEntry {H : Type} : Lit × DataW H → Nat
  | (.string bytes, d) => bytes.length + uptoBulk d + 1
  | (_, d) => uptoBulk d + 1
 end
def uptoSmall : (H : Type) → List (DataW H) → Bool := fun _ ds => decide (uptoBulkAll ds ≤ 1048576)
def OpenSpec.upto (s : _root_.Go.ChangeSpec) : _root_.Go.OpenSpec := { _root_.Go.OpenSpec.ofChange s with cond := some uptoSmall }

/-- 'kerbsidelaw13.ScaleTells', WHERE WHAT IT READS IS OF BULK AT MOST 1048576: true; the input reads as it did. -/
def scaleTellsUptoRow : OpenClaim := { program := "ytenmlcpbjjlokaa", sum := "937e992ff2ef0f1aa7ca8ec08f43d8c2ea6fe9747f05cb8087bd0aac0ddb4a0c", func := "kerbside/kerbsidelaw13.ScaleTells", spec := "scaleTells", unfollowed := true, recurses := true, apart := false, narrowed := true }
def ScaleTellsUptoSaid : Prop := scaleTellsUptoRow.holds Try.pinned (OpenSpec.upto scaleTellsSpec)

/-- 'kerbsidelaw13.ScaleHolds', WHERE WHAT IT READS IS OF BULK AT MOST 1048576: true; the input reads as it did. -/
def scaleHoldsUptoRow : OpenClaim := { program := "ytenmlcpbjjlokaa", sum := "937e992ff2ef0f1aa7ca8ec08f43d8c2ea6fe9747f05cb8087bd0aac0ddb4a0c", func := "kerbside/kerbsidelaw13.ScaleHolds", spec := "scaleHolds", unfollowed := true, recurses := true, apart := false, narrowed := true }
def ScaleHoldsUptoSaid : Prop := scaleHoldsUptoRow.holds Try.pinned (OpenSpec.upto scaleHoldsSpec)

/-- 'kerbsidelaw13.ScaleGrows', WHERE WHAT IT READS IS OF BULK AT MOST 1048576: true; the input reads as it did. -/
def scaleGrowsUptoRow : OpenClaim := { program := "ytenmlcpbjjlokaa", sum := "937e992ff2ef0f1aa7ca8ec08f43d8c2ea6fe9747f05cb8087bd0aac0ddb4a0c", func := "kerbside/kerbsidelaw13.ScaleGrows", spec := "scaleGrows", unfollowed := true, recurses := true, apart := false, narrowed := true }
def ScaleGrowsUptoSaid : Prop := scaleGrowsUptoRow.holds Try.pinned (OpenSpec.upto scaleGrowsSpec)

/-- 'kerbsidelaw13.ScaleOthers', WHERE WHAT IT READS IS OF BULK AT MOST 1048576: true; the input reads as it did. -/
def scaleOthersUptoRow : OpenClaim := { program := "ytenmlcpbjjlokaa", sum := "937e992ff2ef0f1aa7ca8ec08f43d8c2ea6fe9747f05cb8087bd0aac0ddb4a0c", func := "kerbside/kerbsidelaw13.ScaleOthers", spec := "scaleOthers", unfollowed := true, recurses := true, apart := false, narrowed := true }
def ScaleOthersUptoSaid : Prop := scaleOthersUptoRow.holds Try.pinned (OpenSpec.upto scaleOthersSpec)

/-- 'kerbsidelaw13.ScaleRecalls', WHERE WHAT IT READS IS OF BULK AT MOST 1048576: true; the input reads as it did. -/
def scaleRecallsUptoRow : OpenClaim := { program := "ytenmlcpbjjlokaa", sum := "937e992ff2ef0f1aa7ca8ec08f43d8c2ea6fe9747f05cb8087bd0aac0ddb4a0c", func := "kerbside/kerbsidelaw13.ScaleRecalls", spec := "scaleRecalls", unfollowed := true, recurses := true, apart := false, narrowed := true }
def ScaleRecallsUptoSaid : Prop := scaleRecallsUptoRow.holds Try.pinned (OpenSpec.upto scaleRecallsSpec)

/-- 'kerbsidelaw08.LinearTells', WHERE WHAT IT READS IS OF BULK AT MOST 1048576: true; the input reads as it did. -/
def linearTellsUptoRow : OpenClaim := { program := "ytenmlcpbjjlokaa", sum := "937e992ff2ef0f1aa7ca8ec08f43d8c2ea6fe9747f05cb8087bd0aac0ddb4a0c", func := "kerbside/kerbsidelaw08.LinearTells", spec := "linearTells", unfollowed := true, recurses := true, apart := false, narrowed := true }
def LinearTellsUptoSaid : Prop := linearTellsUptoRow.holds Try.pinned (OpenSpec.upto linearTellsSpec)

/-- 'kerbsidelaw08.LinearAdds', WHERE WHAT IT READS IS OF BULK AT MOST 1048576: true; the input reads as it did. -/
def linearAddsUptoRow : OpenClaim := { program := "ytenmlcpbjjlokaa", sum := "937e992ff2ef0f1aa7ca8ec08f43d8c2ea6fe9747f05cb8087bd0aac0ddb4a0c", func := "kerbside/kerbsidelaw08.LinearAdds", spec := "linearAdds", unfollowed := true, recurses := true, apart := false, narrowed := true }
def LinearAddsUptoSaid : Prop := linearAddsUptoRow.holds Try.pinned (OpenSpec.upto linearAddsSpec)

/-- 'kerbsidelaw08.LinearRing', WHERE WHAT IT READS IS OF BULK AT MOST 1048576: true; the input reads as it did. -/
def linearRingUptoRow : OpenClaim := { program := "ytenmlcpbjjlokaa", sum := "937e992ff2ef0f1aa7ca8ec08f43d8c2ea6fe9747f05cb8087bd0aac0ddb4a0c", func := "kerbside/kerbsidelaw08.LinearRing", spec := "linearRing", unfollowed := true, recurses := true, apart := false, narrowed := true }
def LinearRingUptoSaid : Prop := linearRingUptoRow.holds Try.pinned (OpenSpec.upto linearRingSpec)

/-- 'kerbsidelaw08.LinearRows', WHERE WHAT IT READS IS OF BULK AT MOST 1048576: true; the input reads as it did. -/
def linearRowsUptoRow : OpenClaim := { program := "ytenmlcpbjjlokaa", sum := "937e992ff2ef0f1aa7ca8ec08f43d8c2ea6fe9747f05cb8087bd0aac0ddb4a0c", func := "kerbside/kerbsidelaw08.LinearRows", spec := "linearRows", unfollowed := true, recurses := true, apart := false, narrowed := true }
def LinearRowsUptoSaid : Prop := linearRowsUptoRow.holds Try.pinned (OpenSpec.upto linearRowsSpec)

/-- 'kerbsidelaw08.LinearTurns', WHERE WHAT IT READS IS OF BULK AT MOST 1048576: true; the input reads as it did. -/
def linearTurnsUptoRow : OpenClaim := { program := "ytenmlcpbjjlokaa", sum := "937e992ff2ef0f1aa7ca8ec08f43d8c2ea6fe9747f05cb8087bd0aac0ddb4a0c", func := "kerbside/kerbsidelaw08.LinearTurns", spec := "linearTurns", unfollowed := true, recurses := true, apart := false, narrowed := true }
def LinearTurnsUptoSaid : Prop := linearTurnsUptoRow.holds Try.pinned (OpenSpec.upto linearTurnsSpec)

/-- 'kerbsidelaw08.LinearMixes', WHERE WHAT IT READS IS OF BULK AT MOST 1048576: true; the input reads as it did. -/
def linearMixesUptoRow : OpenClaim := { program := "ytenmlcpbjjlokaa", sum := "937e992ff2ef0f1aa7ca8ec08f43d8c2ea6fe9747f05cb8087bd0aac0ddb4a0c", func := "kerbside/kerbsidelaw08.LinearMixes", spec := "linearMixes", unfollowed := true, recurses := true, apart := false, narrowed := true }
def LinearMixesUptoSaid : Prop := linearMixesUptoRow.holds Try.pinned (OpenSpec.upto linearMixesSpec)

end Rows
end Go.Proofs.Ytenmlcpbjjlokaa
