/-
  No cell of these rows narrows 'for every input' (looked for: loops, veiled, ifaces, maps, wideKeys, modest, calm, conditions, laid).
  DERIVED. THE GIVEN ROWS OF THIS SEAT. 8 by the template 'for every input the law returns true; each argument reads behind the call as it read before'; 0 by the template 'total and deterministic' (their statements: YtkddoopknapemaaGreatTotals.lean).
  GIVEN WITH THE SEED: the statements are not yours to turn. If you find one false, say at which input.
  Laid BY PROGRAM, IN A SANDBOX (cutbox-rows.mjs): the forced cells as the released guide's own fill.sh prints them over the translation 73f1ed1cf50b09a6… (all of the seat's roots in one cut). By AI agents, Wed Nov 11 2026. No macro, syntax, notation, axiom, sorry.
-/
import Derived.Test.YtkddoopknapemaaGreatChecked
import GoSem.Claim
import GoSem.ClaimJoined
import GoSem.ClaimMapViews
import Derived.JoinedTies
import Derived.KernelRfl
namespace Go.Proofs.YtkddoopknapemaaGreat
/- THE CELL 'sum', in the pinned program and in every row, IS THE sha256 OF THE DUMP (.gsa) THAT YtkddoopknapemaaGreatProg.lean LOADS. Nothing in Lean hashes anything: it is a label: what it is worth is what the hold of that sum in a sandbox is worth. -/
noncomputable def Tryz.pinned : Pinned := { name := "ytkddoopknapemaagreat", sum := "73f1ed1cf50b09a6e93bdfe9d9f850b00a50139a8db546e35217c0442b6fdc2b", checked := Tryz.checked }
namespace Rows
def none {H : Type} : Left H := { results := [], args := [] }

/-- 'kerbsidelaw10.SimplexTells': WHATEVER THE INPUT: true; the input reads as it did. -/
def simplexTellsSpec : ChangeSpec := { name := "simplexTells", fn := fun _ => fun
  | [d1, d2] => { results := [.lit (.bool true)], args := [d1, d2] }
  | _ => none }
def simplexTellsRow : OpenClaim := { program := "ytkddoopknapemaagreat", sum := "73f1ed1cf50b09a6e93bdfe9d9f850b00a50139a8db546e35217c0442b6fdc2b", func := "kerbside/kerbsidelaw10.SimplexTells", spec := "simplexTells", unfollowed := true, recurses := true, apart := false }
def SimplexTellsSaid : Prop := simplexTellsRow.holds Tryz.pinned (OpenSpec.ofChange simplexTellsSpec)

/-- ITS FALSE NEIGHBOUR: 'it returns false'. Refute it at one input. -/
def simplexTellsWrong : ChangeSpec := { name := "simplexTells", fn := fun _ => fun
  | [d1, d2] => { results := [.lit (.bool false)], args := [d1, d2] }
  | _ => none }
def SimplexTellsWrongFalsely : Prop := simplexTellsRow.holds Tryz.pinned (OpenSpec.ofChange simplexTellsWrong)

/-- 'kerbsidelaw10.SimplexSolves': WHATEVER THE INPUT: true; the input reads as it did. -/
def simplexSolvesSpec : ChangeSpec := { name := "simplexSolves", fn := fun _ => fun
  | [d] => { results := [.lit (.bool true)], args := [d] }
  | _ => none }
def simplexSolvesRow : OpenClaim := { program := "ytkddoopknapemaagreat", sum := "73f1ed1cf50b09a6e93bdfe9d9f850b00a50139a8db546e35217c0442b6fdc2b", func := "kerbside/kerbsidelaw10.SimplexSolves", spec := "simplexSolves", unfollowed := true, recurses := true, apart := false }
def SimplexSolvesSaid : Prop := simplexSolvesRow.holds Tryz.pinned (OpenSpec.ofChange simplexSolvesSpec)

/-- ITS FALSE NEIGHBOUR: 'it returns false'. Refute it at one input. -/
def simplexSolvesWrong : ChangeSpec := { name := "simplexSolves", fn := fun _ => fun
  | [d] => { results := [.lit (.bool false)], args := [d] }
  | _ => none }
def SimplexSolvesWrongFalsely : Prop := simplexSolvesRow.holds Tryz.pinned (OpenSpec.ofChange simplexSolvesWrong)

/-- 'kerbsidelaw10.SimplexDual': WHATEVER THE INPUT: true; the input reads as it did. -/
def simplexDualSpec : ChangeSpec := { name := "simplexDual", fn := fun _ => fun
  | [d1, d2] => { results := [.lit (.bool true)], args := [d1, d2] }
  | _ => none }
def simplexDualRow : OpenClaim := { program := "ytkddoopknapemaagreat", sum := "73f1ed1cf50b09a6e93bdfe9d9f850b00a50139a8db546e35217c0442b6fdc2b", func := "kerbside/kerbsidelaw10.SimplexDual", spec := "simplexDual", unfollowed := true, recurses := true, apart := false }
def SimplexDualSaid : Prop := simplexDualRow.holds Tryz.pinned (OpenSpec.ofChange simplexDualSpec)

/-- ITS FALSE NEIGHBOUR: 'it returns false'. Refute it at one input. -/
def simplexDualWrong : ChangeSpec := { name := "simplexDual", fn := fun _ => fun
  | [d1, d2] => { results := [.lit (.bool false)], args := [d1, d2] }
  | _ => none }
def SimplexDualWrongFalsely : Prop := simplexDualRow.holds Tryz.pinned (OpenSpec.ofChange simplexDualWrong)

/-- 'kerbsidelaw10.SimplexLeast': WHATEVER THE INPUT: true; the input reads as it did. -/
def simplexLeastSpec : ChangeSpec := { name := "simplexLeast", fn := fun _ => fun
  | [d1, d2, d3] => { results := [.lit (.bool true)], args := [d1, d2, d3] }
  | _ => none }
def simplexLeastRow : OpenClaim := { program := "ytkddoopknapemaagreat", sum := "73f1ed1cf50b09a6e93bdfe9d9f850b00a50139a8db546e35217c0442b6fdc2b", func := "kerbside/kerbsidelaw10.SimplexLeast", spec := "simplexLeast", unfollowed := true, recurses := true, apart := false }
def SimplexLeastSaid : Prop := simplexLeastRow.holds Tryz.pinned (OpenSpec.ofChange simplexLeastSpec)

/-- ITS FALSE NEIGHBOUR: 'it returns false'. Refute it at one input. -/
def simplexLeastWrong : ChangeSpec := { name := "simplexLeast", fn := fun _ => fun
  | [d1, d2, d3] => { results := [.lit (.bool false)], args := [d1, d2, d3] }
  | _ => none }
def SimplexLeastWrongFalsely : Prop := simplexLeastRow.holds Tryz.pinned (OpenSpec.ofChange simplexLeastWrong)

/-- 'kerbsidelaw10.SimplexRows': WHATEVER THE INPUT: true; the input reads as it did. -/
def simplexRowsSpec : ChangeSpec := { name := "simplexRows", fn := fun _ => fun
  | [d1, d2, d3, d4] => { results := [.lit (.bool true)], args := [d1, d2, d3, d4] }
  | _ => none }
def simplexRowsRow : OpenClaim := { program := "ytkddoopknapemaagreat", sum := "73f1ed1cf50b09a6e93bdfe9d9f850b00a50139a8db546e35217c0442b6fdc2b", func := "kerbside/kerbsidelaw10.SimplexRows", spec := "simplexRows", unfollowed := true, recurses := true, apart := false }
def SimplexRowsSaid : Prop := simplexRowsRow.holds Tryz.pinned (OpenSpec.ofChange simplexRowsSpec)

/-- ITS FALSE NEIGHBOUR: 'it returns false'. Refute it at one input. -/
def simplexRowsWrong : ChangeSpec := { name := "simplexRows", fn := fun _ => fun
  | [d1, d2, d3, d4] => { results := [.lit (.bool false)], args := [d1, d2, d3, d4] }
  | _ => none }
def SimplexRowsWrongFalsely : Prop := simplexRowsRow.holds Tryz.pinned (OpenSpec.ofChange simplexRowsWrong)

/-- 'kerbsidelaw10.SimplexProves': WHATEVER THE INPUT: true; the input reads as it did. -/
def simplexProvesSpec : ChangeSpec := { name := "simplexProves", fn := fun _ => fun
  | [d1, d2] => { results := [.lit (.bool true)], args := [d1, d2] }
  | _ => none }
def simplexProvesRow : OpenClaim := { program := "ytkddoopknapemaagreat", sum := "73f1ed1cf50b09a6e93bdfe9d9f850b00a50139a8db546e35217c0442b6fdc2b", func := "kerbside/kerbsidelaw10.SimplexProves", spec := "simplexProves", unfollowed := true, recurses := true, apart := false }
def SimplexProvesSaid : Prop := simplexProvesRow.holds Tryz.pinned (OpenSpec.ofChange simplexProvesSpec)

/-- ITS FALSE NEIGHBOUR: 'it returns false'. Refute it at one input. -/
def simplexProvesWrong : ChangeSpec := { name := "simplexProves", fn := fun _ => fun
  | [d1, d2] => { results := [.lit (.bool false)], args := [d1, d2] }
  | _ => none }
def SimplexProvesWrongFalsely : Prop := simplexProvesRow.holds Tryz.pinned (OpenSpec.ofChange simplexProvesWrong)

/-- 'kerbsidelaw10.SimplexOne': WHATEVER THE INPUT: true; the input reads as it did. -/
def simplexOneSpec : ChangeSpec := { name := "simplexOne", fn := fun _ => fun
  | [d1, d2, d3] => { results := [.lit (.bool true)], args := [d1, d2, d3] }
  | _ => none }
def simplexOneRow : OpenClaim := { program := "ytkddoopknapemaagreat", sum := "73f1ed1cf50b09a6e93bdfe9d9f850b00a50139a8db546e35217c0442b6fdc2b", func := "kerbside/kerbsidelaw10.SimplexOne", spec := "simplexOne", unfollowed := true, recurses := true, apart := false }
def SimplexOneSaid : Prop := simplexOneRow.holds Tryz.pinned (OpenSpec.ofChange simplexOneSpec)

/-- ITS FALSE NEIGHBOUR: 'it returns false'. Refute it at one input. -/
def simplexOneWrong : ChangeSpec := { name := "simplexOne", fn := fun _ => fun
  | [d1, d2, d3] => { results := [.lit (.bool false)], args := [d1, d2, d3] }
  | _ => none }
def SimplexOneWrongFalsely : Prop := simplexOneRow.holds Tryz.pinned (OpenSpec.ofChange simplexOneWrong)

/-- 'kerbsidelaw11.SpanTells': WHATEVER THE INPUT: true; the input reads as it did. -/
def spanTellsSpec : ChangeSpec := { name := "spanTells", fn := fun _ => fun
  | [d1, d2, d3, d4] => { results := [.lit (.bool true)], args := [d1, d2, d3, d4] }
  | _ => none }
def spanTellsRow : OpenClaim := { program := "ytkddoopknapemaagreat", sum := "73f1ed1cf50b09a6e93bdfe9d9f850b00a50139a8db546e35217c0442b6fdc2b", func := "kerbside/kerbsidelaw11.SpanTells", spec := "spanTells", unfollowed := true, recurses := true, apart := false }
def SpanTellsSaid : Prop := spanTellsRow.holds Tryz.pinned (OpenSpec.ofChange spanTellsSpec)

/-- ITS FALSE NEIGHBOUR: 'it returns false'. Refute it at one input. -/
def spanTellsWrong : ChangeSpec := { name := "spanTells", fn := fun _ => fun
  | [d1, d2, d3, d4] => { results := [.lit (.bool false)], args := [d1, d2, d3, d4] }
  | _ => none }
def SpanTellsWrongFalsely : Prop := spanTellsRow.holds Tryz.pinned (OpenSpec.ofChange spanTellsWrong)

/- THE SECOND FORM. 'bulk': how many values and letters a reading holds, each counted each time it is reached (what is shared counts as often as it is met; a slice's spare places count too). A statement '..UptoSaid' is the law's where the arguments, and the package variables that the reading takes, are together of bulk at most 1048576: NARROWER than '..Said'. Prove '..Said' where nothing that the law and all that it calls make is longer than what came in: it says more and counts as full. Else prove '..UptoSaid'. A law counts once. -/
mutual
def uptoBulk {H : Type} : DataW H → Nat
  | .lit (.string bytes) => bytes.length + 1
  | .lit _ => 1
  | .nil => 1
  | .ptr d => uptoBulk d + 1
  | .slice elems spare => uptoBulkAll elems + uptoBulkAll spare + 1
  | .agg parts => uptoBulkAll parts + 1
  | .iface _ d => uptoBulk d + 1
  | .map entries => uptoBulkEntries entries + 1
  | .held _ => 1
def uptoBulkAll {H : Type} : List (DataW H) → Nat
  | [] => 0
  | d :: r => uptoBulk d + uptoBulkAll r
def uptoBulkEntries {H : Type} : List (Lit × DataW H) → Nat
  | [] => 0
  | x :: r => uptoBulkEntry x + uptoBulkEntries r
def uptoBulkEntry {H : Type} : Lit × DataW H → Nat
  | (.string bytes, d) => bytes.length + uptoBulk d + 1
  | (_, d) => uptoBulk d + 1
 end
def uptoSmall : (H : Type) → List (DataW H) → Bool := fun _ ds => decide (uptoBulkAll ds ≤ 1048576)
def OpenSpec.upto (s : _root_.Go.ChangeSpec) : _root_.Go.OpenSpec := { _root_.Go.OpenSpec.ofChange s with cond := some uptoSmall }

/-- 'kerbsidelaw10.SimplexTells', WHERE WHAT IT READS IS OF BULK AT MOST 1048576: true; the input reads as it did. -/
def simplexTellsUptoRow : OpenClaim := { program := "ytkddoopknapemaagreat", sum := "73f1ed1cf50b09a6e93bdfe9d9f850b00a50139a8db546e35217c0442b6fdc2b", func := "kerbside/kerbsidelaw10.SimplexTells", spec := "simplexTells", unfollowed := true, recurses := true, apart := false, narrowed := true }
def SimplexTellsUptoSaid : Prop := simplexTellsUptoRow.holds Tryz.pinned (OpenSpec.upto simplexTellsSpec)

/-- 'kerbsidelaw10.SimplexSolves', WHERE WHAT IT READS IS OF BULK AT MOST 1048576: true; the input reads as it did. -/
def simplexSolvesUptoRow : OpenClaim := { program := "ytkddoopknapemaagreat", sum := "73f1ed1cf50b09a6e93bdfe9d9f850b00a50139a8db546e35217c0442b6fdc2b", func := "kerbside/kerbsidelaw10.SimplexSolves", spec := "simplexSolves", unfollowed := true, recurses := true, apart := false, narrowed := true }
def SimplexSolvesUptoSaid : Prop := simplexSolvesUptoRow.holds Tryz.pinned (OpenSpec.upto simplexSolvesSpec)

/-- 'kerbsidelaw10.SimplexDual', WHERE WHAT IT READS IS OF BULK AT MOST 1048576: true; the input reads as it did. -/
def simplexDualUptoRow : OpenClaim := { program := "ytkddoopknapemaagreat", sum := "73f1ed1cf50b09a6e93bdfe9d9f850b00a50139a8db546e35217c0442b6fdc2b", func := "kerbside/kerbsidelaw10.SimplexDual", spec := "simplexDual", unfollowed := true, recurses := true, apart := false, narrowed := true }
def SimplexDualUptoSaid : Prop := simplexDualUptoRow.holds Tryz.pinned (OpenSpec.upto simplexDualSpec)

/-- 'kerbsidelaw10.SimplexLeast', WHERE WHAT IT READS IS OF BULK AT MOST 1048576: true; the input reads as it did. -/
def simplexLeastUptoRow : OpenClaim := { program := "ytkddoopknapemaagreat", sum := "73f1ed1cf50b09a6e93bdfe9d9f850b00a50139a8db546e35217c0442b6fdc2b", func := "kerbside/kerbsidelaw10.SimplexLeast", spec := "simplexLeast", unfollowed := true, recurses := true, apart := false, narrowed := true }
def SimplexLeastUptoSaid : Prop := simplexLeastUptoRow.holds Tryz.pinned (OpenSpec.upto simplexLeastSpec)

/-- 'kerbsidelaw10.SimplexRows', WHERE WHAT IT READS IS OF BULK AT MOST 1048576: true; the input reads as it did. -/
def simplexRowsUptoRow : OpenClaim := { program := "ytkddoopknapemaagreat", sum := "73f1ed1cf50b09a6e93bdfe9d9f850b00a50139a8db546e35217c0442b6fdc2b", func := "kerbside/kerbsidelaw10.SimplexRows", spec := "simplexRows", unfollowed := true, recurses := true, apart := false, narrowed := true }
def SimplexRowsUptoSaid : Prop := simplexRowsUptoRow.holds Tryz.pinned (OpenSpec.upto simplexRowsSpec)

/-- 'kerbsidelaw10.SimplexProves', WHERE WHAT IT READS IS OF BULK AT MOST 1048576: true; the input reads as it did. -/
def simplexProvesUptoRow : OpenClaim := { program := "ytkddoopknapemaagreat", sum := "73f1ed1cf50b09a6e93bdfe9d9f850b00a50139a8db546e35217c0442b6fdc2b", func := "kerbside/kerbsidelaw10.SimplexProves", spec := "simplexProves", unfollowed := true, recurses := true, apart := false, narrowed := true }
def SimplexProvesUptoSaid : Prop := simplexProvesUptoRow.holds Tryz.pinned (OpenSpec.upto simplexProvesSpec)

/-- 'kerbsidelaw10.SimplexOne', WHERE WHAT IT READS IS OF BULK AT MOST 1048576: true; the input reads as it did. -/
def simplexOneUptoRow : OpenClaim := { program := "ytkddoopknapemaagreat", sum := "73f1ed1cf50b09a6e93bdfe9d9f850b00a50139a8db546e35217c0442b6fdc2b", func := "kerbside/kerbsidelaw10.SimplexOne", spec := "simplexOne", unfollowed := true, recurses := true, apart := false, narrowed := true }
def SimplexOneUptoSaid : Prop := simplexOneUptoRow.holds Tryz.pinned (OpenSpec.upto simplexOneSpec)

/-- 'kerbsidelaw11.SpanTells', WHERE WHAT IT READS IS OF BULK AT MOST 1048576: true; the input reads as it did. -/
def spanTellsUptoRow : OpenClaim := { program := "ytkddoopknapemaagreat", sum := "73f1ed1cf50b09a6e93bdfe9d9f850b00a50139a8db546e35217c0442b6fdc2b", func := "kerbside/kerbsidelaw11.SpanTells", spec := "spanTells", unfollowed := true, recurses := true, apart := false, narrowed := true }
def SpanTellsUptoSaid : Prop := spanTellsUptoRow.holds Tryz.pinned (OpenSpec.upto spanTellsSpec)

end Rows
end Go.Proofs.YtkddoopknapemaaGreat
