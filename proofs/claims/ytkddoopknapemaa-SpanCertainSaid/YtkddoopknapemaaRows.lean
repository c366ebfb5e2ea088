/-
  No cell of these rows narrows 'for every input' (looked for: loops, veiled, ifaces, maps, wideKeys, modest, calm, conditions, laid).
  DERIVED. THE GIVEN ROWS OF THIS SEAT. 5 by the template 'for every input the law returns true; each argument reads behind the call as it read before'; 0 by the template 'total and deterministic' (their statements: YtkddoopknapemaaTotals.lean).
  GIVEN WITH THE SEED: the statements are not yours to turn. If you find one false, say at which input.
  Laid BY PROGRAM, IN A SANDBOX (cutbox-rows.mjs): the forced cells as the released guide's own fill.sh prints them over the translation eafab3ea1367cfc7… (all of the seat's roots in one cut). By AI agents, Wed Nov 11 2026. No macro, syntax, notation, axiom, sorry.
-/
import Derived.Test.YtkddoopknapemaaChecked
import GoSem.Claim
import GoSem.ClaimJoined
import GoSem.ClaimMapViews
import Derived.JoinedTies
import Derived.KernelRfl
namespace Go.Proofs.Ytkddoopknapemaa
/- THE CELL 'sum', in the pinned program and in every row, IS THE sha256 OF THE DUMP (.gsa) THAT YtkddoopknapemaaProg.lean LOADS. Nothing in Lean hashes anything: it is a label: what it is worth is what the hold of that sum in a sandbox is worth. -/
noncomputable def Try.pinned : Pinned := { name := "ytkddoopknapemaa", sum := "eafab3ea1367cfc722233395f0816f35b08e47fe1a6bbf54f154ff9420391e14", checked := Try.checked }
namespace Rows
def none {H : Type} : Left H := { results := [], args := [] }

/-- 'kerbsidelaw11.SpanNarrows': WHATEVER THE INPUT: true; the input reads as it did. -/
def spanNarrowsSpec : ChangeSpec := { name := "spanNarrows", fn := fun _ => fun
  | [d1, d2, d3] => { results := [.lit (.bool true)], args := [d1, d2, d3] }
  | _ => none }
def spanNarrowsRow : OpenClaim := { program := "ytkddoopknapemaa", sum := "eafab3ea1367cfc722233395f0816f35b08e47fe1a6bbf54f154ff9420391e14", func := "kerbside/kerbsidelaw11.SpanNarrows", spec := "spanNarrows", unfollowed := true, recurses := true, apart := false }
def SpanNarrowsSaid : Prop := spanNarrowsRow.holds Try.pinned (OpenSpec.ofChange spanNarrowsSpec)

/-- ITS FALSE NEIGHBOUR: 'it returns false'. Refute it at one input. -/
def spanNarrowsWrong : ChangeSpec := { name := "spanNarrows", fn := fun _ => fun
  | [d1, d2, d3] => { results := [.lit (.bool false)], args := [d1, d2, d3] }
  | _ => none }
def SpanNarrowsWrongFalsely : Prop := spanNarrowsRow.holds Try.pinned (OpenSpec.ofChange spanNarrowsWrong)

/-- 'kerbsidelaw11.SpanImplied': WHATEVER THE INPUT: true; the input reads as it did. -/
def spanImpliedSpec : ChangeSpec := { name := "spanImplied", fn := fun _ => fun
  | [d1, d2, d3, d4] => { results := [.lit (.bool true)], args := [d1, d2, d3, d4] }
  | _ => none }
def spanImpliedRow : OpenClaim := { program := "ytkddoopknapemaa", sum := "eafab3ea1367cfc722233395f0816f35b08e47fe1a6bbf54f154ff9420391e14", func := "kerbside/kerbsidelaw11.SpanImplied", spec := "spanImplied", unfollowed := true, recurses := true, apart := false }
def SpanImpliedSaid : Prop := spanImpliedRow.holds Try.pinned (OpenSpec.ofChange spanImpliedSpec)

/-- ITS FALSE NEIGHBOUR: 'it returns false'. Refute it at one input. -/
def spanImpliedWrong : ChangeSpec := { name := "spanImplied", fn := fun _ => fun
  | [d1, d2, d3, d4] => { results := [.lit (.bool false)], args := [d1, d2, d3, d4] }
  | _ => none }
def SpanImpliedWrongFalsely : Prop := spanImpliedRow.holds Try.pinned (OpenSpec.ofChange spanImpliedWrong)

/-- 'kerbsidelaw11.SpanCertain': WHATEVER THE INPUT: true; the input reads as it did. -/
def spanCertainSpec : ChangeSpec := { name := "spanCertain", fn := fun _ => fun
  | [d1, d2, d3] => { results := [.lit (.bool true)], args := [d1, d2, d3] }
  | _ => none }
def spanCertainRow : OpenClaim := { program := "ytkddoopknapemaa", sum := "eafab3ea1367cfc722233395f0816f35b08e47fe1a6bbf54f154ff9420391e14", func := "kerbside/kerbsidelaw11.SpanCertain", spec := "spanCertain", unfollowed := true, recurses := true, apart := false }
def SpanCertainSaid : Prop := spanCertainRow.holds Try.pinned (OpenSpec.ofChange spanCertainSpec)

/-- ITS FALSE NEIGHBOUR: 'it returns false'. Refute it at one input. -/
def spanCertainWrong : ChangeSpec := { name := "spanCertain", fn := fun _ => fun
  | [d1, d2, d3] => { results := [.lit (.bool false)], args := [d1, d2, d3] }
  | _ => none }
def SpanCertainWrongFalsely : Prop := spanCertainRow.holds Try.pinned (OpenSpec.ofChange spanCertainWrong)

/-- 'kerbsidelaw11.SpanTurns': WHATEVER THE INPUT: true; the input reads as it did. -/
def spanTurnsSpec : ChangeSpec := { name := "spanTurns", fn := fun _ => fun
  | [d1, d2, d3, d4] => { results := [.lit (.bool true)], args := [d1, d2, d3, d4] }
  | _ => none }
def spanTurnsRow : OpenClaim := { program := "ytkddoopknapemaa", sum := "eafab3ea1367cfc722233395f0816f35b08e47fe1a6bbf54f154ff9420391e14", func := "kerbside/kerbsidelaw11.SpanTurns", spec := "spanTurns", unfollowed := true, recurses := true, apart := false }
def SpanTurnsSaid : Prop := spanTurnsRow.holds Try.pinned (OpenSpec.ofChange spanTurnsSpec)

/-- ITS FALSE NEIGHBOUR: 'it returns false'. Refute it at one input. -/
def spanTurnsWrong : ChangeSpec := { name := "spanTurns", fn := fun _ => fun
  | [d1, d2, d3, d4] => { results := [.lit (.bool false)], args := [d1, d2, d3, d4] }
  | _ => none }
def SpanTurnsWrongFalsely : Prop := spanTurnsRow.holds Try.pinned (OpenSpec.ofChange spanTurnsWrong)

/-- 'kerbsidelaw11.SpanEncloses': WHATEVER THE INPUT: true; the input reads as it did. -/
def spanEnclosesSpec : ChangeSpec := { name := "spanEncloses", fn := fun _ => fun
  | [d1, d2, d3, d4, d5] => { results := [.lit (.bool true)], args := [d1, d2, d3, d4, d5] }
  | _ => none }
def spanEnclosesRow : OpenClaim := { program := "ytkddoopknapemaa", sum := "eafab3ea1367cfc722233395f0816f35b08e47fe1a6bbf54f154ff9420391e14", func := "kerbside/kerbsidelaw11.SpanEncloses", spec := "spanEncloses", unfollowed := true, recurses := true, apart := false }
def SpanEnclosesSaid : Prop := spanEnclosesRow.holds Try.pinned (OpenSpec.ofChange spanEnclosesSpec)

/-- ITS FALSE NEIGHBOUR: 'it returns false'. Refute it at one input. -/
def spanEnclosesWrong : ChangeSpec := { name := "spanEncloses", fn := fun _ => fun
  | [d1, d2, d3, d4, d5] => { results := [.lit (.bool false)], args := [d1, d2, d3, d4, d5] }
  | _ => none }
def SpanEnclosesWrongFalsely : Prop := spanEnclosesRow.holds Try.pinned (OpenSpec.ofChange spanEnclosesWrong)

/- THE SECOND FORM. 'bulk': how many values and letters a reading holds, each counted each time it is reached (what is shared counts as often as it is met; a slice's spare places count too). A statement '..UptoSaid' is the law's where the arguments, and the package variables that the reading takes, are together of bulk at most 1048576: NARROWER than '..Said'. Prove '..Said' where nothing that the law and all that it calls make is longer than what came in: it says more and counts as full. Else prove '..UptoSaid'. A law counts once. -/
mutual
def uptoBulk {H : Type} : DataW H → Nat
  | .lit (.string bytes) => bytes.length + 1
  | .lit _ => 1
  | .nil => 1
  | .ptr d => uptoBulk d + 1
  | .slice elems spare => uptoBulkAll elems + uptoBulkAll spare + 1
  | .agg parts => uptoBulkAll parts + 1
  | .iface _ d => uptoBulk d + 1
  | .map entries => uptoBulkEntries entries + 1
  | .held _ => 1
def uptoBulkAll {H : Type} : List (DataW H) → Nat
  | [] => 0
  | d :: r => uptoBulk d + uptoBulkAll r
def uptoBulkEntries {H : Type} : List (Lit × DataW H) → Nat
  | [] => 0
  | x :: r => uptoBulkEntry x + uptoBulkEntries r
def uptoBulkEntry {H : Type} : Lit × DataW H → Nat
  | (.string bytes, d) => bytes.length + uptoBulk d + 1
  | (_, d) => uptoBulk d + 1
 end
def uptoSmall : (H : Type) → List (DataW H) → Bool := fun _ ds => decide (uptoBulkAll ds ≤ 1048576)
def OpenSpec.upto (s : _root_.Go.ChangeSpec) : _root_.Go.OpenSpec := { _root_.Go.OpenSpec.ofChange s with cond := some uptoSmall }

/-- 'kerbsidelaw11.SpanNarrows', WHERE WHAT IT READS IS OF BULK AT MOST 1048576: true; the input reads as it did. -/
def spanNarrowsUptoRow : OpenClaim := { program := "ytkddoopknapemaa", sum := "eafab3ea1367cfc722233395f0816f35b08e47fe1a6bbf54f154ff9420391e14", func := "kerbside/kerbsidelaw11.SpanNarrows", spec := "spanNarrows", unfollowed := true, recurses := true, apart := false, narrowed := true }
def SpanNarrowsUptoSaid : Prop := spanNarrowsUptoRow.holds Try.pinned (OpenSpec.upto spanNarrowsSpec)

/-- 'kerbsidelaw11.SpanImplied', WHERE WHAT IT READS IS OF BULK AT MOST 1048576: true; the input reads as it did. -/
def spanImpliedUptoRow : OpenClaim := { program := "ytkddoopknapemaa", sum := "eafab3ea1367cfc722233395f0816f35b08e47fe1a6bbf54f154ff9420391e14", func := "kerbside/kerbsidelaw11.SpanImplied", spec := "spanImplied", unfollowed := true, recurses := true, apart := false, narrowed := true }
def SpanImpliedUptoSaid : Prop := spanImpliedUptoRow.holds Try.pinned (OpenSpec.upto spanImpliedSpec)

/-- 'kerbsidelaw11.SpanCertain', WHERE WHAT IT READS IS OF BULK AT MOST 1048576: true; the input reads as it did. -/
def spanCertainUptoRow : OpenClaim := { program := "ytkddoopknapemaa", sum := "eafab3ea1367cfc722233395f0816f35b08e47fe1a6bbf54f154ff9420391e14", func := "kerbside/kerbsidelaw11.SpanCertain", spec := "spanCertain", unfollowed := true, recurses := true, apart := false, narrowed := true }
def SpanCertainUptoSaid : Prop := spanCertainUptoRow.holds Try.pinned (OpenSpec.upto spanCertainSpec)

/-- 'kerbsidelaw11.SpanTurns', WHERE WHAT IT READS IS OF BULK AT MOST 1048576: true; the input reads as it did. -/
def spanTurnsUptoRow : OpenClaim := { program := "ytkddoopknapemaa", sum := "eafab3ea1367cfc722233395f0816f35b08e47fe1a6bbf54f154ff9420391e14", func := "kerbside/kerbsidelaw11.SpanTurns", spec := "spanTurns", unfollowed := true, recurses := true, apart := false, narrowed := true }
def SpanTurnsUptoSaid : Prop := spanTurnsUptoRow.holds Try.pinned (OpenSpec.upto spanTurnsSpec)

/-- 'kerbsidelaw11.SpanEncloses', WHERE WHAT IT READS IS OF BULK AT MOST 1048576: true; the input reads as it did. -/
def spanEnclosesUptoRow : OpenClaim := { program := "ytkddoopknapemaa", sum := "eafab3ea1367cfc722233395f0816f35b08e47fe1a6bbf54f154ff9420391e14", func := "kerbside/kerbsidelaw11.SpanEncloses", spec := "spanEncloses", unfollowed := true, recurses := true, apart := false, narrowed := true }
def SpanEnclosesUptoSaid : Prop := spanEnclosesUptoRow.holds Try.pinned (OpenSpec.upto spanEnclosesSpec)

end Rows
end Go.Proofs.Ytkddoopknapemaa
