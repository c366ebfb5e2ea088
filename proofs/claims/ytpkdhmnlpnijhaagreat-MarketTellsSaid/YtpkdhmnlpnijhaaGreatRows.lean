/-
  No cell of these rows narrows 'for every input' (looked for: loops, veiled, ifaces, maps, wideKeys, modest, calm, conditions, laid).
  DERIVED. THE GIVEN ROWS OF THIS SEAT. 4 by the template 'for every input the law returns true; each argument reads behind the call as it read before'; 0 by the template 'total and deterministic' (their statements: YtpkdhmnlpnijhaaGreatTotals.lean).
  GIVEN WITH THE SEED: the statements are not yours to turn. If you find one false, say at which input.
  Laid BY PROGRAM, IN A SANDBOX (cutbox-rows.mjs): the forced cells as the released guide's own fill.sh prints them over the translation d6d7354f141a327b… (all of the seat's roots in one cut). By AI agents, Wed Nov 11 2026. No macro, syntax, notation, axiom, sorry.
-/
import Derived.Test.YtpkdhmnlpnijhaaGreatChecked
import GoSem.Claim
import GoSem.ClaimJoined
import GoSem.ClaimMapViews
import Derived.JoinedTies
import Derived.KernelRfl
namespace Go.Proofs.YtpkdhmnlpnijhaaGreat
/- THE CELL 'sum', in the pinned program and in every row, IS THE sha256 OF THE DUMP (.gsa) THAT YtpkdhmnlpnijhaaGreatProg.lean LOADS. Nothing in Lean hashes anything: it is a label: what it is worth is what the hold of that sum in a sandbox is worth. -/
noncomputable def Tryz.pinned : Pinned := { name := "ytpkdhmnlpnijhaagreat", sum := "d6d7354f141a327b3e8c4ee3e8424847145d0af02c82387e2184a9e63387846a", checked := Tryz.checked }
namespace Rows
def none {H : Type} : Left H := { results := [], args := [] }

/-- 'kerbsidelaw10.SimplexTells': WHATEVER THE INPUT: true; the input reads as it did. -/
def simplexTellsSpec : ChangeSpec := { name := "simplexTells", fn := fun _ => fun
  | [d1, d2] => { results := [.lit (.bool true)], args := [d1, d2] }
  | _ => none }
def simplexTellsRow : OpenClaim := { program := "ytpkdhmnlpnijhaagreat", sum := "d6d7354f141a327b3e8c4ee3e8424847145d0af02c82387e2184a9e63387846a", func := "kerbside/kerbsidelaw10.SimplexTells", spec := "simplexTells", unfollowed := true, recurses := true, apart := false }
def SimplexTellsSaid : Prop := simplexTellsRow.holds Tryz.pinned (OpenSpec.ofChange simplexTellsSpec)

/-- ITS FALSE NEIGHBOUR: 'it returns false'. Refute it at one input. -/
def simplexTellsWrong : ChangeSpec := { name := "simplexTells", fn := fun _ => fun
  | [d1, d2] => { results := [.lit (.bool false)], args := [d1, d2] }
  | _ => none }
def SimplexTellsWrongFalsely : Prop := simplexTellsRow.holds Tryz.pinned (OpenSpec.ofChange simplexTellsWrong)

/-- 'kerbsidelaw44.MarketTells': WHATEVER THE INPUT: true; the input reads as it did. -/
def marketTellsSpec : ChangeSpec := { name := "marketTells", fn := fun _ => fun
  | [d1, d2, d3] => { results := [.lit (.bool true)], args := [d1, d2, d3] }
  | _ => none }
def marketTellsRow : OpenClaim := { program := "ytpkdhmnlpnijhaagreat", sum := "d6d7354f141a327b3e8c4ee3e8424847145d0af02c82387e2184a9e63387846a", func := "kerbside/kerbsidelaw44.MarketTells", spec := "marketTells", unfollowed := true, recurses := true, apart := false }
def MarketTellsSaid : Prop := marketTellsRow.holds Tryz.pinned (OpenSpec.ofChange marketTellsSpec)

/-- ITS FALSE NEIGHBOUR: 'it returns false'. Refute it at one input. -/
def marketTellsWrong : ChangeSpec := { name := "marketTells", fn := fun _ => fun
  | [d1, d2, d3] => { results := [.lit (.bool false)], args := [d1, d2, d3] }
  | _ => none }
def MarketTellsWrongFalsely : Prop := marketTellsRow.holds Tryz.pinned (OpenSpec.ofChange marketTellsWrong)

/-- 'kerbsidelaw12.ConflictTells': WHATEVER THE INPUT: true; the input reads as it did. -/
def conflictTellsSpec : ChangeSpec := { name := "conflictTells", fn := fun _ => fun
  | [d1, d2, d3] => { results := [.lit (.bool true)], args := [d1, d2, d3] }
  | _ => none }
def conflictTellsRow : OpenClaim := { program := "ytpkdhmnlpnijhaagreat", sum := "d6d7354f141a327b3e8c4ee3e8424847145d0af02c82387e2184a9e63387846a", func := "kerbside/kerbsidelaw12.ConflictTells", spec := "conflictTells", unfollowed := true, recurses := true, apart := false }
def ConflictTellsSaid : Prop := conflictTellsRow.holds Tryz.pinned (OpenSpec.ofChange conflictTellsSpec)

/-- ITS FALSE NEIGHBOUR: 'it returns false'. Refute it at one input. -/
def conflictTellsWrong : ChangeSpec := { name := "conflictTells", fn := fun _ => fun
  | [d1, d2, d3] => { results := [.lit (.bool false)], args := [d1, d2, d3] }
  | _ => none }
def ConflictTellsWrongFalsely : Prop := conflictTellsRow.holds Tryz.pinned (OpenSpec.ofChange conflictTellsWrong)

/-- 'kerbsidelaw11.SpanTells': WHATEVER THE INPUT: true; the input reads as it did. -/
def spanTellsSpec : ChangeSpec := { name := "spanTells", fn := fun _ => fun
  | [d1, d2, d3, d4] => { results := [.lit (.bool true)], args := [d1, d2, d3, d4] }
  | _ => none }
def spanTellsRow : OpenClaim := { program := "ytpkdhmnlpnijhaagreat", sum := "d6d7354f141a327b3e8c4ee3e8424847145d0af02c82387e2184a9e63387846a", func := "kerbside/kerbsidelaw11.SpanTells", spec := "spanTells", unfollowed := true, recurses := true, apart := false }
def SpanTellsSaid : Prop := spanTellsRow.holds Tryz.pinned (OpenSpec.ofChange spanTellsSpec)

/-- ITS FALSE NEIGHBOUR: 'it returns false'. Refute it at one input. -/
def spanTellsWrong : ChangeSpec := { name := "spanTells", fn := fun _ => fun
  | [d1, d2, d3, d4] => { results := [.lit (.bool false)], args := [d1, d2, d3, d4] }
  | _ => none }
def SpanTellsWrongFalsely : Prop := spanTellsRow.holds Tryz.pinned (OpenSpec.ofChange spanTellsWrong)

/- THE SECOND FORM. 'bulk': how many values and letters a reading holds, each counted each time it is reached (what is shared counts as often as it is met; a slice's spare places count too). A statement '..UptoSaid' is the law's where the arguments, and the package variables that the reading takes, are together of bulk at most 1048576: NARROWER than '..Said'. Prove '..Said' where nothing that the law and all that it calls make is longer than what came in: it says more and counts as full. Else prove '..UptoSaid'. A law counts once. -/
mutual
def uptoBulk {H : Type} : DataW H → Nat
  | .lit (.string bytes) => bytes.length + 1
  | .lit _ => 1
  | .nil => 1
  | .ptr d => uptoBulk d + 1
  | .slice elems spare => uptoBulkAll elems + uptoBulkAll spare + 1
  | .agg parts => uptoBulkAll parts + 1
  | .iface _ d => uptoBulk d + 1
  | .map entries => uptoBulkEntries entries + 1
  | .held _ => 1
def uptoBulkAll {H : Type} : List (DataW H) → Nat
  | [] => 0
  | d :: r => uptoBulk d + uptoBulkAll r
def uptoBulkEntries {H : Type} : List (Lit × DataW H) → Nat
  | [] => 0
  | x :: r => uptoBulkEntry x + uptoBulkEntries r
def uptoBulkEntry {H : Type} : Lit × DataW H → Nat
  | (.string bytes, d) => bytes.length + uptoBulk d + 1
  | (_, d) => uptoBulk d + 1
 end
def uptoSmall : (H : Type) → List (DataW H) → Bool := fun _ ds => decide (uptoBulkAll ds ≤ 1048576)
def OpenSpec.upto (s : _root_.Go.ChangeSpec) : _root_.Go.OpenSpec := { _root_.Go.OpenSpec.ofChange s with cond := some uptoSmall }

/-- 'kerbsidelaw10.SimplexTells', WHERE WHAT IT READS IS OF BULK AT MOST 1048576: true; the input reads as it did. -/
def simplexTellsUptoRow : OpenClaim := { program := "ytpkdhmnlpnijhaagreat", sum := "d6d7354f141a327b3e8c4ee3e8424847145d0af02c82387e2184a9e63387846a", func := "kerbside/kerbsidelaw10.SimplexTells", spec := "simplexTells", unfollowed := true, recurses := true, apart := false, narrowed := true }
def SimplexTellsUptoSaid : Prop := simplexTellsUptoRow.holds Tryz.pinned (OpenSpec.upto simplexTellsSpec)

/-- 'kerbsidelaw44.MarketTells', WHERE WHAT IT READS IS OF BULK AT MOST 1048576: true; the input reads as it did. -/
def marketTellsUptoRow : OpenClaim := { program := "ytpkdhmnlpnijhaagreat", sum := "d6d7354f141a327b3e8c4ee3e8424847145d0af02c82387e2184a9e63387846a", func := "kerbside/kerbsidelaw44.MarketTells", spec := "marketTells", unfollowed := true, recurses := true, apart := false, narrowed := true }
def MarketTellsUptoSaid : Prop := marketTellsUptoRow.holds Tryz.pinned (OpenSpec.upto marketTellsSpec)

/-- 'kerbsidelaw12.ConflictTells', WHERE WHAT IT READS IS OF BULK AT MOST 1048576: true; the input reads as it did. -/
def conflictTellsUptoRow : OpenClaim := { program := "ytpkdhmnlpnijhaagreat", sum := "d6d7354f141a327b3e8c4ee3e8424847145d0af02c82387e2184a9e63387846a", func := "kerbside/kerbsidelaw12.ConflictTells", spec := "conflictTells", unfollowed := true, recurses := true, apart := false, narrowed := true }
def ConflictTellsUptoSaid : Prop := conflictTellsUptoRow.holds Tryz.pinned (OpenSpec.upto conflictTellsSpec)

/-- 'kerbsidelaw11.SpanTells', WHERE WHAT IT READS IS OF BULK AT MOST 1048576: true; the input reads as it did. -/
def spanTellsUptoRow : OpenClaim := { program := "ytpkdhmnlpnijhaagreat", sum := "d6d7354f141a327b3e8c4ee3e8424847145d0af02c82387e2184a9e63387846a", func := "kerbside/kerbsidelaw11.SpanTells", spec := "spanTells", unfollowed := true, recurses := true, apart := false, narrowed := true }
def SpanTellsUptoSaid : Prop := spanTellsUptoRow.holds Tryz.pinned (OpenSpec.upto spanTellsSpec)

end Rows
end Go.Proofs.YtpkdhmnlpnijhaaGreat
