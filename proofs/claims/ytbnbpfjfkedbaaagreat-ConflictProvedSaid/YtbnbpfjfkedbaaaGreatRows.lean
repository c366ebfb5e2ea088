/-
  No cell of these rows narrows 'for every input' (looked for: loops, veiled, ifaces, maps, wideKeys, modest, calm, conditions, laid).
  DERIVED. THE GIVEN ROWS OF THIS SEAT. 5 by the template 'for every input the law returns true; each argument reads behind the call as it read before'; 0 by the template 'total and deterministic' (their statements: YtbnbpfjfkedbaaaGreatTotals.lean).
  GIVEN WITH THE SEED: the statements are not yours to turn. If you find one false, say at which input.
  Laid BY PROGRAM, IN A SANDBOX (cutbox-rows.mjs): the forced cells as the released guide's own fill.sh prints them over the translation b1804f0d56712dbb… (all of the seat's roots in one cut). By AI agents, Wed Nov 11 2026. No macro, syntax, notation, axiom, sorry.
-/
import Derived.Test.YtbnbpfjfkedbaaaGreatChecked
import GoSem.Claim
import GoSem.ClaimJoined
import GoSem.ClaimMapViews
import Derived.JoinedTies
import Derived.KernelRfl
namespace Go.Proofs.YtbnbpfjfkedbaaaGreat
/- THE CELL 'sum', in the pinned program and in every row, IS THE sha256 OF THE DUMP (.gsa) THAT YtbnbpfjfkedbaaaGreatProg.lean LOADS. Nothing in Lean hashes anything: it is a label: what it is worth is what the hold of that sum in a sandbox is worth. -/
noncomputable def Tryz.pinned : Pinned := { name := "ytbnbpfjfkedbaaagreat", sum := "b1804f0d56712dbb5bc101f971dd42c0822762f6bdf597bbc31a55a470ef8cbc", checked := Tryz.checked }
namespace Rows
def none {H : Type} : Left H := { results := [], args := [] }

/-- 'kerbsidelaw44.MarketBest': WHATEVER THE INPUT: true; the input reads as it did. -/
def marketBestSpec : ChangeSpec := { name := "marketBest", fn := fun _ => fun
  | [d1, d2, d3, d4] => { results := [.lit (.bool true)], args := [d1, d2, d3, d4] }
  | _ => none }
def marketBestRow : OpenClaim := { program := "ytbnbpfjfkedbaaagreat", sum := "b1804f0d56712dbb5bc101f971dd42c0822762f6bdf597bbc31a55a470ef8cbc", func := "kerbside/kerbsidelaw44.MarketBest", spec := "marketBest", unfollowed := true, recurses := true, apart := false }
def MarketBestSaid : Prop := marketBestRow.holds Tryz.pinned (OpenSpec.ofChange marketBestSpec)

/-- ITS FALSE NEIGHBOUR: 'it returns false'. Refute it at one input. -/
def marketBestWrong : ChangeSpec := { name := "marketBest", fn := fun _ => fun
  | [d1, d2, d3, d4] => { results := [.lit (.bool false)], args := [d1, d2, d3, d4] }
  | _ => none }
def MarketBestWrongFalsely : Prop := marketBestRow.holds Tryz.pinned (OpenSpec.ofChange marketBestWrong)

/-- 'kerbsidelaw12.ConflictOrder': WHATEVER THE INPUT: true; the input reads as it did. -/
def conflictOrderSpec : ChangeSpec := { name := "conflictOrder", fn := fun _ => fun
  | [d] => { results := [.lit (.bool true)], args := [d] }
  | _ => none }
def conflictOrderRow : OpenClaim := { program := "ytbnbpfjfkedbaaagreat", sum := "b1804f0d56712dbb5bc101f971dd42c0822762f6bdf597bbc31a55a470ef8cbc", func := "kerbside/kerbsidelaw12.ConflictOrder", spec := "conflictOrder", unfollowed := true, recurses := true, apart := false }
def ConflictOrderSaid : Prop := conflictOrderRow.holds Tryz.pinned (OpenSpec.ofChange conflictOrderSpec)

/-- ITS FALSE NEIGHBOUR: 'it returns false'. Refute it at one input. -/
def conflictOrderWrong : ChangeSpec := { name := "conflictOrder", fn := fun _ => fun
  | [d] => { results := [.lit (.bool false)], args := [d] }
  | _ => none }
def ConflictOrderWrongFalsely : Prop := conflictOrderRow.holds Tryz.pinned (OpenSpec.ofChange conflictOrderWrong)

/-- 'kerbsidelaw12.ConflictProved': WHATEVER THE INPUT: true; the input reads as it did. -/
def conflictProvedSpec : ChangeSpec := { name := "conflictProved", fn := fun _ => fun
  | [d1, d2] => { results := [.lit (.bool true)], args := [d1, d2] }
  | _ => none }
def conflictProvedRow : OpenClaim := { program := "ytbnbpfjfkedbaaagreat", sum := "b1804f0d56712dbb5bc101f971dd42c0822762f6bdf597bbc31a55a470ef8cbc", func := "kerbside/kerbsidelaw12.ConflictProved", spec := "conflictProved", unfollowed := true, recurses := true, apart := false }
def ConflictProvedSaid : Prop := conflictProvedRow.holds Tryz.pinned (OpenSpec.ofChange conflictProvedSpec)

/-- ITS FALSE NEIGHBOUR: 'it returns false'. Refute it at one input. -/
def conflictProvedWrong : ChangeSpec := { name := "conflictProved", fn := fun _ => fun
  | [d1, d2] => { results := [.lit (.bool false)], args := [d1, d2] }
  | _ => none }
def ConflictProvedWrongFalsely : Prop := conflictProvedRow.holds Tryz.pinned (OpenSpec.ofChange conflictProvedWrong)

/-- 'kerbsidelaw12.ConflictLeast': WHATEVER THE INPUT: true; the input reads as it did. -/
def conflictLeastSpec : ChangeSpec := { name := "conflictLeast", fn := fun _ => fun
  | [d] => { results := [.lit (.bool true)], args := [d] }
  | _ => none }
def conflictLeastRow : OpenClaim := { program := "ytbnbpfjfkedbaaagreat", sum := "b1804f0d56712dbb5bc101f971dd42c0822762f6bdf597bbc31a55a470ef8cbc", func := "kerbside/kerbsidelaw12.ConflictLeast", spec := "conflictLeast", unfollowed := true, recurses := true, apart := false }
def ConflictLeastSaid : Prop := conflictLeastRow.holds Tryz.pinned (OpenSpec.ofChange conflictLeastSpec)

/-- ITS FALSE NEIGHBOUR: 'it returns false'. Refute it at one input. -/
def conflictLeastWrong : ChangeSpec := { name := "conflictLeast", fn := fun _ => fun
  | [d] => { results := [.lit (.bool false)], args := [d] }
  | _ => none }
def ConflictLeastWrongFalsely : Prop := conflictLeastRow.holds Tryz.pinned (OpenSpec.ofChange conflictLeastWrong)

/-- 'kerbsidelaw12.ConflictParts': WHATEVER THE INPUT: true; the input reads as it did. -/
def conflictPartsSpec : ChangeSpec := { name := "conflictParts", fn := fun _ => fun
  | [d1, d2, d3, d4] => { results := [.lit (.bool true)], args := [d1, d2, d3, d4] }
  | _ => none }
def conflictPartsRow : OpenClaim := { program := "ytbnbpfjfkedbaaagreat", sum := "b1804f0d56712dbb5bc101f971dd42c0822762f6bdf597bbc31a55a470ef8cbc", func := "kerbside/kerbsidelaw12.ConflictParts", spec := "conflictParts", unfollowed := true, recurses := true, apart := false }
def ConflictPartsSaid : Prop := conflictPartsRow.holds Tryz.pinned (OpenSpec.ofChange conflictPartsSpec)

/-- ITS FALSE NEIGHBOUR: 'it returns false'. Refute it at one input. -/
def conflictPartsWrong : ChangeSpec := { name := "conflictParts", fn := fun _ => fun
  | [d1, d2, d3, d4] => { results := [.lit (.bool false)], args := [d1, d2, d3, d4] }
  | _ => none }
def ConflictPartsWrongFalsely : Prop := conflictPartsRow.holds Tryz.pinned (OpenSpec.ofChange conflictPartsWrong)

/- THE SECOND FORM. 'bulk': how many values and letters a reading holds, each counted each time it is reached (what is shared counts as often as it is met; a slice's spare places count too). A statement '..UptoSaid' is the law's where the arguments, and the package variables that the reading takes, are together of bulk at most 1048576: NARROWER than '..Said'. Prove '..Said' where nothing that the law and all that it calls make is longer than what came in: it says more and counts as full. Else prove '..UptoSaid'. A law counts once. -/
mutual
def uptoBulk {H : Type} : DataW H → Nat
  | .lit (.string bytes) => bytes.length + 1
  | .lit _ => 1
  | .nil => 1
  | .ptr d => uptoBulk d + 1
  | .slice elems spare => uptoBulkAll elems + uptoBulkAll spare + 1
  | .agg parts => uptoBulkAll parts + 1
  | .iface _ d => uptoBulk d + 1
  | .map entries => uptoBulkEntries entries + 1
  | .held _ => 1
def uptoBulkAll {H : Type} : List (DataW H) → Nat
  | [] => 0
  | d :: r => uptoBulk d + uptoBulkAll r
def uptoBulkEntries {H : Type} : List (Lit × DataW H) → Nat
  | [] => 0
  | x :: r => uptoBulkEntry x + uptoBulkEntries r
def uptoBulkEntry {H : Type} : Lit × DataW H → Nat
  | (.string bytes, d) => bytes.length + uptoBulk d + 1
  | (_, d) => uptoBulk d + 1
 end
def uptoSmall : (H : Type) → List (DataW H) → Bool := fun _ ds => decide (uptoBulkAll ds ≤ 1048576)
def OpenSpec.upto (s : _root_.Go.ChangeSpec) : _root_.Go.OpenSpec := { _root_.Go.OpenSpec.ofChange s with cond := some uptoSmall }

/-- 'kerbsidelaw44.MarketBest', WHERE WHAT IT READS IS OF BULK AT MOST 1048576: true; the input reads as it did. -/
def marketBestUptoRow : OpenClaim := { program := "ytbnbpfjfkedbaaagreat", sum := "b1804f0d56712dbb5bc101f971dd42c0822762f6bdf597bbc31a55a470ef8cbc", func := "kerbside/kerbsidelaw44.MarketBest", spec := "marketBest", unfollowed := true, recurses := true, apart := false, narrowed := true }
def MarketBestUptoSaid : Prop := marketBestUptoRow.holds Tryz.pinned (OpenSpec.upto marketBestSpec)

/-- 'kerbsidelaw12.ConflictOrder', WHERE WHAT IT READS IS OF BULK AT MOST 1048576: true; the input reads as it did. -/
def conflictOrderUptoRow : OpenClaim := { program := "ytbnbpfjfkedbaaagreat", sum := "b1804f0d56712dbb5bc101f971dd42c0822762f6bdf597bbc31a55a470ef8cbc", func := "kerbside/kerbsidelaw12.ConflictOrder", spec := "conflictOrder", unfollowed := true, recurses := true, apart := false, narrowed := true }
def ConflictOrderUptoSaid : Prop := conflictOrderUptoRow.holds Tryz.pinned (OpenSpec.upto conflictOrderSpec)

/-- 'kerbsidelaw12.ConflictProved', WHERE WHAT IT READS IS OF BULK AT MOST 1048576: true; the input reads as it did. -/
def conflictProvedUptoRow : OpenClaim := { program := "ytbnbpfjfkedbaaagreat", sum := "b1804f0d56712dbb5bc101f971dd42c0822762f6bdf597bbc31a55a470ef8cbc", func := "kerbside/kerbsidelaw12.ConflictProved", spec := "conflictProved", unfollowed := true, recurses := true, apart := false, narrowed := true }
def ConflictProvedUptoSaid : Prop := conflictProvedUptoRow.holds Tryz.pinned (OpenSpec.upto conflictProvedSpec)

/-- 'kerbsidelaw12.ConflictLeast', WHERE WHAT IT READS IS OF BULK AT MOST 1048576: true; the input reads as it did. -/
def conflictLeastUptoRow : OpenClaim := { program := "ytbnbpfjfkedbaaagreat", sum := "b1804f0d56712dbb5bc101f971dd42c0822762f6bdf597bbc31a55a470ef8cbc", func := "kerbside/kerbsidelaw12.ConflictLeast", spec := "conflictLeast", unfollowed := true, recurses := true, apart := false, narrowed := true }
def ConflictLeastUptoSaid : Prop := conflictLeastUptoRow.holds Tryz.pinned (OpenSpec.upto conflictLeastSpec)

/-- 'kerbsidelaw12.ConflictParts', WHERE WHAT IT READS IS OF BULK AT MOST 1048576: true; the input reads as it did. -/
def conflictPartsUptoRow : OpenClaim := { program := "ytbnbpfjfkedbaaagreat", sum := "b1804f0d56712dbb5bc101f971dd42c0822762f6bdf597bbc31a55a470ef8cbc", func := "kerbside/kerbsidelaw12.ConflictParts", spec := "conflictParts", unfollowed := true, recurses := true, apart := false, narrowed := true }
def ConflictPartsUptoSaid : Prop := conflictPartsUptoRow.holds Tryz.pinned (OpenSpec.upto conflictPartsSpec)

end Rows
end Go.Proofs.YtbnbpfjfkedbaaaGreat
