/-
  No cell of these rows narrows 'for every input' (looked for: loops, veiled, ifaces, maps, wideKeys, modest, calm, conditions, laid).
  DERIVED. THE GIVEN ROWS OF THIS SEAT. 4 by the template 'for every input the law returns true; each argument reads behind the call as it read before'; 0 by the template 'total and deterministic' (their statements: YtbnbpfjfkedbaaaTotals.lean).
  GIVEN WITH THE SEED: the statements are not yours to turn. If you find one false, say at which input.
  Laid BY PROGRAM, IN A SANDBOX (cutbox-rows.mjs): the forced cells as the released guide's own fill.sh prints them over the translation 295323685992791f… (all of the seat's roots in one cut). By AI agents, Wed Nov 11 2026. No macro, syntax, notation, axiom, sorry.
-/
import Derived.Test.YtbnbpfjfkedbaaaChecked
import GoSem.Claim
import GoSem.ClaimJoined
import GoSem.ClaimMapViews
import Derived.JoinedTies
import Derived.KernelRfl
namespace Go.Proofs.Ytbnbpfjfkedbaaa
/- THE CELL 'sum', in the pinned program and in every row, IS THE sha256 OF THE DUMP (.gsa) THAT YtbnbpfjfkedbaaaProg.lean LOADS. Nothing in Lean hashes anything: it is a label: what it is worth is what the hold of that sum in a sandbox is worth. -/
noncomputable def Try.pinned : Pinned := { name := "ytbnbpfjfkedbaaa", sum := "295323685992791fc340ccc5d8fba46954f76dd87deaceac5cafe8ad8cd48b6d", checked := Try.checked }
namespace Rows
def none {H : Type} : Left H := { results := [], args := [] }

/-- 'kerbsidelaw44.MarketPays': WHATEVER THE INPUT: true; the input reads as it did. -/
def marketPaysSpec : ChangeSpec := { name := "marketPays", fn := fun _ => fun
  | [d1, d2, d3] => { results := [.lit (.bool true)], args := [d1, d2, d3] }
  | _ => none }
def marketPaysRow : OpenClaim := { program := "ytbnbpfjfkedbaaa", sum := "295323685992791fc340ccc5d8fba46954f76dd87deaceac5cafe8ad8cd48b6d", func := "kerbside/kerbsidelaw44.MarketPays", spec := "marketPays", unfollowed := true, recurses := true, apart := false }
def MarketPaysSaid : Prop := marketPaysRow.holds Try.pinned (OpenSpec.ofChange marketPaysSpec)

/-- ITS FALSE NEIGHBOUR: 'it returns false'. Refute it at one input. -/
def marketPaysWrong : ChangeSpec := { name := "marketPays", fn := fun _ => fun
  | [d1, d2, d3] => { results := [.lit (.bool false)], args := [d1, d2, d3] }
  | _ => none }
def MarketPaysWrongFalsely : Prop := marketPaysRow.holds Try.pinned (OpenSpec.ofChange marketPaysWrong)

/-- 'kerbsidelaw44.MarketMore': WHATEVER THE INPUT: true; the input reads as it did. -/
def marketMoreSpec : ChangeSpec := { name := "marketMore", fn := fun _ => fun
  | [d1, d2, d3, d4, d5] => { results := [.lit (.bool true)], args := [d1, d2, d3, d4, d5] }
  | _ => none }
def marketMoreRow : OpenClaim := { program := "ytbnbpfjfkedbaaa", sum := "295323685992791fc340ccc5d8fba46954f76dd87deaceac5cafe8ad8cd48b6d", func := "kerbside/kerbsidelaw44.MarketMore", spec := "marketMore", unfollowed := true, recurses := true, apart := false }
def MarketMoreSaid : Prop := marketMoreRow.holds Try.pinned (OpenSpec.ofChange marketMoreSpec)

/-- ITS FALSE NEIGHBOUR: 'it returns false'. Refute it at one input. -/
def marketMoreWrong : ChangeSpec := { name := "marketMore", fn := fun _ => fun
  | [d1, d2, d3, d4, d5] => { results := [.lit (.bool false)], args := [d1, d2, d3, d4, d5] }
  | _ => none }
def MarketMoreWrongFalsely : Prop := marketMoreRow.holds Try.pinned (OpenSpec.ofChange marketMoreWrong)

/-- 'kerbsidelaw44.MarketOne': WHATEVER THE INPUT: true; the input reads as it did. -/
def marketOneSpec : ChangeSpec := { name := "marketOne", fn := fun _ => fun
  | [d1, d2] => { results := [.lit (.bool true)], args := [d1, d2] }
  | _ => none }
def marketOneRow : OpenClaim := { program := "ytbnbpfjfkedbaaa", sum := "295323685992791fc340ccc5d8fba46954f76dd87deaceac5cafe8ad8cd48b6d", func := "kerbside/kerbsidelaw44.MarketOne", spec := "marketOne", unfollowed := true, recurses := true, apart := false }
def MarketOneSaid : Prop := marketOneRow.holds Try.pinned (OpenSpec.ofChange marketOneSpec)

/-- ITS FALSE NEIGHBOUR: 'it returns false'. Refute it at one input. -/
def marketOneWrong : ChangeSpec := { name := "marketOne", fn := fun _ => fun
  | [d1, d2] => { results := [.lit (.bool false)], args := [d1, d2] }
  | _ => none }
def MarketOneWrongFalsely : Prop := marketOneRow.holds Try.pinned (OpenSpec.ofChange marketOneWrong)

/-- 'kerbsidelaw27.RoadPrices': WHATEVER THE INPUT: true; the input reads as it did. -/
def roadPricesSpec : ChangeSpec := { name := "roadPrices", fn := fun _ => fun
  | [d1, d2, d3, d4] => { results := [.lit (.bool true)], args := [d1, d2, d3, d4] }
  | _ => none }
def roadPricesRow : OpenClaim := { program := "ytbnbpfjfkedbaaa", sum := "295323685992791fc340ccc5d8fba46954f76dd87deaceac5cafe8ad8cd48b6d", func := "kerbside/kerbsidelaw27.RoadPrices", spec := "roadPrices", unfollowed := true, recurses := true, apart := false }
def RoadPricesSaid : Prop := roadPricesRow.holds Try.pinned (OpenSpec.ofChange roadPricesSpec)

/-- ITS FALSE NEIGHBOUR: 'it returns false'. Refute it at one input. -/
def roadPricesWrong : ChangeSpec := { name := "roadPrices", fn := fun _ => fun
  | [d1, d2, d3, d4] => { results := [.lit (.bool false)], args := [d1, d2, d3, d4] }
  | _ => none }
def RoadPricesWrongFalsely : Prop := roadPricesRow.holds Try.pinned (OpenSpec.ofChange roadPricesWrong)

/- THE SECOND FORM. 'bulk': how many values and letters a reading holds, each counted each time it is reached (what is shared counts as often as it is met; a slice's spare places count too). A statement '..UptoSaid' is the law's where the arguments, and the package variables that the reading takes, are together of bulk at most 1048576: NARROWER than '..Said'. Prove '..Said' where nothing that the law and all that it calls make is longer than what came in: it says more and counts as full. Else prove '..UptoSaid'. A law counts once. -/
mutual
def uptoBulk {H : Type} : DataW H → Nat
  | .lit (.string bytes) => bytes.length + 1
  | .lit _ => 1
  | .nil => 1
  | .ptr d => uptoBulk d + 1
  | .slice elems spare => uptoBulkAll elems + uptoBulkAll spare + 1
  | .agg parts => uptoBulkAll parts + 1
  | .iface _ d => uptoBulk d + 1
  | .map entries => uptoBulkEntries entries + 1
  | .held _ => 1
def uptoBulkAll {H : Type} : List (DataW H) → Nat
  | [] => 0
  | d :: r => uptoBulk d + uptoBulkAll r
def uptoBulkEntries {H : Type} : List (Lit × DataW H) → Nat
  | [] => 0
  | x :: r => uptoBulkEntry x + uptoBulkEntries r
def uptoBulkEntry {H : Type} : Lit × DataW H → Nat
  | (.string bytes, d) => bytes.length + uptoBulk d + 1
  | (_, d) => uptoBulk d + 1
 end
def uptoSmall : (H : Type) → List (DataW H) → Bool := fun _ ds => decide (uptoBulkAll ds ≤ 1048576)
def OpenSpec.upto (s : _root_.Go.ChangeSpec) : _root_.Go.OpenSpec := { _root_.Go.OpenSpec.ofChange s with cond := some uptoSmall }

/-- 'kerbsidelaw44.MarketPays', WHERE WHAT IT READS IS OF BULK AT MOST 1048576: true; the input reads as it did. -/
def marketPaysUptoRow : OpenClaim := { program := "ytbnbpfjfkedbaaa", sum := "295323685992791fc340ccc5d8fba46954f76dd87deaceac5cafe8ad8cd48b6d", func := "kerbside/kerbsidelaw44.MarketPays", spec := "marketPays", unfollowed := true, recurses := true, apart := false, narrowed := true }
def MarketPaysUptoSaid : Prop := marketPaysUptoRow.holds Try.pinned (OpenSpec.upto marketPaysSpec)

/-- 'kerbsidelaw44.MarketMore', WHERE WHAT IT READS IS OF BULK AT MOST 1048576: true; the input reads as it did. -/
def marketMoreUptoRow : OpenClaim := { program := "ytbnbpfjfkedbaaa", sum := "295323685992791fc340ccc5d8fba46954f76dd87deaceac5cafe8ad8cd48b6d", func := "kerbside/kerbsidelaw44.MarketMore", spec := "marketMore", unfollowed := true, recurses := true, apart := false, narrowed := true }
def MarketMoreUptoSaid : Prop := marketMoreUptoRow.holds Try.pinned (OpenSpec.upto marketMoreSpec)

/-- 'kerbsidelaw44.MarketOne', WHERE WHAT IT READS IS OF BULK AT MOST 1048576: true; the input reads as it did. -/
def marketOneUptoRow : OpenClaim := { program := "ytbnbpfjfkedbaaa", sum := "295323685992791fc340ccc5d8fba46954f76dd87deaceac5cafe8ad8cd48b6d", func := "kerbside/kerbsidelaw44.MarketOne", spec := "marketOne", unfollowed := true, recurses := true, apart := false, narrowed := true }
def MarketOneUptoSaid : Prop := marketOneUptoRow.holds Try.pinned (OpenSpec.upto marketOneSpec)

/-- 'kerbsidelaw27.RoadPrices', WHERE WHAT IT READS IS OF BULK AT MOST 1048576: true; the input reads as it did. -/
def roadPricesUptoRow : OpenClaim := { program := "ytbnbpfjfkedbaaa", sum := "295323685992791fc340ccc5d8fba46954f76dd87deaceac5cafe8ad8cd48b6d", func := "kerbside/kerbsidelaw27.RoadPrices", spec := "roadPrices", unfollowed := true, recurses := true, apart := false, narrowed := true }
def RoadPricesUptoSaid : Prop := roadPricesUptoRow.holds Try.pinned (OpenSpec.upto roadPricesSpec)

end Rows
end Go.Proofs.Ytbnbpfjfkedbaaa
