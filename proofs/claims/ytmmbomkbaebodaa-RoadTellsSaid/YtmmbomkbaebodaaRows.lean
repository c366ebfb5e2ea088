/-
  No cell of these rows narrows 'for every input' (looked for: loops, veiled, ifaces, maps, wideKeys, modest, calm, conditions, laid).
  DERIVED. THE GIVEN ROWS OF THIS SEAT. 6 by the template 'for every input the law returns true; each argument reads behind the call as it read before'; 0 by the template 'total and deterministic' (their statements: YtmmbomkbaebodaaTotals.lean).
  GIVEN WITH THE SEED: the statements are not yours to turn. If you find one false, say at which input.
  Laid BY PROGRAM, IN A SANDBOX (cutbox-rows.mjs): the forced cells as the released guide's own fill.sh prints them over the translation 7eefd6cd348dc390… (all of the seat's roots in one cut). By AI agents, Wed Nov 11 2026. No macro, syntax, notation, axiom, sorry.
-/
import Derived.Test.YtmmbomkbaebodaaChecked
import GoSem.Claim
import GoSem.ClaimJoined
import GoSem.ClaimMapViews
import Derived.JoinedTies
import Derived.KernelRfl
namespace Go.Proofs.Ytmmbomkbaebodaa
/- THE CELL 'sum', in the pinned program and in every row, IS THE sha256 OF THE DUMP (.gsa) THAT YtmmbomkbaebodaaProg.lean LOADS. Nothing in Lean hashes anything: it is a label: what it is worth is what the hold of that sum in a sandbox is worth. -/
noncomputable def Try.pinned : Pinned := { name := "ytmmbomkbaebodaa", sum := "7eefd6cd348dc3904bac7f36198511104946210dd143554aa4a77a31c1bb3028", checked := Try.checked }
namespace Rows
def none {H : Type} : Left H := { results := [], args := [] }

/-- 'kerbsidelaw27.RoadTells': WHATEVER THE INPUT: true; the input reads as it did. -/
def roadTellsSpec : ChangeSpec := { name := "roadTells", fn := fun _ => fun
  | [d1, d2, d3, d4, d5] => { results := [.lit (.bool true)], args := [d1, d2, d3, d4, d5] }
  | _ => none }
def roadTellsRow : OpenClaim := { program := "ytmmbomkbaebodaa", sum := "7eefd6cd348dc3904bac7f36198511104946210dd143554aa4a77a31c1bb3028", func := "kerbside/kerbsidelaw27.RoadTells", spec := "roadTells", unfollowed := true, recurses := true, apart := false }
def RoadTellsSaid : Prop := roadTellsRow.holds Try.pinned (OpenSpec.ofChange roadTellsSpec)

/-- ITS FALSE NEIGHBOUR: 'it returns false'. Refute it at one input. -/
def roadTellsWrong : ChangeSpec := { name := "roadTells", fn := fun _ => fun
  | [d1, d2, d3, d4, d5] => { results := [.lit (.bool false)], args := [d1, d2, d3, d4, d5] }
  | _ => none }
def RoadTellsWrongFalsely : Prop := roadTellsRow.holds Try.pinned (OpenSpec.ofChange roadTellsWrong)

/-- 'kerbsidelaw27.RoadProves': WHATEVER THE INPUT: true; the input reads as it did. -/
def roadProvesSpec : ChangeSpec := { name := "roadProves", fn := fun _ => fun
  | [d1, d2, d3, d4] => { results := [.lit (.bool true)], args := [d1, d2, d3, d4] }
  | _ => none }
def roadProvesRow : OpenClaim := { program := "ytmmbomkbaebodaa", sum := "7eefd6cd348dc3904bac7f36198511104946210dd143554aa4a77a31c1bb3028", func := "kerbside/kerbsidelaw27.RoadProves", spec := "roadProves", unfollowed := true, recurses := true, apart := false }
def RoadProvesSaid : Prop := roadProvesRow.holds Try.pinned (OpenSpec.ofChange roadProvesSpec)

/-- ITS FALSE NEIGHBOUR: 'it returns false'. Refute it at one input. -/
def roadProvesWrong : ChangeSpec := { name := "roadProves", fn := fun _ => fun
  | [d1, d2, d3, d4] => { results := [.lit (.bool false)], args := [d1, d2, d3, d4] }
  | _ => none }
def RoadProvesWrongFalsely : Prop := roadProvesRow.holds Try.pinned (OpenSpec.ofChange roadProvesWrong)

/-- 'kerbsidelaw27.RoadThird': WHATEVER THE INPUT: true; the input reads as it did. -/
def roadThirdSpec : ChangeSpec := { name := "roadThird", fn := fun _ => fun
  | [d1, d2, d3, d4, d5] => { results := [.lit (.bool true)], args := [d1, d2, d3, d4, d5] }
  | _ => none }
def roadThirdRow : OpenClaim := { program := "ytmmbomkbaebodaa", sum := "7eefd6cd348dc3904bac7f36198511104946210dd143554aa4a77a31c1bb3028", func := "kerbside/kerbsidelaw27.RoadThird", spec := "roadThird", unfollowed := true, recurses := true, apart := false }
def RoadThirdSaid : Prop := roadThirdRow.holds Try.pinned (OpenSpec.ofChange roadThirdSpec)

/-- ITS FALSE NEIGHBOUR: 'it returns false'. Refute it at one input. -/
def roadThirdWrong : ChangeSpec := { name := "roadThird", fn := fun _ => fun
  | [d1, d2, d3, d4, d5] => { results := [.lit (.bool false)], args := [d1, d2, d3, d4, d5] }
  | _ => none }
def RoadThirdWrongFalsely : Prop := roadThirdRow.holds Try.pinned (OpenSpec.ofChange roadThirdWrong)

/-- 'kerbsidelaw27.RoadHeavy': WHATEVER THE INPUT: true; the input reads as it did. -/
def roadHeavySpec : ChangeSpec := { name := "roadHeavy", fn := fun _ => fun
  | [d1, d2, d3, d4, d5] => { results := [.lit (.bool true)], args := [d1, d2, d3, d4, d5] }
  | _ => none }
def roadHeavyRow : OpenClaim := { program := "ytmmbomkbaebodaa", sum := "7eefd6cd348dc3904bac7f36198511104946210dd143554aa4a77a31c1bb3028", func := "kerbside/kerbsidelaw27.RoadHeavy", spec := "roadHeavy", unfollowed := true, recurses := true, apart := false }
def RoadHeavySaid : Prop := roadHeavyRow.holds Try.pinned (OpenSpec.ofChange roadHeavySpec)

/-- ITS FALSE NEIGHBOUR: 'it returns false'. Refute it at one input. -/
def roadHeavyWrong : ChangeSpec := { name := "roadHeavy", fn := fun _ => fun
  | [d1, d2, d3, d4, d5] => { results := [.lit (.bool false)], args := [d1, d2, d3, d4, d5] }
  | _ => none }
def RoadHeavyWrongFalsely : Prop := roadHeavyRow.holds Try.pinned (OpenSpec.ofChange roadHeavyWrong)

/-- 'kerbsidelaw27.RoadPath': WHATEVER THE INPUT: true; the input reads as it did. -/
def roadPathSpec : ChangeSpec := { name := "roadPath", fn := fun _ => fun
  | [d1, d2, d3, d4, d5] => { results := [.lit (.bool true)], args := [d1, d2, d3, d4, d5] }
  | _ => none }
def roadPathRow : OpenClaim := { program := "ytmmbomkbaebodaa", sum := "7eefd6cd348dc3904bac7f36198511104946210dd143554aa4a77a31c1bb3028", func := "kerbside/kerbsidelaw27.RoadPath", spec := "roadPath", unfollowed := true, recurses := true, apart := false }
def RoadPathSaid : Prop := roadPathRow.holds Try.pinned (OpenSpec.ofChange roadPathSpec)

/-- ITS FALSE NEIGHBOUR: 'it returns false'. Refute it at one input. -/
def roadPathWrong : ChangeSpec := { name := "roadPath", fn := fun _ => fun
  | [d1, d2, d3, d4, d5] => { results := [.lit (.bool false)], args := [d1, d2, d3, d4, d5] }
  | _ => none }
def RoadPathWrongFalsely : Prop := roadPathRow.holds Try.pinned (OpenSpec.ofChange roadPathWrong)

/-- 'kerbsidelaw27.RoadTurned': WHATEVER THE INPUT: true; the input reads as it did. -/
def roadTurnedSpec : ChangeSpec := { name := "roadTurned", fn := fun _ => fun
  | [d1, d2, d3, d4] => { results := [.lit (.bool true)], args := [d1, d2, d3, d4] }
  | _ => none }
def roadTurnedRow : OpenClaim := { program := "ytmmbomkbaebodaa", sum := "7eefd6cd348dc3904bac7f36198511104946210dd143554aa4a77a31c1bb3028", func := "kerbside/kerbsidelaw27.RoadTurned", spec := "roadTurned", unfollowed := true, recurses := true, apart := false }
def RoadTurnedSaid : Prop := roadTurnedRow.holds Try.pinned (OpenSpec.ofChange roadTurnedSpec)

/-- ITS FALSE NEIGHBOUR: 'it returns false'. Refute it at one input. -/
def roadTurnedWrong : ChangeSpec := { name := "roadTurned", fn := fun _ => fun
  | [d1, d2, d3, d4] => { results := [.lit (.bool false)], args := [d1, d2, d3, d4] }
  | _ => none }
def RoadTurnedWrongFalsely : Prop := roadTurnedRow.holds Try.pinned (OpenSpec.ofChange roadTurnedWrong)

/- THE SECOND FORM. 'bulk': how many values and letters a reading holds, each counted each time it is reached (what is shared counts as often as it is met; a slice's spare places count too). A statement '..UptoSaid' is the law's where the arguments, and the package variables that the reading takes, are together of bulk at most 1048576: NARROWER than '..Said'. Prove '..Said' where nothing that the law and all that it calls make is longer than what came in: it says more and counts as full. Else prove '..UptoSaid'. A law counts once. -/
mutual
def uptoBulk {H : Type} : DataW H → Nat
  | .lit (.string bytes) => bytes.length + 1
  | .lit _ => 1
  | .nil => 1
  | .ptr d => uptoBulk d + 1
  | .slice elems spare => uptoBulkAll elems + uptoBulkAll spare + 1
  | .agg parts => uptoBulkAll parts + 1
  | .iface _ d => uptoBulk d + 1
  | .map entries => uptoBulkEntries entries + 1
  | .held _ => 1
def uptoBulkAll {H : Type} : List (DataW H) → Nat
  | [] => 0
  | d :: r => uptoBulk d + uptoBulkAll r
def uptoBulkEntries {H : Type} : List (Lit × DataW H) → Nat
  | [] => 0
  | x :: r => uptoBulkEntry x + uptoBulkEntries r
def uptoBulkEntry {H : Type} : Lit × DataW H → Nat
  | (.string bytes, d) => bytes.length + uptoBulk d + 1
  | (_, d) => uptoBulk d + 1
 end
def uptoSmall : (H : Type) → List (DataW H) → Bool := fun _ ds => decide (uptoBulkAll ds ≤ 1048576)
def OpenSpec.upto (s : _root_.Go.ChangeSpec) : _root_.Go.OpenSpec := { _root_.Go.OpenSpec.ofChange s with cond := some uptoSmall }

/-- 'kerbsidelaw27.RoadTells', WHERE WHAT IT READS IS OF BULK AT MOST 1048576: true; the input reads as it did. -/
def roadTellsUptoRow : OpenClaim := { program := "ytmmbomkbaebodaa", sum := "7eefd6cd348dc3904bac7f36198511104946210dd143554aa4a77a31c1bb3028", func := "kerbside/kerbsidelaw27.RoadTells", spec := "roadTells", unfollowed := true, recurses := true, apart := false, narrowed := true }
def RoadTellsUptoSaid : Prop := roadTellsUptoRow.holds Try.pinned (OpenSpec.upto roadTellsSpec)

/-- 'kerbsidelaw27.RoadProves', WHERE WHAT IT READS IS OF BULK AT MOST 1048576: true; the input reads as it did. -/
def roadProvesUptoRow : OpenClaim := { program := "ytmmbomkbaebodaa", sum := "7eefd6cd348dc3904bac7f36198511104946210dd143554aa4a77a31c1bb3028", func := "kerbside/kerbsidelaw27.RoadProves", spec := "roadProves", unfollowed := true, recurses := true, apart := false, narrowed := true }
def RoadProvesUptoSaid : Prop := roadProvesUptoRow.holds Try.pinned (OpenSpec.upto roadProvesSpec)

/-- 'kerbsidelaw27.RoadThird', WHERE WHAT IT READS IS OF BULK AT MOST 1048576: true; the input reads as it did. -/
def roadThirdUptoRow : OpenClaim := { program := "ytmmbomkbaebodaa", sum := "7eefd6cd348dc3904bac7f36198511104946210dd143554aa4a77a31c1bb3028", func := "kerbside/kerbsidelaw27.RoadThird", spec := "roadThird", unfollowed := true, recurses := true, apart := false, narrowed := true }
def RoadThirdUptoSaid : Prop := roadThirdUptoRow.holds Try.pinned (OpenSpec.upto roadThirdSpec)

/-- 'kerbsidelaw27.RoadHeavy', WHERE WHAT IT READS IS OF BULK AT MOST 1048576: true; the input reads as it did. -/
def roadHeavyUptoRow : OpenClaim := { program := "ytmmbomkbaebodaa", sum := "7eefd6cd348dc3904bac7f36198511104946210dd143554aa4a77a31c1bb3028", func := "kerbside/kerbsidelaw27.RoadHeavy", spec := "roadHeavy", unfollowed := true, recurses := true, apart := false, narrowed := true }
def RoadHeavyUptoSaid : Prop := roadHeavyUptoRow.holds Try.pinned (OpenSpec.upto roadHeavySpec)

/-- 'kerbsidelaw27.RoadPath', WHERE WHAT IT READS IS OF BULK AT MOST 1048576: true; the input reads as it did. -/
def roadPathUptoRow : OpenClaim := { program := "ytmmbomkbaebodaa", sum := "7eefd6cd348dc3904bac7f36198511104946210dd143554aa4a77a31c1bb3028", func := "kerbside/kerbsidelaw27.RoadPath", spec := "roadPath", unfollowed := true, recurses := true, apart := false, narrowed := true }
def RoadPathUptoSaid : Prop := roadPathUptoRow.holds Try.pinned (OpenSpec.upto roadPathSpec)

/-- 'kerbsidelaw27.RoadTurned', WHERE WHAT IT READS IS OF BULK AT MOST 1048576: true; the input reads as it did. -/
def roadTurnedUptoRow : OpenClaim := { program := "ytmmbomkbaebodaa", sum := "7eefd6cd348dc3904bac7f36198511104946210dd143554aa4a77a31c1bb3028", func := "kerbside/kerbsidelaw27.RoadTurned", spec := "roadTurned", unfollowed := true, recurses := true, apart := false, narrowed := true }
def RoadTurnedUptoSaid : Prop := roadTurnedUptoRow.holds Try.pinned (OpenSpec.upto roadTurnedSpec)

end Rows
end Go.Proofs.Ytmmbomkbaebodaa
