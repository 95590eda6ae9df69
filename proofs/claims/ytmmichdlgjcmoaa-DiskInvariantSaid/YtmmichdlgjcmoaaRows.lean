/-
  No cell of these rows narrows 'for every input' (looked for: loops, veiled, ifaces, maps, wideKeys, modest, calm, conditions, laid).
  DERIVED. THE GIVEN ROWS OF THIS SEAT. 8 by the template 'for every input the law returns true; each argument reads behind the call as it read before'; 0 by the template 'total and deterministic' (their statements: YtmmichdlgjcmoaaTotals.lean).
  GIVEN WITH THE SEED: the statements are not yours to turn. If you find one false, say at which input.
  Laid BY PROGRAM, IN A SANDBOX (cutbox-rows.mjs): the forced cells as the released guide's own fill.sh prints them over the translation 5c06e5e0e5499617… (all of the seat's roots in one cut). By AI agents, Wed Nov 11 2026. No macro, syntax, notation, axiom, sorry.
-/
import Derived.Test.YtmmichdlgjcmoaaChecked
import GoSem.Claim
import GoSem.ClaimJoined
import GoSem.ClaimMapViews
import Derived.JoinedTies
import Derived.KernelRfl
namespace Go.Proofs.Ytmmichdlgjcmoaa
/- THE CELL 'sum', in the pinned program and in every row, IS THE sha256 OF THE DUMP (.gsa) THAT YtmmichdlgjcmoaaProg.lean LOADS. Nothing in Lean hashes anything: it is a label: what it is worth is what the hold of that sum in a sandbox is worth. -/
noncomputable def Try.pinned : Pinned := { name := "ytmmichdlgjcmoaa", sum := "5c06e5e0e5499617fc6c7cedfd00a6834b57d8b171de5ca77f0c08de48d0be8e", checked := Try.checked }
namespace Rows
def none {H : Type} : Left H := { results := [], args := [] }

/-- 'cayleylaw04.DiskBoundary': WHATEVER THE INPUT: true; the input reads as it did. -/
def diskBoundarySpec : ChangeSpec := { name := "diskBoundary", fn := fun _ => fun
  | [d1, d2, d3] => { results := [.lit (.bool true)], args := [d1, d2, d3] }
  | _ => none }
def diskBoundaryRow : OpenClaim := { program := "ytmmichdlgjcmoaa", sum := "5c06e5e0e5499617fc6c7cedfd00a6834b57d8b171de5ca77f0c08de48d0be8e", func := "cayley/cayleylaw04.DiskBoundary", spec := "diskBoundary", unfollowed := true, recurses := true, apart := false }
def DiskBoundarySaid : Prop := diskBoundaryRow.holds Try.pinned (OpenSpec.ofChange diskBoundarySpec)

/-- ITS FALSE NEIGHBOUR: 'it returns false'. Refute it at one input. -/
def diskBoundaryWrong : ChangeSpec := { name := "diskBoundary", fn := fun _ => fun
  | [d1, d2, d3] => { results := [.lit (.bool false)], args := [d1, d2, d3] }
  | _ => none }
def DiskBoundaryWrongFalsely : Prop := diskBoundaryRow.holds Try.pinned (OpenSpec.ofChange diskBoundaryWrong)

/-- 'cayleylaw04.DiskAlgebra': WHATEVER THE INPUT: true; the input reads as it did. -/
def diskAlgebraSpec : ChangeSpec := { name := "diskAlgebra", fn := fun _ => fun
  | [d1, d2, d3, d4] => { results := [.lit (.bool true)], args := [d1, d2, d3, d4] }
  | _ => none }
def diskAlgebraRow : OpenClaim := { program := "ytmmichdlgjcmoaa", sum := "5c06e5e0e5499617fc6c7cedfd00a6834b57d8b171de5ca77f0c08de48d0be8e", func := "cayley/cayleylaw04.DiskAlgebra", spec := "diskAlgebra", unfollowed := true, recurses := true, apart := false }
def DiskAlgebraSaid : Prop := diskAlgebraRow.holds Try.pinned (OpenSpec.ofChange diskAlgebraSpec)

/-- ITS FALSE NEIGHBOUR: 'it returns false'. Refute it at one input. -/
def diskAlgebraWrong : ChangeSpec := { name := "diskAlgebra", fn := fun _ => fun
  | [d1, d2, d3, d4] => { results := [.lit (.bool false)], args := [d1, d2, d3, d4] }
  | _ => none }
def DiskAlgebraWrongFalsely : Prop := diskAlgebraRow.holds Try.pinned (OpenSpec.ofChange diskAlgebraWrong)

/-- 'cayleylaw04.DiskGroup': WHATEVER THE INPUT: true; the input reads as it did. -/
def diskGroupSpec : ChangeSpec := { name := "diskGroup", fn := fun _ => fun
  | [d1, d2, d3, d4] => { results := [.lit (.bool true)], args := [d1, d2, d3, d4] }
  | _ => none }
def diskGroupRow : OpenClaim := { program := "ytmmichdlgjcmoaa", sum := "5c06e5e0e5499617fc6c7cedfd00a6834b57d8b171de5ca77f0c08de48d0be8e", func := "cayley/cayleylaw04.DiskGroup", spec := "diskGroup", unfollowed := true, recurses := true, apart := false }
def DiskGroupSaid : Prop := diskGroupRow.holds Try.pinned (OpenSpec.ofChange diskGroupSpec)

/-- ITS FALSE NEIGHBOUR: 'it returns false'. Refute it at one input. -/
def diskGroupWrong : ChangeSpec := { name := "diskGroup", fn := fun _ => fun
  | [d1, d2, d3, d4] => { results := [.lit (.bool false)], args := [d1, d2, d3, d4] }
  | _ => none }
def DiskGroupWrongFalsely : Prop := diskGroupRow.holds Try.pinned (OpenSpec.ofChange diskGroupWrong)

/-- 'cayleylaw04.DiskInvariant': WHATEVER THE INPUT: true; the input reads as it did. -/
def diskInvariantSpec : ChangeSpec := { name := "diskInvariant", fn := fun _ => fun
  | [d1, d2, d3, d4, d5] => { results := [.lit (.bool true)], args := [d1, d2, d3, d4, d5] }
  | _ => none }
def diskInvariantRow : OpenClaim := { program := "ytmmichdlgjcmoaa", sum := "5c06e5e0e5499617fc6c7cedfd00a6834b57d8b171de5ca77f0c08de48d0be8e", func := "cayley/cayleylaw04.DiskInvariant", spec := "diskInvariant", unfollowed := true, recurses := true, apart := false }
def DiskInvariantSaid : Prop := diskInvariantRow.holds Try.pinned (OpenSpec.ofChange diskInvariantSpec)

/-- ITS FALSE NEIGHBOUR: 'it returns false'. Refute it at one input. -/
def diskInvariantWrong : ChangeSpec := { name := "diskInvariant", fn := fun _ => fun
  | [d1, d2, d3, d4, d5] => { results := [.lit (.bool false)], args := [d1, d2, d3, d4, d5] }
  | _ => none }
def DiskInvariantWrongFalsely : Prop := diskInvariantRow.holds Try.pinned (OpenSpec.ofChange diskInvariantWrong)

/-- 'cayleylaw04.DiskMoves': WHATEVER THE INPUT: true; the input reads as it did. -/
def diskMovesSpec : ChangeSpec := { name := "diskMoves", fn := fun _ => fun
  | [d1, d2, d3] => { results := [.lit (.bool true)], args := [d1, d2, d3] }
  | _ => none }
def diskMovesRow : OpenClaim := { program := "ytmmichdlgjcmoaa", sum := "5c06e5e0e5499617fc6c7cedfd00a6834b57d8b171de5ca77f0c08de48d0be8e", func := "cayley/cayleylaw04.DiskMoves", spec := "diskMoves", unfollowed := true, recurses := true, apart := false }
def DiskMovesSaid : Prop := diskMovesRow.holds Try.pinned (OpenSpec.ofChange diskMovesSpec)

/-- ITS FALSE NEIGHBOUR: 'it returns false'. Refute it at one input. -/
def diskMovesWrong : ChangeSpec := { name := "diskMoves", fn := fun _ => fun
  | [d1, d2, d3] => { results := [.lit (.bool false)], args := [d1, d2, d3] }
  | _ => none }
def DiskMovesWrongFalsely : Prop := diskMovesRow.holds Try.pinned (OpenSpec.ofChange diskMovesWrong)

/-- 'cayleylaw04.DiskFromMoves': WHATEVER THE INPUT: true; the input reads as it did. -/
def diskFromMovesSpec : ChangeSpec := { name := "diskFromMoves", fn := fun _ => fun
  | [d1, d2, d3] => { results := [.lit (.bool true)], args := [d1, d2, d3] }
  | _ => none }
def diskFromMovesRow : OpenClaim := { program := "ytmmichdlgjcmoaa", sum := "5c06e5e0e5499617fc6c7cedfd00a6834b57d8b171de5ca77f0c08de48d0be8e", func := "cayley/cayleylaw04.DiskFromMoves", spec := "diskFromMoves", unfollowed := true, recurses := true, apart := false }
def DiskFromMovesSaid : Prop := diskFromMovesRow.holds Try.pinned (OpenSpec.ofChange diskFromMovesSpec)

/-- ITS FALSE NEIGHBOUR: 'it returns false'. Refute it at one input. -/
def diskFromMovesWrong : ChangeSpec := { name := "diskFromMoves", fn := fun _ => fun
  | [d1, d2, d3] => { results := [.lit (.bool false)], args := [d1, d2, d3] }
  | _ => none }
def DiskFromMovesWrongFalsely : Prop := diskFromMovesRow.holds Try.pinned (OpenSpec.ofChange diskFromMovesWrong)

/-- 'cayleylaw04.DiskToMoves': WHATEVER THE INPUT: true; the input reads as it did. -/
def diskToMovesSpec : ChangeSpec := { name := "diskToMoves", fn := fun _ => fun
  | [d1, d2, d3] => { results := [.lit (.bool true)], args := [d1, d2, d3] }
  | _ => none }
def diskToMovesRow : OpenClaim := { program := "ytmmichdlgjcmoaa", sum := "5c06e5e0e5499617fc6c7cedfd00a6834b57d8b171de5ca77f0c08de48d0be8e", func := "cayley/cayleylaw04.DiskToMoves", spec := "diskToMoves", unfollowed := true, recurses := true, apart := false }
def DiskToMovesSaid : Prop := diskToMovesRow.holds Try.pinned (OpenSpec.ofChange diskToMovesSpec)

/-- ITS FALSE NEIGHBOUR: 'it returns false'. Refute it at one input. -/
def diskToMovesWrong : ChangeSpec := { name := "diskToMoves", fn := fun _ => fun
  | [d1, d2, d3] => { results := [.lit (.bool false)], args := [d1, d2, d3] }
  | _ => none }
def DiskToMovesWrongFalsely : Prop := diskToMovesRow.holds Try.pinned (OpenSpec.ofChange diskToMovesWrong)

/-- 'cayleylaw04.DiskStays': WHATEVER THE INPUT: true; the input reads as it did. -/
def diskStaysSpec : ChangeSpec := { name := "diskStays", fn := fun _ => fun
  | [d1, d2, d3, d4, d5] => { results := [.lit (.bool true)], args := [d1, d2, d3, d4, d5] }
  | _ => none }
def diskStaysRow : OpenClaim := { program := "ytmmichdlgjcmoaa", sum := "5c06e5e0e5499617fc6c7cedfd00a6834b57d8b171de5ca77f0c08de48d0be8e", func := "cayley/cayleylaw04.DiskStays", spec := "diskStays", unfollowed := true, recurses := true, apart := false }
def DiskStaysSaid : Prop := diskStaysRow.holds Try.pinned (OpenSpec.ofChange diskStaysSpec)

/-- ITS FALSE NEIGHBOUR: 'it returns false'. Refute it at one input. -/
def diskStaysWrong : ChangeSpec := { name := "diskStays", fn := fun _ => fun
  | [d1, d2, d3, d4, d5] => { results := [.lit (.bool false)], args := [d1, d2, d3, d4, d5] }
  | _ => none }
def DiskStaysWrongFalsely : Prop := diskStaysRow.holds Try.pinned (OpenSpec.ofChange diskStaysWrong)

/- THE SECOND FORM. 'bulk': how many values and letters a reading holds, each counted each time it is reached (what is shared counts as often as it is met; a slice's spare places count too). A statement '..UptoSaid' is the law's where the arguments, and the package variables that the reading takes, are together of bulk at most 1048576: NARROWER than '..Said'. Prove '..Said' where nothing that the law and all that it calls make is longer than what came in: it says more and counts as full. Else prove '..UptoSaid'. A law counts once. -/
mutual
def uptoBulk {H : Type} : DataW H → Nat
  | .lit (.string bytes) => bytes.length + 1
  | .lit _ => 1
  | .nil => 1
  | .ptr d => uptoBulk d + 1
  | .slice elems spare => uptoBulkAll elems + uptoBulkAll spare + 1
  | .agg parts => uptoBulkAll parts + 1
  | .iface _ d => uptoBulk d + 1
  | .map entries => uptoBulkEntries entries + 1
  | .held _ => 1
def uptoBulkAll {H : Type} : List (DataW H) → Nat
  | [] => 0
  | d :: r => uptoBulk d + uptoBulkAll r
def uptoBulkEntries {H : Type} : List (Lit × DataW H) → Nat
  | [] => 0
  | x :: r => uptoBulkEntry x + uptoBulkEntries r
def uptoBulkEntry {H : Type} : Lit × DataW H → Nat
  | (.string bytes, d) => bytes.length + uptoBulk d + 1
  | (_, d) => uptoBulk d + 1
 end
def uptoSmall : (H : Type) → List (DataW H) → Bool := fun _ ds => decide (uptoBulkAll ds ≤ 1048576)
def OpenSpec.upto (s : _root_.Go.ChangeSpec) : _root_.Go.OpenSpec := { _root_.Go.OpenSpec.ofChange s with cond := some uptoSmall }

/-- 'cayleylaw04.DiskBoundary', WHERE WHAT IT READS IS OF BULK AT MOST 1048576: true; the input reads as it did. -/
def diskBoundaryUptoRow : OpenClaim := { program := "ytmmichdlgjcmoaa", sum := "5c06e5e0e5499617fc6c7cedfd00a6834b57d8b171de5ca77f0c08de48d0be8e", func := "cayley/cayleylaw04.DiskBoundary", spec := "diskBoundary", unfollowed := true, recurses := true, apart := false, narrowed := true }
def DiskBoundaryUptoSaid : Prop := diskBoundaryUptoRow.holds Try.pinned (OpenSpec.upto diskBoundarySpec)

/-- 'cayleylaw04.DiskAlgebra', WHERE WHAT IT READS IS OF BULK AT MOST 1048576: true; the input reads as it did. -/
def diskAlgebraUptoRow : OpenClaim := { program := "ytmmichdlgjcmoaa", sum := "5c06e5e0e5499617fc6c7cedfd00a6834b57d8b171de5ca77f0c08de48d0be8e", func := "cayley/cayleylaw04.DiskAlgebra", spec := "diskAlgebra", unfollowed := true, recurses := true, apart := false, narrowed := true }
def DiskAlgebraUptoSaid : Prop := diskAlgebraUptoRow.holds Try.pinned (OpenSpec.upto diskAlgebraSpec)

/-- 'cayleylaw04.DiskGroup', WHERE WHAT IT READS IS OF BULK AT MOST 1048576: true; the input reads as it did. -/
def diskGroupUptoRow : OpenClaim := { program := "ytmmichdlgjcmoaa", sum := "5c06e5e0e5499617fc6c7cedfd00a6834b57d8b171de5ca77f0c08de48d0be8e", func := "cayley/cayleylaw04.DiskGroup", spec := "diskGroup", unfollowed := true, recurses := true, apart := false, narrowed := true }
def DiskGroupUptoSaid : Prop := diskGroupUptoRow.holds Try.pinned (OpenSpec.upto diskGroupSpec)

/-- 'cayleylaw04.DiskInvariant', WHERE WHAT IT READS IS OF BULK AT MOST 1048576: true; the input reads as it did. -/
def diskInvariantUptoRow : OpenClaim := { program := "ytmmichdlgjcmoaa", sum := "5c06e5e0e5499617fc6c7cedfd00a6834b57d8b171de5ca77f0c08de48d0be8e", func := "cayley/cayleylaw04.DiskInvariant", spec := "diskInvariant", unfollowed := true, recurses := true, apart := false, narrowed := true }
def DiskInvariantUptoSaid : Prop := diskInvariantUptoRow.holds Try.pinned (OpenSpec.upto diskInvariantSpec)

/-- 'cayleylaw04.DiskMoves', WHERE WHAT IT READS IS OF BULK AT MOST 1048576: true; the input reads as it did. -/
def diskMovesUptoRow : OpenClaim := { program := "ytmmichdlgjcmoaa", sum := "5c06e5e0e5499617fc6c7cedfd00a6834b57d8b171de5ca77f0c08de48d0be8e", func := "cayley/cayleylaw04.DiskMoves", spec := "diskMoves", unfollowed := true, recurses := true, apart := false, narrowed := true }
def DiskMovesUptoSaid : Prop := diskMovesUptoRow.holds Try.pinned (OpenSpec.upto diskMovesSpec)

/-- 'cayleylaw04.DiskFromMoves', WHERE WHAT IT READS IS OF BULK AT MOST 1048576: true; the input reads as it did. -/
def diskFromMovesUptoRow : OpenClaim := { program := "ytmmichdlgjcmoaa", sum := "5c06e5e0e5499617fc6c7cedfd00a6834b57d8b171de5ca77f0c08de48d0be8e", func := "cayley/cayleylaw04.DiskFromMoves", spec := "diskFromMoves", unfollowed := true, recurses := true, apart := false, narrowed := true }
def DiskFromMovesUptoSaid : Prop := diskFromMovesUptoRow.holds Try.pinned (OpenSpec.upto diskFromMovesSpec)

/-- 'cayleylaw04.DiskToMoves', WHERE WHAT IT READS IS OF BULK AT MOST 1048576: true; the input reads as it did. -/
def diskToMovesUptoRow : OpenClaim := { program := "ytmmichdlgjcmoaa", sum := "5c06e5e0e5499617fc6c7cedfd00a6834b57d8b171de5ca77f0c08de48d0be8e", func := "cayley/cayleylaw04.DiskToMoves", spec := "diskToMoves", unfollowed := true, recurses := true, apart := false, narrowed := true }
def DiskToMovesUptoSaid : Prop := diskToMovesUptoRow.holds Try.pinned (OpenSpec.upto diskToMovesSpec)

/-- 'cayleylaw04.DiskStays', WHERE WHAT IT READS IS OF BULK AT MOST 1048576: true; the input reads as it did. -/
def diskStaysUptoRow : OpenClaim := { program := "ytmmichdlgjcmoaa", sum := "5c06e5e0e5499617fc6c7cedfd00a6834b57d8b171de5ca77f0c08de48d0be8e", func := "cayley/cayleylaw04.DiskStays", spec := "diskStays", unfollowed := true, recurses := true, apart := false, narrowed := true }
def DiskStaysUptoSaid : Prop := diskStaysUptoRow.holds Try.pinned (OpenSpec.upto diskStaysSpec)

end Rows
end Go.Proofs.Ytmmichdlgjcmoaa
