/-
  NARROWER THAN 'FOR EVERY INPUT', by the rows' own cells (each row's printed sentence says how): AbelFinds: laid · AbelChecks: laid · AbelImages: laid · AbelMoves: laid · AbelPowers: laid · AbelInfinite: laid · AbelStays: laid · AbelSums: laid.
  DERIVED. THE GIVEN ROWS OF THIS SEAT. 8 by the template 'for every input the law returns true; each argument reads behind the call as it read before'; 0 by the template 'total and deterministic' (their statements: YtbjdbpkdkfkpeaaDoorTotals.lean).
  GIVEN WITH THE SEED: the statements are not yours to turn. If you find one false, say at which input.
  Laid BY PROGRAM, IN A SANDBOX (cutbox-rows.mjs): the forced cells as the released guide's own fill.sh prints them over the translation 0bc359f7b061ec47… (all of the seat's roots in one cut). By AI agents, Wed Nov 11 2026. No macro, syntax, notation, axiom, sorry.
-/
import Derived.Test.YtbjdbpkdkfkpeaaDoorChecked
import GoSem.Claim
import GoSem.ClaimJoined
import GoSem.ClaimMapViews
import Derived.JoinedTies
import Derived.KernelRfl
namespace Go.Proofs.YtbjdbpkdkfkpeaaDoor
/- THE CELL 'sum', in the pinned program and in every row, IS THE sha256 OF THE DUMP (.gsa) THAT YtbjdbpkdkfkpeaaDoorProg.lean LOADS. Nothing in Lean hashes anything: it is a label: what it is worth is what the hold of that sum in a sandbox is worth. -/
noncomputable def Tryd.pinned : Pinned := { name := "ytbjdbpkdkfkpeaadoor", sum := "0bc359f7b061ec47e6ac61715cf798e6f34f026aed3083bda4e0ef77beb942d0", checked := Tryd.checked }
namespace Rows
def none {H : Type} : Left H := { results := [], args := [] }

/- WHAT THE LISTED PACKAGE-LEVEL VARIABLES READ AS WHEN THE CALL BEGINS. Each datum BY PROGRAM (the guide's laid-datum.mjs) off the statement by which the dump's own 'gosem.cut.vars' lays the variable. In a bare row this is a premise. The card (YtbjdbpkdkfkpeaaDoorCards.lean) ties it to the program's text. -/
def laid_cayley_word_letters {H : Type} : DataW H := .agg [.lit (.int .u8 97), .lit (.int .u8 65), .lit (.int .u8 98), .lit (.int .u8 66), .lit (.int .u8 99), .lit (.int .u8 67), .lit (.int .u8 100), .lit (.int .u8 68), .lit (.int .u8 101), .lit (.int .u8 69), .lit (.int .u8 102), .lit (.int .u8 70), .lit (.int .u8 103), .lit (.int .u8 71), .lit (.int .u8 104), .lit (.int .u8 72)]

/-- 'cayleylaw05.AbelFinds': WHATEVER THE INPUT: true; the input reads as it did. -/
def abelFindsSpec : ChangeSpec := { name := "abelFinds", fn := fun _ => fun
  | [d] => { results := [.lit (.bool true)], args := [d] }
  | _ => none }
def abelFindsRow : OpenClaim := { program := "ytbjdbpkdkfkpeaadoor", sum := "0bc359f7b061ec47e6ac61715cf798e6f34f026aed3083bda4e0ef77beb942d0", func := "cayley/cayleylaw05.AbelFinds", spec := "abelFinds", unfollowed := true, recurses := true, named := ["cayley/word.letters"], apart := false, laid := [("cayley/word.letters", laid_cayley_word_letters)] }
def AbelFindsSaid : Prop := abelFindsRow.holds Tryd.pinned (OpenSpec.ofChange abelFindsSpec)

/-- ITS FALSE NEIGHBOUR: 'it returns false'. Refute it at one input. -/
def abelFindsWrong : ChangeSpec := { name := "abelFinds", fn := fun _ => fun
  | [d] => { results := [.lit (.bool false)], args := [d] }
  | _ => none }
def AbelFindsWrongFalsely : Prop := abelFindsRow.holds Tryd.pinned (OpenSpec.ofChange abelFindsWrong)

/-- 'cayleylaw05.AbelChecks': WHATEVER THE INPUT: true; the input reads as it did. -/
def abelChecksSpec : ChangeSpec := { name := "abelChecks", fn := fun _ => fun
  | [d1, d2, d3, d4] => { results := [.lit (.bool true)], args := [d1, d2, d3, d4] }
  | _ => none }
def abelChecksRow : OpenClaim := { program := "ytbjdbpkdkfkpeaadoor", sum := "0bc359f7b061ec47e6ac61715cf798e6f34f026aed3083bda4e0ef77beb942d0", func := "cayley/cayleylaw05.AbelChecks", spec := "abelChecks", unfollowed := true, recurses := true, named := ["cayley/word.letters"], apart := false, laid := [("cayley/word.letters", laid_cayley_word_letters)] }
def AbelChecksSaid : Prop := abelChecksRow.holds Tryd.pinned (OpenSpec.ofChange abelChecksSpec)

/-- ITS FALSE NEIGHBOUR: 'it returns false'. Refute it at one input. -/
def abelChecksWrong : ChangeSpec := { name := "abelChecks", fn := fun _ => fun
  | [d1, d2, d3, d4] => { results := [.lit (.bool false)], args := [d1, d2, d3, d4] }
  | _ => none }
def AbelChecksWrongFalsely : Prop := abelChecksRow.holds Tryd.pinned (OpenSpec.ofChange abelChecksWrong)

/-- 'cayleylaw05.AbelImages': WHATEVER THE INPUT: true; the input reads as it did. -/
def abelImagesSpec : ChangeSpec := { name := "abelImages", fn := fun _ => fun
  | [d1, d2, d3] => { results := [.lit (.bool true)], args := [d1, d2, d3] }
  | _ => none }
def abelImagesRow : OpenClaim := { program := "ytbjdbpkdkfkpeaadoor", sum := "0bc359f7b061ec47e6ac61715cf798e6f34f026aed3083bda4e0ef77beb942d0", func := "cayley/cayleylaw05.AbelImages", spec := "abelImages", unfollowed := true, recurses := true, named := ["cayley/word.letters"], apart := false, laid := [("cayley/word.letters", laid_cayley_word_letters)] }
def AbelImagesSaid : Prop := abelImagesRow.holds Tryd.pinned (OpenSpec.ofChange abelImagesSpec)

/-- ITS FALSE NEIGHBOUR: 'it returns false'. Refute it at one input. -/
def abelImagesWrong : ChangeSpec := { name := "abelImages", fn := fun _ => fun
  | [d1, d2, d3] => { results := [.lit (.bool false)], args := [d1, d2, d3] }
  | _ => none }
def AbelImagesWrongFalsely : Prop := abelImagesRow.holds Tryd.pinned (OpenSpec.ofChange abelImagesWrong)

/-- 'cayleylaw05.AbelMoves': WHATEVER THE INPUT: true; the input reads as it did. -/
def abelMovesSpec : ChangeSpec := { name := "abelMoves", fn := fun _ => fun
  | [d1, d2, d3, d4, d5, d6] => { results := [.lit (.bool true)], args := [d1, d2, d3, d4, d5, d6] }
  | _ => none }
def abelMovesRow : OpenClaim := { program := "ytbjdbpkdkfkpeaadoor", sum := "0bc359f7b061ec47e6ac61715cf798e6f34f026aed3083bda4e0ef77beb942d0", func := "cayley/cayleylaw05.AbelMoves", spec := "abelMoves", unfollowed := true, recurses := true, named := ["cayley/word.letters"], apart := false, laid := [("cayley/word.letters", laid_cayley_word_letters)] }
def AbelMovesSaid : Prop := abelMovesRow.holds Tryd.pinned (OpenSpec.ofChange abelMovesSpec)

/-- ITS FALSE NEIGHBOUR: 'it returns false'. Refute it at one input. -/
def abelMovesWrong : ChangeSpec := { name := "abelMoves", fn := fun _ => fun
  | [d1, d2, d3, d4, d5, d6] => { results := [.lit (.bool false)], args := [d1, d2, d3, d4, d5, d6] }
  | _ => none }
def AbelMovesWrongFalsely : Prop := abelMovesRow.holds Tryd.pinned (OpenSpec.ofChange abelMovesWrong)

/-- 'cayleylaw05.AbelPowers': WHATEVER THE INPUT: true; the input reads as it did. -/
def abelPowersSpec : ChangeSpec := { name := "abelPowers", fn := fun _ => fun
  | [d1, d2, d3] => { results := [.lit (.bool true)], args := [d1, d2, d3] }
  | _ => none }
def abelPowersRow : OpenClaim := { program := "ytbjdbpkdkfkpeaadoor", sum := "0bc359f7b061ec47e6ac61715cf798e6f34f026aed3083bda4e0ef77beb942d0", func := "cayley/cayleylaw05.AbelPowers", spec := "abelPowers", unfollowed := true, recurses := true, named := ["cayley/word.letters"], apart := false, laid := [("cayley/word.letters", laid_cayley_word_letters)] }
def AbelPowersSaid : Prop := abelPowersRow.holds Tryd.pinned (OpenSpec.ofChange abelPowersSpec)

/-- ITS FALSE NEIGHBOUR: 'it returns false'. Refute it at one input. -/
def abelPowersWrong : ChangeSpec := { name := "abelPowers", fn := fun _ => fun
  | [d1, d2, d3] => { results := [.lit (.bool false)], args := [d1, d2, d3] }
  | _ => none }
def AbelPowersWrongFalsely : Prop := abelPowersRow.holds Tryd.pinned (OpenSpec.ofChange abelPowersWrong)

/-- 'cayleylaw05.AbelInfinite': WHATEVER THE INPUT: true; the input reads as it did. -/
def abelInfiniteSpec : ChangeSpec := { name := "abelInfinite", fn := fun _ => fun
  | [d1, d2] => { results := [.lit (.bool true)], args := [d1, d2] }
  | _ => none }
def abelInfiniteRow : OpenClaim := { program := "ytbjdbpkdkfkpeaadoor", sum := "0bc359f7b061ec47e6ac61715cf798e6f34f026aed3083bda4e0ef77beb942d0", func := "cayley/cayleylaw05.AbelInfinite", spec := "abelInfinite", unfollowed := true, recurses := true, named := ["cayley/word.letters"], apart := false, laid := [("cayley/word.letters", laid_cayley_word_letters)] }
def AbelInfiniteSaid : Prop := abelInfiniteRow.holds Tryd.pinned (OpenSpec.ofChange abelInfiniteSpec)

/-- ITS FALSE NEIGHBOUR: 'it returns false'. Refute it at one input. -/
def abelInfiniteWrong : ChangeSpec := { name := "abelInfinite", fn := fun _ => fun
  | [d1, d2] => { results := [.lit (.bool false)], args := [d1, d2] }
  | _ => none }
def AbelInfiniteWrongFalsely : Prop := abelInfiniteRow.holds Tryd.pinned (OpenSpec.ofChange abelInfiniteWrong)

/-- 'cayleylaw05.AbelStays': WHATEVER THE INPUT: true; the input reads as it did. -/
def abelStaysSpec : ChangeSpec := { name := "abelStays", fn := fun _ => fun
  | [d1, d2, d3, d4] => { results := [.lit (.bool true)], args := [d1, d2, d3, d4] }
  | _ => none }
def abelStaysRow : OpenClaim := { program := "ytbjdbpkdkfkpeaadoor", sum := "0bc359f7b061ec47e6ac61715cf798e6f34f026aed3083bda4e0ef77beb942d0", func := "cayley/cayleylaw05.AbelStays", spec := "abelStays", unfollowed := true, recurses := true, named := ["cayley/word.letters"], apart := false, laid := [("cayley/word.letters", laid_cayley_word_letters)] }
def AbelStaysSaid : Prop := abelStaysRow.holds Tryd.pinned (OpenSpec.ofChange abelStaysSpec)

/-- ITS FALSE NEIGHBOUR: 'it returns false'. Refute it at one input. -/
def abelStaysWrong : ChangeSpec := { name := "abelStays", fn := fun _ => fun
  | [d1, d2, d3, d4] => { results := [.lit (.bool false)], args := [d1, d2, d3, d4] }
  | _ => none }
def AbelStaysWrongFalsely : Prop := abelStaysRow.holds Tryd.pinned (OpenSpec.ofChange abelStaysWrong)

/-- 'cayleylaw05.AbelSums': WHATEVER THE INPUT: true; the input reads as it did. -/
def abelSumsSpec : ChangeSpec := { name := "abelSums", fn := fun _ => fun
  | [d1, d2, d3] => { results := [.lit (.bool true)], args := [d1, d2, d3] }
  | _ => none }
def abelSumsRow : OpenClaim := { program := "ytbjdbpkdkfkpeaadoor", sum := "0bc359f7b061ec47e6ac61715cf798e6f34f026aed3083bda4e0ef77beb942d0", func := "cayley/cayleylaw05.AbelSums", spec := "abelSums", unfollowed := true, recurses := true, named := ["cayley/word.letters"], apart := false, laid := [("cayley/word.letters", laid_cayley_word_letters)] }
def AbelSumsSaid : Prop := abelSumsRow.holds Tryd.pinned (OpenSpec.ofChange abelSumsSpec)

/-- ITS FALSE NEIGHBOUR: 'it returns false'. Refute it at one input. -/
def abelSumsWrong : ChangeSpec := { name := "abelSums", fn := fun _ => fun
  | [d1, d2, d3] => { results := [.lit (.bool false)], args := [d1, d2, d3] }
  | _ => none }
def AbelSumsWrongFalsely : Prop := abelSumsRow.holds Tryd.pinned (OpenSpec.ofChange abelSumsWrong)

/- THE SECOND FORM. 'bulk': how many values and letters a reading holds, each counted each time it is reached (what is shared counts as often as it is met; a slice's spare places count too). A statement '..UptoSaid' is the law's where the arguments, and the package variables that the reading takes, are together of bulk at most 1048576: NARROWER than '..Said'. Prove '..Said' where nothing that the law and all that it calls make is longer than what came in: it says more and counts as full. Else prove '..UptoSaid'. A law counts once. -/
mutual
def uptoBulk {H : Type} : DataW H → Nat
  | .lit (.string bytes) => bytes.length + 1
  | .lit _ => 1
  | .nil => 1
  | .ptr d => uptoBulk d + 1
  | .slice elems spare => uptoBulkAll elems + uptoBulkAll spare + 1
  | .agg parts => uptoBulkAll parts + 1
  | .iface _ d => uptoBulk d + 1
  | .map entries => uptoBulkEntries entries + 1
  | .held _ => 1
def uptoBulkAll {H : Type} : List (DataW H) → Nat
  | [] => 0
  | d :: r => uptoBulk d + uptoBulkAll r
def uptoBulkEntries {H : Type} : List (Lit × DataW H) → Nat
  | [] => 0
  | x :: r => uptoBulkEntry x + uptoBulkEntries r
def uptoBulkEntry {H : Type} : Lit × DataW H → Nat
  | (.string bytes, d) => bytes.length + uptoBulk d + 1
  | (_, d) => uptoBulk d + 1
 end
def uptoSmall : (H : Type) → List (DataW H) → Bool := fun _ ds => decide (uptoBulkAll ds ≤ 1048576)
def OpenSpec.upto (s : _root_.Go.ChangeSpec) : _root_.Go.OpenSpec := { _root_.Go.OpenSpec.ofChange s with cond := some uptoSmall }

/-- 'cayleylaw05.AbelFinds', WHERE WHAT IT READS IS OF BULK AT MOST 1048576: true; the input reads as it did. -/
def abelFindsUptoRow : OpenClaim := { program := "ytbjdbpkdkfkpeaadoor", sum := "0bc359f7b061ec47e6ac61715cf798e6f34f026aed3083bda4e0ef77beb942d0", func := "cayley/cayleylaw05.AbelFinds", spec := "abelFinds", unfollowed := true, recurses := true, named := ["cayley/word.letters"], apart := false, laid := [("cayley/word.letters", laid_cayley_word_letters)], narrowed := true }
def AbelFindsUptoSaid : Prop := abelFindsUptoRow.holds Tryd.pinned (OpenSpec.upto abelFindsSpec)

/-- 'cayleylaw05.AbelChecks', WHERE WHAT IT READS IS OF BULK AT MOST 1048576: true; the input reads as it did. -/
def abelChecksUptoRow : OpenClaim := { program := "ytbjdbpkdkfkpeaadoor", sum := "0bc359f7b061ec47e6ac61715cf798e6f34f026aed3083bda4e0ef77beb942d0", func := "cayley/cayleylaw05.AbelChecks", spec := "abelChecks", unfollowed := true, recurses := true, named := ["cayley/word.letters"], apart := false, laid := [("cayley/word.letters", laid_cayley_word_letters)], narrowed := true }
def AbelChecksUptoSaid : Prop := abelChecksUptoRow.holds Tryd.pinned (OpenSpec.upto abelChecksSpec)

/-- 'cayleylaw05.AbelImages', WHERE WHAT IT READS IS OF BULK AT MOST 1048576: true; the input reads as it did. -/
def abelImagesUptoRow : OpenClaim := { program := "ytbjdbpkdkfkpeaadoor", sum := "0bc359f7b061ec47e6ac61715cf798e6f34f026aed3083bda4e0ef77beb942d0", func := "cayley/cayleylaw05.AbelImages", spec := "abelImages", unfollowed := true, recurses := true, named := ["cayley/word.letters"], apart := false, laid := [("cayley/word.letters", laid_cayley_word_letters)], narrowed := true }
def AbelImagesUptoSaid : Prop := abelImagesUptoRow.holds Tryd.pinned (OpenSpec.upto abelImagesSpec)

/-- 'cayleylaw05.AbelMoves', WHERE WHAT IT READS IS OF BULK AT MOST 1048576: true; the input reads as it did. -/
def abelMovesUptoRow : OpenClaim := { program := "ytbjdbpkdkfkpeaadoor", sum := "0bc359f7b061ec47e6ac61715cf798e6f34f026aed3083bda4e0ef77beb942d0", func := "cayley/cayleylaw05.AbelMoves", spec := "abelMoves", unfollowed := true, recurses := true, named := ["cayley/word.letters"], apart := false, laid := [("cayley/word.letters", laid_cayley_word_letters)], narrowed := true }
def AbelMovesUptoSaid : Prop := abelMovesUptoRow.holds Tryd.pinned (OpenSpec.upto abelMovesSpec)

/-- 'cayleylaw05.AbelPowers', WHERE WHAT IT READS IS OF BULK AT MOST 1048576: true; the input reads as it did. -/
def abelPowersUptoRow : OpenClaim := { program := "ytbjdbpkdkfkpeaadoor", sum := "0bc359f7b061ec47e6ac61715cf798e6f34f026aed3083bda4e0ef77beb942d0", func := "cayley/cayleylaw05.AbelPowers", spec := "abelPowers", unfollowed := true, recurses := true, named := ["cayley/word.letters"], apart := false, laid := [("cayley/word.letters", laid_cayley_word_letters)], narrowed := true }
def AbelPowersUptoSaid : Prop := abelPowersUptoRow.holds Tryd.pinned (OpenSpec.upto abelPowersSpec)

/-- 'cayleylaw05.AbelInfinite', WHERE WHAT IT READS IS OF BULK AT MOST 1048576: true; the input reads as it did. -/
def abelInfiniteUptoRow : OpenClaim := { program := "ytbjdbpkdkfkpeaadoor", sum := "0bc359f7b061ec47e6ac61715cf798e6f34f026aed3083bda4e0ef77beb942d0", func := "cayley/cayleylaw05.AbelInfinite", spec := "abelInfinite", unfollowed := true, recurses := true, named := ["cayley/word.letters"], apart := false, laid := [("cayley/word.letters", laid_cayley_word_letters)], narrowed := true }
def AbelInfiniteUptoSaid : Prop := abelInfiniteUptoRow.holds Tryd.pinned (OpenSpec.upto abelInfiniteSpec)

/-- 'cayleylaw05.AbelStays', WHERE WHAT IT READS IS OF BULK AT MOST 1048576: true; the input reads as it did. -/
def abelStaysUptoRow : OpenClaim := { program := "ytbjdbpkdkfkpeaadoor", sum := "0bc359f7b061ec47e6ac61715cf798e6f34f026aed3083bda4e0ef77beb942d0", func := "cayley/cayleylaw05.AbelStays", spec := "abelStays", unfollowed := true, recurses := true, named := ["cayley/word.letters"], apart := false, laid := [("cayley/word.letters", laid_cayley_word_letters)], narrowed := true }
def AbelStaysUptoSaid : Prop := abelStaysUptoRow.holds Tryd.pinned (OpenSpec.upto abelStaysSpec)

/-- 'cayleylaw05.AbelSums', WHERE WHAT IT READS IS OF BULK AT MOST 1048576: true; the input reads as it did. -/
def abelSumsUptoRow : OpenClaim := { program := "ytbjdbpkdkfkpeaadoor", sum := "0bc359f7b061ec47e6ac61715cf798e6f34f026aed3083bda4e0ef77beb942d0", func := "cayley/cayleylaw05.AbelSums", spec := "abelSums", unfollowed := true, recurses := true, named := ["cayley/word.letters"], apart := false, laid := [("cayley/word.letters", laid_cayley_word_letters)], narrowed := true }
def AbelSumsUptoSaid : Prop := abelSumsUptoRow.holds Tryd.pinned (OpenSpec.upto abelSumsSpec)

end Rows
end Go.Proofs.YtbjdbpkdkfkpeaaDoor
