/-
  NARROWER THAN 'FOR EVERY INPUT', by the rows' own cells (each row's printed sentence says how): RopePowers: laid · RopeDiffers: laid · RopeLetters: laid · RopeConcats: laid · RopeChecks: laid · RopeSlices: laid · RopeStays: laid.
  DERIVED. THE GIVEN ROWS OF THIS SEAT. 7 by the template 'for every input the law returns true; each argument reads behind the call as it read before'; 0 by the template 'total and deterministic' (their statements: YtehbekgmemebjaaDoorTotals.lean).
  GIVEN WITH THE SEED: the statements are not yours to turn. If you find one false, say at which input.
  Laid BY PROGRAM, IN A SANDBOX (cutbox-rows.mjs): the forced cells as the released guide's own fill.sh prints them over the translation f52d099200ceaf84… (all of the seat's roots in one cut). By AI agents, Wed Nov 11 2026. No macro, syntax, notation, axiom, sorry.
-/
import Derived.Test.YtehbekgmemebjaaDoorChecked
import GoSem.Claim
import GoSem.ClaimJoined
import GoSem.ClaimMapViews
import Derived.JoinedTies
import Derived.KernelRfl
namespace Go.Proofs.YtehbekgmemebjaaDoor
/- THE CELL 'sum', in the pinned program and in every row, IS THE sha256 OF THE DUMP (.gsa) THAT YtehbekgmemebjaaDoorProg.lean LOADS. Nothing in Lean hashes anything: it is a label: what it is worth is what the hold of that sum in a sandbox is worth. -/
noncomputable def Tryd.pinned : Pinned := { name := "ytehbekgmemebjaadoor", sum := "f52d099200ceaf84671811ec4edb69ced127a61bea621b24f0b42ebdc7822284", checked := Tryd.checked }
namespace Rows
def none {H : Type} : Left H := { results := [], args := [] }

/- WHAT THE LISTED PACKAGE-LEVEL VARIABLES READ AS WHEN THE CALL BEGINS. Each datum BY PROGRAM (the guide's laid-datum.mjs) off the statement by which the dump's own 'gosem.cut.vars' lays the variable. In a bare row this is a premise. The card (YtehbekgmemebjaaDoorCards.lean) ties it to the program's text. -/
def laid_cayley_word_letters {H : Type} : DataW H := .agg [.lit (.int .u8 97), .lit (.int .u8 65), .lit (.int .u8 98), .lit (.int .u8 66), .lit (.int .u8 99), .lit (.int .u8 67), .lit (.int .u8 100), .lit (.int .u8 68), .lit (.int .u8 101), .lit (.int .u8 69), .lit (.int .u8 102), .lit (.int .u8 70), .lit (.int .u8 103), .lit (.int .u8 71), .lit (.int .u8 104), .lit (.int .u8 72)]

/-- 'cayleylaw02.RopePowers': WHATEVER THE INPUT: true; the input reads as it did. -/
def ropePowersSpec : ChangeSpec := { name := "ropePowers", fn := fun _ => fun
  | [d1, d2, d3] => { results := [.lit (.bool true)], args := [d1, d2, d3] }
  | _ => none }
def ropePowersRow : OpenClaim := { program := "ytehbekgmemebjaadoor", sum := "f52d099200ceaf84671811ec4edb69ced127a61bea621b24f0b42ebdc7822284", func := "cayley/cayleylaw02.RopePowers", spec := "ropePowers", unfollowed := true, recurses := true, named := ["cayley/word.letters"], plainKeys := false, apart := false, laid := [("cayley/word.letters", laid_cayley_word_letters)] }
def RopePowersSaid : Prop := ropePowersRow.holds Tryd.pinned (OpenSpec.ofChange ropePowersSpec)

/-- ITS FALSE NEIGHBOUR: 'it returns false'. Refute it at one input. -/
def ropePowersWrong : ChangeSpec := { name := "ropePowers", fn := fun _ => fun
  | [d1, d2, d3] => { results := [.lit (.bool false)], args := [d1, d2, d3] }
  | _ => none }
def RopePowersWrongFalsely : Prop := ropePowersRow.holds Tryd.pinned (OpenSpec.ofChange ropePowersWrong)

/-- 'cayleylaw02.RopeDiffers': WHATEVER THE INPUT: true; the input reads as it did. -/
def ropeDiffersSpec : ChangeSpec := { name := "ropeDiffers", fn := fun _ => fun
  | [d1, d2, d3] => { results := [.lit (.bool true)], args := [d1, d2, d3] }
  | _ => none }
def ropeDiffersRow : OpenClaim := { program := "ytehbekgmemebjaadoor", sum := "f52d099200ceaf84671811ec4edb69ced127a61bea621b24f0b42ebdc7822284", func := "cayley/cayleylaw02.RopeDiffers", spec := "ropeDiffers", unfollowed := true, recurses := true, named := ["cayley/word.letters"], plainKeys := false, apart := false, laid := [("cayley/word.letters", laid_cayley_word_letters)] }
def RopeDiffersSaid : Prop := ropeDiffersRow.holds Tryd.pinned (OpenSpec.ofChange ropeDiffersSpec)

/-- ITS FALSE NEIGHBOUR: 'it returns false'. Refute it at one input. -/
def ropeDiffersWrong : ChangeSpec := { name := "ropeDiffers", fn := fun _ => fun
  | [d1, d2, d3] => { results := [.lit (.bool false)], args := [d1, d2, d3] }
  | _ => none }
def RopeDiffersWrongFalsely : Prop := ropeDiffersRow.holds Tryd.pinned (OpenSpec.ofChange ropeDiffersWrong)

/-- 'cayleylaw02.RopeLetters': WHATEVER THE INPUT: true; the input reads as it did. -/
def ropeLettersSpec : ChangeSpec := { name := "ropeLetters", fn := fun _ => fun
  | [d1, d2, d3] => { results := [.lit (.bool true)], args := [d1, d2, d3] }
  | _ => none }
def ropeLettersRow : OpenClaim := { program := "ytehbekgmemebjaadoor", sum := "f52d099200ceaf84671811ec4edb69ced127a61bea621b24f0b42ebdc7822284", func := "cayley/cayleylaw02.RopeLetters", spec := "ropeLetters", unfollowed := true, recurses := true, named := ["cayley/word.letters"], plainKeys := false, apart := false, laid := [("cayley/word.letters", laid_cayley_word_letters)] }
def RopeLettersSaid : Prop := ropeLettersRow.holds Tryd.pinned (OpenSpec.ofChange ropeLettersSpec)

/-- ITS FALSE NEIGHBOUR: 'it returns false'. Refute it at one input. -/
def ropeLettersWrong : ChangeSpec := { name := "ropeLetters", fn := fun _ => fun
  | [d1, d2, d3] => { results := [.lit (.bool false)], args := [d1, d2, d3] }
  | _ => none }
def RopeLettersWrongFalsely : Prop := ropeLettersRow.holds Tryd.pinned (OpenSpec.ofChange ropeLettersWrong)

/-- 'cayleylaw02.RopeConcats': WHATEVER THE INPUT: true; the input reads as it did. -/
def ropeConcatsSpec : ChangeSpec := { name := "ropeConcats", fn := fun _ => fun
  | [d1, d2, d3] => { results := [.lit (.bool true)], args := [d1, d2, d3] }
  | _ => none }
def ropeConcatsRow : OpenClaim := { program := "ytehbekgmemebjaadoor", sum := "f52d099200ceaf84671811ec4edb69ced127a61bea621b24f0b42ebdc7822284", func := "cayley/cayleylaw02.RopeConcats", spec := "ropeConcats", unfollowed := true, recurses := true, named := ["cayley/word.letters"], plainKeys := false, apart := false, laid := [("cayley/word.letters", laid_cayley_word_letters)] }
def RopeConcatsSaid : Prop := ropeConcatsRow.holds Tryd.pinned (OpenSpec.ofChange ropeConcatsSpec)

/-- ITS FALSE NEIGHBOUR: 'it returns false'. Refute it at one input. -/
def ropeConcatsWrong : ChangeSpec := { name := "ropeConcats", fn := fun _ => fun
  | [d1, d2, d3] => { results := [.lit (.bool false)], args := [d1, d2, d3] }
  | _ => none }
def RopeConcatsWrongFalsely : Prop := ropeConcatsRow.holds Tryd.pinned (OpenSpec.ofChange ropeConcatsWrong)

/-- 'cayleylaw02.RopeChecks': WHATEVER THE INPUT: true; the input reads as it did. -/
def ropeChecksSpec : ChangeSpec := { name := "ropeChecks", fn := fun _ => fun
  | [d] => { results := [.lit (.bool true)], args := [d] }
  | _ => none }
def ropeChecksRow : OpenClaim := { program := "ytehbekgmemebjaadoor", sum := "f52d099200ceaf84671811ec4edb69ced127a61bea621b24f0b42ebdc7822284", func := "cayley/cayleylaw02.RopeChecks", spec := "ropeChecks", unfollowed := true, recurses := true, named := ["cayley/word.letters"], plainKeys := false, apart := false, laid := [("cayley/word.letters", laid_cayley_word_letters)] }
def RopeChecksSaid : Prop := ropeChecksRow.holds Tryd.pinned (OpenSpec.ofChange ropeChecksSpec)

/-- ITS FALSE NEIGHBOUR: 'it returns false'. Refute it at one input. -/
def ropeChecksWrong : ChangeSpec := { name := "ropeChecks", fn := fun _ => fun
  | [d] => { results := [.lit (.bool false)], args := [d] }
  | _ => none }
def RopeChecksWrongFalsely : Prop := ropeChecksRow.holds Tryd.pinned (OpenSpec.ofChange ropeChecksWrong)

/-- 'cayleylaw02.RopeSlices': WHATEVER THE INPUT: true; the input reads as it did. -/
def ropeSlicesSpec : ChangeSpec := { name := "ropeSlices", fn := fun _ => fun
  | [d1, d2, d3, d4] => { results := [.lit (.bool true)], args := [d1, d2, d3, d4] }
  | _ => none }
def ropeSlicesRow : OpenClaim := { program := "ytehbekgmemebjaadoor", sum := "f52d099200ceaf84671811ec4edb69ced127a61bea621b24f0b42ebdc7822284", func := "cayley/cayleylaw02.RopeSlices", spec := "ropeSlices", unfollowed := true, recurses := true, named := ["cayley/word.letters"], plainKeys := false, apart := false, laid := [("cayley/word.letters", laid_cayley_word_letters)] }
def RopeSlicesSaid : Prop := ropeSlicesRow.holds Tryd.pinned (OpenSpec.ofChange ropeSlicesSpec)

/-- ITS FALSE NEIGHBOUR: 'it returns false'. Refute it at one input. -/
def ropeSlicesWrong : ChangeSpec := { name := "ropeSlices", fn := fun _ => fun
  | [d1, d2, d3, d4] => { results := [.lit (.bool false)], args := [d1, d2, d3, d4] }
  | _ => none }
def RopeSlicesWrongFalsely : Prop := ropeSlicesRow.holds Tryd.pinned (OpenSpec.ofChange ropeSlicesWrong)

/-- 'cayleylaw02.RopeStays': WHATEVER THE INPUT: true; the input reads as it did. -/
def ropeStaysSpec : ChangeSpec := { name := "ropeStays", fn := fun _ => fun
  | [d1, d2, d3, d4] => { results := [.lit (.bool true)], args := [d1, d2, d3, d4] }
  | _ => none }
def ropeStaysRow : OpenClaim := { program := "ytehbekgmemebjaadoor", sum := "f52d099200ceaf84671811ec4edb69ced127a61bea621b24f0b42ebdc7822284", func := "cayley/cayleylaw02.RopeStays", spec := "ropeStays", unfollowed := true, recurses := true, named := ["cayley/word.letters"], plainKeys := false, apart := false, laid := [("cayley/word.letters", laid_cayley_word_letters)] }
def RopeStaysSaid : Prop := ropeStaysRow.holds Tryd.pinned (OpenSpec.ofChange ropeStaysSpec)

/-- ITS FALSE NEIGHBOUR: 'it returns false'. Refute it at one input. -/
def ropeStaysWrong : ChangeSpec := { name := "ropeStays", fn := fun _ => fun
  | [d1, d2, d3, d4] => { results := [.lit (.bool false)], args := [d1, d2, d3, d4] }
  | _ => none }
def RopeStaysWrongFalsely : Prop := ropeStaysRow.holds Tryd.pinned (OpenSpec.ofChange ropeStaysWrong)

/- THE SECOND FORM. 'bulk': how many values and letters a reading holds, each counted each time it is reached (what is shared counts as often as it is met; a slice's spare places count too). A statement '..UptoSaid' is the law's where the arguments, and the package variables that the reading takes, are together of bulk at most 1048576: NARROWER than '..Said'. Prove '..Said' where nothing that the law and all that it calls make is longer than what came in: it says more and counts as full. Else prove '..UptoSaid'. A law counts once. -/
mutual
def uptoBulk {H : Type} : DataW H → Nat
  | .lit (.string bytes) => bytes.length + 1
  | .lit _ => 1
  | .nil => 1
  | .ptr d => uptoBulk d + 1
  | .slice elems spare => uptoBulkAll elems + uptoBulkAll spare + 1
  | .agg parts => uptoBulkAll parts + 1
  | .iface _ d => uptoBulk d + 1
  | .map entries => uptoBulkEntries entries + 1
  | .held _ => 1
def uptoBulkAll {H : Type} : List (DataW H) → Nat
  | [] => 0
  | d :: r => uptoBulk d + uptoBulkAll r
def uptoBulkEntries {H : Type} : List (Lit × DataW H) → Nat
  | [] => 0
  | x :: r => uptoBulkEntry x + uptoBulkEntries r
def uptoBulkEntry {H : Type} : Lit × DataW H → Nat
  | (.string bytes, d) => bytes.length + uptoBulk d + 1
  | (_, d) => uptoBulk d + 1
 end
def uptoSmall : (H : Type) → List (DataW H) → Bool := fun _ ds => decide (uptoBulkAll ds ≤ 1048576)
def OpenSpec.upto (s : _root_.Go.ChangeSpec) : _root_.Go.OpenSpec := { _root_.Go.OpenSpec.ofChange s with cond := some uptoSmall }

/-- 'cayleylaw02.RopePowers', WHERE WHAT IT READS IS OF BULK AT MOST 1048576: true; the input reads as it did. -/
def ropePowersUptoRow : OpenClaim := { program := "ytehbekgmemebjaadoor", sum := "f52d099200ceaf84671811ec4edb69ced127a61bea621b24f0b42ebdc7822284", func := "cayley/cayleylaw02.RopePowers", spec := "ropePowers", unfollowed := true, recurses := true, named := ["cayley/word.letters"], plainKeys := false, apart := false, laid := [("cayley/word.letters", laid_cayley_word_letters)], narrowed := true }
def RopePowersUptoSaid : Prop := ropePowersUptoRow.holds Tryd.pinned (OpenSpec.upto ropePowersSpec)

/-- 'cayleylaw02.RopeDiffers', WHERE WHAT IT READS IS OF BULK AT MOST 1048576: true; the input reads as it did. -/
def ropeDiffersUptoRow : OpenClaim := { program := "ytehbekgmemebjaadoor", sum := "f52d099200ceaf84671811ec4edb69ced127a61bea621b24f0b42ebdc7822284", func := "cayley/cayleylaw02.RopeDiffers", spec := "ropeDiffers", unfollowed := true, recurses := true, named := ["cayley/word.letters"], plainKeys := false, apart := false, laid := [("cayley/word.letters", laid_cayley_word_letters)], narrowed := true }
def RopeDiffersUptoSaid : Prop := ropeDiffersUptoRow.holds Tryd.pinned (OpenSpec.upto ropeDiffersSpec)

/-- 'cayleylaw02.RopeLetters', WHERE WHAT IT READS IS OF BULK AT MOST 1048576: true; the input reads as it did. -/
def ropeLettersUptoRow : OpenClaim := { program := "ytehbekgmemebjaadoor", sum := "f52d099200ceaf84671811ec4edb69ced127a61bea621b24f0b42ebdc7822284", func := "cayley/cayleylaw02.RopeLetters", spec := "ropeLetters", unfollowed := true, recurses := true, named := ["cayley/word.letters"], plainKeys := false, apart := false, laid := [("cayley/word.letters", laid_cayley_word_letters)], narrowed := true }
def RopeLettersUptoSaid : Prop := ropeLettersUptoRow.holds Tryd.pinned (OpenSpec.upto ropeLettersSpec)

/-- 'cayleylaw02.RopeConcats', WHERE WHAT IT READS IS OF BULK AT MOST 1048576: true; the input reads as it did. -/
def ropeConcatsUptoRow : OpenClaim := { program := "ytehbekgmemebjaadoor", sum := "f52d099200ceaf84671811ec4edb69ced127a61bea621b24f0b42ebdc7822284", func := "cayley/cayleylaw02.RopeConcats", spec := "ropeConcats", unfollowed := true, recurses := true, named := ["cayley/word.letters"], plainKeys := false, apart := false, laid := [("cayley/word.letters", laid_cayley_word_letters)], narrowed := true }
def RopeConcatsUptoSaid : Prop := ropeConcatsUptoRow.holds Tryd.pinned (OpenSpec.upto ropeConcatsSpec)

/-- 'cayleylaw02.RopeChecks', WHERE WHAT IT READS IS OF BULK AT MOST 1048576: true; the input reads as it did. -/
def ropeChecksUptoRow : OpenClaim := { program := "ytehbekgmemebjaadoor", sum := "f52d099200ceaf84671811ec4edb69ced127a61bea621b24f0b42ebdc7822284", func := "cayley/cayleylaw02.RopeChecks", spec := "ropeChecks", unfollowed := true, recurses := true, named := ["cayley/word.letters"], plainKeys := false, apart := false, laid := [("cayley/word.letters", laid_cayley_word_letters)], narrowed := true }
def RopeChecksUptoSaid : Prop := ropeChecksUptoRow.holds Tryd.pinned (OpenSpec.upto ropeChecksSpec)

/-- 'cayleylaw02.RopeSlices', WHERE WHAT IT READS IS OF BULK AT MOST 1048576: true; the input reads as it did. -/
def ropeSlicesUptoRow : OpenClaim := { program := "ytehbekgmemebjaadoor", sum := "f52d099200ceaf84671811ec4edb69ced127a61bea621b24f0b42ebdc7822284", func := "cayley/cayleylaw02.RopeSlices", spec := "ropeSlices", unfollowed := true, recurses := true, named := ["cayley/word.letters"], plainKeys := false, apart := false, laid := [("cayley/word.letters", laid_cayley_word_letters)], narrowed := true }
def RopeSlicesUptoSaid : Prop := ropeSlicesUptoRow.holds Tryd.pinned (OpenSpec.upto ropeSlicesSpec)

/-- 'cayleylaw02.RopeStays', WHERE WHAT IT READS IS OF BULK AT MOST 1048576: true; the input reads as it did. -/
def ropeStaysUptoRow : OpenClaim := { program := "ytehbekgmemebjaadoor", sum := "f52d099200ceaf84671811ec4edb69ced127a61bea621b24f0b42ebdc7822284", func := "cayley/cayleylaw02.RopeStays", spec := "ropeStays", unfollowed := true, recurses := true, named := ["cayley/word.letters"], plainKeys := false, apart := false, laid := [("cayley/word.letters", laid_cayley_word_letters)], narrowed := true }
def RopeStaysUptoSaid : Prop := ropeStaysUptoRow.holds Tryd.pinned (OpenSpec.upto ropeStaysSpec)

end Rows
end Go.Proofs.YtehbekgmemebjaaDoor
