/-
  DERIVED. GIVEN WITH THE SEED: THE CARDS: each row of YtehbekgmemebjaaDoorRows.lean that lists a variable, with what it lists TIED to the program's text (the seventh form; the later family's looks); each row that meets fmt, with fmt's text TOLD by the authors' own Lean function (tested against real Go, not proved from fmt's source: count such statements apart). THE CARD IS WHAT COUNTS. Prove the row's statement (the work); the ties are given (YtehbekgmemebjaaDoorTie.lean); close each card by the builder's one call (the guide's Derived/Test/ToyasCard.lean, 'card_holds'). Laid BY PROGRAM, IN A SANDBOX (cutbox-door.mjs). By AI agents, Wed Nov 11 2026. No macro, syntax, notation, axiom, sorry.
-/
import Derived.Test.YtehbekgmemebjaaDoorRows
import GoSem.ClaimSeven
namespace Go.Proofs.YtehbekgmemebjaaDoor
namespace Rows

/-- THE TIED CARD OF 'cayleylaw02.RopePowers'. -/
def ropePowersCard : Claim7 := { stood := { row := ropePowersRow, standIns := [], harness := (true, "e5fdd09f8ae01285ac54f15908db64f1f7dcacf1a8da4a0c5a5142bb8f608d97"), looks := true }, kinds := [], alts := [], laidByText := true, laidKinds := [.data], laidTests := true, laidLooks := .later }
def RopePowersCardSaid : Prop := Claim7.holds Tryd.pinned (.plain (OpenSpec.ofChange ropePowersSpec)) ropePowersCard

/-- THE TIED CARD OF 'cayleylaw02.RopeDiffers'. -/
def ropeDiffersCard : Claim7 := { stood := { row := ropeDiffersRow, standIns := [], harness := (true, "e5fdd09f8ae01285ac54f15908db64f1f7dcacf1a8da4a0c5a5142bb8f608d97"), looks := true }, kinds := [], alts := [], laidByText := true, laidKinds := [.data], laidTests := true, laidLooks := .later }
def RopeDiffersCardSaid : Prop := Claim7.holds Tryd.pinned (.plain (OpenSpec.ofChange ropeDiffersSpec)) ropeDiffersCard

/-- THE TIED CARD OF 'cayleylaw02.RopeLetters'. -/
def ropeLettersCard : Claim7 := { stood := { row := ropeLettersRow, standIns := [], harness := (true, "e5fdd09f8ae01285ac54f15908db64f1f7dcacf1a8da4a0c5a5142bb8f608d97"), looks := true }, kinds := [], alts := [], laidByText := true, laidKinds := [.data], laidTests := true, laidLooks := .later }
def RopeLettersCardSaid : Prop := Claim7.holds Tryd.pinned (.plain (OpenSpec.ofChange ropeLettersSpec)) ropeLettersCard

/-- THE TIED CARD OF 'cayleylaw02.RopeConcats'. -/
def ropeConcatsCard : Claim7 := { stood := { row := ropeConcatsRow, standIns := [], harness := (true, "e5fdd09f8ae01285ac54f15908db64f1f7dcacf1a8da4a0c5a5142bb8f608d97"), looks := true }, kinds := [], alts := [], laidByText := true, laidKinds := [.data], laidTests := true, laidLooks := .later }
def RopeConcatsCardSaid : Prop := Claim7.holds Tryd.pinned (.plain (OpenSpec.ofChange ropeConcatsSpec)) ropeConcatsCard

/-- THE TIED CARD OF 'cayleylaw02.RopeChecks'. -/
def ropeChecksCard : Claim7 := { stood := { row := ropeChecksRow, standIns := [], harness := (true, "e5fdd09f8ae01285ac54f15908db64f1f7dcacf1a8da4a0c5a5142bb8f608d97"), looks := true }, kinds := [], alts := [], laidByText := true, laidKinds := [.data], laidTests := true, laidLooks := .later }
def RopeChecksCardSaid : Prop := Claim7.holds Tryd.pinned (.plain (OpenSpec.ofChange ropeChecksSpec)) ropeChecksCard

/-- THE TIED CARD OF 'cayleylaw02.RopeSlices'. -/
def ropeSlicesCard : Claim7 := { stood := { row := ropeSlicesRow, standIns := [], harness := (true, "e5fdd09f8ae01285ac54f15908db64f1f7dcacf1a8da4a0c5a5142bb8f608d97"), looks := true }, kinds := [], alts := [], laidByText := true, laidKinds := [.data], laidTests := true, laidLooks := .later }
def RopeSlicesCardSaid : Prop := Claim7.holds Tryd.pinned (.plain (OpenSpec.ofChange ropeSlicesSpec)) ropeSlicesCard

/-- THE TIED CARD OF 'cayleylaw02.RopeStays'. -/
def ropeStaysCard : Claim7 := { stood := { row := ropeStaysRow, standIns := [], harness := (true, "e5fdd09f8ae01285ac54f15908db64f1f7dcacf1a8da4a0c5a5142bb8f608d97"), looks := true }, kinds := [], alts := [], laidByText := true, laidKinds := [.data], laidTests := true, laidLooks := .later }
def RopeStaysCardSaid : Prop := Claim7.holds Tryd.pinned (.plain (OpenSpec.ofChange ropeStaysSpec)) ropeStaysCard

/-- THE SECOND FORM's CARD OF 'cayleylaw02.RopePowers'. -/
def ropePowersUptoCard : Claim7 := { stood := { row := ropePowersUptoRow, standIns := [], harness := (true, "e5fdd09f8ae01285ac54f15908db64f1f7dcacf1a8da4a0c5a5142bb8f608d97"), looks := true }, kinds := [], alts := [], laidByText := true, laidKinds := [.data], laidTests := true, laidLooks := .later }
def RopePowersUptoCardSaid : Prop := Claim7.holds Tryd.pinned (.plain (OpenSpec.upto ropePowersSpec)) ropePowersUptoCard

/-- THE SECOND FORM's CARD OF 'cayleylaw02.RopeDiffers'. -/
def ropeDiffersUptoCard : Claim7 := { stood := { row := ropeDiffersUptoRow, standIns := [], harness := (true, "e5fdd09f8ae01285ac54f15908db64f1f7dcacf1a8da4a0c5a5142bb8f608d97"), looks := true }, kinds := [], alts := [], laidByText := true, laidKinds := [.data], laidTests := true, laidLooks := .later }
def RopeDiffersUptoCardSaid : Prop := Claim7.holds Tryd.pinned (.plain (OpenSpec.upto ropeDiffersSpec)) ropeDiffersUptoCard

/-- THE SECOND FORM's CARD OF 'cayleylaw02.RopeLetters'. -/
def ropeLettersUptoCard : Claim7 := { stood := { row := ropeLettersUptoRow, standIns := [], harness := (true, "e5fdd09f8ae01285ac54f15908db64f1f7dcacf1a8da4a0c5a5142bb8f608d97"), looks := true }, kinds := [], alts := [], laidByText := true, laidKinds := [.data], laidTests := true, laidLooks := .later }
def RopeLettersUptoCardSaid : Prop := Claim7.holds Tryd.pinned (.plain (OpenSpec.upto ropeLettersSpec)) ropeLettersUptoCard

/-- THE SECOND FORM's CARD OF 'cayleylaw02.RopeConcats'. -/
def ropeConcatsUptoCard : Claim7 := { stood := { row := ropeConcatsUptoRow, standIns := [], harness := (true, "e5fdd09f8ae01285ac54f15908db64f1f7dcacf1a8da4a0c5a5142bb8f608d97"), looks := true }, kinds := [], alts := [], laidByText := true, laidKinds := [.data], laidTests := true, laidLooks := .later }
def RopeConcatsUptoCardSaid : Prop := Claim7.holds Tryd.pinned (.plain (OpenSpec.upto ropeConcatsSpec)) ropeConcatsUptoCard

/-- THE SECOND FORM's CARD OF 'cayleylaw02.RopeChecks'. -/
def ropeChecksUptoCard : Claim7 := { stood := { row := ropeChecksUptoRow, standIns := [], harness := (true, "e5fdd09f8ae01285ac54f15908db64f1f7dcacf1a8da4a0c5a5142bb8f608d97"), looks := true }, kinds := [], alts := [], laidByText := true, laidKinds := [.data], laidTests := true, laidLooks := .later }
def RopeChecksUptoCardSaid : Prop := Claim7.holds Tryd.pinned (.plain (OpenSpec.upto ropeChecksSpec)) ropeChecksUptoCard

/-- THE SECOND FORM's CARD OF 'cayleylaw02.RopeSlices'. -/
def ropeSlicesUptoCard : Claim7 := { stood := { row := ropeSlicesUptoRow, standIns := [], harness := (true, "e5fdd09f8ae01285ac54f15908db64f1f7dcacf1a8da4a0c5a5142bb8f608d97"), looks := true }, kinds := [], alts := [], laidByText := true, laidKinds := [.data], laidTests := true, laidLooks := .later }
def RopeSlicesUptoCardSaid : Prop := Claim7.holds Tryd.pinned (.plain (OpenSpec.upto ropeSlicesSpec)) ropeSlicesUptoCard

/-- THE SECOND FORM's CARD OF 'cayleylaw02.RopeStays'. -/
def ropeStaysUptoCard : Claim7 := { stood := { row := ropeStaysUptoRow, standIns := [], harness := (true, "e5fdd09f8ae01285ac54f15908db64f1f7dcacf1a8da4a0c5a5142bb8f608d97"), looks := true }, kinds := [], alts := [], laidByText := true, laidKinds := [.data], laidTests := true, laidLooks := .later }
def RopeStaysUptoCardSaid : Prop := Claim7.holds Tryd.pinned (.plain (OpenSpec.upto ropeStaysSpec)) ropeStaysUptoCard
end Rows
end Go.Proofs.YtehbekgmemebjaaDoor
