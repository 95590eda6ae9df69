/-
  DERIVED. GIVEN WITH THE SEED: THE CARDS: each row of YtbjdbpkdkfkpeaaDoorRows.lean that lists a variable, with what it lists TIED to the program's text (the seventh form; the later family's looks); each row that meets fmt, with fmt's text TOLD by the authors' own Lean function (tested against real Go, not proved from fmt's source: count such statements apart). THE CARD IS WHAT COUNTS. Prove the row's statement (the work); the ties are given (YtbjdbpkdkfkpeaaDoorTie.lean); close each card by the builder's one call (the guide's Derived/Test/ToyasCard.lean, 'card_holds'). Laid BY PROGRAM, IN A SANDBOX (cutbox-door.mjs). By AI agents, Wed Nov 11 2026. No macro, syntax, notation, axiom, sorry.
-/
import Derived.Test.YtbjdbpkdkfkpeaaDoorRows
import GoSem.ClaimSeven
namespace Go.Proofs.YtbjdbpkdkfkpeaaDoor
namespace Rows

/-- THE TIED CARD OF 'cayleylaw05.AbelFinds'. -/
def abelFindsCard : Claim7 := { stood := { row := abelFindsRow, standIns := [], harness := (true, "c8831dbf770bd51b805b246c0809ec9ce4a72e21276165d90946adb2931ef69c"), looks := true }, kinds := [], alts := [], laidByText := true, laidKinds := [.data], laidTests := true, laidLooks := .later }
def AbelFindsCardSaid : Prop := Claim7.holds Tryd.pinned (.plain (OpenSpec.ofChange abelFindsSpec)) abelFindsCard

/-- THE TIED CARD OF 'cayleylaw05.AbelChecks'. -/
def abelChecksCard : Claim7 := { stood := { row := abelChecksRow, standIns := [], harness := (true, "c8831dbf770bd51b805b246c0809ec9ce4a72e21276165d90946adb2931ef69c"), looks := true }, kinds := [], alts := [], laidByText := true, laidKinds := [.data], laidTests := true, laidLooks := .later }
def AbelChecksCardSaid : Prop := Claim7.holds Tryd.pinned (.plain (OpenSpec.ofChange abelChecksSpec)) abelChecksCard

/-- THE TIED CARD OF 'cayleylaw05.AbelImages'. -/
def abelImagesCard : Claim7 := { stood := { row := abelImagesRow, standIns := [], harness := (true, "c8831dbf770bd51b805b246c0809ec9ce4a72e21276165d90946adb2931ef69c"), looks := true }, kinds := [], alts := [], laidByText := true, laidKinds := [.data], laidTests := true, laidLooks := .later }
def AbelImagesCardSaid : Prop := Claim7.holds Tryd.pinned (.plain (OpenSpec.ofChange abelImagesSpec)) abelImagesCard

/-- THE TIED CARD OF 'cayleylaw05.AbelMoves'. -/
def abelMovesCard : Claim7 := { stood := { row := abelMovesRow, standIns := [], harness := (true, "c8831dbf770bd51b805b246c0809ec9ce4a72e21276165d90946adb2931ef69c"), looks := true }, kinds := [], alts := [], laidByText := true, laidKinds := [.data], laidTests := true, laidLooks := .later }
def AbelMovesCardSaid : Prop := Claim7.holds Tryd.pinned (.plain (OpenSpec.ofChange abelMovesSpec)) abelMovesCard

/-- THE TIED CARD OF 'cayleylaw05.AbelPowers'. -/
def abelPowersCard : Claim7 := { stood := { row := abelPowersRow, standIns := [], harness := (true, "c8831dbf770bd51b805b246c0809ec9ce4a72e21276165d90946adb2931ef69c"), looks := true }, kinds := [], alts := [], laidByText := true, laidKinds := [.data], laidTests := true, laidLooks := .later }
def AbelPowersCardSaid : Prop := Claim7.holds Tryd.pinned (.plain (OpenSpec.ofChange abelPowersSpec)) abelPowersCard

/-- THE TIED CARD OF 'cayleylaw05.AbelInfinite'. -/
def abelInfiniteCard : Claim7 := { stood := { row := abelInfiniteRow, standIns := [], harness := (true, "c8831dbf770bd51b805b246c0809ec9ce4a72e21276165d90946adb2931ef69c"), looks := true }, kinds := [], alts := [], laidByText := true, laidKinds := [.data], laidTests := true, laidLooks := .later }
def AbelInfiniteCardSaid : Prop := Claim7.holds Tryd.pinned (.plain (OpenSpec.ofChange abelInfiniteSpec)) abelInfiniteCard

/-- THE TIED CARD OF 'cayleylaw05.AbelStays'. -/
def abelStaysCard : Claim7 := { stood := { row := abelStaysRow, standIns := [], harness := (true, "c8831dbf770bd51b805b246c0809ec9ce4a72e21276165d90946adb2931ef69c"), looks := true }, kinds := [], alts := [], laidByText := true, laidKinds := [.data], laidTests := true, laidLooks := .later }
def AbelStaysCardSaid : Prop := Claim7.holds Tryd.pinned (.plain (OpenSpec.ofChange abelStaysSpec)) abelStaysCard

/-- THE TIED CARD OF 'cayleylaw05.AbelSums'. -/
def abelSumsCard : Claim7 := { stood := { row := abelSumsRow, standIns := [], harness := (true, "c8831dbf770bd51b805b246c0809ec9ce4a72e21276165d90946adb2931ef69c"), looks := true }, kinds := [], alts := [], laidByText := true, laidKinds := [.data], laidTests := true, laidLooks := .later }
def AbelSumsCardSaid : Prop := Claim7.holds Tryd.pinned (.plain (OpenSpec.ofChange abelSumsSpec)) abelSumsCard

/-- THE SECOND FORM's CARD OF 'cayleylaw05.AbelFinds'. -/
def abelFindsUptoCard : Claim7 := { stood := { row := abelFindsUptoRow, standIns := [], harness := (true, "c8831dbf770bd51b805b246c0809ec9ce4a72e21276165d90946adb2931ef69c"), looks := true }, kinds := [], alts := [], laidByText := true, laidKinds := [.data], laidTests := true, laidLooks := .later }
def AbelFindsUptoCardSaid : Prop := Claim7.holds Tryd.pinned (.plain (OpenSpec.upto abelFindsSpec)) abelFindsUptoCard

/-- THE SECOND FORM's CARD OF 'cayleylaw05.AbelChecks'. -/
def abelChecksUptoCard : Claim7 := { stood := { row := abelChecksUptoRow, standIns := [], harness := (true, "c8831dbf770bd51b805b246c0809ec9ce4a72e21276165d90946adb2931ef69c"), looks := true }, kinds := [], alts := [], laidByText := true, laidKinds := [.data], laidTests := true, laidLooks := .later }
def AbelChecksUptoCardSaid : Prop := Claim7.holds Tryd.pinned (.plain (OpenSpec.upto abelChecksSpec)) abelChecksUptoCard

/-- THE SECOND FORM's CARD OF 'cayleylaw05.AbelImages'. -/
def abelImagesUptoCard : Claim7 := { stood := { row := abelImagesUptoRow, standIns := [], harness := (true, "c8831dbf770bd51b805b246c0809ec9ce4a72e21276165d90946adb2931ef69c"), looks := true }, kinds := [], alts := [], laidByText := true, laidKinds := [.data], laidTests := true, laidLooks := .later }
def AbelImagesUptoCardSaid : Prop := Claim7.holds Tryd.pinned (.plain (OpenSpec.upto abelImagesSpec)) abelImagesUptoCard

/-- THE SECOND FORM's CARD OF 'cayleylaw05.AbelMoves'. -/
def abelMovesUptoCard : Claim7 := { stood := { row := abelMovesUptoRow, standIns := [], harness := (true, "c8831dbf770bd51b805b246c0809ec9ce4a72e21276165d90946adb2931ef69c"), looks := true }, kinds := [], alts := [], laidByText := true, laidKinds := [.data], laidTests := true, laidLooks := .later }
def AbelMovesUptoCardSaid : Prop := Claim7.holds Tryd.pinned (.plain (OpenSpec.upto abelMovesSpec)) abelMovesUptoCard

/-- THE SECOND FORM's CARD OF 'cayleylaw05.AbelPowers'. -/
def abelPowersUptoCard : Claim7 := { stood := { row := abelPowersUptoRow, standIns := [], harness := (true, "c8831dbf770bd51b805b246c0809ec9ce4a72e21276165d90946adb2931ef69c"), looks := true }, kinds := [], alts := [], laidByText := true, laidKinds := [.data], laidTests := true, laidLooks := .later }
def AbelPowersUptoCardSaid : Prop := Claim7.holds Tryd.pinned (.plain (OpenSpec.upto abelPowersSpec)) abelPowersUptoCard

/-- THE SECOND FORM's CARD OF 'cayleylaw05.AbelInfinite'. -/
def abelInfiniteUptoCard : Claim7 := { stood := { row := abelInfiniteUptoRow, standIns := [], harness := (true, "c8831dbf770bd51b805b246c0809ec9ce4a72e21276165d90946adb2931ef69c"), looks := true }, kinds := [], alts := [], laidByText := true, laidKinds := [.data], laidTests := true, laidLooks := .later }
def AbelInfiniteUptoCardSaid : Prop := Claim7.holds Tryd.pinned (.plain (OpenSpec.upto abelInfiniteSpec)) abelInfiniteUptoCard

/-- THE SECOND FORM's CARD OF 'cayleylaw05.AbelStays'. -/
def abelStaysUptoCard : Claim7 := { stood := { row := abelStaysUptoRow, standIns := [], harness := (true, "c8831dbf770bd51b805b246c0809ec9ce4a72e21276165d90946adb2931ef69c"), looks := true }, kinds := [], alts := [], laidByText := true, laidKinds := [.data], laidTests := true, laidLooks := .later }
def AbelStaysUptoCardSaid : Prop := Claim7.holds Tryd.pinned (.plain (OpenSpec.upto abelStaysSpec)) abelStaysUptoCard

/-- THE SECOND FORM's CARD OF 'cayleylaw05.AbelSums'. -/
def abelSumsUptoCard : Claim7 := { stood := { row := abelSumsUptoRow, standIns := [], harness := (true, "c8831dbf770bd51b805b246c0809ec9ce4a72e21276165d90946adb2931ef69c"), looks := true }, kinds := [], alts := [], laidByText := true, laidKinds := [.data], laidTests := true, laidLooks := .later }
def AbelSumsUptoCardSaid : Prop := Claim7.holds Tryd.pinned (.plain (OpenSpec.upto abelSumsSpec)) abelSumsUptoCard
end Rows
end Go.Proofs.YtbjdbpkdkfkpeaaDoor
