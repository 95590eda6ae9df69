import Derived.Test.YtmmichdlgjcmoaaRowDiskFromMoves
import Derived.Test.YtmmichdlgjcmoaaPureL
namespace Go.Proofs.Ytmmichdlgjcmoaa
open Go.Proofs.YtmmichdlgjcmoaaW.PrintWords Go.Proofs.Ytmmichdlgjcmoaa.PAll Go.Proofs.Ytmmichdlgjcmoaa.PAll.H
theorem diskFromMoves_holds : Rows.DiskFromMovesSaid :=
  diskFromMoves.over fun g A c rels s A2 c2 ms w hr hc hs h2 hc2 => by
    obtain ⟨k, hk⟩ := (DiskFromMoves_ev g rels s ms).rounds
    exact cayleylaw04_DiskFromMoves.calls k g A c rels s A2 c2 ms true w hr hc h2 hc2 hk
#print axioms diskFromMoves_holds
end Go.Proofs.Ytmmichdlgjcmoaa
