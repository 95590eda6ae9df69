import Derived.Test.YtmmichdlgjcmoaaRowDiskMoves
import Derived.Test.YtmmichdlgjcmoaaPureK
namespace Go.Proofs.Ytmmichdlgjcmoaa
open Go.Proofs.YtmmichdlgjcmoaaW.PrintWords Go.Proofs.Ytmmichdlgjcmoaa.PAll Go.Proofs.Ytmmichdlgjcmoaa.PAll.H
theorem diskMoves_holds : Rows.DiskMovesSaid :=
  diskMoves.over fun g A c rels s A2 c2 ms w hr hc hs h2 hc2 => by
    obtain ⟨k, hk⟩ := (DiskMoves_ev g rels s ms (by unfold maxLen at hs; omega)).rounds
    exact cayleylaw04_DiskMoves.calls k g A c rels s A2 c2 ms true w hr hc h2 hc2 hk
#print axioms diskMoves_holds
end Go.Proofs.Ytmmichdlgjcmoaa
