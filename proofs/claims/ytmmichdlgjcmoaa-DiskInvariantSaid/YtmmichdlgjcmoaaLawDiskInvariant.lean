import Derived.Test.YtmmichdlgjcmoaaRowDiskInvariant
import Derived.Test.YtmmichdlgjcmoaaExtN
namespace Go.Proofs.Ytmmichdlgjcmoaa
open Go.Proofs.YtmmichdlgjcmoaaW.PrintWords Go.Proofs.Ytmmichdlgjcmoaa.PAll Go.Proofs.Ytmmichdlgjcmoaa.PAll.H
theorem diskInvariant_holds : Rows.DiskInvariantSaid :=
  diskInvariant.over fun g A c rels y0 y1 y2 y3 y4 y5 y6 y7 A1 c1 d s A4 c4 ms w hr hc hd hc1 _ _ hm hc4 =>
    invariant_calls g A c rels y0 y1 y2 y3 y4 y5 y6 y7 A1 c1 d s A4 c4 ms w hr hc hd hc1 hm hc4
#print axioms diskInvariant_holds
end Go.Proofs.Ytmmichdlgjcmoaa
