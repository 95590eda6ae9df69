import Derived.Test.YtmmichdlgjcmoaaRowDiskStays
import Derived.Test.YtmmichdlgjcmoaaPureO
namespace Go.Proofs.Ytmmichdlgjcmoaa
open Go.Proofs.YtmmichdlgjcmoaaW.PrintWords Go.Proofs.Ytmmichdlgjcmoaa.PAll Go.Proofs.Ytmmichdlgjcmoaa.PAll.H
theorem diskStays_holds : Rows.DiskStaysSaid :=
  diskStays.over fun g A c rels A1 c1 d A2 c2 e s A4 c4 ms w hr hc hd hc1 hz he hc2 hz2 hs h4 hc4 => by
    obtain ⟨k, hk⟩ := (DiskStays_ev g rels d e s ms).rounds
    exact cayleylaw04_DiskStays.calls k g A c rels A1 c1 d A2 c2 e s A4 c4 ms true w hr hc hd hc1 he hc2 h4 hc4 hk
#print axioms diskStays_holds
end Go.Proofs.Ytmmichdlgjcmoaa
