import Derived.Test.YtmmichdlgjcmoaaPAllx0
import Derived.Test.YtmmichdlgjcmoaaPAllx14
import Derived.Test.YtmmichdlgjcmoaaRowDiskGroup
import Derived.Test.YtmmichdlgjcmoaaPureG
namespace Go.Proofs.Ytmmichdlgjcmoaa
open Go.Proofs.YtmmichdlgjcmoaaW.PrintWords Go.Proofs.Ytmmichdlgjcmoaa.PAll Go.Proofs.Ytmmichdlgjcmoaa.PAll.H
theorem diskGroup_holds : Rows.DiskGroupSaid :=
  diskGroup.over fun g A c rels A1 c1 d A2 c2 e s w hr hc hd hc1 hz he hc2 hze hs => by
    obtain ⟨k, hk⟩ := (DiskGroup_ev g rels d e s).rounds
    exact cayleylaw04_DiskGroup.calls k g A c rels A1 c1 d A2 c2 e s true w hr hc hd hc1 he hc2 hk
#print axioms diskGroup_holds
end Go.Proofs.Ytmmichdlgjcmoaa
