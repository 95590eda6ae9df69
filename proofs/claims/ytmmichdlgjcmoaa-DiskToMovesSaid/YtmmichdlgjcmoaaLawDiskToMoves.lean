import Derived.Test.YtmmichdlgjcmoaaRowDiskToMoves
import Derived.Test.YtmmichdlgjcmoaaPureN
namespace Go.Proofs.Ytmmichdlgjcmoaa
open Go.Proofs.YtmmichdlgjcmoaaW.PrintWords Go.Proofs.Ytmmichdlgjcmoaa.PAll Go.Proofs.Ytmmichdlgjcmoaa.PAll.H
theorem came_of {A : Option Addr} {d : List S59} {w : World} (h : Kd.C k59 w A d.length d) (hz : ∀ z ∈ d, z.f0.size ≤ maxLen) : Came d :=
  ⟨Kd.C_max h, fun s hs => by
    obtain ⟨z, hz', rfl⟩ := List.mem_map.1 hs
    have := hz z hz'
    unfold maxLen at this
    omega⟩
theorem diskToMoves_holds : Rows.DiskToMovesSaid :=
  diskToMoves.over fun g A c rels A1 c1 d s w hr hc hd hc1 hz hs => by
    obtain ⟨k, hk⟩ := (DiskToMoves_ev g rels d s (came_of hd hz) (by unfold maxLen at hs; omega)).rounds
    exact cayleylaw04_DiskToMoves.calls k g A c rels A1 c1 d s true w hr hc hd hc1 hk
#print axioms diskToMoves_holds
end Go.Proofs.Ytmmichdlgjcmoaa
