import Derived.Test.YtehbekgmemebjaaDoorRowRopeSlices
namespace Go.Proofs.YtehbekgmemebjaaDoor
open Go Go.RowKit Go.Proofs.YtehbekgmemebjaaDoorEv
theorem ropeSlices_holds : Rows.RopeSlicesCardSaid :=
  ropeSlices.card (ropeSlices.over fun e h1 _ => by
    obtain ⟨a, i, j, n, x⟩ := e
    obtain ⟨h1, h2, h3, h4, _⟩ := h1
    have hs : Short a := short_of h1
    obtain ⟨k, hk⟩ := law_slices hs (int_of h2) (int_of h3) (int_of h4)
    exact ⟨k, hk k (Nat.le_refl k)⟩)
#print axioms ropeSlices_holds
end Go.Proofs.YtehbekgmemebjaaDoor
