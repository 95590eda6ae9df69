import Derived.Test.YtehbekgmemebjaaDoorRowRopePowers
namespace Go.Proofs.YtehbekgmemebjaaDoor
open Go.Proofs.YtehbekgmemebjaaDoorEv
theorem ropePowers_holds : Rows.RopePowersCardSaid :=
  ropePowers.card (ropePowers.over fun e h => by
    obtain ⟨a, n, i, u⟩ := e
    obtain ⟨h1, h2, h3, _⟩ := h
    have hs : Short a := short_of h1
    obtain ⟨k, hk⟩ := law_powers hs (int_of h2) (int_of h3)
    exact ⟨k, hk k (Nat.le_refl k)⟩)
#print axioms ropePowers_holds
end Go.Proofs.YtehbekgmemebjaaDoor
