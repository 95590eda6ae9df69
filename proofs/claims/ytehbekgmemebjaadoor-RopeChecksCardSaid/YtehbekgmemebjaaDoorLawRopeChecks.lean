import Derived.Test.YtehbekgmemebjaaDoorRowRopeChecks
namespace Go.Proofs.YtehbekgmemebjaaDoor
open Go.Proofs.YtehbekgmemebjaaDoorEv
theorem ropeChecks_holds : Rows.RopeChecksCardSaid :=
  ropeChecks.card (ropeChecks.over fun e h => by
    obtain ⟨a, u⟩ := e
    obtain ⟨h1, _⟩ := h
    obtain ⟨k, hk⟩ := law_checks (short_of h1)
    exact ⟨k, hk k (Nat.le_refl k)⟩)
#print axioms ropeChecks_holds
end Go.Proofs.YtehbekgmemebjaaDoor
