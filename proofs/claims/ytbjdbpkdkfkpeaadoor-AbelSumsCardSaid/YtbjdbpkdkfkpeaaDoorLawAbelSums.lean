import Derived.Test.YtbjdbpkdkfkpeaaDoorRowAbelSums
namespace Go.Proofs.YtbjdbpkdkfkpeaaDoor
open Go Go.RowKit Go.Proofs.YtbjdbpkdkfkpeaaDoorEv
theorem abelSums_holds : Rows.AbelSumsCardSaid :=
  abelSums.card (abelSums.over fun e _ h => by
    obtain ⟨a, u, v, x⟩ := e
    obtain ⟨h2, h3, _⟩ := h
    obtain ⟨k, hk⟩ := law_sums a u v h2 h3
    exact ⟨k, hk k (Nat.le_refl k)⟩)
#print axioms abelSums_holds
end Go.Proofs.YtbjdbpkdkfkpeaaDoor
