import Derived.Test.YtehbekgmemebjaaDoorRowRopeLetters
namespace Go.Proofs.YtehbekgmemebjaaDoor
open Go.Proofs.YtehbekgmemebjaaDoorEv
theorem ropeLetters_holds : Rows.RopeLettersCardSaid :=
  ropeLetters.card (ropeLetters.over fun e h => by
    obtain ⟨a, i, w, u⟩ := e
    obtain ⟨h1, h2, h3, _⟩ := h
    have h3' : w.size ≤ maxLen := h3
    obtain ⟨k, hk⟩ := law_letters (i := i) (w := w) (short_of h1) (by unfold maxLen at h3'; omega)
    exact ⟨k, hk k (Nat.le_refl k)⟩)
#print axioms ropeLetters_holds
end Go.Proofs.YtehbekgmemebjaaDoor
