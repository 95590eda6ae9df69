import Derived.Test.YtmmichdlgjcmoaaPAllx0
import Derived.OpenShut
import Derived.Test.YtmmichdlgjcmoaaPAllx3
import Derived.Test.YtmmichdlgjcmoaaPAllx8
import Derived.Test.YtmmichdlgjcmoaaPAllx6
import Derived.Test.YtmmichdlgjcmoaaPAllx7
import Derived.Test.YtmmichdlgjcmoaaExtA
import Derived.Test.YtmmichdlgjcmoaaPAllx2
import Derived.Test.YtmmichdlgjcmoaaPureC
import Derived.Test.YtmmichdlgjcmoaaPureB
import Derived.Deep.DeepMust
import Derived.Deep.RegionHeld3
namespace Go.Proofs.Ytmmichdlgjcmoaa.PAll
open Go.RowKit Go.Proofs.YtmmichdlgjcmoaaW.PrintWords Go.Proofs.YtmmichdlgjcmoaaW.PrintLast Go.Proofs.YtmmichdlgjcmoaaW.PrintMore H
set_option linter.unusedVariables false
set_option linter.unusedSimpArgs false
namespace H
theorem snoc_split {α : Type} (pre : List α) : pre = [] ∨ ∃ p c, pre = p ++ [c] := by
  rcases List.eq_nil_or_concat pre with h | ⟨p, c, h⟩
  · exact .inl h
  · exact .inr ⟨p, c, by simpa using h⟩
end H
end Go.Proofs.Ytmmichdlgjcmoaa.PAll
