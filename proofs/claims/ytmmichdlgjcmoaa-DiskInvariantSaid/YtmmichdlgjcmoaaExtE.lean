import Derived.Test.YtmmichdlgjcmoaaPAllx0
import Derived.Test.YtmmichdlgjcmoaaPAllx3
import Derived.OpenShut
import Derived.Test.YtmmichdlgjcmoaaPureH
import Derived.Test.YtmmichdlgjcmoaaReg
namespace Go.Proofs.Ytmmichdlgjcmoaa.PAll
open Go.RowKit Go.Proofs.YtmmichdlgjcmoaaW.PrintWords Go.Proofs.YtmmichdlgjcmoaaW.PrintLast Go.Proofs.YtmmichdlgjcmoaaW.PrintMore H Go.Proofs.YtmmichdlgjcmoaaReg
set_option linter.unusedVariables false
set_option linter.unusedSimpArgs false
namespace H
def moveS (g : Int) (rels : List ByteArray) (s : ByteArray) (m : S52) : Option (ByteArray × List S59) :=
  if m.f0 = 1 then
    if 0 ≤ m.f1 ∧ m.f1 ≤ s.size ∧ 0 ≤ m.f2 ∧ m.f2 < 2 * g then some (repl s m.f1.toNat 0 (pairS m.f2), []) else none
  else if m.f0 = 2 then
    if 0 ≤ m.f1 ∧ m.f1 ≤ (s.size : Int) - 2 ∧ canc (bt s m.f1) (bt s (m.f1 + 1)) = true then some (repl s m.f1.toNat 2 ⟨#[]⟩, []) else none
  else if m.f0 = 3 then
    if relOkM rels m = true ∧ 0 ≤ m.f1 ∧ m.f1 ≤ s.size then some (repl s m.f1.toNat 0 (rotM rels m), [cellM rels s m (!m.f5)]) else none
  else if m.f0 = 4 then
    if relOkM rels m = true ∧ 0 ≤ m.f1 ∧ m.f1 ≤ s.size ∧ prefB (s.extract m.f1.toNat s.size) (rotM rels m) = true then some (repl s m.f1.toNat (relM rels m).size ⟨#[]⟩, [cellM rels s m m.f5]) else none
  else none
end H
namespace H
end H
end Go.Proofs.Ytmmichdlgjcmoaa.PAll
