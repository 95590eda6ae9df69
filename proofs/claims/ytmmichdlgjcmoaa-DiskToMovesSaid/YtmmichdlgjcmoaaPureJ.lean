import Derived.Test.YtmmichdlgjcmoaaPAllx0
import Derived.Test.YtmmichdlgjcmoaaPAllx2
import Derived.OpenShut
import Derived.Test.YtmmichdlgjcmoaaPAllx4
import Derived.Test.YtmmichdlgjcmoaaExtE
import Derived.Test.YtmmichdlgjcmoaaPAllx19
import Derived.Test.YtmmichdlgjcmoaaPureI
import Derived.Test.YtmmichdlgjcmoaaPureD
namespace Go.Proofs.Ytmmichdlgjcmoaa.PAll
open Go.RowKit Go.Proofs.YtmmichdlgjcmoaaW.PrintWords Go.Proofs.YtmmichdlgjcmoaaW.PrintLast Go.Proofs.YtmmichdlgjcmoaaW.PrintMore H
set_option linter.unusedVariables false
set_option linter.unusedSimpArgs false
namespace H
theorem moveS_three {g : Int} {rels : List ByteArray} {s : ByteArray} {m : S52} (k3 : m.f0 = 3) : moveS g rels s m = if relOkM rels m = true ∧ 0 ≤ m.f1 ∧ m.f1 ≤ s.size then some (repl s m.f1.toNat 0 (rotM rels m), [cellM rels s m (!m.f5)]) else none := by
  unfold moveS
  rw [if_neg (by omega), if_neg (by omega), if_pos k3]
theorem rd52_at (pre : List S52) (c : S52) (rest : List S52) : rd_T52 (pre ++ c :: rest) (pre.length : Int) = c := getD_at pre c rest _
theorem walkS_cons (g : Int) (rels : List ByteArray) (x : ByteArray × List S59) (m : S52) (ms : List S52) : walkS g rels x (m :: ms) = (stepS g rels x m).bind fun y => walkS g rels y ms := rfl
end H
end Go.Proofs.Ytmmichdlgjcmoaa.PAll
