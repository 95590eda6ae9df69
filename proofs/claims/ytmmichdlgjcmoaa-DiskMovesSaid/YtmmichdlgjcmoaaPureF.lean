import Derived.Test.YtmmichdlgjcmoaaPAllx0
import Derived.OpenShut
import Derived.Test.YtmmichdlgjcmoaaPAllx3
import Derived.Test.YtmmichdlgjcmoaaPAllx4
import Derived.Test.YtmmichdlgjcmoaaPAllx8
import Derived.Test.YtmmichdlgjcmoaaPAllx6
import Derived.Test.YtmmichdlgjcmoaaPAllx7
import Derived.Test.YtmmichdlgjcmoaaExtA
import Derived.Test.YtmmichdlgjcmoaaPAllx2
import Derived.Test.YtmmichdlgjcmoaaPureB
import Derived.Deep.DeepMust
import Derived.Deep.RegionHeld3
import Derived.Test.YtmmichdlgjcmoaaPureE
namespace Go.Proofs.Ytmmichdlgjcmoaa.PAll
open Go.RowKit Go.Proofs.YtmmichdlgjcmoaaW.PrintWords Go.Proofs.YtmmichdlgjcmoaaW.PrintLast Go.Proofs.YtmmichdlgjcmoaaW.PrintMore H
set_option linter.unusedVariables false
set_option linter.unusedSimpArgs false
namespace H
theorem redL_red (ls : List ByteArray) : redL ls = red (ls.flatMap bytesOf) := by
  suffices h : ∀ (ls : List ByteArray) (out : List Int), ls.foldl (fun out s => (bytesOf s).foldl (pushW canc) out) out = act out (ls.flatMap bytesOf) from h ls []
  intro ls
  induction ls with
  | nil => intro out; rfl
  | cons s ls ih => intro out; rw [List.foldl_cons, ih, List.flatMap_cons, act_append]; rfl
def CellL (rels : List ByteArray) (c : S59) : Prop := 0 ≤ c.f1 ∧ c.f1 < rels.length ∧ allL (bytesOf c.f0)
theorem redL_two (u v : ByteArray) : redL [u, v] = red (bytesOf u ++ bytesOf v) := by rw [redL_red]; simp
end H
end Go.Proofs.Ytmmichdlgjcmoaa.PAll
