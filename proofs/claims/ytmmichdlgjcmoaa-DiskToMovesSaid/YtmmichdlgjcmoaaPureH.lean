import Derived.Test.YtmmichdlgjcmoaaPAllx0
import Derived.OpenShut
import Derived.Test.YtmmichdlgjcmoaaPAllx4
import Derived.Test.YtmmichdlgjcmoaaPureB
import Derived.Test.YtmmichdlgjcmoaaExtK
namespace Go.Proofs.Ytmmichdlgjcmoaa.PAll
open Go.RowKit Go.Proofs.YtmmichdlgjcmoaaW.PrintWords Go.Proofs.YtmmichdlgjcmoaaW.PrintLast Go.Proofs.YtmmichdlgjcmoaaW.PrintMore H
set_option linter.unusedVariables false
set_option linter.unusedSimpArgs false
namespace H
theorem relOkM_iff {rels : List ByteArray} {m : S52} : relOkM rels m = true ↔ 0 ≤ m.f3 ∧ m.f3 < rels.length ∧ 0 ≤ m.f4 ∧ m.f4 < (relM rels m).size := by
  unfold relOkM
  simp only [Bool.and_eq_true, decide_eq_true_eq, and_assoc]
theorem bytesOf_cat (a b : ByteArray) : bytesOf (a ++ b) = bytesOf a ++ bytesOf b := by
  simp [bytesOf]
theorem bytesOf_extract (s : ByteArray) (a b : Nat) : bytesOf (s.extract a b) = ((bytesOf s).take b).drop a := by
  simp [bytesOf, List.map_take, List.map_drop, List.extract_eq_take_drop, List.drop_take]
theorem rotM_len {rels : List ByteArray} {m : S52} (h : relOkM rels m = true) : (rotM rels m).size = (relM rels m).size := by
  have := relOkM_iff.1 h
  unfold rotM beforeM
  simp only [ByteArray.size_append, ByteArray.size_extract]
  omega
end H
end Go.Proofs.Ytmmichdlgjcmoaa.PAll
