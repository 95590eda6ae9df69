import Derived.Test.YtmmichdlgjcmoaaPAllx0
import Derived.OpenShut
import Derived.Test.YtmmichdlgjcmoaaPAllx3
import Derived.Test.YtmmichdlgjcmoaaPureB
import Derived.Test.YtmmichdlgjcmoaaExtK
namespace Go.Proofs.Ytmmichdlgjcmoaa.PAll
open Go.RowKit Go.Proofs.YtmmichdlgjcmoaaW.PrintWords Go.Proofs.YtmmichdlgjcmoaaW.PrintLast Go.Proofs.YtmmichdlgjcmoaaW.PrintMore H
set_option linter.unusedVariables false
set_option linter.unusedSimpArgs false
namespace H
theorem relOkM_iff {rels : List ByteArray} {m : S52} : relOkM rels m = true ↔ 0 ≤ m.f3 ∧ m.f3 < rels.length ∧ 0 ≤ m.f4 ∧ m.f4 < (relM rels m).size := by
  unfold relOkM
  simp only [Bool.and_eq_true, decide_eq_true_eq, and_assoc]
theorem bytesOf_cat (a b : ByteArray) : bytesOf (a ++ b) = bytesOf a ++ bytesOf b := by
  simp [bytesOf]
theorem bytesOf_extract (s : ByteArray) (a b : Nat) : bytesOf (s.extract a b) = ((bytesOf s).take b).drop a := by
  simp [bytesOf, List.map_take, List.map_drop, List.extract_eq_take_drop, List.drop_take]
theorem allL_take {s : ByteArray} (h : allL (bytesOf s)) (n : Nat) : allL (bytesOf (s.extract 0 n)) := by
  rw [bytesOf_extract]
  exact fun x hx => h x (List.mem_of_mem_take (List.mem_of_mem_drop hx))
theorem allL_cat {xs ys : List Int} (h : allL xs) (k : allL ys) : allL (xs ++ ys) := fun x hx => by
  rcases List.mem_append.1 hx with h' | h'
  · exact h x h'
  · exact k x h'
theorem relM_L {rels : List ByteArray} {m : S52} (hr : relsL rels) (h : relOkM rels m = true) : (relM rels m).size ≤ 200 ∧ allL (bytesOf (relM rels m)) := by
  obtain ⟨h1, h2, _, _⟩ := relOkM_iff.1 h
  exact sideS_L hr m.f5 h1 h2
theorem before_L {rels : List ByteArray} {m : S52} (hr : relsL rels) (h : relOkM rels m = true) : (beforeM rels m).size ≤ 200 ∧ allL (bytesOf (beforeM rels m)) := by
  obtain ⟨h1, h2⟩ := relM_L hr h
  refine ⟨?_, allL_take h2 _⟩
  unfold beforeM
  rw [ByteArray.size_extract]; omega
theorem rotM_len {rels : List ByteArray} {m : S52} (h : relOkM rels m = true) : (rotM rels m).size = (relM rels m).size := by
  have := relOkM_iff.1 h
  unfold rotM beforeM
  simp only [ByteArray.size_append, ByteArray.size_extract]
  omega
theorem bt_isL {s : ByteArray} (h : allL (bytesOf s)) {i : Int} (h0 : 0 ≤ i) (h1 : i < s.size) : isL (bt s i) := by
  have hk : i.toNat < s.size := by omega
  rw [← bt_at s i hk]
  apply h
  unfold bytesOf
  refine List.mem_map.2 ⟨s[i.toNat]'hk, ?_, rfl⟩
  exact Array.mem_toList_iff.2 (Array.getElem_mem (xs := s.data) hk)
end H
end Go.Proofs.Ytmmichdlgjcmoaa.PAll
