import Derived.Test.YtmmichdlgjcmoaaPAllx0
import Derived.OpenShut
import Derived.Test.YtmmichdlgjcmoaaPAllx3
import Derived.Test.YtmmichdlgjcmoaaPAllx4
import Derived.Test.YtmmichdlgjcmoaaPAllx8
import Derived.Test.YtmmichdlgjcmoaaPAllx6
import Derived.Test.YtmmichdlgjcmoaaPAllx7
import Derived.Test.YtmmichdlgjcmoaaExtA
import Derived.Test.YtmmichdlgjcmoaaPAllx2
import Derived.Test.YtmmichdlgjcmoaaPureC
import Derived.Test.YtmmichdlgjcmoaaPureB
import Derived.Deep.DeepMust
import Derived.Deep.RegionHeld3
namespace Go.Proofs.Ytmmichdlgjcmoaa.PAll
open Go.RowKit Go.Proofs.YtmmichdlgjcmoaaW.PrintWords Go.Proofs.YtmmichdlgjcmoaaW.PrintLast Go.Proofs.YtmmichdlgjcmoaaW.PrintMore H
set_option linter.unusedVariables false
set_option linter.unusedSimpArgs false
namespace H
theorem conjs_append (d e : List S59) : conjs (d ++ e) = conjs d + conjs e := by simp [conjs, sizes_append]
theorem isDisk_len {g : Int} {n : Nat} {d : List S59} (h : isDiskS g n d = true) : d.length ≤ 100000 ∧ (∀ c ∈ d, cellOk g n c = true) ∧ conjs d ≤ 1000000 := by
  unfold isDiskS at h
  simp only [Bool.and_eq_true, List.all_eq_true, decide_eq_true_eq] at h
  exact ⟨h.1.1, h.1.2, h.2⟩
theorem cellOk_of {g : Int} {n : Nat} {c : S59} (h : cellOk g n c = true) : 0 ≤ c.f1 ∧ c.f1 < n ∧ c.f0.size ≤ 100000 ∧ allL (bytesOf c.f0) ∧ isWordL g (bytesOf c.f0) = true := by
  unfold cellOk at h
  simp only [Bool.and_eq_true, decide_eq_true_eq] at h
  exact ⟨h.1.1, h.1.2, isWordL_len h.2, allL_of h.2, h.2⟩
def negC (c : S59) : S59 := ⟨c.f0, c.f1, !c.f2⟩
def turnD (d : List S59) : List S59 := (d.map negC).reverse
theorem turnD_snoc (c : S59) (post : List S59) : turnD (c :: post) = turnD post ++ [negC c] := by simp [turnD]
theorem snoc_split {α : Type} (pre : List α) : pre = [] ∨ ∃ p c, pre = p ++ [c] := by
  rcases List.eq_nil_or_concat pre with h | ⟨p, c, h⟩
  · exact .inl h
  · exact .inr ⟨p, c, by simpa using h⟩
end H
end Go.Proofs.Ytmmichdlgjcmoaa.PAll
