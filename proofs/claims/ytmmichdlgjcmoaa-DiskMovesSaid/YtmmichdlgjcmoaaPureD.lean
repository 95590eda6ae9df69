import Derived.Test.YtmmichdlgjcmoaaPAllx0
import Derived.OpenShut
import Derived.Test.YtmmichdlgjcmoaaPAllx3
import Derived.Test.YtmmichdlgjcmoaaPAllx4
import Derived.Test.YtmmichdlgjcmoaaPAllx8
import Derived.Test.YtmmichdlgjcmoaaPAllx6
import Derived.Test.YtmmichdlgjcmoaaPAllx7
import Derived.Test.YtmmichdlgjcmoaaExtA
import Derived.Test.YtmmichdlgjcmoaaPAllx13
import Derived.Test.YtmmichdlgjcmoaaPureC
import Derived.Test.YtmmichdlgjcmoaaPAllx2
import Derived.Test.YtmmichdlgjcmoaaPureB
import Derived.Deep.DeepMust
import Derived.Deep.RegionHeld3
namespace Go.Proofs.Ytmmichdlgjcmoaa.PAll
open Go.RowKit Go.Proofs.YtmmichdlgjcmoaaW.PrintWords Go.Proofs.YtmmichdlgjcmoaaW.PrintLast Go.Proofs.YtmmichdlgjcmoaaW.PrintMore H
set_option linter.unusedVariables false
set_option linter.unusedSimpArgs false
namespace H
theorem snoc_split {α : Type} (pre : List α) : pre = [] ∨ ∃ p c, pre = p ++ [c] := by
  rcases List.eq_nil_or_concat pre with h | ⟨p, c, h⟩
  · exact .inl h
  · exact .inr ⟨p, c, by simpa using h⟩
theorem ref_Same_l0 (d : List S59) (hd : d.length ≤ 9223372036854775807) : ∀ (rest pre : List S59), d = pre ++ rest → Ev (fun k => cayleyref04_Same.l0 k d d (d.length : Int) (pre.length : Int)) true := by
  intro rest
  induction rest with
  | nil =>
    intro pre hp
    refine Ev.step (f := fun _ => some true) (fun k => ?_) (Ev.now _)
    simp only [cayleyref04_Same.l0]
    rw [if_neg (by rw [hp]; simp)]
  | cons c rest ih =>
    intro pre hp
    have hlen : pre.length < d.length := by rw [hp]; simp
    have hi : wrap64 ((pre.length : Int) + 1) = ((pre ++ [c]).length : Int) := by rw [w64 (by omega) (by omega)]; simp
    refine Ev.step (f := fun k => _) (fun k => by
      simp only [cayleyref04_Same.l0]
      rw [if_pos (by omega), if_pos (by omega), if_pos (by omega), if_pos (by omega), if_neg (by simp), hi]) ?_
    exact ih (pre ++ [c]) (by rw [hp]; simp)
theorem ref_Same_ev (d : List S59) (hd : d.length ≤ 9223372036854775807) : Ev (fun k => cayleyref04_Same.f k d d) true := by
  unfold cayleyref04_Same.f
  simp only [if_true]
  exact ref_Same_l0 d hd d [] rfl
end H
end Go.Proofs.Ytmmichdlgjcmoaa.PAll
