import Derived.Test.YtmmichdlgjcmoaaPAllx0
import Derived.Test.YtmmichdlgjcmoaaPAllx19
import Derived.Test.YtmmichdlgjcmoaaPAllx2
import Derived.OpenShut
import Derived.Test.YtmmichdlgjcmoaaPAllx4
import Derived.Test.YtmmichdlgjcmoaaExtE
import Derived.Test.YtmmichdlgjcmoaaPureJ
namespace Go.Proofs.Ytmmichdlgjcmoaa.PAll
open Go.RowKit Go.Proofs.YtmmichdlgjcmoaaW.PrintWords Go.Proofs.YtmmichdlgjcmoaaW.PrintLast Go.Proofs.YtmmichdlgjcmoaaW.PrintMore H
set_option linter.unusedVariables false
set_option linter.unusedSimpArgs false
namespace H
theorem diskL_cat (rels : List ByteArray) (d e : List S59) : diskL rels (d ++ e) = diskL rels d ++ diskL rels e := by simp [diskL]
def relK (m : S52) : Nat := if m.f0 = 3 ∨ m.f0 = 4 then 1 else 0
def relC (ms : List S52) : Nat := (ms.map relK).sum
theorem relC_cons (m : S52) (ms : List S52) : relC (m :: ms) = relK m + relC ms := by simp [relC]
theorem ref_Relators_l0 (ms : List S52) (hn : ms.length ≤ 100000) : ∀ (rest pre : List S52) (n : Nat), ms = pre ++ rest → n ≤ pre.length →
    Ev (fun k => cayleyref04_Relators.l0 k (n : Int) ms (ms.length : Int) (pre.length : Int)) ((n + relC rest : Nat) : Int) := by
  intro rest
  induction rest with
  | nil =>
    intro pre n hp hle
    refine Ev.step (f := fun _ => some (n : Int)) (fun k => ?_) (Ev.now _)
    simp only [cayleyref04_Relators.l0]
    rw [if_neg (by rw [hp]; simp)]
  | cons m rest ih =>
    intro pre n hp hle
    have hlen : pre.length < ms.length := by rw [hp]; simp
    have hi : wrap64 ((pre.length : Int) + 1) = ((pre ++ [m]).length : Int) := by rw [w64 (by omega) (by omega)]; simp
    have hj : wrap64 ((n : Int) + 1) = ((n + 1 : Nat) : Int) := by rw [w64 (by omega) (by omega)]; simp
    have hrd : rd_T52 ms (pre.length : Int) = m := by rw [hp]; exact rd52_at pre m rest
    refine Ev.step (f := fun k => _) (fun k => by
      simp only [cayleyref04_Relators.l0]
      rw [if_pos (by omega), if_pos (by omega), if_pos (by omega), hrd, hi, hj]) ?_
    rw [relC_cons]
    by_cases h3 : m.f0 = 3
    · simp only [if_pos h3]
      have := ih (pre ++ [m]) (n + 1) (by rw [hp]; simp) (by simp; omega)
      rw [show relK m = 1 from if_pos (.inl h3), ← Nat.add_assoc]
      exact this
    simp only [if_neg h3]
    by_cases h4 : m.f0 = 4
    · simp only [if_pos h4]
      have := ih (pre ++ [m]) (n + 1) (by rw [hp]; simp) (by simp; omega)
      rw [show relK m = 1 from if_pos (.inr h4), ← Nat.add_assoc]
      exact this
    simp only [if_neg h4]
    have := ih (pre ++ [m]) n (by rw [hp]; simp) (by simp; omega)
    rw [show relK m = 0 from if_neg (by omega), Nat.zero_add]
    exact this
theorem ref_Relators_ev (ms : List S52) (hn : ms.length ≤ 100000) : Ev (fun k => cayleyref04_Relators.f k ms) (relC ms : Int) := by
  unfold cayleyref04_Relators.f
  have := ref_Relators_l0 ms hn ms [] 0 rfl (Nat.le_refl _)
  rw [Nat.zero_add] at this
  exact this
end H
end Go.Proofs.Ytmmichdlgjcmoaa.PAll
