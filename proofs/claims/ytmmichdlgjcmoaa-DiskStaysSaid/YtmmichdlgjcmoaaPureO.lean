import Derived.Test.YtmmichdlgjcmoaaPAllx0
import Derived.Test.YtmmichdlgjcmoaaPAllx21
import Derived.Test.YtmmichdlgjcmoaaPureD
namespace Go.Proofs.Ytmmichdlgjcmoaa.PAll
open Go.RowKit Go.Proofs.YtmmichdlgjcmoaaW.PrintWords Go.Proofs.YtmmichdlgjcmoaaW.PrintLast Go.Proofs.YtmmichdlgjcmoaaW.PrintMore H
set_option linter.unusedVariables false
set_option linter.unusedSimpArgs false
namespace H
theorem DiskStays_l1 (ms : List S52) (hn : ms.length ≤ 100) : ∀ (n j : Nat), ms.length = j + n → Ev (fun k => cayleylaw04_DiskStays.l1 k ms ms (ms.length : Int) (j : Int)) true := by
  intro n
  induction n with
  | zero =>
    intro j hj
    refine Ev.step (f := fun k => _) (fun k => by
      simp only [cayleylaw04_DiskStays.l1]
      rw [if_neg (by omega)]) ?_
    exact Ev.bind sane_ev (Ev.now _)
  | succ n ih =>
    intro j hj
    have hi : wrap64 ((j : Int) + 1) = ((j + 1 : Nat) : Int) := by rw [w64 (by omega) (by omega)]; simp
    refine Ev.step (f := fun k => _) (fun k => by
      simp only [cayleylaw04_DiskStays.l1]
      rw [if_pos (by omega), if_pos (by omega), if_pos (by omega), if_pos (by omega), if_neg (by simp), hi]) ?_
    exact ih (j + 1) (by omega)
theorem DiskStays_l0 (g : Int) (rels : List ByteArray) (hr : rels.length ≤ 100) (ms : List S52) (hn : ms.length ≤ 100) : ∀ (n j : Nat), rels.length = j + n → Ev (fun k => cayleylaw04_DiskStays.l0 k ms rels ms (rels.length : Int) (j : Int) g rels) true := by
  intro n
  induction n with
  | zero =>
    intro j hj
    refine Ev.step (f := fun k => _) (fun k => by
      simp only [cayleylaw04_DiskStays.l0]
      rw [if_neg (by omega)]) ?_
    exact DiskStays_l1 ms hn ms.length 0 (by omega)
  | succ n ih =>
    intro j hj
    have hi : wrap64 ((j : Int) + 1) = ((j + 1 : Nat) : Int) := by rw [w64 (by omega) (by omega)]; simp
    refine Ev.step (f := fun k => _) (fun k => by
      simp only [cayleylaw04_DiskStays.l0]
      rw [if_pos (by omega), if_pos (by omega), if_pos (by omega), if_pos (by omega), if_pos trivial, hi]) ?_
    exact ih (j + 1) (by omega)
theorem DiskStays_big (g : Int) (rels : List ByteArray) (d e : List S59) (s : ByteArray) (ms : List S52) : Ev (fun k => cayleylaw04_DiskStays.j0 k d e s ms true g rels) true := by
  refine Ev.step (f := fun k => _) (fun k => by rw [cayleylaw04_DiskStays.j0, if_pos rfl]) ?_
  exact Ev.bind sane_ev (Ev.now _)
theorem DiskStays_ev (g : Int) (rels : List ByteArray) (d e : List S59) (s : ByteArray) (ms : List S52) : Ev (fun k => cayleylaw04_DiskStays.f k g rels d e s ms) true := by
  unfold cayleylaw04_DiskStays.f
  by_cases h1 : (rels.length : Int) > 100
  · simp only [if_pos h1]; exact DiskStays_big g rels d e s ms
  simp only [if_neg h1]
  by_cases h2 : (d.length : Int) > 100
  · simp only [if_pos h2]; exact DiskStays_big g rels d e s ms
  simp only [if_neg h2]
  by_cases h3 : (e.length : Int) > 100
  · simp only [if_pos h3]; exact DiskStays_big g rels d e s ms
  simp only [if_neg h3]
  by_cases h4 : (s.size : Int) > 200
  · simp only [if_pos h4]; exact DiskStays_big g rels d e s ms
  simp only [if_neg h4]
  by_cases h5 : (ms.length : Int) > 100
  · rw [decide_eq_true h5]; exact DiskStays_big g rels d e s ms
  rw [decide_eq_false h5]
  refine Ev.step (f := fun k => _) (fun k => by rw [cayleylaw04_DiskStays.j0, if_neg (by decide)]) ?_
  simp only [List.nil_append, List.length_nil, Nat.zero_add]
  simp only [if_pos (show rels.length < 8796093022208 by omega), if_pos (show d.length < 4398046511104 by omega), if_pos (show e.length < 4398046511104 by omega), if_pos (show ms.length < 2932031007402 by omega), Option.bind_some]
  refine Ev.bind (disk_Boundary_ev g rels d) ?_
  refine Ev.bind (disk_Proves_ev g rels d s) ?_
  refine Ev.bind (disk_Product_ev g rels d e) ?_
  refine Ev.bind (disk_Inverse_ev g rels d) ?_
  refine Ev.bind (disk_Conjugate_ev g rels d s) ?_
  simp only [disk_Simplify_eq, disk_Apply.f, disk_FromMoves.f, disk_ToMoves.f, Option.bind_some, if_true]
  refine Ev.bind (ref_Same_ev d (by omega)) ?_
  simp only [if_true]
  refine Ev.bind (ref_Same_ev e (by omega)) ?_
  refine Ev.step (f := fun k => _) (fun k => by rw [cayleylaw04_DiskStays.j1, if_neg (by decide)]) ?_
  exact DiskStays_l0 g rels (by omega) ms (by omega) rels.length 0 (by omega)
end H
end Go.Proofs.Ytmmichdlgjcmoaa.PAll
