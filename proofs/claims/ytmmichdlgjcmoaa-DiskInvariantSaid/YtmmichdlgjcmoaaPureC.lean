import Derived.Test.YtmmichdlgjcmoaaPAllx0
import Derived.OpenShut
import Derived.Test.YtmmichdlgjcmoaaPAllx3
import Derived.Test.YtmmichdlgjcmoaaPAllx8
import Derived.Test.YtmmichdlgjcmoaaPureB
namespace Go.Proofs.Ytmmichdlgjcmoaa.PAll
open Go.RowKit Go.Proofs.YtmmichdlgjcmoaaW.PrintWords Go.Proofs.YtmmichdlgjcmoaaW.PrintLast Go.Proofs.YtmmichdlgjcmoaaW.PrintMore H
set_option linter.unusedVariables false
set_option linter.unusedSimpArgs false
namespace H
def BoundaryS (g : Int) (rels : List ByteArray) (d : List S59) : ByteArray × Int := if examineS g rels [] [d] = 0 then (strOfNums (boundL rels d), 0) else (⟨#[]⟩, examineS g rels [] [d])
theorem disk_Boundary_ev (g : Int) (rels : List ByteArray) (d : List S59) : Ev (fun k => disk_Boundary.f k g rels d) (BoundaryS g rels d) := by
  unfold disk_Boundary.f BoundaryS
  refine Ev.bind (disk_examine_ev g rels [] [d] (by simp) (by simp)) ?_
  by_cases h : examineS g rels [] [d] = 0
  · simp only [if_pos h]
    obtain ⟨hp, _, hd⟩ := examine_zero h
    rw [disk_boundary.f, if_pos (diskOk_bound (diskOk_of hp (hd d (by simp))))]
    exact Ev.now _
  · simp only [if_neg h]; exact Ev.now _
theorem sane_ev : Ev (fun k => cayleylaw04_sane.f k) true := by
  unfold cayleylaw04_sane.f
  refine Ev.bind (disk_Boundary_ev _ _ _) ?_
  have : (if (BoundaryS 2 [⟨#[97, 98, 65, 66]⟩] [⟨⟨#[97]⟩, 0, true⟩]).2 = 0 then some ((BoundaryS 2 [⟨#[97, 98, 65, 66]⟩] [⟨⟨#[97]⟩, 0, true⟩]).1.toList == ([97, 98, 97, 66, 65, 65] : List UInt8)) else some false) = some true := by decide +kernel
  rw [this]; exact Ev.now _
end H
end Go.Proofs.Ytmmichdlgjcmoaa.PAll
