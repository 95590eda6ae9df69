import Derived.Test.YtmmichdlgjcmoaaPAllx0
import Derived.Test.YtmmichdlgjcmoaaPAllx4
import Derived.OpenShut
import Derived.Test.YtmmichdlgjcmoaaPAllx8
import Derived.Test.YtmmichdlgjcmoaaPureB
namespace Go.Proofs.Ytmmichdlgjcmoaa.PAll
open Go.RowKit Go.Proofs.YtmmichdlgjcmoaaW.PrintWords Go.Proofs.YtmmichdlgjcmoaaW.PrintLast Go.Proofs.YtmmichdlgjcmoaaW.PrintMore H
set_option linter.unusedVariables false
set_option linter.unusedSimpArgs false
namespace H
theorem ref_Bounds_l0 (g : Int) (rels : List ByteArray) (d : List S59) (h : DiskOk rels d) : ∀ (rest pre : List S59), d = pre ++ rest →
    Ev (fun k => cayleyref04_Bounds.l0 k (boundL rels pre) d (d.length : Int) (pre.length : Int) g rels) (strOfNums (boundL rels d)) := by
  have hsz := (boundB_ok.1 (diskOk_bound h)).2
  have hnum := h.num
  intro rest
  induction rest with
  | nil =>
    intro pre hp
    refine Ev.step (f := fun _ => some (strOfNums (boundL rels d))) (fun k => ?_) (Ev.now _)
    simp only [cayleyref04_Bounds.l0]
    rw [if_neg (by rw [hp]; simp)]
    rw [hp]; simp
  | cons c rest ih =>
    intro pre hp
    have hlen : pre.length < d.length := by rw [hp]; simp
    have hrd : rd_T59 d (pre.length : Int) = c := by rw [hp]; exact rd59_at pre c rest
    obtain ⟨h0, h1, h2, h3⟩ := h.cell c (by rw [hp]; simp)
    have hside := sideS_L h.rl c.f2 h0 h1
    have htot : sizes (pre.flatMap (cellW rels)) + sizes (cellW rels c) ≤ 100000000 := by
      rw [hp, List.flatMap_append, List.flatMap_cons, sizes_append, sizes_append] at hsz; omega
    have hcw : sizes (cellW rels c) = c.f0.size + (sideS rels c.f1 c.f2).size + c.f0.size := by
      unfold cellW; rw [sizes_cons, sizes_cons, sizes_cons, invS_size]; simp only [sizes, List.foldl_nil]; omega
    have l0 : (boundL rels pre).length ≤ sizes (pre.flatMap (cellW rels)) := redL_len _
    have l1 : (redL (pre.flatMap (cellW rels) ++ [c.f0])).length ≤ sizes (pre.flatMap (cellW rels)) + c.f0.size := by
      have := redL_len (pre.flatMap (cellW rels) ++ [c.f0]); rw [sizes_snoc] at this; exact this
    have l2 : (redL (pre.flatMap (cellW rels) ++ [c.f0] ++ [sideS rels c.f1 c.f2])).length ≤ sizes (pre.flatMap (cellW rels)) + c.f0.size + (sideS rels c.f1 c.f2).size := by
      have := redL_len (pre.flatMap (cellW rels) ++ [c.f0] ++ [sideS rels c.f1 c.f2]); rw [sizes_snoc, sizes_snoc] at this; exact this
    refine Ev.step (f := fun k => _) (fun k => by simp only [cayleyref04_Bounds.l0]; rw [if_pos (by omega), if_pos (by omega), if_pos (by omega), hrd]) ?_
    refine Ev.bind (ref_reduced_ev (boundL rels pre) c.f0 (by omega) (by omega) h3) ?_
    refine Ev.bind (ref_relator_ev g rels h.rl c.f1 c.f2 h0 h1) ?_
    have e1 : (bytesOf c.f0).foldl (pushW canc) (boundL rels pre) = redL (pre.flatMap (cellW rels) ++ [c.f0]) := by rw [redL_snoc]; rfl
    rw [e1]
    refine Ev.bind (ref_reduced_ev _ (sideS rels c.f1 c.f2) (by omega) (by omega) hside.2) ?_
    refine Ev.bind (ref_Invert_ev c.f0 (by omega) h3) ?_
    rw [← redL_snoc]
    refine Ev.bind (ref_reduced_ev _ (invS c.f0) (by omega) (by rw [invS_size]; omega) (by rw [bytesOf_invS h3]; exact allL_inv h3)) ?_
    rw [← redL_snoc]
    have hi : wrap64 ((pre.length : Int) + 1) = ((pre ++ [c]).length : Int) := by rw [w64 (by omega) (by omega)]; simp
    have e2 : redL (pre.flatMap (cellW rels) ++ [c.f0] ++ [sideS rels c.f1 c.f2] ++ [invS c.f0]) = boundL rels (pre ++ [c]) := by rw [boundL_snoc]; simp [cellW]
    rw [e2]
    simp only [hi]
    exact ih (pre ++ [c]) (by rw [hp]; simp)
theorem ref_Bounds_ev (g : Int) (rels : List ByteArray) (d : List S59) (h : DiskOk rels d) : Ev (fun k => cayleyref04_Bounds.f k g rels d) (strOfNums (boundL rels d)) := by
  unfold cayleyref04_Bounds.f
  exact ref_Bounds_l0 g rels d h d [] rfl
def BoundaryS (g : Int) (rels : List ByteArray) (d : List S59) : ByteArray × Int := if examineS g rels [] [d] = 0 then (strOfNums (boundL rels d), 0) else (⟨#[]⟩, examineS g rels [] [d])
theorem disk_Boundary_ev (g : Int) (rels : List ByteArray) (d : List S59) : Ev (fun k => disk_Boundary.f k g rels d) (BoundaryS g rels d) := by
  unfold disk_Boundary.f BoundaryS
  refine Ev.bind (disk_examine_ev g rels [] [d] (by simp) (by simp)) ?_
  by_cases h : examineS g rels [] [d] = 0
  · simp only [if_pos h]
    obtain ⟨hp, _, hd⟩ := examine_zero h
    rw [disk_boundary.f, if_pos (diskOk_bound (diskOk_of hp (hd d (by simp))))]
    exact Ev.now _
  · simp only [if_neg h]; exact Ev.now _
def ProvesS (g : Int) (rels : List ByteArray) (d : List S59) (s : ByteArray) : Int := if examineS g rels [s] [d] = 0 then if (strOfNums (boundL rels d)).toList = (strOfNums (redL [s])).toList then 0 else 5 else examineS g rels [s] [d]
theorem disk_Proves_ev (g : Int) (rels : List ByteArray) (d : List S59) (s : ByteArray) : Ev (fun k => disk_Proves.f k g rels d s) (ProvesS g rels d s) := by
  unfold disk_Proves.f ProvesS
  refine Ev.bind (disk_examine_ev g rels [s] [d] (by simp) (by simp)) ?_
  by_cases h : examineS g rels [s] [d] = 0
  · simp only [if_pos h]
    obtain ⟨hp, hw, hd⟩ := examine_zero h
    have hs := isWordL_len (hw s (by simp))
    rw [disk_boundary.f, if_pos (diskOk_bound (diskOk_of hp (hd d (by simp)))), disk_reduced.f, if_pos (by rw [sizes_cons]; simp only [sizes, List.foldl_nil]; omega)]
    simp only [Option.bind_some]
    by_cases e : (strOfNums (boundL rels d)).toList = (strOfNums (redL [s])).toList
    · simp only [if_pos e]; exact Ev.now _
    · simp only [if_neg e]; exact Ev.now _
  · simp only [if_neg h]; exact Ev.now _
theorem ref_Proves_ev (g : Int) (rels : List ByteArray) (d : List S59) (s : ByteArray) (hc : Came d) (hs0 : s.size ≤ 9223372036854775807) : Ev (fun k => cayleyref04_Proves.f k g rels d s) (ProvesS g rels d s) := by
  unfold cayleyref04_Proves.f ProvesS
  refine Ev.bind (ref_checked_ev g rels [s] [d] (by simp) (by intro x hx; simp at hx; subst hx; exact hs0) (by simp) (by intro x hx; simp at hx; subst hx; exact ⟨hc.num, hc.conj⟩)) ?_
  by_cases h : examineS g rels [s] [d] = 0
  · simp only [if_pos h]
    obtain ⟨hp, hw, hd⟩ := examine_zero h
    have hs := isWordL_len (hw s (by simp))
    refine Ev.bind (ref_Bounds_ev g rels d (diskOk_of hp (hd d (by simp)))) ?_
    refine Ev.bind (ref_Reduce_ev s (by omega) (allL_of (hw s (by simp)))) ?_
    by_cases e : (strOfNums (boundL rels d)).toList = (strOfNums (redL [s])).toList
    · simp only [if_pos e]; exact Ev.now _
    · simp only [if_neg e]; exact Ev.now _
  · simp only [if_neg h]; exact Ev.now _
theorem sane_ev : Ev (fun k => cayleylaw04_sane.f k) true := by
  unfold cayleylaw04_sane.f
  refine Ev.bind (disk_Boundary_ev _ _ _) ?_
  have : (if (BoundaryS 2 [⟨#[97, 98, 65, 66]⟩] [⟨⟨#[97]⟩, 0, true⟩]).2 = 0 then some ((BoundaryS 2 [⟨#[97, 98, 65, 66]⟩] [⟨⟨#[97]⟩, 0, true⟩]).1.toList == ([97, 98, 97, 66, 65, 65] : List UInt8)) else some false) = some true := by decide +kernel
  rw [this]; exact Ev.now _
end H
end Go.Proofs.Ytmmichdlgjcmoaa.PAll
