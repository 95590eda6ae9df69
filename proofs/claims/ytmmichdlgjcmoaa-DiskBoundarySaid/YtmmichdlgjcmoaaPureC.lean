/- The statement DiskBoundary in plain terms: both texts compute one boundary. -/
-- IMPORTS-OF: cayleyref04_checked cayleyref04_Bounds cayleyref04_Boundary cayleylaw04_DiskBoundary cayleyref04_Proves
import Derived.Test.YtmmichdlgjcmoaaPAllx0
import Derived.Test.YtmmichdlgjcmoaaPAllx4
import Derived.Test.YtmmichdlgjcmoaaPAllx5
import Derived.Test.YtmmichdlgjcmoaaPAllx8
import Derived.Test.YtmmichdlgjcmoaaPAllx9
import Derived.Test.YtmmichdlgjcmoaaPureB
namespace Go.Proofs.Ytmmichdlgjcmoaa.PAll
open Go.RowKit Go.Proofs.YtmmichdlgjcmoaaW.PrintWords Go.Proofs.YtmmichdlgjcmoaaW.PrintLast Go.Proofs.YtmmichdlgjcmoaaW.PrintMore H
set_option linter.unusedVariables false
set_option linter.unusedSimpArgs false
namespace H
/-- A disk whose boundary can be told. -/
structure DiskOk (rels : List ByteArray) (d : List S59) : Prop where
  rl : relsL rels
  cell : ∀ c ∈ d, 0 ≤ c.f1 ∧ c.f1 < rels.length ∧ c.f0.size ≤ 100000 ∧ allL (bytesOf c.f0)
  num : d.length ≤ 100000
  all : conjs d ≤ 1000000
theorem diskOk_of {g : Int} {rels : List ByteArray} {d : List S59} (hp : isPresS g rels = true) (hd : isDiskS g rels.length d = true) : DiskOk rels d := by
  unfold isDiskS at hd
  simp only [Bool.and_eq_true, List.all_eq_true, decide_eq_true_eq] at hd
  refine ⟨relsL_of hp, fun c hc => ?_, hd.1.1, hd.2⟩
  have := hd.1.2 c hc
  unfold cellOk at this
  simp only [Bool.and_eq_true, decide_eq_true_eq] at this
  exact ⟨this.1.1, this.1.2, isWordL_len this.2, allL_of this.2⟩
theorem cellW_size {rels : List ByteArray} (hr : relsL rels) {c : S59} (h : 0 ≤ c.f1 ∧ c.f1 < rels.length) : sizes (cellW rels c) ≤ 2 * c.f0.size + 200 := by
  have := (sideS_L hr c.f2 h.1 h.2).1
  unfold cellW
  rw [sizes_cons, sizes_cons, sizes_cons, invS_size]
  simp only [sizes, List.foldl_nil]
  omega
theorem flat_size {rels : List ByteArray} (hr : relsL rels) : ∀ (d : List S59), (∀ c ∈ d, 0 ≤ c.f1 ∧ c.f1 < rels.length) → sizes (d.flatMap (cellW rels)) ≤ 2 * conjs d + 200 * d.length := by
  intro d
  induction d with
  | nil => intro _; simp [sizes]
  | cons c d ih =>
    intro h
    have h1 := cellW_size hr (h c (by simp))
    have h2 := ih (fun x hx => h x (by simp [hx]))
    rw [List.flatMap_cons, sizes_append, conjs_cons, List.length_cons]
    omega
theorem diskOk_bound {rels : List ByteArray} {d : List S59} (h : DiskOk rels d) : boundB rels d = true := by
  rw [boundB_ok]
  refine ⟨fun c hc => ?_, ?_⟩
  · obtain ⟨h0, h1, h2, _⟩ := h.cell c hc
    have := (h.rl _ (rdOf_mem h0 h1)).1
    exact ⟨h0, h1, by omega, by omega⟩
  · have := flat_size h.rl d (fun c hc => ⟨(h.cell c hc).1, (h.cell c hc).2.1⟩)
    have := h.all
    have := h.num
    omega
theorem ref_Bounds_l0 (g : Int) (rels : List ByteArray) (d : List S59) (h : DiskOk rels d) : ∀ (rest pre : List S59), d = pre ++ rest →
    Ev (fun k => cayleyref04_Bounds.l0 k (boundL rels pre) d (d.length : Int) (pre.length : Int) g rels) (strOfNums (boundL rels d)) := by
  have hsz := (boundB_ok.1 (diskOk_bound h)).2
  have hnum := h.num
  intro rest
  induction rest with
  | nil =>
    intro pre hp
    refine Ev.step (f := fun _ => some (strOfNums (boundL rels d))) (fun k => ?_) (Ev.now _)
    simp only [cayleyref04_Bounds.l0]
    rw [if_neg (by rw [hp]; simp)]
    rw [hp]; simp
  | cons c rest ih =>
    intro pre hp
    have hlen : pre.length < d.length := by rw [hp]; simp
    have hrd : rd_T59 d (pre.length : Int) = c := by rw [hp]; exact rd59_at pre c rest
    obtain ⟨h0, h1, h2, h3⟩ := h.cell c (by rw [hp]; simp)
    have hside := sideS_L h.rl c.f2 h0 h1
    have htot : sizes (pre.flatMap (cellW rels)) + sizes (cellW rels c) ≤ 100000000 := by
      rw [hp, List.flatMap_append, List.flatMap_cons, sizes_append, sizes_append] at hsz; omega
    have hcw : sizes (cellW rels c) = c.f0.size + (sideS rels c.f1 c.f2).size + c.f0.size := by
      unfold cellW; rw [sizes_cons, sizes_cons, sizes_cons, invS_size]; simp only [sizes, List.foldl_nil]; omega
    have l0 : (boundL rels pre).length ≤ sizes (pre.flatMap (cellW rels)) := redL_len _
    have l1 : (redL (pre.flatMap (cellW rels) ++ [c.f0])).length ≤ sizes (pre.flatMap (cellW rels)) + c.f0.size := by
      have := redL_len (pre.flatMap (cellW rels) ++ [c.f0]); rw [sizes_snoc] at this; exact this
    have l2 : (redL (pre.flatMap (cellW rels) ++ [c.f0] ++ [sideS rels c.f1 c.f2])).length ≤ sizes (pre.flatMap (cellW rels)) + c.f0.size + (sideS rels c.f1 c.f2).size := by
      have := redL_len (pre.flatMap (cellW rels) ++ [c.f0] ++ [sideS rels c.f1 c.f2]); rw [sizes_snoc, sizes_snoc] at this; exact this
    refine Ev.step (f := fun k => _) (fun k => by simp only [cayleyref04_Bounds.l0]; rw [if_pos (by omega), if_pos (by omega), if_pos (by omega), hrd]) ?_
    refine Ev.bind (ref_reduced_ev (boundL rels pre) c.f0 (by omega) (by omega) h3) ?_
    refine Ev.bind (ref_relator_ev g rels h.rl c.f1 c.f2 h0 h1) ?_
    have e1 : (bytesOf c.f0).foldl (pushW canc) (boundL rels pre) = redL (pre.flatMap (cellW rels) ++ [c.f0]) := by rw [redL_snoc]; rfl
    rw [e1]
    refine Ev.bind (ref_reduced_ev _ (sideS rels c.f1 c.f2) (by omega) (by omega) hside.2) ?_
    refine Ev.bind (ref_Invert_ev c.f0 (by omega) h3) ?_
    rw [← redL_snoc]
    refine Ev.bind (ref_reduced_ev _ (invS c.f0) (by omega) (by rw [invS_size]; omega) (by rw [bytesOf_invS h3]; exact allL_inv h3)) ?_
    rw [← redL_snoc]
    have hi : wrap64 ((pre.length : Int) + 1) = ((pre ++ [c]).length : Int) := by rw [w64 (by omega) (by omega)]; simp
    have e2 : redL (pre.flatMap (cellW rels) ++ [c.f0] ++ [sideS rels c.f1 c.f2] ++ [invS c.f0]) = boundL rels (pre ++ [c]) := by rw [boundL_snoc]; simp [cellW]
    rw [e2]
    simp only [hi]
    exact ih (pre ++ [c]) (by rw [hp]; simp)
theorem ref_Bounds_ev (g : Int) (rels : List ByteArray) (d : List S59) (h : DiskOk rels d) : Ev (fun k => cayleyref04_Bounds.f k g rels d) (strOfNums (boundL rels d)) := by
  unfold cayleyref04_Bounds.f
  exact ref_Bounds_l0 g rels d h d [] rfl
/-- The boundary and the error of a disk. -/
def BoundaryS (g : Int) (rels : List ByteArray) (d : List S59) : ByteArray × Int := if examineS g rels [] [d] = 0 then (strOfNums (boundL rels d), 0) else (⟨#[]⟩, examineS g rels [] [d])
theorem examine_zero {g : Int} {rels ws : List ByteArray} {ds : List (List S59)} (h : examineS g rels ws ds = 0) : isPresS g rels = true ∧ (∀ s ∈ ws, isWordL g (bytesOf s) = true) ∧ ∀ d ∈ ds, isDiskS g rels.length d = true := by
  unfold examineS at h
  by_cases h1 : isPresS g rels = true
  · by_cases h2 : ws.all (fun s => isWordL g (bytesOf s)) = true
    · by_cases h3 : ds.all (isDiskS g rels.length) = true
      · exact ⟨h1, by simpa using h2, by simpa using h3⟩
      · simp [h1, h2, h3] at h
    · simp [h1, h2] at h
  · simp [h1] at h
/-- What came in and can be held in memory. -/
structure Came (d : List S59) : Prop where
  num : d.length ≤ 9223372036854775807
  conj : fits (d.map (·.f0))
theorem disk_Boundary_ev (g : Int) (rels : List ByteArray) (d : List S59) : Ev (fun k => disk_Boundary.f k g rels d) (BoundaryS g rels d) := by
  unfold disk_Boundary.f BoundaryS
  refine Ev.bind (disk_examine_ev g rels [] [d] (by simp) (by simp)) ?_
  by_cases h : examineS g rels [] [d] = 0
  · simp only [if_pos h]
    obtain ⟨hp, _, hd⟩ := examine_zero h
    rw [disk_boundary.f, if_pos (diskOk_bound (diskOk_of hp (hd d (by simp))))]
    exact Ev.now _
  · simp only [if_neg h]; exact Ev.now _
theorem ref_Boundary_ev (g : Int) (rels : List ByteArray) (d : List S59) (hc : Came d) : Ev (fun k => cayleyref04_Boundary.f k g rels d) (BoundaryS g rels d) := by
  unfold cayleyref04_Boundary.f BoundaryS
  refine Ev.bind (ref_checked_ev g rels [] [d] (by simp) (by intro s hs; cases hs) (by simp) (by intro x hx; simp at hx; subst hx; exact ⟨hc.num, hc.conj⟩)) ?_
  by_cases h : examineS g rels [] [d] = 0
  · simp only [if_pos h]
    obtain ⟨hp, _, hd⟩ := examine_zero h
    exact Ev.bind (ref_Bounds_ev g rels d (diskOk_of hp (hd d (by simp)))) (Ev.now _)
  · simp only [if_neg h]; exact Ev.now _
def ProvesS (g : Int) (rels : List ByteArray) (d : List S59) (s : ByteArray) : Int := if examineS g rels [s] [d] = 0 then if (strOfNums (boundL rels d)).toList = (strOfNums (redL [s])).toList then 0 else 5 else examineS g rels [s] [d]
theorem disk_Proves_ev (g : Int) (rels : List ByteArray) (d : List S59) (s : ByteArray) : Ev (fun k => disk_Proves.f k g rels d s) (ProvesS g rels d s) := by
  unfold disk_Proves.f ProvesS
  refine Ev.bind (disk_examine_ev g rels [s] [d] (by simp) (by simp)) ?_
  by_cases h : examineS g rels [s] [d] = 0
  · simp only [if_pos h]
    obtain ⟨hp, hw, hd⟩ := examine_zero h
    have hs := isWordL_len (hw s (by simp))
    rw [disk_boundary.f, if_pos (diskOk_bound (diskOk_of hp (hd d (by simp)))), disk_reduced.f, if_pos (by rw [sizes_cons]; simp only [sizes, List.foldl_nil]; omega)]
    simp only [Option.bind_some]
    by_cases e : (strOfNums (boundL rels d)).toList = (strOfNums (redL [s])).toList
    · simp only [if_pos e]; exact Ev.now _
    · simp only [if_neg e]; exact Ev.now _
  · simp only [if_neg h]; exact Ev.now _
theorem ref_Proves_ev (g : Int) (rels : List ByteArray) (d : List S59) (s : ByteArray) (hc : Came d) (hs0 : s.size ≤ 9223372036854775807) : Ev (fun k => cayleyref04_Proves.f k g rels d s) (ProvesS g rels d s) := by
  unfold cayleyref04_Proves.f ProvesS
  refine Ev.bind (ref_checked_ev g rels [s] [d] (by simp) (by intro x hx; simp at hx; subst hx; exact hs0) (by simp) (by intro x hx; simp at hx; subst hx; exact ⟨hc.num, hc.conj⟩)) ?_
  by_cases h : examineS g rels [s] [d] = 0
  · simp only [if_pos h]
    obtain ⟨hp, hw, hd⟩ := examine_zero h
    have hs := isWordL_len (hw s (by simp))
    refine Ev.bind (ref_Bounds_ev g rels d (diskOk_of hp (hd d (by simp)))) ?_
    refine Ev.bind (ref_Reduce_ev s (by omega) (allL_of (hw s (by simp)))) ?_
    by_cases e : (strOfNums (boundL rels d)).toList = (strOfNums (redL [s])).toList
    · simp only [if_pos e]; exact Ev.now _
    · simp only [if_neg e]; exact Ev.now _
  · simp only [if_neg h]; exact Ev.now _
theorem sane_ev : Ev (fun k => cayleylaw04_sane.f k) true := by
  unfold cayleylaw04_sane.f
  refine Ev.bind (disk_Boundary_ev _ _ _) ?_
  have : (if (BoundaryS 2 [⟨#[97, 98, 65, 66]⟩] [⟨⟨#[97]⟩, 0, true⟩]).2 = 0 then some ((BoundaryS 2 [⟨#[97, 98, 65, 66]⟩] [⟨⟨#[97]⟩, 0, true⟩]).1.toList == ([97, 98, 97, 66, 65, 65] : List UInt8)) else some false) = some true := by decide +kernel
  rw [this]; exact Ev.now _
theorem DiskBoundary_ev (g : Int) (rels : List ByteArray) (d : List S59) (s : ByteArray) (hc : Came d) (hs : s.size ≤ 9223372036854775807) : Ev (fun k => cayleylaw04_DiskBoundary.f k g rels d s) true := by
  unfold cayleylaw04_DiskBoundary.f
  refine Ev.bind (ref_Boundary_ev g rels d hc) ?_
  refine Ev.bind (disk_Boundary_ev g rels d) ?_
  refine Ev.bind sane_ev ?_
  simp only [if_true]
  refine Ev.bind (disk_Proves_ev g rels d s) ?_
  refine Ev.bind (ref_Proves_ev g rels d s hc hs) ?_
  simp only [BEq.rfl]
  exact Ev.now _
end H
end Go.Proofs.Ytmmichdlgjcmoaa.PAll
