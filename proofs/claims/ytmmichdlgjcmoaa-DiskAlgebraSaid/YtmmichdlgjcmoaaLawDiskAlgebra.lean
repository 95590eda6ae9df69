import Derived.Test.YtmmichdlgjcmoaaRowDiskAlgebra
import Derived.Test.YtmmichdlgjcmoaaPureD
import Derived.Test.YtmmichdlgjcmoaaExtG
namespace Go.Proofs.Ytmmichdlgjcmoaa
open Go.Proofs.YtmmichdlgjcmoaaW.PrintWords Go.Proofs.Ytmmichdlgjcmoaa.PAll Go.Proofs.Ytmmichdlgjcmoaa.PAll.H
theorem came_of {A : Option Addr} {d : List S59} {w : World} (h : Kd.C k59 w A d.length d) (hz : ∀ z ∈ d, z.f0.size ≤ maxLen) : Came d :=
  ⟨Kd.C_max h, fun s hs => by
    obtain ⟨z, hz', rfl⟩ := List.mem_map.1 hs
    have := hz z hz'
    unfold maxLen at this
    omega⟩
theorem product_len (g : Int) (rels : List ByteArray) (d e : List S59) : (ProductS g rels d e).1.length ≤ 9223372036854775807 := by
  unfold ProductS
  split
  · split
    · rename_i h
      have := (isDisk_len h).1
      show (d ++ e).length ≤ _
      omega
    · simp
  · simp
theorem inverse_len (g : Int) (rels : List ByteArray) (d : List S59) : (InverseS g rels d).1.length ≤ 9223372036854775807 := by
  unfold InverseS
  split
  · rename_i h
    have := (isDisk_len ((examine_zero h).2.2 d (by simp))).1
    show (turnD d).length ≤ _
    rw [turnD_len]; omega
  · simp
theorem conjugate_len (g : Int) (rels : List ByteArray) (d : List S59) (u : ByteArray) : (ConjugateS g rels d u).1.length ≤ 9223372036854775807 := by
  unfold ConjugateS
  split
  · split
    · simp
    · split
      · rename_i h
        have := (isDisk_len h).1
        show (d.map (shiftC u)).length ≤ _
        omega
      · simp
  · simp
theorem simplify_len (g : Int) (rels : List ByteArray) (d : List S59) : (SimplifyS g rels d).1.length ≤ 9223372036854775807 := by
  unfold SimplifyS
  split
  · rename_i h
    have := (isDisk_len ((examine_zero h).2.2 d (by simp))).1
    have := simpL_len d
    show (simpL d).length ≤ _
    omega
  · simp
theorem diskAlgebra_holds : Rows.DiskAlgebraSaid :=
  diskAlgebra.over fun g A c rels A1 c1 d A2 c2 e s w hr hc hd hc1 hz he hc2 hze hs => by
    have hs' : s.size ≤ 9223372036854775807 := by unfold maxLen at hs; omega
    have cd := came_of hd hz
    have ce := came_of he hze
    obtain ⟨K1, h1⟩ := ref_Product_ev g rels d e cd ce
    obtain ⟨K2, h2⟩ := ref_Inverse_ev g rels d cd
    obtain ⟨K3, h3⟩ := ref_Conjugate_ev g rels d s cd hs'
    obtain ⟨K4, h4⟩ := ref_Simplify_ev g rels d cd
    obtain ⟨K5, h5⟩ := disk_Product_ev g rels d e
    obtain ⟨K6, h6⟩ := disk_Inverse_ev g rels d
    obtain ⟨K7, h7⟩ := disk_Conjugate_ev g rels d s
    obtain ⟨K8, h8⟩ := sane_ev
    obtain ⟨K9, h9⟩ := ref_Same_ev _ (product_len g rels d e)
    obtain ⟨K10, h10⟩ := ref_Same_ev _ (inverse_len g rels d)
    obtain ⟨K11, h11⟩ := ref_Same_ev _ (conjugate_len g rels d s)
    obtain ⟨K12, h12⟩ := ref_Same_ev _ (simplify_len g rels d)
    exact cayleylaw04_DiskAlgebra.calls (K1 + K2 + K3 + K4 + K5 + K6 + K7 + K8 + K9 + K10 + K11 + K12) g A c rels A1 c1 d A2 c2 e s w hr hc hd hc1 he hc2 _ _ _ _ _ _ _ _ _ _ _ _
      (h1 _ (by omega)) (h2 _ (by omega)) (h3 _ (by omega)) (h4 _ (by omega)) (h5 _ (by omega)) (h6 _ (by omega)) (h7 _ (by omega)) (disk_Simplify_eq g rels d)
      (h8 _ (by omega)) (h9 _ (by omega)) (h10 _ (by omega)) (h11 _ (by omega)) (h12 _ (by omega))
#print axioms diskAlgebra_holds
end Go.Proofs.Ytmmichdlgjcmoaa
