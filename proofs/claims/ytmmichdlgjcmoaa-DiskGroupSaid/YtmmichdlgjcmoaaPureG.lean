import Derived.Test.YtmmichdlgjcmoaaPAllx0
import Derived.Test.YtmmichdlgjcmoaaPAllx14
import Derived.Test.YtmmichdlgjcmoaaPureF
namespace Go.Proofs.Ytmmichdlgjcmoaa.PAll
open Go.RowKit Go.Proofs.YtmmichdlgjcmoaaW.PrintWords Go.Proofs.YtmmichdlgjcmoaaW.PrintLast Go.Proofs.YtmmichdlgjcmoaaW.PrintMore H
set_option linter.unusedVariables false
set_option linter.unusedSimpArgs false
namespace H
theorem group_sane (d e : List S59) (u b c : ByteArray) (g : Int) (rels : List ByteArray) : Ev (fun k => cayleylaw04_DiskGroup.j0 k d e u b c true g rels) true := by
  refine Ev.step (f := fun k => (cayleylaw04_sane.f k).bind fun t => some t) (fun k => by simp only [cayleylaw04_DiskGroup.j0, if_true]) ?_
  exact Ev.bind sane_ev (Ev.now _)
theorem group_j3 (g : Int) (rels : List ByteArray) (d : List S59) (hp : isPresS g rels = true) (hd : isDiskS g rels.length d = true) : Ev (fun k => cayleylaw04_DiskGroup.j3 k d (strOfNums (boundL rels d)) false g rels) true := by
  have hk := diskOk_of hp hd
  have hs := isDisk_simp hd
  have he : boundL rels (simpL d) = boundL rels d := by rw [boundL_red, boundL_red]; exact (disk_simp hk.rl d hk.L).2.red
  have hsim : disk_Simplify.f g rels d = some (simpL d, 0) := by unfold disk_Simplify.f; rw [if_pos (examine_disk hp hd)]
  refine Ev.step (f := fun k => _) (fun k => by simp only [cayleylaw04_DiskGroup.j3, Bool.false_eq_true, if_false, hsim, Option.bind_some]; rfl) ?_
  refine Ev.bind (disk_Boundary_ev g rels (simpL d)) ?_
  rw [Boundary_disk hp hs]
  refine Ev.bind sane_ev ?_
  have := simpL_len d
  simp only [if_true, he]
  rw [decide_eq_true (by omega)]
  exact Ev.now _
theorem group_j2e (g : Int) (rels : List ByteArray) (d : List S59) (hp : isPresS g rels = true) (hd : isDiskS g rels.length d = true) : Ev (fun k => (disk_Simplify.f g rels d).bind fun bt443 => ((disk_Boundary.f k g rels bt443.1).bind fun bt447 => ((cayleylaw04_sane.f k).bind fun t449 => (if t449 = true then (if bt443.2 = 0 then (if bt447.2 = 0 then (if bt447.1.toList = (strOfNums (boundL rels d)).toList then (some (decide ((bt443.1.length : Int) ≤ (d.length : Int)))) else (some false)) else (some false)) else (some false)) else (some false))))) true := by
  have hk := diskOk_of hp hd
  have hs := isDisk_simp hd
  have he : boundL rels (simpL d) = boundL rels d := by rw [boundL_red, boundL_red]; exact (disk_simp hk.rl d hk.L).2.red
  have hsim : disk_Simplify.f g rels d = some (simpL d, 0) := by unfold disk_Simplify.f; rw [if_pos (examine_disk hp hd)]
  simp only [hsim, Option.bind_some]
  refine Ev.bind (disk_Boundary_ev g rels (simpL d)) ?_
  rw [Boundary_disk hp hs]
  refine Ev.bind sane_ev ?_
  have := simpL_len d
  simp only [if_true, he]
  rw [decide_eq_true (by omega)]
  exact Ev.now _
theorem bne_self {a : List UInt8} : (a != a) = false := by simp
theorem group_j2 (g : Int) (rels : List ByteArray) (d : List S59) (u : ByteArray) (hp : isPresS g rels = true) (hd : isDiskS g rels.length d = true) : Ev (fun k => cayleylaw04_DiskGroup.j2 k d u (strOfNums (boundL rels d)) false g rels) true := by
  have hk := diskOk_of hp hd
  refine Ev.step (f := fun k => _) (fun k => by simp only [cayleylaw04_DiskGroup.j2, Bool.false_eq_true, if_false]; rfl) ?_
  refine Ev.bind (disk_Conjugate_ev g rels d u) ?_
  by_cases hc : (ConjugateS g rels d u).2 = 0
  · simp only [if_pos hc]
    obtain ⟨hw, hy, hY⟩ : isWordL g (bytesOf u) = true ∧ isDiskS g rels.length (d.map (shiftC u)) = true ∧ (ConjugateS g rels d u).1 = d.map (shiftC u) := by
      unfold ConjugateS at hc ⊢
      by_cases h1 : examineS g rels [u] [d] = 0
      · rw [if_pos h1] at hc ⊢
        by_cases h2 : longC u d = true
        · rw [if_pos h2] at hc; simp at hc
        · rw [if_neg h2] at hc ⊢
          by_cases h3 : isDiskS g rels.length (d.map (shiftC u)) = true
          · rw [if_pos h3]; exact ⟨(examine_zero h1).2.1 u (by simp), h3, rfl⟩
          · rw [if_neg h3] at hc; simp at hc
      · rw [if_neg h1] at hc; exact absurd hc h1
    rw [hY]
    have huL := allL_of hw
    have hul := isWordL_len hw
    have hbs := bound_size hk
    refine Ev.bind (disk_Boundary_ev g rels _) ?_
    rw [Boundary_disk hp hy]
    have q1 : u.size + (strOfNums (boundL rels d)).size ≤ 9223372036854775807 := by omega
    simp only [if_true, if_pos q1]
    refine Ev.bind (ref_Invert_ev u (by omega) huL) ?_
    have q2 : (u ++ strOfNums (boundL rels d)).size + (invS u).size ≤ 9223372036854775807 := by rw [ByteArray.size_append, invS_size]; omega
    simp only [if_pos q2]
    have hb : bytesOf ((u ++ strOfNums (boundL rels d)) ++ invS u) = bytesOf u ++ (boundL rels d ++ invL (bytesOf u)) := by
      rw [bytesOf_app, bytesOf_app, bytesOf_bound hk, bytesOf_invS huL, List.append_assoc]
    refine Ev.bind (ref_Reduce_ev _ (by rw [ByteArray.size_append, ByteArray.size_append, invS_size]; omega) (by rw [hb]; exact allL_app huL (allL_app (boundL_L hk) (allL_inv huL)))) ?_
    have he : boundL rels (d.map (shiftC u)) = redL [(u ++ strOfNums (boundL rels d)) ++ invS u] := by
      rw [redL_one, hb, boundL_red, boundL_red, (disk_shift hk.rl huL d hk.L).red]
      exact (((Eqv.refl (bytesOf u)).app ((eqv_red (diskL_L hk.rl hk.L)).app (Eqv.refl _) (red_redu (diskL_L hk.rl hk.L)).isL) huL).red).symm
    rw [he]
    simp only [bne_self]
    exact group_j3 g rels d hp hd
  · simp only [if_neg hc]
    exact group_j2e g rels d hp hd
theorem group_j1 (g : Int) (rels : List ByteArray) (d : List S59) (u : ByteArray) (hp : isPresS g rels = true) (hd : isDiskS g rels.length d = true) : Ev (fun k => cayleylaw04_DiskGroup.j1 k d u (strOfNums (boundL rels d)) g rels) true := by
  have hk := diskOk_of hp hd
  refine Ev.step (f := fun k => _) (fun k => by simp only [cayleylaw04_DiskGroup.j1]; rfl) ?_
  refine Ev.bind (disk_Inverse_ev g rels d) ?_
  rw [show InverseS g rels d = (turnD d, 0) from by unfold InverseS; rw [if_pos (examine_disk hp hd)]]
  refine Ev.bind (disk_Boundary_ev g rels (turnD d)) ?_
  rw [Boundary_disk hp (isDisk_turn g _ d hd)]
  simp only [if_true]
  have hbs := bound_size hk
  refine Ev.bind (ref_Invert_ev _ (by omega) (by rw [bytesOf_bound hk]; exact boundL_L hk)) ?_
  rw [show invS (strOfNums (boundL rels d)) = strOfNums (boundL rels (turnD d)) from by unfold invS; rw [bytesOf_bound hk, boundL_turn hk]]
  simp only [bne_self]
  exact group_j2 g rels d u hp hd
theorem DiskGroup_ev (g : Int) (rels : List ByteArray) (d e : List S59) (u : ByteArray) : Ev (fun k => cayleylaw04_DiskGroup.f k g rels d e u) true := by
  unfold cayleylaw04_DiskGroup.f
  refine Ev.bind (disk_Boundary_ev g rels d) ?_
  refine Ev.bind (disk_Boundary_ev g rels e) ?_
  by_cases h1 : examineS g rels [] [d] = 0
  · obtain ⟨hp, _, hd0⟩ := examine_zero h1
    have hd := hd0 d (by simp)
    have hk := diskOk_of hp hd
    rw [Boundary_disk hp hd]
    simp only [if_true]
    by_cases h2 : examineS g rels [] [e] = 0
    · have he := (examine_zero h2).2.2 e (by simp)
      have hk2 := diskOk_of hp he
      rw [Boundary_disk hp he]
      simp only [bne_self_eq_false]
      refine Ev.step (f := fun k => _) (fun k => by simp only [cayleylaw04_DiskGroup.j0, Bool.false_eq_true, if_false]; rfl) ?_
      refine Ev.bind (disk_Product_ev g rels d e) ?_
      by_cases hc : (ProductS g rels d e).2 = 0
      · simp only [if_pos hc]
        obtain ⟨hy, hY⟩ : isDiskS g rels.length (d ++ e) = true ∧ (ProductS g rels d e).1 = d ++ e := by
          unfold ProductS at hc ⊢
          by_cases h1 : examineS g rels [] [d, e] = 0
          · rw [if_pos h1] at hc ⊢
            by_cases h3 : isDiskS g rels.length (d ++ e) = true
            · rw [if_pos h3]; exact ⟨h3, rfl⟩
            · rw [if_neg h3] at hc; simp at hc
          · rw [if_neg h1] at hc; exact absurd hc h1
        rw [hY]
        refine Ev.bind (disk_Boundary_ev g rels _) ?_
        rw [Boundary_disk hp hy]
        have hb1 := bound_size hk
        have hb2 := bound_size hk2
        have q1 : (strOfNums (boundL rels d)).size + (strOfNums (boundL rels e)).size ≤ 9223372036854775807 := by omega
        simp only [if_true, if_pos q1]
        have hb : bytesOf (strOfNums (boundL rels d) ++ strOfNums (boundL rels e)) = boundL rels d ++ boundL rels e := by rw [bytesOf_app, bytesOf_bound hk, bytesOf_bound hk2]
        refine Ev.bind (ref_Reduce_ev _ (by rw [ByteArray.size_append]; omega) (by rw [hb]; exact allL_app (boundL_L hk) (boundL_L hk2))) ?_
        have hq : boundL rels (d ++ e) = redL [strOfNums (boundL rels d) ++ strOfNums (boundL rels e)] := by
          rw [redL_one, hb, boundL_red, boundL_red, boundL_red, red_red (diskL_L hk.rl hk.L) (diskL_L hk2.rl hk2.L), diskL_app]
        simp only [hq, if_true]
        exact group_j1 g rels d u hp hd
      · simp only [if_neg hc]
        exact group_j1 g rels d u hp hd
    · have : ((BoundaryS g rels e).2 != 0) = true := by unfold BoundaryS; rw [if_neg h2]; simpa using h2
      simp only [this]
      exact group_sane _ _ _ _ _ _ _
  · have h3 : ¬ (BoundaryS g rels d).2 = 0 := by unfold BoundaryS; rw [if_neg h1]; exact h1
    simp only [if_neg h3]
    exact group_sane _ _ _ _ _ _ _
end H
end Go.Proofs.Ytmmichdlgjcmoaa.PAll
