import Derived.Test.YtmmichdlgjcmoaaPAllx0
import Derived.Test.YtmmichdlgjcmoaaPAllx13
import Derived.Test.YtmmichdlgjcmoaaPAllx17
import Derived.Test.YtmmichdlgjcmoaaPAllx18
import Derived.Test.YtmmichdlgjcmoaaPAllx19
import Derived.Test.YtmmichdlgjcmoaaPureJ
namespace Go.Proofs.Ytmmichdlgjcmoaa.PAll
open Go.RowKit Go.Proofs.YtmmichdlgjcmoaaW.PrintWords Go.Proofs.YtmmichdlgjcmoaaW.PrintLast Go.Proofs.YtmmichdlgjcmoaaW.PrintMore H
set_option linter.unusedVariables false
set_option linter.unusedSimpArgs false
namespace H
theorem ref_Apply_ev (g : Int) (rels : List ByteArray) (s : ByteArray) (ms : List S52) (hs : s.size ≤ 9223372036854775807) : Ev (fun k => cayleyref04_Apply.f k g rels s ms) (ApplyS g rels s ms) := by
  unfold cayleyref04_Apply.f ApplyS movesS
  refine Ev.bind (ref_checked_ev g rels [s] [] (by simp) (fun x hx => by simp at hx; rw [hx]; exact hs) (by simp) (fun x hx => by cases hx)) ?_
  by_cases he : examineS g rels [s] [] = 0
  · simp only [if_pos he]
    obtain ⟨hp, hw, _⟩ := examine_zero he
    have hw := hw s (by simp)
    by_cases hm : ms.length ≤ 100000
    · simp only [if_pos hm, if_neg (show ¬ (ms.length : Int) > 100000 by omega)]
      have := ref_Apply_l0 g rels (relsL_of hp) (isPresS_g hp) ms hm ms [] s [] rfl (isWordL_len hw) (allL_of hw)
      revert this
      cases walkS g rels (s, []) ms with
      | none => exact id
      | some x => exact id
    · simp only [if_neg hm, if_pos (show (ms.length : Int) > 100000 by omega)]
      exact Ev.now _
  · simp only [if_neg he]
    exact Ev.now _
theorem ref_carry_ev (g : Int) (rels : List ByteArray) (s : ByteArray) (ms : List S52) (hs : s.size ≤ 9223372036854775807) : Ev (fun k => cayleyref04_carry.f k g rels s ms) (match movesS g rels s ms with | .error e => (⟨#[]⟩, [], e) | .ok x => (x.1, x.2, 0)) := by
  unfold cayleyref04_carry.f movesS
  refine Ev.bind (ref_checked_ev g rels [s] [] (by simp) (fun x hx => by simp at hx; rw [hx]; exact hs) (by simp) (fun x hx => by cases hx)) ?_
  by_cases he : examineS g rels [s] [] = 0
  · simp only [if_pos he]
    obtain ⟨hp, hw, _⟩ := examine_zero he
    have hw := hw s (by simp)
    by_cases hm : ms.length ≤ 100000
    · simp only [if_pos hm, if_neg (show ¬ (ms.length : Int) > 100000 by omega)]
      have := ref_carry_l0 g rels (relsL_of hp) (isPresS_g hp) ms hm ms [] s [] rfl (isWordL_len hw) (allL_of hw) (by simp)
      revert this
      cases walkS g rels (s, []) ms with
      | none => exact id
      | some x => exact id
    · simp only [if_neg hm, if_pos (show (ms.length : Int) > 100000 by omega)]
      exact Ev.now _
  · simp only [if_neg he]
    exact Ev.now _
theorem movesS_ok {g : Int} {rels : List ByteArray} {s : ByteArray} {ms : List S52} {x : ByteArray × List S59} (h : movesS g rels s ms = .ok x) : isPresS g rels = true ∧ isWordL g (bytesOf s) = true ∧ ms.length ≤ 100000 ∧ walkS g rels (s, []) ms = some x := by
  unfold movesS at h
  split at h
  · rename_i he
    obtain ⟨hp, hw, _⟩ := examine_zero he
    split at h
    · rename_i hm
      refine ⟨hp, hw s (by simp), hm, ?_⟩
      cases hx : walkS g rels (s, []) ms with
      | none => rw [hx] at h; cases h
      | some y => rw [hx] at h; cases h; rfl
    · cases h
  · cases h
theorem movesS_inv {g : Int} {rels : List ByteArray} {s : ByteArray} {ms : List S52} {x : ByteArray × List S59} (h : movesS g rels s ms = .ok x) : x.1.size ≤ 100000 ∧ allL (bytesOf x.1) ∧ (∀ c ∈ x.2, CellL rels c ∧ c.f0.size ≤ 200000) ∧ x.2.length ≤ ms.length := by
  obtain ⟨hp, hw, hm, hx⟩ := movesS_ok h
  obtain ⟨h1, h2, h3, h4⟩ := walk_inv (relsL_of hp) (isPresS_g hp) ms s [] x (isWordL_len hw) (allL_of hw) (fun c hc => by cases hc) hx
  exact ⟨h1, h2, h3, by simpa using h4⟩
theorem movesS_came {g : Int} {rels : List ByteArray} {s : ByteArray} {ms : List S52} {x : ByteArray × List S59} (h : movesS g rels s ms = .ok x) : x.2.length ≤ 9223372036854775807 ∧ fits (x.2.map (·.f0)) := by
  obtain ⟨h1, h2, h3, h4⟩ := movesS_inv h
  have := (movesS_ok h).2.2.1
  refine ⟨by omega, fun y hy => ?_⟩
  obtain ⟨c, hc, rfl⟩ := List.mem_map.1 hy
  have := (h3 c hc).2
  omega
theorem ref_FromMoves_ev (g : Int) (rels : List ByteArray) (s : ByteArray) (ms : List S52) (hs : s.size ≤ 9223372036854775807) : Ev (fun k => cayleyref04_FromMoves.f k g rels s ms) (FromMovesS g rels s ms) := by
  unfold cayleyref04_FromMoves.f FromMovesS
  refine Ev.bind (ref_carry_ev g rels s ms hs) ?_
  cases hm : movesS g rels s ms with
  | error e =>
    simp only [if_neg (movesS_err hm)]
    exact Ev.now _
  | ok x =>
    simp only [if_true]
    have hc := movesS_came hm
    refine Ev.bind (ref_IsDisk_ev g rels (isPresS_g (movesS_ok hm).1) x.2 hc.1 hc.2) ?_
    by_cases hd : isDiskS g rels.length x.2 = true
    · simp only [if_pos hd]; exact Ev.now _
    · simp only [if_neg hd]; exact Ev.now _
theorem FromMovesS_len (g : Int) (rels : List ByteArray) (s : ByteArray) (ms : List S52) : (FromMovesS g rels s ms).1.length ≤ 9223372036854775807 := by
  unfold FromMovesS
  cases hm : movesS g rels s ms with
  | error e => simp
  | ok x =>
    by_cases hd : isDiskS g rels.length x.2 = true
    · simp only [if_pos hd]; exact (movesS_came hm).1
    · simp only [if_neg hd]; simp
theorem DiskMoves_ev (g : Int) (rels : List ByteArray) (s : ByteArray) (ms : List S52) (hs : s.size ≤ 9223372036854775807) : Ev (fun k => cayleylaw04_DiskMoves.f k g rels s ms) true := by
  unfold cayleylaw04_DiskMoves.f
  refine Ev.bind (ref_Apply_ev g rels s ms hs) ?_
  refine Ev.bind (ref_FromMoves_ev g rels s ms hs) ?_
  simp only [disk_Apply.f, disk_FromMoves.f, Option.bind_some]
  refine Ev.bind sane_ev ?_
  simp only [if_true]
  refine Ev.bind (ref_Same_ev _ (FromMovesS_len g rels s ms)) ?_
  simp only [if_true]
  refine Ev.congr (fun k => ?_) (Ev.now true)
  simp
end H
end Go.Proofs.Ytmmichdlgjcmoaa.PAll
