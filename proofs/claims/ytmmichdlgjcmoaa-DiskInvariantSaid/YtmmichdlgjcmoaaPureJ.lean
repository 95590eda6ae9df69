import Derived.Test.YtmmichdlgjcmoaaPAllx0
import Derived.Test.YtmmichdlgjcmoaaPAllx2
import Derived.OpenShut
import Derived.Test.YtmmichdlgjcmoaaPAllx3
import Derived.Test.YtmmichdlgjcmoaaExtE
import Derived.Test.YtmmichdlgjcmoaaPAllx8
import Derived.Test.YtmmichdlgjcmoaaExtM
import Derived.Test.YtmmichdlgjcmoaaPureI
import Derived.Test.YtmmichdlgjcmoaaPureD
namespace Go.Proofs.Ytmmichdlgjcmoaa.PAll
open Go.RowKit Go.Proofs.YtmmichdlgjcmoaaW.PrintWords Go.Proofs.YtmmichdlgjcmoaaW.PrintLast Go.Proofs.YtmmichdlgjcmoaaW.PrintMore H
set_option linter.unusedVariables false
set_option linter.unusedSimpArgs false
namespace H
theorem pref_iff {s t : ByteArray} {a : Int} (h0 : 0 ≤ a) (h1 : a ≤ s.size) : prefB (s.extract a.toNat s.size) t = true ↔ ¬ (s.size : Int) - a < t.size ∧ (s.extract a.toNat (a + (t.size : Int)).toNat).toList = t.toList := by
  unfold prefB
  rw [ByteArray.size_extract, ByteArray.extract_extract, Bool.and_eq_true, decide_eq_true_eq, beq_iff_eq]
  refine ⟨fun h => ⟨by omega, ?_⟩, fun h => ⟨by omega, ?_⟩⟩
  · rw [← h.2]; congr 2; omega
  · rw [← h.2]; congr 2; omega
theorem walkS_cons (g : Int) (rels : List ByteArray) (x : ByteArray × List S59) (m : S52) (ms : List S52) : walkS g rels x (m :: ms) = (stepS g rels x m).bind fun y => walkS g rels y ms := rfl
theorem walk_inv {g : Int} {rels : List ByteArray} (hr : relsL rels) (hg : 1 ≤ g ∧ g ≤ 8) : ∀ (ms : List S52) (s : ByteArray) (cs : List S59) (x : ByteArray × List S59), s.size ≤ 100000 → allL (bytesOf s) → (∀ c ∈ cs, CellL rels c ∧ c.f0.size ≤ 200000) → walkS g rels (s, cs) ms = some x →
    x.1.size ≤ 100000 ∧ allL (bytesOf x.1) ∧ (∀ c ∈ x.2, CellL rels c ∧ c.f0.size ≤ 200000) ∧ x.2.length ≤ cs.length + ms.length := by
  intro ms
  induction ms with
  | nil =>
    intro s cs x hs hL hc h
    cases h
    exact ⟨hs, hL, hc, Nat.le_refl _⟩
  | cons m ms ih =>
    intro s cs x hs hL hc h
    rw [walkS_cons, step_move g rels s cs m hs] at h
    cases hm : moveS g rels s m with
    | none => rw [hm] at h; cases h
    | some y =>
      obtain ⟨v, l⟩ := y
      rw [hm, Option.bind_some] at h
      dsimp only at h
      by_cases hv : v.size ≤ 100000
      · rw [if_pos hv, Option.bind_some] at h
        have hl := moveS_L hr hg hs hL hm
        obtain ⟨h1, h2, h3, h4⟩ := ih v (cs ++ l) x hv hl.1 (fun c hc' => by
          rcases List.mem_append.1 hc' with h' | h'
          · exact hc c h'
          · exact hl.2.2 c h') h
        refine ⟨h1, h2, h3, ?_⟩
        have := hl.2.1
        rw [List.length_append] at h4
        rw [List.length_cons]
        omega
      · rw [if_neg hv] at h; cases h
end H
end Go.Proofs.Ytmmichdlgjcmoaa.PAll
