import Derived.Test.YtmmichdlgjcmoaaPAllx0
import Derived.OpenShut
import Derived.Test.YtmmichdlgjcmoaaPAllx3
import Derived.Test.YtmmichdlgjcmoaaPAllx8
import Derived.Test.YtmmichdlgjcmoaaPAllx2
import Derived.Test.YtmmichdlgjcmoaaExtE
import Derived.Test.YtmmichdlgjcmoaaExtM
import Derived.Test.YtmmichdlgjcmoaaPureK
namespace Go.Proofs.Ytmmichdlgjcmoaa.PAll
open Go.RowKit Go.Proofs.YtmmichdlgjcmoaaW.PrintWords Go.Proofs.YtmmichdlgjcmoaaW.PrintLast Go.Proofs.YtmmichdlgjcmoaaW.PrintMore H
set_option linter.unusedVariables false
set_option linter.unusedSimpArgs false
namespace H
theorem diskL_cat (rels : List ByteArray) (d e : List S59) : diskL rels (d ++ e) = diskL rels d ++ diskL rels e := by simp [diskL]
def relK (m : S52) : Nat := if m.f0 = 3 ∨ m.f0 = 4 then 1 else 0
def relC (ms : List S52) : Nat := (ms.map relK).sum
theorem relC_cons (m : S52) (ms : List S52) : relC (m :: ms) = relK m + relC ms := by simp [relC]
theorem moveS_count {g : Int} {rels : List ByteArray} {s v : ByteArray} {m : S52} {l : List S59} (h : moveS g rels s m = some (v, l)) : l.length = relK m := by
  unfold moveS at h
  unfold relK
  split at h
  · rename_i k
    rw [if_neg (by omega)]
    split at h
    · obtain ⟨rfl, rfl⟩ := Prod.mk.inj (Option.some.inj h); rfl
    · cases h
  · split at h
    · rename_i k
      rw [if_neg (by omega)]
      split at h
      · obtain ⟨rfl, rfl⟩ := Prod.mk.inj (Option.some.inj h); rfl
      · cases h
    · split at h
      · rename_i k
        rw [if_pos (by omega)]
        split at h
        · obtain ⟨rfl, rfl⟩ := Prod.mk.inj (Option.some.inj h); rfl
        · cases h
      · split at h
        · rename_i k
          rw [if_pos (by omega)]
          split at h
          · obtain ⟨rfl, rfl⟩ := Prod.mk.inj (Option.some.inj h); rfl
          · cases h
        · cases h
theorem walk_all {g : Int} {rels : List ByteArray} (hr : relsL rels) (hg : 1 ≤ g ∧ g ≤ 8) : ∀ (ms : List S52) (s : ByteArray) (cs : List S59) (x : ByteArray × List S59), s.size ≤ 100000 → allL (bytesOf s) → (∀ c ∈ cs, CellL rels c) → walkS g rels (s, cs) ms = some x →
    x.2.length = cs.length + relC ms ∧ Eqv (diskL rels x.2 ++ bytesOf x.1) (diskL rels cs ++ bytesOf s) := by
  intro ms
  induction ms with
  | nil =>
    intro s cs x hs hL hc h
    cases h
    exact ⟨rfl, Eqv.refl _⟩
  | cons m ms ih =>
    intro s cs x hs hL hc h
    rw [walkS_cons, step_move g rels s cs m hs] at h
    cases hm : moveS g rels s m with
    | none => rw [hm] at h; cases h
    | some y =>
      obtain ⟨v, l⟩ := y
      rw [hm, Option.bind_some] at h
      dsimp only at h
      by_cases hv : v.size ≤ 100000
      · rw [if_pos hv, Option.bind_some] at h
        have hl := moveS_L hr hg hs hL hm
        obtain ⟨h1, h2⟩ := ih v (cs ++ l) x hv hl.1 (fun c hc' => by
          rcases List.mem_append.1 hc' with h' | h'
          · exact hc c h'
          · exact (hl.2.2 c h').1) h
        refine ⟨?_, h2.trans ?_⟩
        · rw [h1, List.length_append, moveS_count hm, relC_cons]; omega
        · rw [diskL_cat, List.append_assoc]
          exact Eqv.left (move_eqv hr hg hs hL hm) (diskL_L hr hc)
      · rw [if_neg hv] at h; cases h
end H
end Go.Proofs.Ytmmichdlgjcmoaa.PAll
