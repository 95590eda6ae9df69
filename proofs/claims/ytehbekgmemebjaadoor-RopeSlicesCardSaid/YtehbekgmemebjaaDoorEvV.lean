import Derived.Test.YtehbekgmemebjaaDoorEvS
import Derived.Below
namespace Go.Proofs.YtehbekgmemebjaaDoorEv
open Go Go.RowKit
set_option linter.unusedVariables false
set_option linter.unusedSimpArgs false
variable {P : Program} {GL : List Nat} {ι : Inj} {H : Hp} {w : World}
def AllRo (ι : Inj) : Prop := ∀ b i, ι b = some i → i.ro = true
theorem Fr.below {w' : World} (hr : AllRo ι) (h : Fr ι w w') : Below w.heap.size w w' :=
  ⟨h.os, h.tape, h.output, h.size, fun c hc => h.block c hc fun b i hb hro => by rw [hr b i hb] at hro; cases hro⟩
theorem WR.empty (w : World) : WR [] (fun _ => none) ⟨0, .nil⟩ w where
  obj := fun b i h => by cases h
  dom := fun b i h => by cases h
  inj := fun b b' i i' h => by cases h
  glob := fun g hg => by cases hg
theorem AllRo.empty : AllRo (fun _ => none) := fun b i h => by cases h
theorem WR.view (h : WR GL ι H w) (hr : AllRo ι) {c d : Nat} {cs : List Value} {ccs : Array Value} {e : TypeId} {fr : Nat × Nat} (hb : w.heap[c]? = some (.cells ccs e fr)) (hl : d + cs.length ≤ ccs.size)
    (hv : ∀ j v, cs[j]? = some v → ∃ v', ccs[d + j]? = some v' ∧ VR ι v v') :
    WR GL (ι.add H.size ⟨c, d, 0, ccs.size, true⟩) (H.new (.cells cs ⟨0, 0, false⟩ true)) w := by
  have hx := add_ext (i := ⟨c, d, 0, ccs.size, true⟩) h.lt
  have hlt : c < w.heap.size := (Array.getElem?_eq_some_iff.1 hb).1
  refine ⟨?_, ?_, ?_, ?_⟩
  · intro b j hj
    unfold Inj.add at hj
    split at hj
    · subst_vars; cases hj
      refine ⟨.cells cs ⟨0, 0, false⟩ true, by rw [Hp.get_new, if_pos rfl], ⟨rfl, fun h => (by cases h)⟩, rfl, ccs, e, fr, hb, rfl, fun h => (by cases h), hl, fun j v hv' => ?_⟩
      obtain ⟨v', a, b⟩ := hv j v hv'
      exact ⟨v', a, b.ext hx⟩
    · obtain ⟨o1, hg, hk⟩ := h.obj b j hj
      have := h.dom b j hj
      exact ⟨o1, by rw [Hp.get_new, if_neg (by omega)]; exact hg, hk.mono hx rfl⟩
  · intro b j hj
    unfold Inj.add at hj
    split at hj
    · subst_vars; cases hj
      exact ⟨by rw [Hp.size_new]; omega, hlt⟩
    · have := h.dom b j hj
      exact ⟨by rw [Hp.size_new]; omega, this.2⟩
  · intro b b' j j' hj hj' hne hl1 hl2 hro
    unfold Inj.add at hj hj'
    split at hj <;> split at hj'
    · subst_vars; exact absurd rfl hne
    · cases hj; cases hro
    · rw [hr _ _ hj] at hro; cases hro
    · have d1 := h.dom _ _ hj
      have d2 := h.dom _ _ hj'
      rw [Hp.get_new, if_neg (by omega)] at hl1 hl2
      exact h.inj b b' j j' hj hj' hne hl1 hl2 hro
  · intro g hg
    obtain ⟨j, e1, r⟩ := h.glob g hg
    exact ⟨j, hx _ _ e1, r⟩
theorem AllRo.add (h : AllRo ι) {n : Nat} {i : BI} (hi : i.ro = true) : AllRo (ι.add n i) := by
  intro b j hj
  unfold Inj.add at hj
  split at hj
  · cases hj; exact hi
  · exact h b j hj
theorem WR.ghost (h : WR GL ι H w) (o : AObj) : WR GL ι (H.new o) w := by
  refine ⟨?_, ?_, ?_, h.glob⟩
  · intro b j hj
    obtain ⟨o1, hg, hk⟩ := h.obj b j hj
    have := h.dom b j hj
    exact ⟨o1, by rw [Hp.get_new, if_neg (by omega)]; exact hg, hk⟩
  · intro b j hj
    have := h.dom b j hj
    exact ⟨by rw [Hp.size_new]; omega, this.2⟩
  · intro b b' j j' hj hj' hne hl1 hl2 hro
    have d1 := h.dom _ _ hj
    have d2 := h.dom _ _ hj'
    rw [Hp.get_new, if_neg (by omega)] at hl1 hl2
    exact h.inj b b' j j' hj hj' hne hl1 hl2 hro
theorem WR.globs (h : WR GL ι H w) {GL' : List Nat} (hg : ∀ g, g ∈ GL' → ∃ i, ι g = some i ∧ i.c = g ∧ i.d = 0) : WR GL' ι H w := ⟨h.obj, h.dom, h.inj, hg⟩
end Go.Proofs.YtehbekgmemebjaaDoorEv
