import Derived.Test.YtehbekgmemebjaaDoorWMore
import Derived.Deep.Slices
import Derived.ProofKit
namespace Go.Proofs.YtehbekgmemebjaaDoorOpen
open Go.RowKit Go.Proofs.YtehbekgmemebjaaDoorW.PrintWords Go.Proofs.YtehbekgmemebjaaDoorW.PrintLast Go.Proofs.YtehbekgmemebjaaDoorW.PrintMore
structure Opens {α : Type} (P : Program) (t : TypeId) (k : Kd α) (W : α → Prop) : Prop where
  out : ∀ {H : Type} {enc : TypeId × Value → H} {w : World} {base : Nat} {spare : Nat → Bool} {held : Bool} {fuel : Nat} {cs : List Value} {x : DataW H × List MemPlace},
    DataW.trod enc P w base spare held fuel t cs = some x → ∃ a, k.K w a cs ∧ W a
section
variable {P : Program} {t e : TypeId}
theorem opens_int {k : IntKind} (ht : P.underlying t = some (.int k)) : Opens P t (Kd.int k) (fun n => (Lit.int k n).wf = true) := ⟨fun h => by
  obtain ⟨n, rfl, rfl, hw⟩ := DataW.trod_int ht h
  exact ⟨n, rfl, hw⟩⟩
theorem opens_string (ht : P.underlying t = some .string) : Opens P t Kd.string (fun s => s.size ≤ maxLen) := ⟨fun h => by
  obtain ⟨s, rfl, rfl, hs⟩ := DataW.trod_string ht h
  exact ⟨s, rfl, hs⟩⟩
structure Tail {α : Type} (P : Program) (fs : List Field) (n i o : Nat) (k : Kd α) (W : α → Prop) : Prop where
  out : ∀ {H : Type} {enc : TypeId × Value → H} {w : World} {base : Nat} {spare : Nat → Bool} {held : Bool} {fuel : Nat} {cs : List Value},
    cs.length = n → (∀ (j : Nat) (f : Field), fs[j]? = some f → i ≤ j → ∃ x, DataW.trod enc P w base spare held fuel f.type ((cs.drop f.offset).take (P.cellsOf f.type)) = some x) → ∃ a, k.K w a (cs.drop o) ∧ W a
theorem tail_last {α : Type} {fs : List Field} {n i o : Nat} {k : Kd α} {W : α → Prop} (f : Field) (hf : fs[i]? = some f) (ho : f.offset = o) (hn : n = o + P.cellsOf f.type) (hk : Opens P f.type k W) : Tail P fs n i o k W := by
  refine ⟨?_⟩
  intro H enc w base spare held fuel cs hl h
  obtain ⟨x, hx⟩ := h i f hf (Nat.le_refl _)
  subst ho
  rw [List.take_of_length_le (by rw [List.length_drop]; omega)] at hx
  exact hk.out hx
theorem tail_cons {α β : Type} {fs : List Field} {n i o o' : Nat} {k : Kd α} {W : α → Prop} {k' : Kd β} {W' : β → Prop} (f : Field) (hf : fs[i]? = some f) (ho : f.offset = o) (hs : P.cellsOf f.type = k.sz) (ho' : o' = o + k.sz) (hk : Opens P f.type k W) (ht : Tail P fs n (i + 1) o' k' W') :
    Tail P fs n i o (Kd.pair k k') (fun a => W a.1 ∧ W' a.2) := by
  refine ⟨?_⟩
  intro H enc w base spare held fuel cs hl h
  obtain ⟨x, hx⟩ := h i f hf (Nat.le_refl _)
  obtain ⟨a, ha, wa⟩ := hk.out hx
  obtain ⟨b, hb, wb⟩ := ht.out hl (fun j g hg hj => h j g hg (by omega))
  refine ⟨(a, b), ⟨_, _, ?_, ha, hb⟩, wa, wb⟩
  subst ho ho'
  rw [hs, ← List.drop_drop, List.take_append_drop]
theorem opens_struct {α β : Type} {fs : Array Field} (ht : P.underlying t = some (.struct fs)) {d : Kd β} {W : β → Prop} (f : α → β) (g : β → α) (hfg : ∀ b, f (g b) = b) (h : Tail P fs.toList (P.cellsOf t) 0 0 d W) : Opens P t (Kd.iso d f) (fun a => W (f a)) := by
  refine ⟨?_⟩
  intro H enc w base spare held fuel cs x hx
  obtain ⟨xs, n, _, _, hl, hlen, hf⟩ := DataW.trod_struct ht hx
  obtain ⟨b, hb, wb⟩ := h.out (enc := enc) (w := w) (base := base) (spare := spare) (held := held) (fuel := n) (cs := cs) hl (fun j fd hj _ => by
    have hj' : fs[j]? = some fd := by simpa using hj
    have hlt : j < fs.size := (Array.getElem?_eq_some_iff.1 hj').1
    exact ⟨xs[j]'(by omega), (hf j fd hj').trans (List.getElem?_eq_getElem (by omega))⟩)
  refine ⟨g b, ?_, ?_⟩
  · show d.K w (f (g b)) cs
    rw [hfg]; simpa using hb
  · show W (f (g b))
    rw [hfg]; exact wb
theorem add_same (a : Addr) (i j : Nat) : (a.add i).add j = a.add (i + j) := add_add a i j
theorem opens_slice {α : Type} {k : Kd α} {W : α → Prop} (ht : P.underlying t = some (.slice e)) (hc : P.cellsOf e = k.sz) (hk : Opens P e k W) : Opens P t (Kd.slice e k) (fun xs => ∀ x ∈ xs, W x) := by
  refine ⟨?_⟩
  intro H enc w base spare held fuel cs x hx
  rcases Deep.open_slice ht hx with ⟨rfl, rfl⟩ | ⟨a, len, cap, m, n, D, Pl, rfl, hb, hl, hm, hme, rfl, hel⟩
  · exact ⟨[], ⟨none, 0, rfl, Nat.le_refl _, Kd.C_nil k w⟩, fun x hx => by cases hx⟩
  · have hlm : len ≤ m := by rw [hme]; split <;> omega
    have hall : ∀ i, i < len → ∃ (y : α), ∃ cs', w.cells? base (a.add (i * P.cellsOf e)) (P.cellsOf e) = some cs' ∧ k.K w y cs' ∧ W y := fun i hi => by
      obtain ⟨cs', h1, h2⟩ := hel i (by omega)
      obtain ⟨y, hy, wy⟩ := hk.out h2
      exact ⟨y, cs', h1, hy, wy⟩
    have hex : ∃ f : (i : Nat) → i < len → α, ∀ i hi, ∃ cs', w.cells? base (a.add (i * P.cellsOf e)) (P.cellsOf e) = some cs' ∧ k.K w (f i hi) cs' ∧ W (f i hi) :=
      ⟨fun i hi => Classical.choose (hall i hi), fun i hi => Classical.choose_spec (hall i hi)⟩
    obtain ⟨f, hf⟩ := hex
    have hln : (List.ofFn (fun i : Fin len => f i.1 i.2)).length = len := List.length_ofFn
    refine ⟨List.ofFn (fun i : Fin len => f i.1 i.2), ⟨some a, cap, by rw [hln], by rw [hln]; exact hl, ⟨rfl, by rw [hln]; unfold maxLen at hm; omega, fun hp => ⟨a, rfl, fun j p hj => ?_⟩⟩⟩, fun x hx => ?_⟩
    · have hjl : j < len := by
        have := (List.getElem?_eq_some_iff.1 hj).1
        rwa [hln] at this
      have hp' : f j hjl = p := by
        rw [List.getElem?_eq_getElem (by rw [hln]; exact hjl)] at hj
        simpa using hj
      obtain ⟨cs', h1, h2, _⟩ := hf j hjl
      obtain ⟨_, hlen, hcell⟩ := World.cells?_some h1
      rw [hp'] at h2
      refine ⟨cs', hlen.trans hc, h2, fun i u hi => ?_⟩
      have hil : i < P.cellsOf e := by
        have := (List.getElem?_eq_some_iff.1 hi).1
        omega
      have := hcell i hil
      rw [add_same, hi, hc] at this
      exact this
    · obtain ⟨i, rfl⟩ := List.mem_ofFn.1 hx
      obtain ⟨_, _, _, h3⟩ := hf i.1 i.2
      exact h3
theorem opens_imp {α : Type} {k : Kd α} {W W' : α → Prop} (h : Opens P t k W) (hi : ∀ a, W a → W' a) : Opens P t k W' := ⟨fun hx => by
  obtain ⟨a, h1, h2⟩ := h.out hx
  exact ⟨a, h1, hi a h2⟩⟩
end
end Go.Proofs.YtehbekgmemebjaaDoorOpen
