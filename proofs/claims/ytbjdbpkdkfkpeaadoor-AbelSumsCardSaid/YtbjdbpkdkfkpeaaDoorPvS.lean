import Derived.Test.YtbjdbpkdkfkpeaaDoorPvR
import Derived.OpenShut
namespace Go.Proofs.YtbjdbpkdkfkpeaaDoorEv
open Go Go.RowKit Go.ChangeShapes Go.WideShapes
open Go.ChangeMaps (open_string)
set_option linter.unusedVariables false
set_option linter.unusedSimpArgs false
section
variable {P : Program} {w : World} {GL : List Nat}
def DensOK : (ts : List Ty) → Pe ts → Prop
  | [], _ => True
  | t :: r, e => DenOK t e.1 ∧ DensOK r e.2
def tyCs (P : Program) (n : Nat) : List TypeId → Option (List Ty)
  | [] => some []
  | t :: r => match tyC P n t, tyCs P n r with
    | some a, some l => some (a :: l)
    | _, _ => none
theorem jn_agg (a r : Ty) (h : r.isAgg = true) : (jn a r).isAgg = true := by
  cases a <;> first | rfl | exact h
theorem tyS_agg : ∀ {n : Nat} {fs : List Field} {o m : Nat} {t : Ty}, tyS P n fs o m = some t → t.isAgg = true
  | 0, fs, o, m, t, h => by simp [tyS] at h
  | n + 1, [], o, m, t, h => by
    simp only [tyS] at h
    split at h
    · cases h; rfl
    · cases h
  | n + 1, f :: r, o, m, t, h => by
    simp only [tyS] at h
    split at h
    · rename_i a b h1 h2
      split at h
      · cases h; exact jn_agg _ _ (tyS_agg h2)
      · cases h
    · cases h
theorem tyC_shape {n : Nat} {ty : TypeId} {t : Ty} (h : tyC P n ty = some t) {r : Reach} {b0 : Nat} {v : Value} (hok : Value.okWide P w r b0 ty v) {D : Type} {enc : TypeId × Value → D} {base : Nat} {sp : Nat → Bool} {held : Bool} {d : DataW D} {ps : List MemPlace} (ht : DataW.Trod enc P w base sp held ty v d ps) :
    (t.isAgg = true ∧ ∃ cs, v = .agg cs) ∨ (t.isAgg = false ∧ isCell v = true) := by
  cases n with
  | zero => simp [tyC] at h
  | succ n =>
    simp only [tyC] at h
    split at h
    · rename_i k hu
      cases h
      obtain ⟨i, rfl, _⟩ := open_int hu hok ht
      exact .inr ⟨rfl, rfl⟩
    · rename_i hu
      cases h
      obtain ⟨i, rfl, _⟩ := open_bool hu hok ht
      exact .inr ⟨rfl, rfl⟩
    · rename_i hu
      cases h
      obtain ⟨i, rfl, _⟩ := open_string hu hok ht
      exact .inr ⟨rfl, rfl⟩
    · rename_i e hu
      split at h
      · split at h
        · cases h
          obtain ⟨a, len, cap, rfl⟩ := okWide_slice hu hok
          exact .inr ⟨rfl, rfl⟩
        · cases h
      · cases h
    · rename_i k e hu
      split at h
      · split at h
        · cases h
          simp only [Value.okWide, hu] at hok
          obtain ⟨cs, h1, _⟩ := hok
          exact .inl ⟨rfl, cs, h1⟩
        · cases h
      · cases h
    · rename_i fs hu
      obtain ⟨cs, rfl, _⟩ := okWide_struct hu hok
      exact .inl ⟨tyS_agg h, cs, rfl⟩
    · cases h
theorem args_open {n : Nat} {D : Type} {enc : TypeId × Value → D} {base b0 : Nat} {sp : Nat → Bool} {held : Bool} {r : Reach} : ∀ {params : List TypeId} {ts : List Ty} {vs : List Value} {ds : List (DataW D)} {ps : List MemPlace}, tyCs P n params = some ts → DataW.TrodAll enc P w base sp held params vs ds ps →
    (∀ (j : Nat) t v, params[j]? = some t → vs[j]? = some v → Value.okWide P w r b0 t v) → ∀ H ι, WR GL ι H w → AllRo ι →
    ∃ H' ι' e vm, Ext ι ι' ∧ Kept H H' ∧ WR GL ι' H' w ∧ AllRo ι' ∧ ArgsOK H' (fun b => b < H'.size) ts e vm ∧ All2 (VR ι') vm vs ∧ DensOK ts e
  | [], ts, vs, ds, ps, h, hA, hok, H, ι, hw, hr => by
    simp only [tyCs] at h
    cases h
    cases vs with
    | nil => exact ⟨H, ι, (), [], Ext.refl ι, Kept.refl H, hw, hr, trivial, trivial, trivial⟩
    | cons v vs => cases ds <;> exact hA.elim
  | ty :: params, ts, vs, ds, ps, h, hA, hok, H, ι, hw, hr => by
    simp only [tyCs] at h
    split at h
    · rename_i t l h1 h2
      cases h
      obtain ⟨v, vs', d, ds', p, q, rfl, rfl, rfl, h3, h4⟩ := trodAll_cons hA
      have hokv := hok 0 ty v rfl rfl
      have hsh := tyC_shape h1 hokv h3
      obtain ⟨fuel, h5⟩ := h3
      obtain ⟨H1, ι1, x, cm, a1, a2, a3, a4, a5, a6, a7⟩ := (opn (GL := GL) n).1 ty t h1 h5 H ι hw hr
      obtain ⟨H2, ι2, e, vm, b1, b2, b3, b4, b5, b6, b7⟩ := args_open h2 h4 (fun j t v e1 e2 => hok (j + 1) t v (by simpa using e1) (by simpa using e2)) H1 ι1 a3 a4
      have hrep := rep_kept b2 a5
      have hvr := vrs_ext b1 a6
      rcases hsh with ⟨g1, cs, rfl⟩ | ⟨g1, g2⟩
      · refine ⟨H2, ι2, (x, e), .agg cm.toArray :: vm, a1.trans b1, a2.trans b2, b3, b4, ⟨?_, b5⟩, ⟨?_, b6⟩, a7, b7⟩
        · unfold RepV
          rw [if_pos g1]
          exact ⟨cm, rfl, hrep⟩
        · have hl : cm.length = cs.toList.length := hvr.length
          refine .agg _ _ (by simpa using hl) fun j v v' e1 e2 => ?_
          obtain ⟨v2, e3, e4⟩ := hvr.get j (by simpa using e1)
          have e2' : cs.toList[j]? = some v' := by simpa using e2
          have e3' : cs.toList[j]? = some v2 := e3
          rw [e2'] at e3'
          cases e3'
          exact e4
      · rw [cell_cells g2] at hvr
        obtain ⟨c0, rfl⟩ : ∃ c0, cm = [c0] := by
          have hl := hvr.length
          match cm, hl with
          | [c0], _ => exact ⟨c0, rfl⟩
        refine ⟨H2, ι2, (x, e), c0 :: vm, a1.trans b1, a2.trans b2, b3, b4, ⟨?_, b5⟩, ⟨hvr.1, b6⟩, a7, b7⟩
        unfold RepV
        rw [if_neg (by rw [g1]; decide)]
        exact hrep
    · cases h
theorem trodAll_lt {D : Type} {enc : TypeId × Value → D} {sp : Nat → Bool} {held : Bool} {base : Nat} : ∀ {params : List TypeId} {vs : List Value} {ds : List (DataW D)} {ps : List MemPlace}, DataW.TrodAll enc P w base sp held params vs ds ps → ∀ x ∈ ps, x.block < w.heap.size
  | [], vs, ds, ps, h, x, hx => by
    cases vs <;> cases ds <;> simp [DataW.TrodAll] at h
    subst h; cases hx
  | t :: params, vs, ds, ps, h, x, hx => by
    obtain ⟨v, vs', d, ds', p, q, rfl, rfl, rfl, h3, h4⟩ := trodAll_cons h
    rcases List.mem_append.1 hx with hx | hx
    · obtain ⟨m, hm⟩ := h3
      exact DataW.trod_lt m _ _ _ hm x hx
    · exact trodAll_lt h4 x hx
theorem trodAll_back {D : Type} {enc : TypeId × Value → D} {w' : World} (hl : laidOutB P = true) (hb : Below w.heap.size w w') : ∀ {params : List TypeId} {vs : List Value} {ds : List (DataW D)} {ps : List MemPlace}, (params.all fun t => P.readableRec t && decide (t < P.types.size)) = true → DataW.TrodAll enc P w 0 (fun _ => true) true params vs ds ps →
    DataW.TrodAll enc P w' 0 (fun b => decide (b < w.heap.size)) true params vs ds ps
  | [], vs, ds, ps, _, h => by
    cases vs <;> cases ds <;> exact h
  | t :: params, vs, ds, ps, hr, h => by
    have hlt := trodAll_lt h
    obtain ⟨v, vs', d, ds', p, q, rfl, rfl, rfl, h3, h4⟩ := trodAll_cons h
    simp only [List.all_cons, Bool.and_eq_true, decide_eq_true_eq] at hr
    exact trodAll_cons_mk (Below.trod hl hr.1.1 hr.1.2 h3 hb fun x hx => hlt x (List.mem_append_left _ hx)) (trodAll_back hl hb hr.2 h4)
end
section
variable {P : Program} {GL : List Nat}
open Classical in
noncomputable def orc (f : Nat) (G : Hp → Prop) : Caller := fun g a H => if g = f ∧ a = #[] ∧ G H then some (.ret (.bool true) H) else none
theorem orc_ok {f : Nat} {G : Hp → Prop} (hb : HasBody P f) (h : ∀ (ι : Inj) (H : Hp) (w : World), WR GL ι H w → G H → Calls P f #[] w fun e w' => e = .returned (.bool true) ∧ Below w.heap.size w w') : CallOK P GL (orc f G) := by
  intro g a H r hr
  unfold orc at hr
  split at hr
  · rename_i hc
    obtain ⟨rfl, rfl, hG⟩ := hc
    cases hr
    refine ⟨hb, fun ι w args' hw hva => ?_⟩
    have ha : args' = #[] := by
      have := hva.1
      simp at this
      exact Array.eq_empty_of_size_eq_zero this.symm
    subst ha
    refine (h ι H w hw hG).mono ?_
    rintro e w' ⟨rfl, hbl⟩
    refine ⟨.bool true, ι, rfl, ⟨Ext.refl ι, fun b i h1 h2 => by rw [h1] at h2; cases h2⟩, .bool true, ?_, ?_, Nat.le_refl _⟩
    · refine ⟨fun b i hbi => ?_, fun b i hbi => ?_, hw.inj, hw.glob⟩
      · obtain ⟨o, h1, h2⟩ := hw.obj b i hbi
        exact ⟨o, h1, h2.mono (Ext.refl ι) (hbl.block _ (hw.dom b i hbi).2)⟩
      · have := hw.dom b i hbi
        exact ⟨this.1, Nat.lt_of_lt_of_le this.2 hbl.size⟩
    · exact ⟨hbl.os, hbl.tape, hbl.output, hbl.size, fun c hc _ => hbl.block c hc⟩
  · cases hr
end
end Go.Proofs.YtbjdbpkdkfkpeaaDoorEv
