import Derived.Test.YtbjdbpkdkfkpeaaDoorEvC
namespace Go.Proofs.YtbjdbpkdkfkpeaaDoorEv
open Go
set_option linter.unusedVariables false
set_option linter.unusedSimpArgs false
variable {P : Program} {GL : List Nat} {ι : Inj} {H : Hp} {w : World}
theorem zeroOf_size {t : TypeId} {z : Array Value} (h : zeroOf P t = some z) : ∃ i, P.info? t = some i ∧ z.size = i.size := by
  unfold zeroOf at h
  cases hz : (P.info? t).bind (·.zero) with
  | none => simp [hz] at h
  | some zv =>
    simp only [hz] at h
    split at h
    · rename_i hf
      cases h
      simp only [Bool.and_eq_true] at hf
      cases hi : P.info? t with
      | none => simp [hi] at hz
      | some i => simp [hi] at hf; exact ⟨i, rfl, hf.2⟩
    · cases h
theorem zeroOf_run {t : TypeId} {z : Array Value} (h : zeroOf P t = some z) : ∃ zv, (∀ w, (zeroValue t).run P w = .ok zv w) ∧ zv.cells = z ∧ flatCells z = true ∧ (P.info? t).bind (·.zero) = some zv := by
  unfold zeroOf at h
  cases hz : (P.info? t).bind (·.zero) with
  | none => simp [hz] at h
  | some zv =>
    simp only [hz] at h
    split at h
    · rename_i hf
      cases h
      simp only [Bool.and_eq_true] at hf
      cases hi : P.info? t with
      | none => simp [hi] at hz
      | some i =>
        simp [hi] at hz
        exact ⟨zv, fun w => by simp [zeroValue, typeInfo, hi, hz], rfl, hf.1.1, by simp⟩
    · cases h
theorem zeroVal_run {t : TypeId} {z : Value} (h : zeroVal P t = some z) : (∀ w, (zeroValue t).run P w = .ok z w) ∧ flat 3 z = true := by
  unfold zeroVal at h
  cases hz : (P.info? t).bind (·.zero) with
  | none => simp [hz] at h
  | some zv =>
    simp only [hz] at h
    split at h
    · rename_i hf
      cases h
      cases hi : P.info? t with
      | none => simp [hi] at hz
      | some i =>
        simp [hi] at hz
        exact ⟨fun w => by simp [zeroValue, typeInfo, hi, hz], hf⟩
    · cases h
theorem sizeQ_run {t : TypeId} {n : Nat} (h : sizeQ P t = some n) : ∀ w, (sizeOf t).run P w = .ok n w := by
  intro w
  unfold sizeQ at h
  cases hi : P.info? t with
  | none => simp [hi] at h
  | some i => simp [hi] at h; simp [sizeOf, typeInfo, hi, h]
theorem aggQ_run {t : TypeId} {b : Bool} (h : aggQ P t = some b) : ∀ w, (isAgg t).run P w = .ok b w := by
  intro w
  unfold aggQ at h
  cases hu : P.underlying t with
  | none => simp [hu] at h
  | some d => cases d <;> simp [hu] at h <;> subst h <;> simp [isAgg, run_underlying hu]
theorem flatCells_VA (ι : Inj) {z : Array Value} (h : flatCells z = true) : VA ι z z :=
  ⟨rfl, fun j v v' e e' => by
    rw [e] at e'; cases e'
    simp only [flatCells, Array.all_eq_true_iff_forall_mem, Bool.and_eq_true] at h
    exact flatVR ι 3 v (h v (Array.mem_of_getElem? e)).1⟩
theorem flatCells_cell {z : Array Value} (h : flatCells z = true) : ∀ v ∈ z, isCell v = true := fun v hv => by
  simp only [flatCells, Array.all_eq_true_iff_forall_mem, Bool.and_eq_true] at h
  exact (h v hv).2
theorem step_cells (hw : WR GL ι H w) (cs : List Value) (cs' : Array Value) (e : TypeId) (u : UT) (w0 : World) (hh : w0.heap = w.heap) (h1 : w0.os = w.os) (h2 : w0.tape = w.tape) (h3 : w0.output = w.output)
    (hl : cs.length ≤ cs'.size) (hv : ∀ (j : Nat) (v : Value), cs[j]? = some v → ∃ v', cs'[j]? = some v' ∧ VR ι v v') (fr : Nat × Nat) (hfr : (∀ x, x < cs'.size → ¬ (fr.1 ≤ x ∧ x < fr.2)) ∧ (u.z = true → fr = (0, 0)) ∧ e = u.ty ∧ (u.u = 0 → cs.length = cs'.size) ∧ (u.u ≠ 0 → u.z = true → cs'.size ≤ 9223372036854775807 * u.u)) (w' : World) (hw' : w' = { w0 with heap := w0.heap.push (.cells cs' e fr) }) :
    let i : BI := { c := w.heap.size, d := 0, u := u.u, cn := cs'.size, ro := false }
    WR GL (ι.add H.size i) (H.new (.cells cs u false)) w' ∧ New ι (ι.add H.size i) H.size w ∧ Fr ι w w' := by
  intro i
  refine hw.alloc _ (.cells cs' e fr) i w' (by rw [hw']; simp [hh]) rfl rfl ?_ (by rw [hw']; exact h1) (by rw [hw']; exact h2) (by rw [hw']; exact h3)
  have hx := add_ext (i := i) hw.lt
  refine ⟨⟨rfl, fun _ => rfl⟩, rfl, cs', e, fr, ?_, rfl, fun _ => ⟨hfr.1, hfr.2.1, hfr.2.2.1, fun h => by have := hfr.2.2.2.1 h; simp [i]; omega, hfr.2.2.2.2⟩, by simpa [i] using hl, fun j v hj => ?_⟩
  · rw [hw']; simp [hh, i]
  · obtain ⟨v', a, b⟩ := hv j v hj
    exact ⟨v', by simpa [i] using a, b.ext hx⟩
theorem sound_new {e : TypeId} {z : Array Value} (hz : zeroOf P e = some z) (hw : WR GL ι H w) :
    Step GL ι H w (.pointer (some ⟨H.size, 0, none⟩)) (H.new (.cells z.toList ⟨0, e, true⟩ false)) ((do pure (.value (← Instr.alloc e true (.tuple #[]))) : Sem Next).run P w) := by
  obtain ⟨zv, hr, hc, hf, _⟩ := zeroOf_run hz
  have hva := flatCells_VA ι hf
  obtain ⟨a, b, c⟩ := step_cells hw z.toList z e ⟨0, e, true⟩ w rfl rfl rfl rfl (by simp) (fun j v hj => ⟨v, by simpa using hj, hva.2 j v v (by simpa using hj) (by simpa using hj)⟩) (0, 0) ⟨fun x _ => by simp, fun _ => rfl, rfl, fun _ => by simp, fun h => absurd rfl h⟩ _ rfl
  refine ⟨.pointer (some ⟨w.heap.size, 0, none⟩), _, _, .inl ?_, b, .ptr _ _ _ (add_same _ _ _), a, c, by rw [Hp.size_new]; omega⟩
  simp [Instr.alloc, hr, newVar, newRow, newObj, Sem.run, hc]
theorem sound_box {e : TypeId} {v v' : Value} (hv : VR ι v v') (hw : WR GL ι H w) :
    Step GL ι H w (.pointer (some ⟨H.size, 0, none⟩)) (H.new (.cells v.cells.toList ⟨0, e, true⟩ false)) ((do pure (.value (← Instr.box e v')) : Sem Next).run P w) := by
  have hva := hv.cells
  obtain ⟨a, b, c⟩ := step_cells hw v.cells.toList v'.cells e ⟨0, e, true⟩ w rfl rfl rfl rfl (by simp [hva.1]) (fun j x hj => by
    have hx : v.cells[j]? = some x := by simpa using hj
    have hlt : j < v'.cells.size := by rw [← hva.1]; exact (Array.getElem?_eq_some_iff.1 hx).1
    exact ⟨v'.cells[j], by simp [hlt], hva.2 j x _ hx (by simp [hlt])⟩) (0, 0) ⟨fun x _ => by simp, fun _ => rfl, rfl, fun _ => by simp [hva.1], fun h => absurd rfl h⟩ _ rfl
  refine ⟨.pointer (some ⟨w.heap.size, 0, none⟩), _, _, .inl ?_, b, .ptr _ _ _ (add_same _ _ _), a, c, by rw [Hp.size_new]; omega⟩
  simp [Instr.box, newVar, newRow, newObj, Sem.run]
def PL (ι : Inj) (l l' : List (Nat × Value)) : Prop := l.length = l'.length ∧ ∀ (j : Nat) (p p' : Nat × Value), l[j]? = some p → l'[j]? = some p' → p.1 = p'.1 ∧ VR ι p.2 p'.2
theorem put_rel {cs cs' : Array Value} (h : VA ι cs cs') (o : Nat) : ∀ (l l' : List (Value × Nat)), l.length = l'.length → (∀ (j : Nat) (p p' : Value × Nat), l[j]? = some p → l'[j]? = some p' → p.2 = p'.2 ∧ VR ι p.1 p'.1) →
    VA ι (l.foldl (fun cs (c, j) => cs.setIfInBounds (o + j) c) cs) (l'.foldl (fun cs (c, j) => cs.setIfInBounds (o + j) c) cs') := by
  intro l
  induction l generalizing cs cs' with
  | nil => intro l' hl _; cases l' with
    | nil => exact h
    | cons _ _ => simp at hl
  | cons p r ih =>
    intro l' hl hp
    cases l' with
    | nil => simp at hl
    | cons p' r' =>
      obtain ⟨e1, e2⟩ := hp 0 p p' rfl rfl
      simp only [List.foldl_cons]
      refine ih ⟨by simp [h.1], fun j v v' a b => ?_⟩ r' (by simpa using hl) (fun j q q' a b => hp (j + 1) q q' (by simpa using a) (by simpa using b))
      rw [Array.getElem?_setIfInBounds] at a b
      rw [← e1, ← h.1] at b
      split at a
      · rw [if_pos (by assumption)] at b
        split at a
        · rw [if_pos (by assumption)] at b
          cases a; cases b; exact e2
        · cases a
      · rw [if_neg (by assumption)] at b
        exact h.2 j v v' a b
theorem fill_rel {place : Nat → Option (Nat × Nat)} : ∀ (l l' : List (Nat × Value)) (cs cs' : Array Value), PL ι l l' → VA ι cs cs' → ∀ out, Instr.fill place cs l = some out → ∃ out', Instr.fill place cs' l' = some out' ∧ VA ι out out' := by
  intro l
  induction l with
  | nil =>
    intro l' cs cs' hp hv out h
    cases l' with
    | nil => simp only [Instr.fill] at h ⊢; cases h; exact ⟨cs', rfl, hv⟩
    | cons _ _ => simp [PL] at hp
  | cons p r ih =>
    intro l' cs cs' hp hv out h
    cases l' with
    | nil => simp [PL] at hp
    | cons p' r' =>
      obtain ⟨i, v⟩ := p
      obtain ⟨i', v'⟩ := p'
      obtain ⟨e1, e2⟩ := hp.2 0 _ _ rfl rfl
      simp only at e1 e2
      subst e1
      simp only [Instr.fill] at h ⊢
      cases hpl : place i with
      | none => simp [hpl] at h
      | some os =>
        obtain ⟨o, sz⟩ := os
        simp only [hpl] at h ⊢
        have hc := e2.cells
        rw [← hc.1, ← hv.1]
        split at h
        · cases h
        · rw [if_neg (by assumption)]
          refine ih r' _ _ ⟨by simpa using hp.1, fun j q q' a b => hp.2 (j + 1) q q' (by simpa using a) (by simpa using b)⟩ ?_ out h
          have := put_rel hv o v.cells.zipIdx.toList v'.cells.zipIdx.toList (by simp [hc.1]) (fun j q q' a b => by
            simp only [Array.toList_zipIdx, List.getElem?_zipIdx] at a b
            simp only [Option.map_eq_some_iff, Nat.zero_add] at a b
            obtain ⟨x, hx, rfl⟩ := a
            obtain ⟨y, hy, rfl⟩ := b
            exact ⟨rfl, hc.2 j x y (by simpa using hx) (by simpa using hy)⟩)
          simpa only [Array.foldl_toList] using this
theorem parts_PL {ρ ρ' : Env} (parts : Array (Nat × Operand)) (h : ∀ p ∈ parts, VR ι (ρ p.2) (ρ' p.2)) : PL ι (parts.map fun (i, x) => (i, ρ x)).toList (parts.map fun (i, x) => (i, ρ' x)).toList := by
  refine ⟨by simp, fun j p p' a b => ?_⟩
  simp only [Array.toList_map, List.getElem?_map, Option.map_eq_some_iff] at a b
  obtain ⟨q, hq, rfl⟩ := a
  obtain ⟨q', hq', rfl⟩ := b
  rw [hq] at hq'; cases hq'
  exact ⟨rfl, h q (Array.mem_of_getElem? (by simpa using hq))⟩
theorem sound_build {ρ ρ' : Env} {t : TypeId} {fs : Array Field} {z : Array Value} {pl : List (Nat × Nat)} (hu : P.underlying t = some (.struct fs)) (hz : zeroOf P t = some z) (hp : (fs.toList.mapM fun f => (sizeQ P f.type).map fun n => (f.offset, n)) = some pl)
    (parts : Array (Nat × Operand)) (hr : ∀ p ∈ parts, VR ι (ρ p.2) (ρ' p.2)) (hw : WR GL ι H w) {cs : Array Value} (h : Instr.fill (pl.toArray[·]?) z (parts.map fun (i, x) => (i, ρ x)).toList = some cs) :
    Step GL ι H w (.agg cs) H ((do pure (.value (← Instr.build t (parts.map fun (i, x) => (i, ρ' x)))) : Sem Next).run P w) := by
  obtain ⟨zv, hzr, hc, hf, _⟩ := zeroOf_run hz
  obtain ⟨out, ho, hv⟩ := fill_rel _ _ z z (parts_PL parts hr) (flatCells_VA ι hf) cs h
  refine Step.pure hw (v' := .agg out) ?_ (.agg _ _ hv.1 hv.2)
  have hm : ∀ (l : List Field) (q : List (Nat × Nat)), (l.mapM fun f => (sizeQ P f.type).map fun n => (f.offset, n)) = some q → (l.mapM fun f => (do pure (f.offset, ← sizeOf f.type) : Sem (Nat × Nat))).run P w = .ok q w := by
    intro l
    induction l with
    | nil => intro q hq; simp at hq; subst hq; simp
    | cons f r ih =>
      intro q hq
      simp only [List.mapM_cons, Option.bind_eq_bind, Option.bind_eq_some_iff, Option.pure_def, Option.map_eq_some_iff] at hq
      obtain ⟨a, ⟨n, hn, rfl⟩, b, hb, hq⟩ := hq
      cases hq
      simp only [List.mapM_cons, Sem.run_bind, sizeQ_run hn, Result.andThen_ok, Sem.run_pure, ih b hb]
  have hm' := hm fs.toList pl hp
  have hma : (fs.mapM fun f => (do pure (f.offset, ← sizeOf f.type) : Sem (Nat × Nat))).run P w = .ok pl.toArray w := by
    rw [Array.mapM_eq_mapM_toList]
    simp only [Sem.run_map, hm', Result.andThen_ok]
  simp only [Instr.build, Sem.run_bind, hzr, Result.andThen_ok, run_underlying hu, hma, hc, ho, Sem.run_pure]
theorem sound_buildA {ρ ρ' : Env} {t e : TypeId} {m : Nat} {z : Array Value} {n : Nat} (hu : P.underlying t = some (.array m e)) (hz : zeroOf P t = some z) (hn : sizeQ P e = some n)
    (parts : Array (Nat × Operand)) (hr : ∀ p ∈ parts, VR ι (ρ p.2) (ρ' p.2)) (hw : WR GL ι H w) {cs : Array Value} (h : Instr.fill (fun i => some (i * n, n)) z (parts.map fun (i, x) => (i, ρ x)).toList = some cs) :
    Step GL ι H w (.agg cs) H ((do pure (.value (← Instr.build t (parts.map fun (i, x) => (i, ρ' x)))) : Sem Next).run P w) := by
  obtain ⟨zv, hzr, hc, hf, _⟩ := zeroOf_run hz
  obtain ⟨out, ho, hv⟩ := fill_rel _ _ z z (parts_PL parts hr) (flatCells_VA ι hf) cs h
  refine Step.pure hw (v' := .agg out) ?_ (.agg _ _ hv.1 hv.2)
  simp only [Instr.build, Sem.run_bind, hzr, Result.andThen_ok, run_underlying hu, sizeQ_run hn, hc, ho, Sem.run_pure]
theorem bCells_VA {z : Array Value} (h : flatCells z = true) (n : Nat) (hz : n = 0 ∨ z.size ≠ 0) : VA ι (bCells z n) (bCells z n) ∧ ∀ v ∈ bCells z n, isCell v = true := by
  have hc := flatCells_cell h
  have key : ∀ v ∈ bCells z n, v ∈ z := by
    intro v hv
    simp only [bCells, Array.mem_map, Array.mem_range] at hv
    obtain ⟨j, hj, rfl⟩ := hv
    have hz' : 0 < z.size := by omega
    have : j % z.size < z.size := Nat.mod_lt _ hz'
    rw [getElem!_pos z _ this]
    exact Array.getElem_mem this
  refine ⟨⟨rfl, fun j v v' a b => ?_⟩, fun v hv => hc v (key v hv)⟩
  rw [a] at b; cases b
  simp only [flatCells, Array.all_eq_true_iff_forall_mem, Bool.and_eq_true] at h
  exact flatVR ι 3 v (h v (key v (Array.mem_of_getElem? a))).1
end Go.Proofs.YtbjdbpkdkfkpeaaDoorEv
