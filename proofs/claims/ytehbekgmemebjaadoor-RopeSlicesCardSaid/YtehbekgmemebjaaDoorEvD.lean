import Derived.Test.YtehbekgmemebjaaDoorEvB
namespace Go.Proofs.YtehbekgmemebjaaDoorEv
open Go
set_option linter.unusedVariables false
set_option linter.unusedSimpArgs false
def Inj.add (ι : Inj) (b : Nat) (i : BI) : Inj := fun x => if x = b then some i else ι x
theorem OK.mono {ι ι' : Inj} {i : BI} {o : AObj} {w w' : World} (h : OK ι i o w) (e : Ext ι ι') (hb : w'.heap[i.c]? = w.heap[i.c]?) : OK ι' i o w' := by
  cases o with
  | cells cs u ro =>
    obtain ⟨h1, h2, ccs, el, fr, h3, h4, h5, h6, h7⟩ := h
    exact ⟨h1, h2, ccs, el, fr, by rw [hb]; exact h3, h4, h5, h6, fun j v hj => by obtain ⟨v', a, b⟩ := h7 j v hj; exact ⟨v', a, b.ext e⟩⟩
  | map es k =>
    obtain ⟨h1, es', h2, h3, h4⟩ := h
    exact ⟨h1, es', by rw [hb]; exact h2, h3, fun j x y hx hy => by obtain ⟨a, b, c, d⟩ := h4 j x y hx hy; exact ⟨a, b, c, d.ext e⟩⟩
  | iter s p => exact ⟨h.1, h.2.1, by rw [hb]; exact h.2.2⟩
  | dead => trivial
theorem WR.lt {GL : List Nat} {ι : Inj} {H : Hp} {w : World} (h : WR GL ι H w) : ι H.size = none := by
  cases e : ι H.size with
  | none => rfl
  | some i => have := (h.dom _ _ e).1; omega
theorem add_ext {ι : Inj} {b : Nat} {i : BI} (h : ι b = none) : Ext ι (ι.add b i) := fun x j e => by
  unfold Inj.add
  split
  · subst_vars; rw [h] at e; cases e
  · exact e
theorem add_same (ι : Inj) (b : Nat) (i : BI) : ι.add b i b = some i := by simp [Inj.add]
theorem WR.alloc {GL : List Nat} {ι : Inj} {H : Hp} {w : World} (h : WR GL ι H w) (o : AObj) (obj : Obj) (i : BI) (w' : World) (hh : w'.heap = w.heap.push obj) (hc : i.c = w.heap.size) (hr : i.ro = false)
    (ho : OK (ι.add H.size i) i o w') (h1 : w'.os = w.os) (h2 : w'.tape = w.tape) (h3 : w'.output = w.output) :
    WR GL (ι.add H.size i) (H.new o) w' ∧ New ι (ι.add H.size i) H.size w ∧ Fr ι w w' := by
  have hx := add_ext (i := i) h.lt
  have hold : ∀ c, c < w.heap.size → w'.heap[c]? = w.heap[c]? := fun c hc => by rw [hh, Array.getElem?_push, if_neg (by omega)]
  refine ⟨⟨?_, ?_, ?_, ?_⟩, ⟨hx, ?_⟩, ⟨h1, h2, h3, by rw [hh]; simp, fun c hc _ => hold c hc⟩⟩
  · intro b j hb
    unfold Inj.add at hb
    split at hb
    · subst_vars; cases hb
      exact ⟨o, by rw [Hp.get_new, if_pos rfl], ho⟩
    · obtain ⟨o1, hg, hk⟩ := h.obj b j hb
      have := h.dom b j hb
      exact ⟨o1, by rw [Hp.get_new, if_neg (by omega)]; exact hg, hk.mono hx (hold _ this.2)⟩
  · intro b j hb
    unfold Inj.add at hb
    split at hb
    · subst_vars; cases hb
      exact ⟨by rw [Hp.size_new]; omega, by rw [hh]; simp; omega⟩
    · have := h.dom b j hb
      exact ⟨by rw [Hp.size_new]; omega, by rw [hh]; simp; omega⟩
  · intro b b' j j' hb hb' hne hl hl' hro
    have hd : ∀ x y, ι x = some y → y.c < w.heap.size := fun x y e => (h.dom x y e).2
    unfold Inj.add at hb hb'
    split at hb <;> split at hb'
    · subst_vars; exact absurd rfl hne
    · cases hb; have := hd _ _ hb'; omega
    · cases hb'; have := hd _ _ hb; omega
    · have d1 := h.dom _ _ hb
      have d2 := h.dom _ _ hb'
      rw [Hp.get_new, if_neg (by omega)] at hl hl'
      exact h.inj b b' j j' hb hb' hne hl hl' hro
  · intro g hg
    obtain ⟨j, e, r⟩ := h.glob g hg
    exact ⟨j, hx _ _ e, r⟩
  · intro b j hb h0
    unfold Inj.add at hb
    split at hb
    · subst_vars; cases hb
      exact ⟨Nat.le_refl _, hr, .inl (by omega)⟩
    · rw [hb] at h0; cases h0
theorem WR.change {GL : List Nat} {ι : Inj} {H : Hp} {w : World} (h : WR GL ι H w) {b : Nat} {i : BI} (hb : ι b = some i) (hl : live (H.get b) = true) (hr : i.ro = false) (o : AObj) (w' : World)
    (hsz : w'.heap.size = w.heap.size) (hold : ∀ c, c ≠ i.c → w'.heap[c]? = w.heap[c]?) (ho : OK ι i o w') (h1 : w'.os = w.os) (h2 : w'.tape = w.tape) (h3 : w'.output = w.output) :
    WR GL ι (H.put b o) w' ∧ Fr ι w w' := by
  refine ⟨⟨?_, ?_, ?_, h.glob⟩, ⟨h1, h2, h3, by omega, fun c hc hno => hold c fun e => hno b i hb hr e.symm⟩⟩
  · intro x j hx
    by_cases hxb : b = x
    · subst hxb
      rw [hb] at hx; cases hx
      exact ⟨o, by rw [Hp.get_put, if_pos rfl], ho⟩
    · obtain ⟨o1, hg, hk⟩ := h.obj x j hx
      refine ⟨o1, by rw [Hp.get_put, if_neg hxb]; exact hg, ?_⟩
      cases hd : live (H.get x) with
      | true => exact hk.mono (Ext.refl _) (hold _ (Ne.symm (h.inj b x i j hb hx hxb hl hd hr)))
      | false =>
        rw [hg] at hd
        cases o1 with
        | dead => trivial
        | _ => cases hd
  · intro x j hx
    have := h.dom x j hx
    exact ⟨by rw [Hp.size_put]; exact this.1, by omega⟩
  · intro x y j k hx hy hne hlx hly hro
    have e1 : live (H.get x) = true := by
      rw [Hp.get_put] at hlx
      by_cases e : b = x
      · subst e; exact hl
      · rwa [if_neg e] at hlx
    have e2 : live (H.get y) = true := by
      rw [Hp.get_put] at hly
      by_cases e : b = y
      · subst e; exact hl
      · rwa [if_neg e] at hly
    exact h.inj x y j k hx hy hne e1 e2 hro
theorem WR.moved {GL : List Nat} {ι : Inj} {H : Hp} {w : World} (h : WR GL ι H w) {b : Nat} {i : BI} (hb : ι b = some i) (hl : live (H.get b) = true) (hr : i.ro = false) (o : AObj) (i' : BI) (hc : i'.c = i.c) (hr' : i'.ro = false) (w' : World)
    (hsz : w'.heap.size = w.heap.size) (hold : ∀ c, c ≠ i.c → w'.heap[c]? = w.heap[c]?) (ho : OK (ι.add H.size i') i' o w') (h1 : w'.os = w.os) (h2 : w'.tape = w.tape) (h3 : w'.output = w.output) :
    WR GL (ι.add H.size i') ((H.put b .dead).new o) w' ∧ New ι (ι.add H.size i') H.size w ∧ Fr ι w w' := by
  have hx := add_ext (i := i') h.lt
  refine ⟨⟨?_, ?_, ?_, ?_⟩, ⟨hx, ?_⟩, ⟨h1, h2, h3, by omega, fun c hc hno => hold c fun e => hno b i hb hr e.symm⟩⟩
  · intro x j hxj
    unfold Inj.add at hxj
    split at hxj
    · subst_vars; cases hxj
      exact ⟨o, by rw [Hp.get_new, Hp.size_put, if_pos rfl], ho⟩
    · have hd := h.dom _ _ hxj
      rw [Hp.get_new, Hp.size_put, if_neg (by omega), Hp.get_put]
      by_cases hxb : b = x
      · exact ⟨.dead, by rw [if_pos hxb], trivial⟩
      · obtain ⟨o1, hg, hk⟩ := h.obj x j hxj
        refine ⟨o1, by rw [if_neg hxb]; exact hg, ?_⟩
        cases hd : live (H.get x) with
        | true => exact hk.mono hx (hold _ (Ne.symm (h.inj b x i j hb hxj hxb hl hd hr)))
        | false =>
          rw [hg] at hd
          cases o1 with
          | dead => trivial
          | _ => cases hd
  · intro x j hxj
    unfold Inj.add at hxj
    split at hxj
    · subst_vars; cases hxj
      have := (h.dom _ _ hb).2
      exact ⟨by rw [Hp.size_new, Hp.size_put]; omega, by omega⟩
    · have := h.dom _ _ hxj
      exact ⟨by rw [Hp.size_new, Hp.size_put]; omega, by omega⟩
  · intro x y j k hxj hyk hne hlx hly hro
    have live_old : ∀ z l, ι z = some l → z ≠ b → live (((H.put b .dead).new o).get z) = true → live (H.get z) = true := fun z l hz hzb hlz => by
      have := h.dom _ _ hz
      rw [Hp.get_new, Hp.size_put, if_neg (by omega), Hp.get_put, if_neg (Ne.symm hzb)] at hlz
      exact hlz
    have not_b : ∀ l, ι b = some l → live (((H.put b .dead).new o).get b) = true → False := fun l hz hlz => by
      have := h.dom _ _ hz
      rw [Hp.get_new, Hp.size_put, if_neg (by omega), Hp.get_put, if_pos rfl] at hlz
      cases hlz
    unfold Inj.add at hxj hyk
    split at hxj <;> split at hyk
    · subst_vars; exact absurd rfl hne
    · cases hxj
      have hyb : y ≠ b := fun e => by subst e; exact not_b _ hyk hly
      rw [hc]
      exact h.inj b y i k hb hyk (Ne.symm hyb) hl (live_old _ _ hyk hyb hly) hr
    · cases hyk
      have hxb : x ≠ b := fun e => by subst e; exact not_b _ hxj hlx
      rw [hc]
      exact h.inj x b j i hxj hb hxb (live_old _ _ hxj hxb hlx) hl hro
    · have hxb : x ≠ b := fun e => by subst e; exact not_b _ hxj hlx
      have hyb : y ≠ b := fun e => by subst e; exact not_b _ hyk hly
      exact h.inj x y j k hxj hyk hne (live_old _ _ hxj hxb hlx) (live_old _ _ hyk hyb hly) hro
  · intro g hg
    obtain ⟨j, e, r⟩ := h.glob g hg
    exact ⟨j, hx _ _ e, r⟩
  · intro x j hxj h0
    unfold Inj.add at hxj
    split at hxj
    · subst_vars; cases hxj
      exact ⟨Nat.le_refl _, hr', .inr ⟨b, i, hb, hr, hc.symm⟩⟩
    · rw [hxj] at h0; cases h0
theorem WR.same {GL : List Nat} {ι : Inj} {H : Hp} {w w' : World} (h : WR GL ι H w) (hh : w'.heap = w.heap) : WR GL ι H w' :=
  ⟨fun b i hb => by obtain ⟨o, a, k⟩ := h.obj b i hb; exact ⟨o, a, k.mono (Ext.refl _) (by rw [hh])⟩, fun b i hb => by rw [hh]; exact h.dom b i hb, h.inj, h.glob⟩
theorem Fr.same {ι : Inj} {w w' : World} (hh : w'.heap = w.heap) (h1 : w'.os = w.os) (h2 : w'.tape = w.tape) (h3 : w'.output = w.output) : Fr ι w w' := ⟨h1, h2, h3, by rw [hh]; exact Nat.le_refl _, fun c _ _ => by rw [hh]⟩
theorem WR.kill {GL : List Nat} {ι : Inj} {H : Hp} {w : World} (h : WR GL ι H w) (b : Nat) : WR GL ι (H.put b .dead) w := by
  refine ⟨?_, fun x i hx => h.dom x i hx, ?_, h.glob⟩
  · intro x i hx
    by_cases e : b = x
    · exact ⟨.dead, by rw [Hp.get_put, if_pos e], trivial⟩
    · obtain ⟨o, hg, hk⟩ := h.obj x i hx
      exact ⟨o, by rw [Hp.get_put, if_neg e]; exact hg, hk⟩
  · intro x y i j hx hy hne hlx hly hro
    have keep : ∀ z, live ((H.put b .dead).get z) = true → live (H.get z) = true := fun z hz => by
      rw [Hp.get_put] at hz
      by_cases e : b = z
      · rw [if_pos e] at hz; cases hz
      · rwa [if_neg e] at hz
    exact h.inj x y i j hx hy hne (keep x hlx) (keep y hly) hro
def Step (GL : List Nat) (ι : Inj) (H : Hp) (w : World) (v : Value) (H' : Hp) (r : Result Next) : Prop :=
  ∃ v' w' ι', (r = .ok (.value v') w' ∨ (r = .ok .skip w' ∧ v' = undef)) ∧ New ι ι' H.size w ∧ VR ι' v v' ∧ WR GL ι' H' w' ∧ Fr ι w w' ∧ H.size ≤ H'.size
theorem Step.pure {GL : List Nat} {ι : Inj} {H : Hp} {w : World} {v v' : Value} {r : Result Next} (h : WR GL ι H w) (hr : r = .ok (.value v') w) (hv : VR ι v v') : Step GL ι H w v H r :=
  ⟨v', w, ι, .inl hr, New.refl _ _ _, hv, h, Fr.refl _ _, Nat.le_refl _⟩
theorem cell_of {GL : List Nat} {ι : Inj} {H : Hp} {w : World} (h : WR GL ι H w) {b : Nat} {i : BI} (hb : ι b = some i) {cs : List Value} {u : UT} {ro : Bool} (hg : H.get b = some (.cells cs u ro)) {j : Nat} {v : Value} (hj : cs[j]? = some v) :
    ∃ v', w.cell? ⟨i.c, i.d + j, none⟩ = some v' ∧ VR ι v v' := by
  obtain ⟨o, hg', hk⟩ := h.obj b i hb
  rw [hg] at hg'; cases hg'
  obtain ⟨_, _, ccs, e, fr, h3, h4, h5, h6, h7⟩ := hk
  obtain ⟨v', a, r⟩ := h7 j v hj
  exact ⟨v', by simp [World.cell?, h3, a], r⟩
theorem add_plain' (c o n : Nat) : (⟨c, o, none⟩ : Addr).add n = ⟨c, o + n, none⟩ := by
  unfold Addr.add; split <;> simp_all
theorem cells_of {GL : List Nat} {ι : Inj} {H : Hp} {w : World} (h : WR GL ι H w) {b : Nat} {i : BI} (hb : ι b = some i) {cs : List Value} {u : UT} {ro : Bool} (hg : H.get b = some (.cells cs u ro)) {o n : Nat} (hn : o + n ≤ cs.length) :
    ∃ l, l.length = n ∧ VL ι ((cs.drop o).take n) l ∧ ∀ j v, l[j]? = some v → w.cell? ((⟨i.c, i.d + o, none⟩ : Addr).add j) = some v := by
  obtain ⟨ob, hg', hk⟩ := h.obj b i hb
  rw [hg] at hg'; cases hg'
  obtain ⟨_, _, ccs, e, fr, h3, h4, h5, h6, h7⟩ := hk
  refine ⟨(ccs.toList.drop (i.d + o)).take n, by simp; omega, ⟨by simp; omega, ?_⟩, ?_⟩
  · intro j v v' e1 e2
    rw [List.getElem?_take] at e1 e2
    split at e1
    · rw [if_pos (by assumption)] at e2
      rw [List.getElem?_drop] at e1 e2
      obtain ⟨v1, a, r⟩ := h7 (o + j) v e1
      rw [show i.d + (o + j) = i.d + o + j by omega] at a
      rw [Array.getElem?_toList, a] at e2
      cases e2
      exact r
    · cases e1
  · intro j v e2
    rw [List.getElem?_take] at e2
    split at e2
    · rw [List.getElem?_drop, Array.getElem?_toList] at e2
      rw [add_plain']
      simp [World.cell?, h3, e2]
    · cases e2
end Go.Proofs.YtehbekgmemebjaaDoorEv
namespace Go.Proofs.YtehbekgmemebjaaDoorEv
open Go
set_option linter.unusedVariables false
set_option linter.unusedSimpArgs false
variable {P : Program} {GL : List Nat} {ι : Inj} {H : Hp} {w : World}
theorem zeroOf_size {t : TypeId} {z : Array Value} (h : zeroOf P t = some z) : ∃ i, P.info? t = some i ∧ z.size = i.size := by
  unfold zeroOf at h
  cases hz : (P.info? t).bind (·.zero) with
  | none => simp [hz] at h
  | some zv =>
    simp only [hz] at h
    split at h
    · rename_i hf
      cases h
      simp only [Bool.and_eq_true] at hf
      cases hi : P.info? t with
      | none => simp [hi] at hz
      | some i => simp [hi] at hf; exact ⟨i, rfl, hf.2⟩
    · cases h
theorem zeroOf_run {t : TypeId} {z : Array Value} (h : zeroOf P t = some z) : ∃ zv, (∀ w, (zeroValue t).run P w = .ok zv w) ∧ zv.cells = z ∧ flatCells z = true ∧ (P.info? t).bind (·.zero) = some zv := by
  unfold zeroOf at h
  cases hz : (P.info? t).bind (·.zero) with
  | none => simp [hz] at h
  | some zv =>
    simp only [hz] at h
    split at h
    · rename_i hf
      cases h
      simp only [Bool.and_eq_true] at hf
      cases hi : P.info? t with
      | none => simp [hi] at hz
      | some i =>
        simp [hi] at hz
        exact ⟨zv, fun w => by simp [zeroValue, typeInfo, hi, hz], rfl, hf.1.1, by simp⟩
    · cases h
theorem zeroVal_run {t : TypeId} {z : Value} (h : zeroVal P t = some z) : (∀ w, (zeroValue t).run P w = .ok z w) ∧ flat 3 z = true := by
  unfold zeroVal at h
  cases hz : (P.info? t).bind (·.zero) with
  | none => simp [hz] at h
  | some zv =>
    simp only [hz] at h
    split at h
    · rename_i hf
      cases h
      cases hi : P.info? t with
      | none => simp [hi] at hz
      | some i =>
        simp [hi] at hz
        exact ⟨fun w => by simp [zeroValue, typeInfo, hi, hz], hf⟩
    · cases h
theorem sizeQ_run {t : TypeId} {n : Nat} (h : sizeQ P t = some n) : ∀ w, (sizeOf t).run P w = .ok n w := by
  intro w
  unfold sizeQ at h
  cases hi : P.info? t with
  | none => simp [hi] at h
  | some i => simp [hi] at h; simp [sizeOf, typeInfo, hi, h]
theorem aggQ_run {t : TypeId} {b : Bool} (h : aggQ P t = some b) : ∀ w, (isAgg t).run P w = .ok b w := by
  intro w
  unfold aggQ at h
  cases hu : P.underlying t with
  | none => simp [hu] at h
  | some d => cases d <;> simp [hu] at h <;> subst h <;> simp [isAgg, run_underlying hu]
theorem flatCells_VA (ι : Inj) {z : Array Value} (h : flatCells z = true) : VA ι z z :=
  ⟨rfl, fun j v v' e e' => by
    rw [e] at e'; cases e'
    simp only [flatCells, Array.all_eq_true_iff_forall_mem, Bool.and_eq_true] at h
    exact flatVR ι 3 v (h v (Array.mem_of_getElem? e)).1⟩
theorem flatCells_cell {z : Array Value} (h : flatCells z = true) : ∀ v ∈ z, isCell v = true := fun v hv => by
  simp only [flatCells, Array.all_eq_true_iff_forall_mem, Bool.and_eq_true] at h
  exact (h v hv).2
theorem step_cells (hw : WR GL ι H w) (cs : List Value) (cs' : Array Value) (e : TypeId) (u : UT) (w0 : World) (hh : w0.heap = w.heap) (h1 : w0.os = w.os) (h2 : w0.tape = w.tape) (h3 : w0.output = w.output)
    (hl : cs.length ≤ cs'.size) (hv : ∀ (j : Nat) (v : Value), cs[j]? = some v → ∃ v', cs'[j]? = some v' ∧ VR ι v v') (fr : Nat × Nat) (hfr : (∀ x, x < cs'.size → ¬ (fr.1 ≤ x ∧ x < fr.2)) ∧ (u.z = true → fr = (0, 0)) ∧ e = u.ty ∧ (u.u = 0 → cs.length = cs'.size) ∧ (u.u ≠ 0 → u.z = true → cs'.size ≤ 9223372036854775807 * u.u)) (w' : World) (hw' : w' = { w0 with heap := w0.heap.push (.cells cs' e fr) }) :
    let i : BI := { c := w.heap.size, d := 0, u := u.u, cn := cs'.size, ro := false }
    WR GL (ι.add H.size i) (H.new (.cells cs u false)) w' ∧ New ι (ι.add H.size i) H.size w ∧ Fr ι w w' := by
  intro i
  refine hw.alloc _ (.cells cs' e fr) i w' (by rw [hw']; simp [hh]) rfl rfl ?_ (by rw [hw']; exact h1) (by rw [hw']; exact h2) (by rw [hw']; exact h3)
  have hx := add_ext (i := i) hw.lt
  refine ⟨⟨rfl, fun _ => rfl⟩, rfl, cs', e, fr, ?_, rfl, fun _ => ⟨hfr.1, hfr.2.1, hfr.2.2.1, fun h => by have := hfr.2.2.2.1 h; simp [i]; omega, hfr.2.2.2.2⟩, by simpa [i] using hl, fun j v hj => ?_⟩
  · rw [hw']; simp [hh, i]
  · obtain ⟨v', a, b⟩ := hv j v hj
    exact ⟨v', by simpa [i] using a, b.ext hx⟩
theorem sound_new {e : TypeId} {z : Array Value} (hz : zeroOf P e = some z) (hw : WR GL ι H w) :
    Step GL ι H w (.pointer (some ⟨H.size, 0, none⟩)) (H.new (.cells z.toList ⟨0, e, true⟩ false)) ((do pure (.value (← Instr.alloc e true (.tuple #[]))) : Sem Next).run P w) := by
  obtain ⟨zv, hr, hc, hf, _⟩ := zeroOf_run hz
  have hva := flatCells_VA ι hf
  obtain ⟨a, b, c⟩ := step_cells hw z.toList z e ⟨0, e, true⟩ w rfl rfl rfl rfl (by simp) (fun j v hj => ⟨v, by simpa using hj, hva.2 j v v (by simpa using hj) (by simpa using hj)⟩) (0, 0) ⟨fun x _ => by simp, fun _ => rfl, rfl, fun _ => by simp, fun h => absurd rfl h⟩ _ rfl
  refine ⟨.pointer (some ⟨w.heap.size, 0, none⟩), _, _, .inl ?_, b, .ptr _ _ _ (add_same _ _ _), a, c, by rw [Hp.size_new]; omega⟩
  simp [Instr.alloc, hr, newVar, newRow, newObj, Sem.run, hc]
theorem sound_box {e : TypeId} {v v' : Value} (hv : VR ι v v') (hw : WR GL ι H w) :
    Step GL ι H w (.pointer (some ⟨H.size, 0, none⟩)) (H.new (.cells v.cells.toList ⟨0, e, true⟩ false)) ((do pure (.value (← Instr.box e v')) : Sem Next).run P w) := by
  have hva := hv.cells
  obtain ⟨a, b, c⟩ := step_cells hw v.cells.toList v'.cells e ⟨0, e, true⟩ w rfl rfl rfl rfl (by simp [hva.1]) (fun j x hj => by
    have hx : v.cells[j]? = some x := by simpa using hj
    have hlt : j < v'.cells.size := by rw [← hva.1]; exact (Array.getElem?_eq_some_iff.1 hx).1
    exact ⟨v'.cells[j], by simp [hlt], hva.2 j x _ hx (by simp [hlt])⟩) (0, 0) ⟨fun x _ => by simp, fun _ => rfl, rfl, fun _ => by simp [hva.1], fun h => absurd rfl h⟩ _ rfl
  refine ⟨.pointer (some ⟨w.heap.size, 0, none⟩), _, _, .inl ?_, b, .ptr _ _ _ (add_same _ _ _), a, c, by rw [Hp.size_new]; omega⟩
  simp [Instr.box, newVar, newRow, newObj, Sem.run]
def PL (ι : Inj) (l l' : List (Nat × Value)) : Prop := l.length = l'.length ∧ ∀ (j : Nat) (p p' : Nat × Value), l[j]? = some p → l'[j]? = some p' → p.1 = p'.1 ∧ VR ι p.2 p'.2
theorem put_rel {cs cs' : Array Value} (h : VA ι cs cs') (o : Nat) : ∀ (l l' : List (Value × Nat)), l.length = l'.length → (∀ (j : Nat) (p p' : Value × Nat), l[j]? = some p → l'[j]? = some p' → p.2 = p'.2 ∧ VR ι p.1 p'.1) →
    VA ι (l.foldl (fun cs (c, j) => cs.setIfInBounds (o + j) c) cs) (l'.foldl (fun cs (c, j) => cs.setIfInBounds (o + j) c) cs') := by
  intro l
  induction l generalizing cs cs' with
  | nil => intro l' hl _; cases l' with
    | nil => exact h
    | cons _ _ => simp at hl
  | cons p r ih =>
    intro l' hl hp
    cases l' with
    | nil => simp at hl
    | cons p' r' =>
      obtain ⟨e1, e2⟩ := hp 0 p p' rfl rfl
      simp only [List.foldl_cons]
      refine ih ⟨by simp [h.1], fun j v v' a b => ?_⟩ r' (by simpa using hl) (fun j q q' a b => hp (j + 1) q q' (by simpa using a) (by simpa using b))
      rw [Array.getElem?_setIfInBounds] at a b
      rw [← e1, ← h.1] at b
      split at a
      · rw [if_pos (by assumption)] at b
        split at a
        · rw [if_pos (by assumption)] at b
          cases a; cases b; exact e2
        · cases a
      · rw [if_neg (by assumption)] at b
        exact h.2 j v v' a b
theorem fill_rel {place : Nat → Option (Nat × Nat)} : ∀ (l l' : List (Nat × Value)) (cs cs' : Array Value), PL ι l l' → VA ι cs cs' → ∀ out, Instr.fill place cs l = some out → ∃ out', Instr.fill place cs' l' = some out' ∧ VA ι out out' := by
  intro l
  induction l with
  | nil =>
    intro l' cs cs' hp hv out h
    cases l' with
    | nil => simp only [Instr.fill] at h ⊢; cases h; exact ⟨cs', rfl, hv⟩
    | cons _ _ => simp [PL] at hp
  | cons p r ih =>
    intro l' cs cs' hp hv out h
    cases l' with
    | nil => simp [PL] at hp
    | cons p' r' =>
      obtain ⟨i, v⟩ := p
      obtain ⟨i', v'⟩ := p'
      obtain ⟨e1, e2⟩ := hp.2 0 _ _ rfl rfl
      simp only at e1 e2
      subst e1
      simp only [Instr.fill] at h ⊢
      cases hpl : place i with
      | none => simp [hpl] at h
      | some os =>
        obtain ⟨o, sz⟩ := os
        simp only [hpl] at h ⊢
        have hc := e2.cells
        rw [← hc.1, ← hv.1]
        split at h
        · cases h
        · rw [if_neg (by assumption)]
          refine ih r' _ _ ⟨by simpa using hp.1, fun j q q' a b => hp.2 (j + 1) q q' (by simpa using a) (by simpa using b)⟩ ?_ out h
          have := put_rel hv o v.cells.zipIdx.toList v'.cells.zipIdx.toList (by simp [hc.1]) (fun j q q' a b => by
            simp only [Array.toList_zipIdx, List.getElem?_zipIdx] at a b
            simp only [Option.map_eq_some_iff, Nat.zero_add] at a b
            obtain ⟨x, hx, rfl⟩ := a
            obtain ⟨y, hy, rfl⟩ := b
            exact ⟨rfl, hc.2 j x y (by simpa using hx) (by simpa using hy)⟩)
          simpa only [Array.foldl_toList] using this
theorem parts_PL {ρ ρ' : Env} (parts : Array (Nat × Operand)) (h : ∀ p ∈ parts, VR ι (ρ p.2) (ρ' p.2)) : PL ι (parts.map fun (i, x) => (i, ρ x)).toList (parts.map fun (i, x) => (i, ρ' x)).toList := by
  refine ⟨by simp, fun j p p' a b => ?_⟩
  simp only [Array.toList_map, List.getElem?_map, Option.map_eq_some_iff] at a b
  obtain ⟨q, hq, rfl⟩ := a
  obtain ⟨q', hq', rfl⟩ := b
  rw [hq] at hq'; cases hq'
  exact ⟨rfl, h q (Array.mem_of_getElem? (by simpa using hq))⟩
theorem sound_build {ρ ρ' : Env} {t : TypeId} {fs : Array Field} {z : Array Value} {pl : List (Nat × Nat)} (hu : P.underlying t = some (.struct fs)) (hz : zeroOf P t = some z) (hp : (fs.toList.mapM fun f => (sizeQ P f.type).map fun n => (f.offset, n)) = some pl)
    (parts : Array (Nat × Operand)) (hr : ∀ p ∈ parts, VR ι (ρ p.2) (ρ' p.2)) (hw : WR GL ι H w) {cs : Array Value} (h : Instr.fill (pl.toArray[·]?) z (parts.map fun (i, x) => (i, ρ x)).toList = some cs) :
    Step GL ι H w (.agg cs) H ((do pure (.value (← Instr.build t (parts.map fun (i, x) => (i, ρ' x)))) : Sem Next).run P w) := by
  obtain ⟨zv, hzr, hc, hf, _⟩ := zeroOf_run hz
  obtain ⟨out, ho, hv⟩ := fill_rel _ _ z z (parts_PL parts hr) (flatCells_VA ι hf) cs h
  refine Step.pure hw (v' := .agg out) ?_ (.agg _ _ hv.1 hv.2)
  have hm : ∀ (l : List Field) (q : List (Nat × Nat)), (l.mapM fun f => (sizeQ P f.type).map fun n => (f.offset, n)) = some q → (l.mapM fun f => (do pure (f.offset, ← sizeOf f.type) : Sem (Nat × Nat))).run P w = .ok q w := by
    intro l
    induction l with
    | nil => intro q hq; simp at hq; subst hq; simp
    | cons f r ih =>
      intro q hq
      simp only [List.mapM_cons, Option.bind_eq_bind, Option.bind_eq_some_iff, Option.pure_def, Option.map_eq_some_iff] at hq
      obtain ⟨a, ⟨n, hn, rfl⟩, b, hb, hq⟩ := hq
      cases hq
      simp only [List.mapM_cons, Sem.run_bind, sizeQ_run hn, Result.andThen_ok, Sem.run_pure, ih b hb]
  have hm' := hm fs.toList pl hp
  have hma : (fs.mapM fun f => (do pure (f.offset, ← sizeOf f.type) : Sem (Nat × Nat))).run P w = .ok pl.toArray w := by
    rw [Array.mapM_eq_mapM_toList]
    simp only [Sem.run_map, hm', Result.andThen_ok]
  simp only [Instr.build, Sem.run_bind, hzr, Result.andThen_ok, run_underlying hu, hma, hc, ho, Sem.run_pure]
theorem sound_buildA {ρ ρ' : Env} {t e : TypeId} {m : Nat} {z : Array Value} {n : Nat} (hu : P.underlying t = some (.array m e)) (hz : zeroOf P t = some z) (hn : sizeQ P e = some n)
    (parts : Array (Nat × Operand)) (hr : ∀ p ∈ parts, VR ι (ρ p.2) (ρ' p.2)) (hw : WR GL ι H w) {cs : Array Value} (h : Instr.fill (fun i => some (i * n, n)) z (parts.map fun (i, x) => (i, ρ x)).toList = some cs) :
    Step GL ι H w (.agg cs) H ((do pure (.value (← Instr.build t (parts.map fun (i, x) => (i, ρ' x)))) : Sem Next).run P w) := by
  obtain ⟨zv, hzr, hc, hf, _⟩ := zeroOf_run hz
  obtain ⟨out, ho, hv⟩ := fill_rel _ _ z z (parts_PL parts hr) (flatCells_VA ι hf) cs h
  refine Step.pure hw (v' := .agg out) ?_ (.agg _ _ hv.1 hv.2)
  simp only [Instr.build, Sem.run_bind, hzr, Result.andThen_ok, run_underlying hu, sizeQ_run hn, hc, ho, Sem.run_pure]
theorem bCells_VA {z : Array Value} (h : flatCells z = true) (n : Nat) (hz : n = 0 ∨ z.size ≠ 0) : VA ι (bCells z n) (bCells z n) ∧ ∀ v ∈ bCells z n, isCell v = true := by
  have hc := flatCells_cell h
  have key : ∀ v ∈ bCells z n, v ∈ z := by
    intro v hv
    simp only [bCells, Array.mem_map, Array.mem_range] at hv
    obtain ⟨j, hj, rfl⟩ := hv
    have hz' : 0 < z.size := by omega
    have : j % z.size < z.size := Nat.mod_lt _ hz'
    rw [getElem!_pos z _ this]
    exact Array.getElem_mem this
  refine ⟨⟨rfl, fun j v v' a b => ?_⟩, fun v hv => hc v (key v hv)⟩
  rw [a] at b; cases b
  simp only [flatCells, Array.all_eq_true_iff_forall_mem, Bool.and_eq_true] at h
  exact flatVR ι 3 v (h v (key v (Array.mem_of_getElem? a))).1
end Go.Proofs.YtehbekgmemebjaaDoorEv
