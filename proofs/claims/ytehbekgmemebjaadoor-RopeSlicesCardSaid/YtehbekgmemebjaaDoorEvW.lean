import Derived.Test.YtehbekgmemebjaaDoorEvN
namespace Go.Proofs.YtehbekgmemebjaaDoorEv
open Go
set_option linter.unusedVariables false
set_option linter.unusedSimpArgs false
variable {P : Program} {GL : List Nat} {ι : Inj} {H : Hp} {w : World} {N : Nat} {s s1 : St} {a : Act}
theorem WR.claim (h : WR GL ι H w) {b : Nat} (hb : ι b = none) (hlt : b < H.size) {o : AObj} (hg : H.get b = some o) (obj : Obj) (i : BI) (w' : World) (hh : w'.heap = w.heap.push obj) (hc : i.c = w.heap.size) (hr : i.ro = false)
    (ho : OK (ι.add b i) i o w') (h1 : w'.os = w.os) (h2 : w'.tape = w.tape) (h3 : w'.output = w.output) :
    WR GL (ι.add b i) H w' ∧ Fr ι w w' := by
  have hx := add_ext (i := i) hb
  have hold : ∀ c, c < w.heap.size → w'.heap[c]? = w.heap[c]? := fun c hc => by rw [hh, Array.getElem?_push, if_neg (by omega)]
  refine ⟨⟨?_, ?_, ?_, ?_⟩, ⟨h1, h2, h3, by rw [hh]; simp, fun c hc _ => hold c hc⟩⟩
  · intro b' j hb'
    unfold Inj.add at hb'
    split at hb'
    · subst_vars; cases hb'
      exact ⟨o, hg, ho⟩
    · obtain ⟨o1, hg, hk⟩ := h.obj b' j hb'
      have := h.dom b' j hb'
      exact ⟨o1, hg, hk.mono hx (hold _ this.2)⟩
  · intro b' j hb'
    unfold Inj.add at hb'
    split at hb'
    · subst_vars; cases hb'
      exact ⟨hlt, by rw [hh]; simp; omega⟩
    · have := h.dom b' j hb'
      exact ⟨this.1, by rw [hh]; simp; omega⟩
  · intro x y j j' hx' hy' hne hl hl' hro
    have hd : ∀ x y, ι x = some y → y.c < w.heap.size := fun x y e => (h.dom x y e).2
    unfold Inj.add at hx' hy'
    split at hx' <;> split at hy'
    · subst_vars; exact absurd rfl hne
    · cases hx'; have := hd _ _ hy'; omega
    · cases hy'; have := hd _ _ hx'; omega
    · exact h.inj x y j j' hx' hy' hne hl hl' hro
  · intro g hg
    obtain ⟨j, e, r⟩ := h.glob g hg
    exact ⟨j, hx _ _ e, r⟩
theorem eqV_eq : ∀ (f : Nat) (a b : Value), eqV f a b = true → a = b := by
  intro f
  induction f with
  | zero =>
    intro a b h
    cases a <;> cases b <;> simp only [eqV, Bool.and_eq_true, beq_iff_eq, Bool.false_eq_true] at h <;> first
      | rfl
      | (subst h; rfl)
      | (obtain ⟨h1, h2⟩ := h; subst h1; subst h2; rfl)
      | (obtain ⟨⟨h1, h2⟩, h3⟩ := h; subst h1; subst h2; subst h3; rfl)
      | (exact congrArg Value.string (ByteArray.ext (Array.ext' h)))
  | succ f ih =>
    intro a b h
    have arr : ∀ (x y : Array Value), x.toList.length = y.toList.length → ((x.toList.zip y.toList).all fun (x, y) => eqV f x y) = true → x = y := by
      intro x y hl hz
      apply Array.ext'
      apply List.ext_getElem hl
      intro j h1 h2
      rw [List.all_eq_true] at hz
      have := hz (x.toList[j], y.toList[j]) (by
        have : (x.toList.zip y.toList)[j]? = some (x.toList[j], y.toList[j]) := by simp [List.getElem?_zip_eq_some, h1, h2]
        exact List.mem_of_getElem? this)
      exact ih _ _ this
    have fnc : ∀ (fn fn' : Fn) (a1 a2 b1 b2 : Array Value), eqV (f + 1) (.func fn a1 a2) (.func fn' b1 b2) = true → Value.func fn a1 a2 = .func fn' b1 b2 := by
      intro fn fn' a1 a2 b1 b2 h
      cases fn with
      | func p =>
        cases fn' with
        | func q =>
          simp only [eqV, Bool.and_eq_true, beq_iff_eq] at h
          obtain ⟨⟨h1, h2⟩, h3⟩ := h
          rw [h1, arr _ _ h2.1 h2.2, arr _ _ h3.1 h3.2]
        | _ => simp [eqV] at h
      | _ => cases fn' <;> simp [eqV] at h
    cases a <;> cases b <;> first
      | exact fnc _ _ _ _ _ _ h
      | (simp only [eqV, Bool.and_eq_true, beq_iff_eq, Bool.false_eq_true] at h
         first
           | rfl
           | (subst h; rfl)
           | (obtain ⟨h1, h2⟩ := h; subst h1; subst h2; rfl)
           | (obtain ⟨⟨h1, h2⟩, h3⟩ := h; subst h1; subst h2; subst h3; rfl)
           | (exact congrArg Value.string (ByteArray.ext (Array.ext' h)))
           | (rw [arr _ _ h.1 h.2]; done))
      | (simp [eqV] at h; done)
theorem sameCs_eq {a b : List Value} (h : sameCs a b = true) : a = b := by
  unfold sameCs at h
  simp only [Bool.and_eq_true, beq_iff_eq, List.all_eq_true] at h
  apply List.ext_getElem h.1
  intro j h1 h2
  exact eqV_eq 3 _ _ (h.2 (a[j], b[j]) (by
    have : (a.zip b)[j]? = some (a[j], b[j]) := by simp [List.getElem?_zip_eq_some, h1, h2]
    exact List.mem_of_getElem? this))
theorem heldAt_eq {b ty : Nat} {l : List Value} (h : heldAt H b ty l = true) : H.get b = some (.cells l ⟨0, ty, true⟩ false) := by
  unfold heldAt at h
  split at h
  · rename_i cs u ro hg
    simp only [Bool.and_eq_true, beq_iff_eq, Bool.not_eq_true'] at h
    obtain ⟨⟨⟨⟨h1, h2⟩, h3⟩, h4⟩, h5⟩ := h
    rw [hg, sameCs_eq h1, h5]
    cases u
    simp only at h2 h3 h4
    subst h2; subst h3; subst h4
    rfl
  · cases h
def CStep (GL : List Nat) (ι : Inj) (H : Hp) (w : World) (b : Nat) (v : Value) (r : Result Next) : Prop :=
  ∃ v' w' bi, r = .ok (.value v') w' ∧ bi.ro = false ∧ w.heap.size ≤ bi.c ∧ VR (ι.add b bi) v v' ∧ WR GL (ι.add b bi) H w' ∧ Fr ι w w'
theorem claim_cells (hw : WR GL ι H w) {b : Nat} (hb : ι b = none) (hlt : b < H.size) (cs : List Value) (cs' : Array Value) (e : TypeId) (hg : H.get b = some (.cells cs ⟨0, e, true⟩ false))
    (hl : cs.length = cs'.size) (hv : ∀ (j : Nat) (v : Value), cs[j]? = some v → ∃ v', cs'[j]? = some v' ∧ VR ι v v') (w' : World) (hw' : w' = { w with heap := w.heap.push (.cells cs' e (0, 0)) }) :
    let i : BI := { c := w.heap.size, d := 0, u := 0, cn := cs'.size, ro := false }
    WR GL (ι.add b i) H w' ∧ Fr ι w w' := by
  intro i
  have hx := add_ext (i := i) hb
  refine hw.claim hb hlt hg (.cells cs' e (0, 0)) i w' (by rw [hw']) rfl rfl ?_ (by rw [hw']) (by rw [hw']) (by rw [hw'])
  refine ⟨⟨rfl, fun _ => rfl⟩, rfl, cs', e, (0, 0), ?_, rfl, fun _ => ⟨fun x _ => by simp, fun _ => rfl, rfl, fun _ => by simp [i]; omega, fun h => absurd rfl h⟩, by simp [i]; omega, fun j v hj => ?_⟩
  · rw [hw']; simp [i]
  · obtain ⟨v', a, b⟩ := hv j v hj
    exact ⟨v', by simpa [i] using a, b.ext hx⟩
theorem claim_new {e : TypeId} {z : Array Value} (hz : zeroOf P e = some z) (hw : WR GL ι H w) {b : Nat} (hb : ι b = none) (hlt : b < H.size) (hg : H.get b = some (.cells z.toList ⟨0, e, true⟩ false)) :
    CStep GL ι H w b (.pointer (some ⟨b, 0, none⟩)) ((do pure (.value (← Instr.alloc e true (.tuple #[]))) : Sem Next).run P w) := by
  obtain ⟨zv, hr, hc, hf, _⟩ := zeroOf_run hz
  have hva := flatCells_VA ι hf
  obtain ⟨a, c⟩ := claim_cells hw hb hlt z.toList z e hg (by simp) (fun j v hj => ⟨v, by simpa using hj, hva.2 j v v (by simpa using hj) (by simpa using hj)⟩) _ rfl
  refine ⟨.pointer (some ⟨w.heap.size, 0, none⟩), _, _, ?_, ?_, ?_, .ptr _ _ _ (add_same _ _ _), a, c⟩
  · simp [Instr.alloc, hr, newVar, newRow, newObj, Sem.run, hc]
  · rfl
  · exact Nat.le_refl _
theorem claim_box {e : TypeId} {v v' : Value} (hv : VR ι v v') (hw : WR GL ι H w) {b : Nat} (hb : ι b = none) (hlt : b < H.size) (hg : H.get b = some (.cells v.cells.toList ⟨0, e, true⟩ false)) :
    CStep GL ι H w b (.pointer (some ⟨b, 0, none⟩)) ((do pure (.value (← Instr.box e v')) : Sem Next).run P w) := by
  have hva := hv.cells
  obtain ⟨a, c⟩ := claim_cells hw hb hlt v.cells.toList v'.cells e hg (by simp [hva.1]) (fun j x hj => by
    have hx : v.cells[j]? = some x := by simpa using hj
    have hlt : j < v'.cells.size := by rw [← hva.1]; exact (Array.getElem?_eq_some_iff.1 hx).1
    exact ⟨v'.cells[j], by simp [hlt], hva.2 j x _ hx (by simp [hlt])⟩) _ rfl
  refine ⟨.pointer (some ⟨w.heap.size, 0, none⟩), _, _, ?_, ?_, ?_, .ptr _ _ _ (add_same _ _ _), a, c⟩
  · simp [Instr.box, newVar, newRow, newObj, Sem.run]
  · rfl
  · exact Nat.le_refl _
theorem claim_bslice {ρ ρ' : Env} {t e : TypeId} {z : Array Value} {n len : Nat} (hu : P.underlying t = some (.slice e)) (hz : zeroOf P e = some z) (hn : sizeQ P e = some n) (hlen : len * n ≤ 16777216)
    (parts : Array (Nat × Operand)) (hr : ∀ p ∈ parts, VR ι (ρ p.2) (ρ' p.2)) (hw : WR GL ι H w) {cs : Array Value} (h : Instr.fill (fun i => some (i * n, n)) (bCells z (len * n)) (parts.map fun (i, x) => (i, ρ x)).toList = some cs)
    {b : Nat} (hb : ι b = none) (hlt : b < H.size) (hg : H.get b = some (.cells cs.toList ⟨0, e, true⟩ false)) :
    CStep GL ι H w b (.slice (some ⟨b, 0, none⟩) len len) ((do pure (.value (← Instr.buildSlice t len (parts.map fun (i, x) => (i, ρ' x)))) : Sem Next).run P w) := by
  obtain ⟨zv, hzr, hc, hf, _⟩ := zeroOf_run hz
  obtain ⟨i, hi, hsz⟩ := zeroOf_size hz
  have hn' : i.size = n := by simp [sizeQ, hi] at hn; exact hn
  have hbc := bCells_VA (ι := ι) hf (len * n) (by
    rcases Nat.eq_zero_or_pos n with h0 | h0
    · left; simp [h0]
    · right; omega)
  obtain ⟨out, ho, hv⟩ := fill_rel _ _ _ _ (parts_PL parts hr) hbc.1 cs h
  obtain ⟨a, c⟩ := claim_cells hw hb hlt cs.toList out e hg (by simp [hv.1]) (fun j x hj => by
    have hx : cs[j]? = some x := by simpa using hj
    have hlt : j < out.size := by rw [← hv.1]; exact (Array.getElem?_eq_some_iff.1 hx).1
    exact ⟨out[j], by simp [hlt], hv.2 j x _ hx (by simp [hlt])⟩) _ rfl
  refine ⟨.slice (some ⟨w.heap.size, 0, none⟩) len len, _, _, ?_, ?_, ?_, .slice _ _ _ _ _ _ _ _ (add_same _ _ _) (by simp) (Nat.le_refl _) (.inl ⟨.inl rfl, rfl⟩) (fun _ => by simp), a, c⟩
  · have hno : ¬ (len * n > 2 ^ 24) := by omega
    by_cases h0 : len * n = 0
    · have hfill : Instr.fill (fun i => some (i * n, n)) ((Array.range (len * n)).map ((#[] : Array Value)[· % (#[] : Array Value).size]!)) (parts.map fun (i, x) => (i, ρ' x)).toList = some out := by
        have e0 : Array.range 0 = #[] := Array.eq_empty_of_size_eq_zero (by simp)
        rw [← ho, h0]
        simp only [bCells, e0, Array.map_empty]
      simp only [Instr.buildSlice, Sem.run_bind, run_underlying hu, Result.andThen_ok, sizeQ_run hn, if_neg hno, if_pos h0, Sem.run_pure, hfill, newRow, newObj, Sem.run]
    · have hfill : Instr.fill (fun i => some (i * n, n)) ((Array.range (len * n)).map (zv.cells[· % zv.cells.size]!)) (parts.map fun (i, x) => (i, ρ' x)).toList = some out := by
        rw [← ho, hc]; rfl
      simp only [Instr.buildSlice, Sem.run_bind, run_underlying hu, Result.andThen_ok, sizeQ_run hn, if_neg hno, if_neg h0, hzr, Sem.run_pure, hfill, newRow, newObj, Sem.run]
  · rfl
  · exact Nat.le_refl _
theorem claim_mkslice {t e : TypeId} {z : Array Value} {i : TypeInfo} {l c : Int} (hu : P.underlying t = some (.slice e)) (hi : P.info? e = some i) (hz : zeroOf P e = some z) (h0 : 0 ≤ l) (h1 : l ≤ c) (h2 : c * i.bytes ≤ 140737488355328) (h3 : c ≤ 140737488355328) (hw : WR GL ι H w)
    {b : Nat} (hb : ι b = none) (hlt : b < H.size) (hg : H.get b = some (.cells (bCells z (c.toNat * i.size)).toList ⟨0, e, true⟩ false)) :
    CStep GL ι H w b (.slice (some ⟨b, 0, none⟩) l.toNat c.toNat) ((do pure (.value (← Instr.makeSlice t (.int .i64 l) (.int .i64 c))) : Sem Next).run P w) := by
  obtain ⟨zv, hzr, hc, hf, _⟩ := zeroOf_run hz
  obtain ⟨i', hi', hsz⟩ := zeroOf_size hz
  rw [hi] at hi'; cases hi'
  obtain ⟨hbv, hbc⟩ := bCells_VA (ι := ι) hf (c.toNat * i.size) (by
    rcases Nat.eq_zero_or_pos i.size with h0 | h0
    · left; simp [h0]
    · right; omega)
  obtain ⟨a1, a3⟩ := claim_cells hw hb hlt (bCells z (c.toNat * i.size)).toList (bCells z (c.toNat * i.size)) e hg (by simp) (fun j v hj => ⟨v, by simpa using hj, hbv.2 j v v (by simpa using hj) (by simpa using hj)⟩) _ rfl
  refine ⟨.slice (some ⟨w.heap.size, 0, none⟩) l.toNat c.toNat, _, _, ?_, ?_, ?_, .slice _ _ _ _ _ _ _ _ (add_same _ _ _) (by simp) (by omega) (.inl ⟨.inl rfl, rfl⟩) (fun _ => by simp), a1, a3⟩
  · have w1 : IntKind.i64.wrap l = l := by simp [IntKind.wrap, IntKind.bits, IntKind.signed]; omega
    have w2 : IntKind.i64.wrap c = c := by simp [IntKind.wrap, IntKind.bits, IntKind.signed]; omega
    have hcells : bCells z (c.toNat * i.size) = (Array.range (c.toNat * i.size)).map ((if c.toNat * i.size = 0 then #[] else zv.cells)[· % (if c.toNat * i.size = 0 then (#[] : Array Value) else zv.cells).size]!) := by
      by_cases h0 : c.toNat * i.size = 0
      · have e0 : Array.range 0 = #[] := Array.eq_empty_of_size_eq_zero (by simp)
        rw [h0]
        simp only [bCells, e0, Array.map_empty]
      · simp only [if_neg h0, hc, bCells]
    have hask : ∀ n, (askRoom n).run P w = .ok () w := by
      intro n; unfold askRoom; split <;> rfl
    have hcond : ¬ (((c < 0 ∨ (i.bytes : Int) * c > 2 ^ 48) ∨ l < 0) ∨ l > c) := by
      have h5 : (i.bytes : Int) * c = c * i.bytes := Int.mul_comm _ _
      rw [h5]
      omega
    simp only [Instr.makeSlice, Sem.run_bind, run_underlying hu, Result.andThen_ok, asInt, asIntOf, Sem.run_pure, typeInfo, run_program, hi, w1, w2, sizeOf]
    simp only [Bool.or_eq_true, decide_eq_true_eq]
    rw [if_neg hcond]
    simp only [Sem.run_bind, hask, run_program, Result.andThen_ok, hi, Sem.run_pure]
    by_cases h0 : c.toNat * i.size = 0
    · simp only [if_pos h0] at hcells
      simp only [if_pos h0, Sem.run_bind, Sem.run_pure, Result.andThen_ok, newRow, newObj, Sem.run, hcells]
    · simp only [if_neg h0] at hcells
      simp only [if_neg h0, Sem.run_bind, hzr, Sem.run_pure, Result.andThen_ok, newRow, newObj, Sem.run, hcells]
  · rfl
  · exact Nat.le_refl _
theorem comp_claim {o : Oper} {ao : AOp} {b : Nat} (hc : compOp P o = some ao) (ho : (claimOf b ao).isSome = true) :
    (∃ e z, o.op = .alloc e ∧ zeroOf P e = some z ∧ ao = .new e z.toList) ∨ (∃ e x, o.op = .box e x ∧ ao = .box e x) ∨
    (∃ t e z n len parts, o.op = .buildSlice t len parts ∧ P.underlying t = some (.slice e) ∧ sizeQ P e = some n ∧ zeroOf P e = some z ∧ len * n ≤ 16777216 ∧ ao = .bslice e z n len parts) ∨
    (∃ t e i z l c, o.op = .makeSlice t l c ∧ P.underlying t = some (.slice e) ∧ P.info? e = some i ∧ zeroOf P e = some z ∧ ao = .mkslice e z i.size i.bytes l c) := by
  obtain ⟨dst, op, ty, pos, after, guard⟩ := o
  cases op
  case alloc e =>
    simp only [compOp, Option.map_eq_some_iff] at hc
    obtain ⟨z, hz, rfl⟩ := hc
    exact .inl ⟨e, z, rfl, hz, rfl⟩
  case box e x => simp only [compOp] at hc; cases hc; exact .inr (.inl ⟨_, _, rfl, rfl⟩)
  case buildSlice t len parts =>
    simp only [compOp] at hc
    split at hc
    · rename_i e hu
      split at hc
      · rename_i n z hn hz
        split at hc
        · rename_i hl
          cases hc
          exact .inr (.inr (.inl ⟨t, e, z, n, len, parts, rfl, hu, hn, hz, hl, rfl⟩))
        · cases hc
      · cases hc
    · cases hc
  case makeSlice t l c =>
    simp only [compOp] at hc
    split at hc
    · rename_i e hu
      split at hc
      · rename_i i z hi hz
        cases hc
        exact .inr (.inr (.inr ⟨t, e, i, z, l, c, rfl, hu, hi, hz, rfl⟩))
      · cases hc
    · cases hc
  case call c =>
    obtain ⟨callee, args, argTypes⟩ := c
    cases callee with
    | value f => simp only [compOp] at hc; cases hc; cases ho
    | invoke r m => simp [compOp] at hc
    | builtin b =>
      cases b
      case recover => simp only [compOp] at hc; cases hc; cases ho
      all_goals
        simp only [compOp] at hc
        try cases hc
      all_goals
        repeat' split at hc
        all_goals first | (cases hc; cases ho; done) | (cases hc; done) | (simp only [Option.map_eq_some_iff] at hc; obtain ⟨_, _, rfl⟩ := hc; cases ho)
  case defer c =>
    obtain ⟨callee, args, argTypes⟩ := c
    cases callee <;> simp only [compOp] at hc <;> first | (cases hc; done) | (cases hc; cases ho)
  case binOp op t x y yt =>
    cases op <;> simp only [compOp, compEq] at hc
    all_goals
      repeat' split at hc
      all_goals first | (cases hc; cases ho; done) | (cases hc; done)
  case makeFunc fn a b => cases fn <;> simp only [compOp] at hc <;> first | (cases hc; done) | (cases hc; cases ho)
  case makeMap t r => cases r <;> simp only [compOp] at hc <;> first | (cases hc; done) | (cases hc; cases ho)
  case next it st => cases st <;> simp only [compOp] at hc <;> first | (cases hc; done) | (cases hc; cases ho)
  all_goals first | (simp only [compOp] at hc; done) | skip
  all_goals
    simp only [compOp] at hc
    repeat' split at hc
    all_goals first
      | (cases hc; cases ho; done)
      | (cases hc; done)
      | (simp only [Option.map_eq_some_iff] at hc; obtain ⟨_, _, rfl⟩ := hc; cases ho; done)
      | (simp only [Option.bind_eq_some_iff] at hc
         obtain ⟨_, _, hc⟩ := hc
         split at hc <;> first | (cases hc; done) | (cases hc; cases ho; done))
theorem op_claim {o : Oper} {ao cop : AOp} {b : Nat} (hc : compOp P o = some ao) (hcb : claimOf b ao = some cop) {ρ ρ' : Env} (hρ : ∀ x ∈ o.op.operands, VR ι (ρ x) (ρ' x)) (hw : WR GL ι H w) (hb : ι b = none) (hlt : b < H.size) {v : Value} {H' : Hp} (h : evOp ρ H cop = some (.ok v H')) :
    CStep GL ι H w b v ((execOp ρ' o).run P w) := by
  have ho : (claimOf b ao).isSome = true := by rw [hcb]; rfl
  obtain ⟨dst, op, ty, pos, after, guard⟩ := o
  rcases comp_claim hc ho with ⟨e, z, e1, hz, rfl⟩ | ⟨e, x, e1, rfl⟩ | ⟨t, e, z, n, len, parts, e1, hu, hn, hz, hl, rfl⟩ | ⟨t, e, i, z, l, c, e1, hu, hi, hz, rfl⟩
  · simp only at e1
    subst e1
    simp only [claimOf, Option.some.injEq] at hcb
    subst hcb
    simp only [evOp] at h
    split at h
    · rename_i hh
      simp only [Option.some.injEq, OR.ok.injEq] at h
      obtain ⟨rfl, _⟩ := h
      exact claim_new hz hw hb hlt (heldAt_eq hh)
    · cases h
  · simp only at e1
    subst e1
    simp only [claimOf, Option.some.injEq] at hcb
    subst hcb
    simp only [evOp] at h
    split at h
    · rename_i hh
      simp only [Option.some.injEq, OR.ok.injEq] at h
      obtain ⟨rfl, _⟩ := h
      exact claim_box (hρ x (by simp [Op.operands])) hw hb hlt (heldAt_eq hh)
    · cases h
  · simp only at e1
    subst e1
    simp only [claimOf, Option.some.injEq] at hcb
    subst hcb
    simp only [evOp] at h
    split at h
    · rename_i cs hcs
      split at h
      · rename_i hh
        simp only [Option.some.injEq, OR.ok.injEq] at h
        obtain ⟨rfl, _⟩ := h
        exact claim_bslice hu hz hn hl parts (fun p hp => hρ p.2 (by simp only [Op.operands]; simp; exact ⟨p.1, hp⟩)) hw hcs hb hlt (heldAt_eq hh)
      · cases h
    · cases h
  · simp only at e1
    subst e1
    simp only [claimOf, Option.some.injEq] at hcb
    subst hcb
    simp only [evOp] at h
    split at h
    · rename_i l0 c0 hl hc'
      split at h
      · rename_i hcnd
        split at h
        · rename_i hh
          simp only [Option.some.injEq, OR.ok.injEq] at h
          obtain ⟨rfl, _⟩ := h
          have r1 := hρ l (by simp [Op.operands])
          have r2 := hρ c (by simp [Op.operands])
          rw [hl] at r1
          rw [hc'] at r2
          cases hcl : ρ' l <;> rw [hcl] at r1 <;> cases r1
          cases hcc : ρ' c <;> rw [hcc] at r2 <;> cases r2
          obtain ⟨c1, c2, c3, c4⟩ := hcnd
          have := claim_mkslice hu hi hz c1 c2 c3 c4 hw hb hlt (heldAt_eq hh)
          rw [← hcl, ← hcc] at this
          exact this
        · cases h
      · cases h
    · cases h
theorem claim_out {ops : Array Oper} {i : Nat} {o : Oper} {ao : AOpr} (hi : ops[i]? = some o) (hc : compOpr P N GL ops o = some ao) (hρ : ∀ x ∈ o.op.operands, okOpd GL x = true → VR ι (s.env x) (a.eval x))
    (hg : Region.wanted o (yielded ops a.tmps) = true) (hwr : WR GL ι H w) {b : Nat} {cop : AOp} (hcb : claimOf b ao.op = some cop) (hb : ι b = none) (hlt : b < H.size) {v : Value} {H' : Hp} (hv : evOp s.env H cop = some (.ok v H'))
    {K : Act → World → Prop} {Q : Exit → Act → World → Prop} (hK : ∀ v' w' bi, bi.ro = false → w.heap.size ≤ bi.c → VR (ι.add b bi) v v' → WR GL (ι.add b bi) H w' → Fr ι w w' → K (a.put ao.dst v') w') : wpOp P ops Q i K a w := by
  unfold compOpr at hc
  split at hc
  case isFalse => cases hc
  rename_i hok
  simp only [Bool.and_eq_true, Array.all_eq_true_iff_forall_mem] at hok
  simp only [Option.map_eq_some_iff] at hc
  obtain ⟨op, hop, rfl⟩ := hc
  have hρ : ∀ x ∈ o.op.operands, VR ι (s.env x) (a.eval x) := fun x hx => hρ x hx (hok.1 x hx)
  unfold wpOp
  simp only [hi]
  rw [hg]
  simp only [if_true]
  left
  obtain ⟨v', w', bi, hr, h1, h2, h3, h4, h5⟩ := op_claim hop hcb hρ hwr hb hlt hv
  unfold Oper.wp
  rw [hr]
  exact hK v' w' bi h1 h2 h3 h4 h5
end Go.Proofs.YtehbekgmemebjaaDoorEv
