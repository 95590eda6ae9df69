import Derived.Test.YtehbekgmemebjaaDoorEvD
import Derived.Laws.BytesString
namespace Go.Proofs.YtehbekgmemebjaaDoorEv
open Go
set_option linter.unusedVariables false
set_option linter.unusedSimpArgs false
variable {P : Program} {GL : List Nat} {ι : Inj} {H : Hp} {w : World}
theorem sound_bslice {ρ ρ' : Env} {t e : TypeId} {z : Array Value} {n len : Nat} (hu : P.underlying t = some (.slice e)) (hz : zeroOf P e = some z) (hn : sizeQ P e = some n) (hlen : len * n ≤ 16777216)
    (parts : Array (Nat × Operand)) (hr : ∀ p ∈ parts, VR ι (ρ p.2) (ρ' p.2)) (hw : WR GL ι H w) {cs : Array Value} (h : Instr.fill (fun i => some (i * n, n)) (bCells z (len * n)) (parts.map fun (i, x) => (i, ρ x)).toList = some cs) :
    Step GL ι H w (.slice (some ⟨H.size, 0, none⟩) len len) (H.new (.cells cs.toList ⟨0, e, true⟩ false)) ((do pure (.value (← Instr.buildSlice t len (parts.map fun (i, x) => (i, ρ' x)))) : Sem Next).run P w) := by
  obtain ⟨zv, hzr, hc, hf, _⟩ := zeroOf_run hz
  obtain ⟨i, hi, hsz⟩ := zeroOf_size hz
  have hn' : i.size = n := by simp [sizeQ, hi] at hn; exact hn
  have hb := bCells_VA (ι := ι) hf (len * n) (by
    rcases Nat.eq_zero_or_pos n with h0 | h0
    · left; simp [h0]
    · right; omega)
  obtain ⟨out, ho, hv⟩ := fill_rel _ _ _ _ (parts_PL parts hr) hb.1 cs h
  obtain ⟨a, b, c⟩ := step_cells hw cs.toList out e ⟨0, e, true⟩ w rfl rfl rfl rfl (by simp [hv.1]) (fun j x hj => by
    have hx : cs[j]? = some x := by simpa using hj
    have hlt : j < out.size := by rw [← hv.1]; exact (Array.getElem?_eq_some_iff.1 hx).1
    exact ⟨out[j], by simp [hlt], hv.2 j x _ hx (by simp [hlt])⟩) (0, 0) ⟨fun x _ => by simp, fun _ => rfl, rfl, fun _ => by simp [hv.1], fun h => absurd rfl h⟩ _ rfl
  refine ⟨.slice (some ⟨w.heap.size, 0, none⟩) len len, _, _, .inl ?_, b, .slice _ _ _ _ _ _ _ _ (add_same _ _ _) (by simp) (Nat.le_refl _) (.inl ⟨.inl rfl, rfl⟩) (fun _ => by simp), a, c, by rw [Hp.size_new]; omega⟩
  have hno : ¬ (len * n > 2 ^ 24) := by omega
  by_cases h0 : len * n = 0
  · have hfill : Instr.fill (fun i => some (i * n, n)) ((Array.range (len * n)).map ((#[] : Array Value)[· % (#[] : Array Value).size]!)) (parts.map fun (i, x) => (i, ρ' x)).toList = some out := by
      have e0 : Array.range 0 = #[] := Array.eq_empty_of_size_eq_zero (by simp)
      rw [← ho, h0]
      simp only [bCells, e0, Array.map_empty]
    simp only [Instr.buildSlice, Sem.run_bind, run_underlying hu, Result.andThen_ok, sizeQ_run hn, if_neg hno, if_pos h0, Sem.run_pure, hfill, newRow, newObj, Sem.run]
  · have hfill : Instr.fill (fun i => some (i * n, n)) ((Array.range (len * n)).map (zv.cells[· % zv.cells.size]!)) (parts.map fun (i, x) => (i, ρ' x)).toList = some out := by
      rw [← ho, hc]; rfl
    simp only [Instr.buildSlice, Sem.run_bind, run_underlying hu, Result.andThen_ok, sizeQ_run hn, if_neg hno, if_neg h0, hzr, Sem.run_pure, hfill, newRow, newObj, Sem.run]
theorem sound_load {t : TypeId} {a a' v : Value} (ht : aggQ P t = some false) (ha : VR ι a a') (hw : WR GL ι H w) (h : loadO H a = some v) : Step GL ι H w v H ((do pure (.value (← Instr.loadAt t a')) : Sem Next).run P w) := by
  unfold loadO at h
  split at h
  · rename_i b o
    split at h
    · rename_i cs u ro hg
      cases ha with
      | ptr _ _ i hi =>
        obtain ⟨v', hc, hv⟩ := cell_of hw hi hg h
        refine Step.pure hw (v' := v') ?_ hv
        simp [Instr.loadAt, Instr.sureAddr, loadVar, aggQ_run ht, hc]
    · cases h
  · cases h
theorem sound_loadA {t : TypeId} {n : Nat} {a a' v : Value} (ht : aggQ P t = some true) (hn : sizeQ P t = some n) (ha : VR ι a a') (hw : WR GL ι H w) (h : loadAO H n a = some v) : Step GL ι H w v H ((do pure (.value (← Instr.loadAt t a')) : Sem Next).run P w) := by
  unfold loadAO at h
  split at h
  · rename_i b o
    split at h
    · rename_i cs u ro hg
      split at h
      · rename_i hle
        cases h
        cases ha with
        | ptr _ _ i hi =>
          obtain ⟨l, hl, hv, hc⟩ := cells_of hw hi hg hle
          refine Step.pure hw (v' := .agg l.toArray) ?_ (.agg _ _ hv.array.1 hv.array.2)
          have := run_loadCells_list (P := P) w _ l hc
          rw [hl] at this
          simp [Instr.loadAt, Instr.sureAddr, loadVar, aggQ_run ht, sizeQ_run hn, this]
      · cases h
    · cases h
  · cases h
theorem setL_length : ∀ (vs : List Value) (cs : List Value) (o : Nat), (setL cs o vs).length = cs.length
  | [], _, _ => rfl
  | v :: r, cs, o => by rw [setL, setL_length r]; simp
theorem setL_get : ∀ (vs : List Value) (cs : List Value) (o j : Nat), (setL cs o vs)[j]? = if o ≤ j ∧ j < o + vs.length ∧ j < cs.length then vs[j - o]? else cs[j]?
  | [], cs, o, j => by rw [setL, if_neg (by simp; omega)]
  | v :: r, cs, o, j => by
    rw [setL, setL_get r]
    simp only [List.length_set, List.length_cons]
    by_cases h1 : o + 1 ≤ j ∧ j < o + 1 + r.length ∧ j < cs.length
    · rw [if_pos h1, if_pos (by omega), show j - o = (j - (o + 1)) + 1 by omega, List.getElem?_cons_succ]
    · rw [if_neg h1, List.getElem?_set]
      by_cases h2 : o = j
      · subst h2
        by_cases h3 : o < cs.length
        · simp [h3]
        · simp [h3, List.getElem?_eq_none (Nat.le_of_not_lt h3)]
      · rw [if_neg h2, if_neg (by omega)]
theorem heap_setCells (b : Nat) : ∀ (vs : List Value) (o : Nat) (w : World) (ccs : Array Value) (e : TypeId) (fr : Nat × Nat), w.heap[b]? = some (.cells ccs e fr) →
    (∃ ccs', (w.setCells b o vs).heap[b]? = some (.cells ccs' e fr) ∧ ccs'.size = ccs.size ∧ ∀ j, ccs'[j]? = if o ≤ j ∧ j < o + vs.length ∧ j < ccs.size then vs[j - o]? else ccs[j]?) ∧
    (w.setCells b o vs).heap.size = w.heap.size ∧ (∀ c, c ≠ b → (w.setCells b o vs).heap[c]? = w.heap[c]?) ∧ (w.setCells b o vs).os = w.os ∧ (w.setCells b o vs).tape = w.tape ∧ (w.setCells b o vs).output = w.output := by
  intro vs
  induction vs with
  | nil => intro o w ccs e fr h; exact ⟨⟨ccs, h, rfl, fun j => by rw [if_neg (by simp; omega)]⟩, rfl, fun _ _ => rfl, rfl, rfl, rfl⟩
  | cons v r ih =>
    intro o w ccs e fr h
    have h1 : (w.setCell ⟨b, o, none⟩ v).heap[b]? = some (.cells (ccs.setIfInBounds o v) e fr) := by
      simp [World.setCell, Array.getElem?_modify, h]
    obtain ⟨⟨ccs', a1, a2, a3⟩, b1, b2, b3⟩ := ih (o + 1) (w.setCell ⟨b, o, none⟩ v) _ e fr h1
    rw [World.setCells]
    refine ⟨⟨ccs', a1, by rw [a2]; simp, fun j => ?_⟩, by rw [b1]; simp [World.setCell], fun c hc => ?_, b3⟩
    · rw [a3 j]
      simp only [Array.size_setIfInBounds, List.length_cons]
      by_cases h1 : o + 1 ≤ j ∧ j < o + 1 + r.length ∧ j < ccs.size
      · rw [if_pos h1, if_pos (by omega), show j - o = (j - (o + 1)) + 1 by omega, List.getElem?_cons_succ]
      · rw [if_neg h1, Array.getElem?_setIfInBounds]
        by_cases h2 : o = j
        · subst h2
          by_cases h3 : o < ccs.size
          · simp [h3]
          · simp [h3, Array.getElem?_eq_none (Nat.le_of_not_lt h3)]
        · rw [if_neg h2, if_neg (by omega)]
    · rw [b2 c hc]
      simp [World.setCell, Array.getElem?_modify, Ne.symm hc]
theorem store_both (hw : WR GL ι H w) {b : Nat} {i : BI} (hb : ι b = some i) {cs : List Value} {u : UT} (hg : H.get b = some (.cells cs u false)) {o : Nat} {vs vs' : List Value} (hv : VL ι vs vs') (hlen : o + vs.length ≤ cs.length) (hcell : ∀ v ∈ vs, isCell v = true) :
    ∃ w', (storeCells ⟨i.c, i.d + o, none⟩ vs').run P w = .ok () w' ∧ WR GL ι (H.put b (.cells (setL cs o vs) u false)) w' ∧ Fr ι w w' := by
  obtain ⟨ob, hg', hk⟩ := hw.obj b i hb
  rw [hg] at hg'; cases hg'
  obtain ⟨q1, q2, ccs, e, fr, h3, h4, h5, h6, h7⟩ := hk
  have hlv := hv.1
  have hrun := run_storeCells_cells (P := P) i.c (i.d + o) vs' 0 w (fun j hj => by
      obtain ⟨v', a, _⟩ := h7 (o + j) (cs[o + j]'(by omega)) (by rw [List.getElem?_eq_getElem])
      have hlt := (Array.getElem?_eq_some_iff.1 a).1
      simp [World.cell?, h3]
      omega)
    (fun j hj => by
      have hjl := hv.1
      have := (h5 rfl).1 (i.d + o + 0 + j) (by omega)
      simp only [World.frozen?, h3, Bool.and_eq_false_iff, decide_eq_false_iff_not]
      simp only [Nat.add_zero] at this ⊢
      by_cases hx : fr.1 ≤ i.d + o + j
      · exact .inr fun hy => this ⟨hx, hy⟩
      · exact .inl hx)
    (fun v' hv' => by
      obtain ⟨j, hj, rfl⟩ := List.getElem_of_mem hv'
      have hj' : j < vs.length := by omega
      have := hv.2 j vs[j] vs'[j] (by rw [List.getElem?_eq_getElem]) (by rw [List.getElem?_eq_getElem])
      rw [← this.cell]
      exact hcell _ (List.getElem_mem hj'))
  obtain ⟨⟨ccs', a1, a2, a3⟩, b1, b2, b3, b4, b5⟩ := heap_setCells i.c vs' (i.d + o + 0) w ccs e fr h3
  have hch := hw.change hb (by rw [hg]; rfl) q2 (.cells (setL cs o vs) u false) (w.setCells i.c (i.d + o + 0) vs') b1 b2 ⟨q1, q2, ccs', e, fr, a1, by rw [a2]; exact h4, fun h => by rw [a2, setL_length]; exact h5 h, by rw [a2, setL_length]; exact h6, fun j v hj => by
      rw [setL_get] at hj
      have e3 := a3 (i.d + j)
      by_cases hin : o ≤ j ∧ j < o + vs.length ∧ j < cs.length
      · rw [if_pos hin] at hj
        rw [if_pos (by omega), show i.d + j - (i.d + o + 0) = j - o by omega] at e3
        have hlt : j - o < vs'.length := by omega
        refine ⟨vs'[j - o], by rw [e3, List.getElem?_eq_getElem hlt], hv.2 (j - o) v _ hj (by rw [List.getElem?_eq_getElem hlt])⟩
      · rw [if_neg hin] at hj
        have hjl : j < cs.length := (List.getElem?_eq_some_iff.1 hj).1
        rw [if_neg (by omega)] at e3
        obtain ⟨v', a, r⟩ := h7 j v hj
        exact ⟨v', by rw [e3]; exact a, r⟩⟩ b3 b4 b5
  exact ⟨_, hrun, hch⟩
theorem sound_store {t : TypeId} {n : Nat} {a a' x x' : Value} {H' : Hp} (hn : sizeQ P t = some n) (ha : VR ι a a') (hx : VR ι x x') (hw : WR GL ι H w) (h : storeO H n x a = some H') : Step GL ι H w undef H' ((do Instr.storeAt t a' x'; pure .skip : Sem Next).run P w) := by
  unfold storeO at h
  split at h
  · rename_i b o
    split at h
    · rename_i cs u ro hg
      split at h
      · rename_i hcond
        obtain ⟨e1, e2, e3, e4⟩ := hcond
        subst e2
        cases h
        cases ha with
        | ptr _ _ i hi =>
          have hc := hx.cells
          obtain ⟨w', hr, hw', hf⟩ := store_both (P := P) hw hi hg (o := o) hc.list (by simp; omega) (fun v hv => by
            rw [Array.all_eq_true_iff_forall_mem] at e4
            exact e4 v (by simpa using hv))
          refine ⟨undef, w', ι, .inr ⟨?_, rfl⟩, New.refl _ _ _, undefVR _, hw', hf, by rw [Hp.size_put]; exact Nat.le_refl _⟩
          have : ¬ (x'.cells.size ≠ n) := by rw [← hc.1]; simpa using e1
          simp only [Instr.storeAt, Instr.sureAddr, storeVar, Sem.run_bind, Sem.run_pure, Result.andThen_ok, sizeQ_run hn, if_neg this, hr]
      · cases h
    · cases h
  · cases h
end Go.Proofs.YtehbekgmemebjaaDoorEv
namespace Go.Proofs.YtehbekgmemebjaaDoorEv
open Go
set_option linter.unusedVariables false
set_option linter.unusedSimpArgs false
variable {P : Program} {GL : List Nat} {ι : Inj} {H : Hp} {w : World}
theorem sound_bin {op : BinOp} {t : TypeId} {X Y : Operand} {x y x' y' v : Value} (hx : VR ι x x') (hy : VR ι y y') (h : binO op x y = some v) :
    ∃ v', (do eqGuard op t X Y x' y'; binOp op t x' y' : Sem Value).run P w = .ok v' w ∧ VR ι v v' := by
  have key : (∃ k a k2 b, x = .int k a ∧ y = .int k2 b) ∨ (∃ a b, x = .string a ∧ y = .string b) := by
    unfold binO at h
    split at h
    · exact .inl ⟨_, _, _, _, rfl, rfl⟩
    · exact .inl ⟨_, _, _, _, rfl, rfl⟩
    · exact .inl ⟨_, _, _, _, rfl, rfl⟩
    · exact .inr ⟨_, _, rfl, rfl⟩
    · cases h
  have hg : (eqGuard op t X Y x' y').run P w = .ok () w := by
    rcases key with ⟨k, a, k2, b, rfl, rfl⟩ | ⟨a, b, rfl, rfl⟩
    · cases hx; cases hy
      unfold eqGuard
      split <;> rfl
    · cases hx; cases hy
      unfold eqGuard
      split <;> rfl
  simp only [Sem.run_bind, hg, Result.andThen_ok]
  clear hg
  rcases key with ⟨k, a, k2, b, rfl, rfl⟩ | ⟨a, b, rfl, rfl⟩
  · cases hx; cases hy
    by_cases hsh : op = .shl ∨ op = .shr
    · rcases hsh with rfl | rfl
      · simp only [binO] at h
        split at h
        · cases h
        · rename_i hz
          cases h
          exact ⟨_, by simp only [binOp, Op.shift, if_neg hz, Sem.run_pure]; rfl, by constructor⟩
      · simp only [binO] at h
        split at h
        · cases h
        · rename_i hz
          cases h
          exact ⟨_, by simp only [binOp, Op.shift, if_neg hz, Sem.run_pure]; rfl, by constructor⟩
    · have hkk : k = k2 := by
        cases op <;> simp only [binO] at h <;> first
          | (exfalso; apply hsh; simp; done)
          | (split at h
             · cases h
             · rename_i hne
               simpa using hne)
      subst hkk
      cases op <;> simp only [binO, ne_eq, not_true_eq_false, if_false] at h <;> first
        | (exfalso; apply hsh; simp; done)
        | (cases h; exact ⟨_, by simp only [binOp, ne_eq, not_true_eq_false, if_false, Op.intArith, Op.intBits, Op.intCmp, Sem.run_pure]; rfl, by constructor⟩)
        | (split at h
           · cases h
           · rename_i hz
             cases h
             exact ⟨_, by simp only [binOp, ne_eq, not_true_eq_false, if_false, Op.intDiv, if_neg hz, Sem.run_pure]; rfl, by constructor⟩)
  · cases hx; cases hy
    cases op <;> simp only [binO] at h <;> first
      | (split at h
         · cases h
         · rename_i hz
           cases h
           exact ⟨_, by simp only [binOp, Op.stringOp, if_neg hz, Sem.run_pure]; rfl, by constructor⟩)
      | (cases h; exact ⟨_, by simp only [binOp, Op.stringOp, Sem.run_pure]; rfl, by constructor⟩)
      | cases h
theorem sound_un {op : UnOp} {x x' v : Value} (hx : VR ι x x') (h : unO op x = some v) : ∃ v', (Op.unary op x').run P w = .ok v' w ∧ VR ι v v' := by
  unfold unO at h
  split at h
  · cases h; cases hx; exact ⟨_, rfl, by constructor⟩
  · cases h; cases hx; exact ⟨_, rfl, by constructor⟩
  · cases h; cases hx; exact ⟨_, rfl, by constructor⟩
  · cases h
def kindOf : TypeDesc → Option Nat
  | .bool => some 0
  | .pointer _ => some 1
  | .slice _ => some 2
  | .map _ _ => some 3
  | .func _ _ _ => some 4
  | .interface _ => some 5
  | _ => none
theorem sound_equal {t : TypeId} {d : TypeDesc} {kind : Nat} {x y x' y' : Value} {b : Bool} (hu : P.underlying t = some d) (hk : kindOf d = some kind) (hx : VR ι x x') (hy : VR ι y y') (h : eqO kind x y = some b) :
    (Op.equal t x' y').run P w = .ok b w := by
  show (Op.equalIn (9999 + 1) t x' y').run P w = .ok b w
  unfold Op.equalIn
  simp only [Sem.run_bind, run_underlying hu, Result.andThen_ok]
  cases d <;> simp [kindOf] at hk <;> subst hk <;> unfold eqO at h <;> split at h <;> (try cases h) <;> (try (rename_i hq; cases hq)) <;> (try cases hx) <;> (try cases hy) <;> first
    | rfl
    | (rename_i a b; cases a <;> cases b <;> rfl)
    | (simp_all; done)
    | contradiction
theorem sound_eq {op : BinOp} (hop : op = .eql ∨ op = .neq) {t : TypeId} {d : TypeDesc} {kind : Nat} {X Y : Operand} {x y x' y' : Value} {b : Bool} (hu : P.underlying t = some d) (hk : kindOf d = some kind) (hX : kind = 5 → (∃ c, X = .const c) ∨ (∃ c, Y = .const c)) (hx : VR ι x x') (hy : VR ι y y') (h : eqO kind x y = some b) :
    (do eqGuard op t X Y x' y'; binOp op t x' y' : Sem Value).run P w = .ok (.bool (if op == .neq then !b else b)) w := by
  have he := sound_equal (w := w) hu hk hx hy h
  have hg : (eqGuard op t X Y x' y').run P w = .ok () w := by
    rcases hop with rfl | rfl <;> (unfold eqGuard; simp only [Bool.not_true, Bool.false_eq_true, if_false]) <;> (unfold eqO at h; split at h) <;> (try cases h) <;> cases hx <;> cases hy <;> first
      | rfl
      | (rcases hX rfl with ⟨c, rfl⟩ | ⟨c, rfl⟩ <;> (try rfl) <;> (cases X <;> rfl))
  have hb : binOp op t x' y' = if op == .neq then (do pure (.bool (!(← Op.equal t x' y')))) else (do pure (.bool (← Op.equal t x' y'))) := by
    rcases hop with rfl | rfl <;> (unfold eqO at h; split at h) <;> (try cases h) <;> cases hx <;> cases hy <;> rfl
  simp only [Sem.run_bind, hg, Result.andThen_ok, hb]
  rcases hop with rfl | rfl
  · simp only [beq_iff_eq, reduceCtorEq, if_false, Sem.run_bind, he, Result.andThen_ok, Sem.run_pure]
  · simp only [beq_self_eq_true, if_true, Sem.run_bind, he, Result.andThen_ok, Sem.run_pure]
theorem intsO_eq : ∀ (l l' : List Value) (ns : List Int), VL ι l l' → intsO l = some ns → l' = ns.map (Value.int .u8) := by
  intro l
  induction l with
  | nil => intro l' ns hv h; cases l' with
    | nil => simp [intsO] at h; subst h; rfl
    | cons _ _ => simp [VL] at hv
  | cons v r ih =>
    intro l' ns hv h
    cases l' with
    | nil => simp [VL] at hv
    | cons v' r' =>
      simp only [intsO, List.mapM_cons, Option.bind_eq_bind, Option.bind_eq_some_iff, Option.pure_def] at h
      obtain ⟨n, hn, ns', hr, h⟩ := h
      cases h
      split at hn
      · cases hn
        have h0 := hv.2 0 _ _ rfl rfl
        cases h0
        rw [ih r' ns' ⟨by simpa using hv.1, fun j a b x y => hv.2 (j + 1) a b (by simpa using x) (by simpa using y)⟩ hr]
        rfl
      · cases hn
theorem sliceCells_run {size : Nat} {x x' : Value} {l : List Value} (hx : VR ι x x') (hw : WR GL ι H w) (h : sliceCells H size x = some l) (n : Nat) (hn : lenO x = some n) :
    ∃ l', VL ι l l' ∧ l.length = n * size ∧ ∀ w1 : World, w1.heap = w.heap → (Builtin.firstCells size n x').run P w1 = .ok l'.toArray w1 := by
  unfold sliceCells at h
  split at h
  · cases h; cases hx
    simp [lenO] at hn; subst hn
    exact ⟨[], ⟨rfl, fun j v v' e => by simp at e⟩, by simp, fun _ _ => rfl⟩
  · rename_i b o sp n0 k
    simp [lenO] at hn; subst hn
    cases hx with
    | slice _ _ _ _ _ i a k' hi hns hnk hk ha =>
      split at h
      · rename_i h0
        cases h; subst h0
        exact ⟨[], ⟨rfl, fun j v v' e => by simp at e⟩, by simp, fun _ _ => by simp [Builtin.firstCells, loadCells, loadCellsFrom]⟩
      · rename_i h0
        split at h
        · rename_i cs u ro hg
          split at h
          · rename_i hle
            cases h
            obtain ⟨l', hl, hv, hc⟩ := cells_of hw hi hg hle
            refine ⟨l', hv, by rw [hv.1, hl], fun w1 hw1 => ?_⟩
            have hk0 : k' ≠ 0 := by
              rcases hk with hk | hk
              · omega
              · omega
            have := run_loadCells_list (P := P) w1 _ l' (fun j v e => by
              have := hc j v e
              simpa [World.cell?, hw1] using this)
            rw [hl] at this
            simp only [Builtin.firstCells, ha (.inl hk0), this]
          · cases h
        · cases h
    | arg _ _ _ A k' hnk ha =>
      split at h
      · rename_i h0
        cases h; subst h0
        exact ⟨[], ⟨rfl, fun j v v' e => by simp at e⟩, by simp, fun _ _ => by cases A <;> simp [Builtin.firstCells, loadCells, loadCellsFrom]⟩
      · rename_i h0
        obtain ⟨i, hi, rfl⟩ := ha h0
        split at h
        · rename_i cs u ro hg
          split at h
          · rename_i hle
            cases h
            obtain ⟨l', hl, hv, hc⟩ := cells_of hw hi hg hle
            refine ⟨l', hv, by rw [hv.1, hl], fun w1 hw1 => ?_⟩
            have := run_loadCells_list (P := P) w1 _ l' (fun j v e => by
              have := hc j v e
              simpa [World.cell?, hw1] using this)
            rw [hl] at this
            simp only [Builtin.firstCells, this]
          · cases h
        · cases h
  · rename_i s
    split at h
    · rename_i h1
      cases h; cases hx
      simp [lenO] at hn; subst hn; subst h1
      refine ⟨s.data.toList.map fun b => Value.int .u8 b.toNat, ⟨rfl, fun j v v' e e' => ?_⟩, by simp only [List.length_map, Nat.mul_one]; rfl, fun w1 hw1 => ?_⟩
      · rw [e] at e'; cases e'
        simp only [List.getElem?_map, Option.map_eq_some_iff] at e
        obtain ⟨_, _, rfl⟩ := e
        exact .int _ _
      · simp only [Builtin.firstCells, Sem.run_pure]
        congr 1
        have : s.extract 0 s.size = s := by simp
        rw [this]
        apply Array.ext'
        simp
    · cases h
  · cases h
theorem sound_convBS {s d e : TypeId} {b : Option Addr} {n k : Nat} {x' : Value} {l : List Value} {ns : List Int} (hs : P.underlying s = some (.slice e)) (he : P.underlying e = some (.int .u8)) (hd : P.underlying d = some .string)
    (hx : VR ι (.slice b n k) x') (hw : WR GL ι H w) (h : sliceCells H 1 (.slice b n k) = some l) (hn : intsO l = some ns) : (convert s d x').run P w = .ok (.string (strOfNums ns)) w := by
  obtain ⟨l', hv, hlen, hr0⟩ := sliceCells_run (P := P) hx hw h n rfl
  have hr := hr0 w rfl
  clear hr0
  have hl' := intsO_eq l l' ns hv hn
  subst hl'
  cases hx with
  | snil =>
    rw [run_convert_bytes_string w s d e _ _ _ hs he hd]
    simp at hlen
    subst hlen
    simp [intsO] at hn
    subst hn
    rfl
  | slice _ _ _ _ _ i a k' hi hns hnk hk ha =>
    rw [run_convert_bytes_string w s d e _ _ _ hs he hd]
    simp only [Builtin.firstCells, Nat.mul_one] at hr
    rw [run_bytesToString w a n k' ns hr, foldl_push_bytes]
    simp [strOfNums, ByteArray.empty, ByteArray.emptyWithCapacity]
    try rfl
  | arg _ _ _ A k' hnk ha =>
    rw [run_convert_bytes_string w s d e _ _ _ hs he hd]
    cases A with
    | none =>
      have h0 : n = 0 := by
        by_cases h0 : n = 0
        · exact h0
        · obtain ⟨_, _, h⟩ := ha h0
          cases h
      subst h0
      simp at hlen
      subst hlen
      simp [intsO] at hn
      subst hn
      rfl
    | some a =>
      simp only [Builtin.firstCells, Nat.mul_one] at hr
      rw [run_bytesToString w a n k' ns hr, foldl_push_bytes]
      simp [strOfNums, ByteArray.empty, ByteArray.emptyWithCapacity]
      try rfl
end Go.Proofs.YtehbekgmemebjaaDoorEv
