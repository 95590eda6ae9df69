import Derived.Test.YtbjdbpkdkfkpeaaDoorEvL
namespace Go.Proofs.YtbjdbpkdkfkpeaaDoorEv
open Go
set_option linter.unusedVariables false
set_option linter.unusedSimpArgs false
variable {P : Program} {GL : List Nat} {ι : Inj} {H : Hp} {w : World}
def oddOp : AOp → Bool
  | .call _ _ | .defer _ _ | .recover | .panic _ => true
  | _ => false
set_option maxHeartbeats 2000000 in
theorem comp_odd {o : Oper} {ao : AOp} (hc : compOp P o = some ao) (ho : oddOp ao = true) :
    (∃ f as ats, o.op = .call ⟨.value f, as, ats⟩ ∧ ao = .call f as) ∨ (∃ f as ats, o.op = .defer ⟨.value f, as, ats⟩ ∧ ao = .defer f as) ∨ (∃ as ats, o.op = .call ⟨.builtin .recover, as, ats⟩ ∧ ao = .recover) ∨ (∃ x, o.op = .panic x ∧ ao = .panic x) := by
  obtain ⟨dst, op, ty, pos, after, guard⟩ := o
  cases op
  case call c =>
    obtain ⟨callee, args, argTypes⟩ := c
    cases callee with
    | value f => simp only [compOp] at hc; cases hc; exact .inl ⟨_, _, _, rfl, rfl⟩
    | invoke r m => simp [compOp] at hc
    | builtin b =>
      cases b
      case recover => simp only [compOp] at hc; cases hc; exact .inr (.inr (.inl ⟨_, _, rfl, rfl⟩))
      all_goals
        simp only [compOp] at hc
        try cases hc
      all_goals
        repeat' split at hc
        all_goals first | (cases hc; cases ho; done) | (cases hc; done) | (simp only [Option.map_eq_some_iff] at hc; obtain ⟨_, _, rfl⟩ := hc; cases ho)
  case defer c =>
    obtain ⟨callee, args, argTypes⟩ := c
    cases callee <;> simp only [compOp] at hc <;> first | (cases hc; done) | (cases hc; exact .inr (.inl ⟨_, _, _, rfl, rfl⟩))
  case panic x => simp only [compOp] at hc; cases hc; exact .inr (.inr (.inr ⟨_, rfl, rfl⟩))
  case binOp op t x y yt =>
    cases op <;> simp only [compOp, compEq] at hc
    all_goals
      repeat' split at hc
      all_goals first | (cases hc; cases ho; done) | (cases hc; done)
  case makeFunc fn a b => cases fn <;> simp only [compOp] at hc <;> first | (cases hc; done) | (cases hc; cases ho)
  case makeMap t r => cases r <;> simp only [compOp] at hc <;> first | (cases hc; done) | (cases hc; cases ho)
  case next it st => cases st <;> simp only [compOp] at hc <;> first | (cases hc; done) | (cases hc; cases ho)
  all_goals first | (simp only [compOp] at hc; done) | skip
  all_goals
    simp only [compOp] at hc
    repeat' split at hc
    all_goals first
      | (cases hc; cases ho; done)
      | (cases hc; done)
      | (simp only [Option.map_eq_some_iff] at hc; obtain ⟨_, _, rfl⟩ := hc; cases ho; done)
      | (simp only [Option.bind_eq_some_iff] at hc
         obtain ⟨_, _, hc⟩ := hc
         split at hc <;> first | (cases hc; done) | (cases hc; cases ho; done))
theorem evOp_odd {ρ : Env} {ao : AOp} {r : OR} (h : evOp ρ H ao = some r) (hr : ∀ v H', r ≠ .ok v H') : oddOp ao = true := by
  cases ao <;> first | rfl | skip
  all_goals exfalso
  all_goals simp only [evOp] at h
  all_goals first
    | (simp only [Option.map_eq_some_iff] at h; obtain ⟨_, _, h⟩ := h; exact hr _ _ h.symm)
    | (cases h; exact hr _ _ rfl)
    | skip
  all_goals
    repeat' split at h
    all_goals first
      | (cases h; done)
      | (cases h; exact hr _ _ rfl)
      | (simp only [Option.map_eq_some_iff] at h; obtain ⟨_, _, h⟩ := h; exact hr _ _ h.symm)
      | skip
  all_goals
    simp only [Option.bind_eq_bind, Option.bind_eq_some_iff] at h
    obtain ⟨_, _, _, _, h⟩ := h
    repeat' split at h
    all_goals first
      | (cases h; done)
      | (cases h; exact hr _ _ rfl)
theorem op_call {o : Oper} {ao : AOp} (hc : compOp P o = some ao) {ρ ρ' : Env} (hρ : ∀ x ∈ o.op.operands, VR ι (ρ x) (ρ' x)) {f : Nat} {args : Array Value} (h : evOp ρ H ao = some (.call f args)) :
    ∃ args', VA ι args args' ∧ (execOp ρ' o).run P w = (callFunc f args').run P w := by
  have ho := evOp_odd h (by simp)
  obtain ⟨dst, op, ty, pos, after, guard⟩ := o
  rcases comp_odd hc ho with ⟨g, as, ats, e1, e2⟩ | ⟨g, as, ats, e1, e2⟩ | ⟨as, ats, e1, e2⟩ | ⟨x, e1, e2⟩
  · simp only at e1
    subst e1; subst e2
    have h1 := hρ g (by simp [Op.operands, Call.operands])
    have h2 := VA_map (ρ := ρ) (ρ' := ρ') (xs := as) (fun y hy => hρ y (by simp [Op.operands, Call.operands]; exact .inr hy))
    simp only [evOp] at h
    split at h
    · rename_i q first captured hq
      simp only [Option.some.injEq, OR.call.injEq] at h
      obtain ⟨rfl, rfl⟩ := h
      rw [hq] at h1
      cases hcc : ρ' g <;> rw [hcc] at h1 <;> cases h1
      rename_i a' b' ha hA hb hB
      refine ⟨a' ++ as.map ρ' ++ b', VA_append (VA_append ⟨ha, hA⟩ h2) ⟨hb, hB⟩, ?_⟩
      simp only [execOp, resolve, hcc, Deferred.ofValue, Sem.run_bind, Sem.run_pure, Result.andThen_ok, invoke]
    · cases h
  · subst e2
    simp only [evOp] at h
    split at h <;> cases h
  · subst e2
    simp only [evOp] at h
    cases h
  · subst e2
    simp only [evOp] at h
    split at h <;> cases h
def DR (ι : Inj) (d : Nat × Array Value) (d' : Deferred) : Prop := ∃ cap da, d' = { target := .fn (.func d.1) cap, args := da } ∧ VA ι d.2 (da ++ cap)
theorem op_defer {o : Oper} {ao : AOp} (hc : compOp P o = some ao) {ρ ρ' : Env} (hρ : ∀ x ∈ o.op.operands, VR ι (ρ x) (ρ' x)) {f : Nat} {args : Array Value} (h : evOp ρ H ao = some (.defer f args)) :
    ∃ d, DR ι (f, args) d ∧ (execOp ρ' o).run P w = .ok (.defer d) w := by
  have ho := evOp_odd h (by simp)
  obtain ⟨dst, op, ty, pos, after, guard⟩ := o
  rcases comp_odd hc ho with ⟨g, as, ats, e1, e2⟩ | ⟨g, as, ats, e1, e2⟩ | ⟨as, ats, e1, e2⟩ | ⟨x, e1, e2⟩
  · subst e2
    simp only [evOp] at h
    split at h <;> cases h
  · simp only at e1
    subst e1; subst e2
    have h1 := hρ g (by simp [Op.operands, Call.operands])
    have h2 := VA_map (ρ := ρ) (ρ' := ρ') (xs := as) (fun y hy => hρ y (by simp [Op.operands, Call.operands]; exact .inr hy))
    simp only [evOp] at h
    split at h
    · rename_i q first captured hq
      simp only [Option.some.injEq, OR.defer.injEq] at h
      obtain ⟨rfl, rfl⟩ := h
      rw [hq] at h1
      cases hcc : ρ' g <;> rw [hcc] at h1 <;> cases h1
      rename_i a' b' ha hA hb hB
      refine ⟨{ target := .fn (.func q) b', args := a' ++ as.map ρ' }, ⟨b', a' ++ as.map ρ', rfl, VA_append (VA_append ⟨ha, hA⟩ h2) ⟨hb, hB⟩⟩, ?_⟩
      simp only [execOp, resolve, hcc, Deferred.ofValue, Sem.run_bind, Sem.run_pure, Result.andThen_ok]
    · cases h
  · subst e2
    simp only [evOp] at h
    cases h
  · subst e2
    simp only [evOp] at h
    split at h <;> cases h
theorem op_recover {o : Oper} {ao : AOp} (hc : compOp P o = some ao) {ρ ρ' : Env} (h : evOp ρ H ao = some .recover) : (execOp ρ' o).run P w = .ok .recover w := by
  have ho := evOp_odd h (by simp)
  obtain ⟨dst, op, ty, pos, after, guard⟩ := o
  rcases comp_odd hc ho with ⟨g, as, ats, e1, e2⟩ | ⟨g, as, ats, e1, e2⟩ | ⟨as, ats, e1, e2⟩ | ⟨x, e1, e2⟩
  · subst e2
    simp only [evOp] at h
    split at h <;> cases h
  · subst e2
    simp only [evOp] at h
    split at h <;> cases h
  · simp only at e1
    subst e1
    simp only [execOp, resolve, Sem.run_bind, Sem.run_pure, Result.andThen_ok, invoke, builtin]
  · subst e2
    simp only [evOp] at h
    split at h <;> cases h
theorem op_panic {o : Oper} {ao : AOp} (hc : compOp P o = some ao) {ρ ρ' : Env} (hρ : ∀ x ∈ o.op.operands, VR ι (ρ x) (ρ' x)) {v : Value} (h : evOp ρ H ao = some (.panic v)) : ∃ v', VR ι v v' ∧ (execOp ρ' o).run P w = .halt (.panic v') w := by
  have ho := evOp_odd h (by simp)
  obtain ⟨dst, op, ty, pos, after, guard⟩ := o
  rcases comp_odd hc ho with ⟨g, as, ats, e1, e2⟩ | ⟨g, as, ats, e1, e2⟩ | ⟨as, ats, e1, e2⟩ | ⟨x, e1, e2⟩
  · subst e2
    simp only [evOp] at h
    split at h <;> cases h
  · subst e2
    simp only [evOp] at h
    split at h <;> cases h
  · subst e2
    simp only [evOp] at h
    cases h
  · simp only at e1
    subst e1; subst e2
    have h1 := hρ x (by simp [Op.operands])
    simp only [evOp] at h
    split at h
    · rename_i t u hx
      simp only [Option.some.injEq, OR.panic.injEq] at h
      subst h
      rw [hx] at h1
      cases hcc : ρ' x <;> rw [hcc] at h1 <;> cases h1
      refine ⟨_, .iface _ _ _ (by assumption), ?_⟩
      simp only [execOp, hcc, Instr.panic, goPanic, Sem.run_bind, Sem.run_halt, Result.andThen_halt]
    · cases h
inductive DL (ι : Inj) : List (Nat × Array Value) → List Deferred → Prop where
  | nil : DL ι [] []
  | cons {x : Nat × Array Value} {x' : Deferred} {l : List (Nat × Array Value)} {l' : List Deferred} (h : DR ι x x') (t : DL ι l l') : DL ι (x :: l) (x' :: l')
theorem DR.ext {ι ι' : Inj} (e : Ext ι ι') {d : Nat × Array Value} {d' : Deferred} (h : DR ι d d') : DR ι' d d' := by
  obtain ⟨cap, da, e1, e2⟩ := h
  exact ⟨cap, da, e1, e2.ext e⟩
theorem DL.ext {ι ι' : Inj} (e : Ext ι ι') {l : List (Nat × Array Value)} {l' : List Deferred} (h : DL ι l l') : DL ι' l l' := by
  induction h with
  | nil => exact .nil
  | cons h _ ih => exact .cons (h.ext e) ih
structure SR (GL : List Nat) (N : Nat) (ι : Inj) (s : St) (a : Act) (w : World) : Prop where
  size : a.tmps.size = N
  tmps : ∀ i, VR ι (s.get i) (a.tmps.getD i undef)
  wr : WR GL ι s.H w
  ds : DL ι s.ds a.defers
structure SP (GL : List Nat) (N : Nat) (ι : Inj) (s : St) (a : Act) (w : World) : Prop where
  size : a.tmps.size = N
  tmps : ∀ i, s.get i = bad ∨ VR ι (s.get i) (a.tmps.getD i undef)
  wr : WR GL ι s.H w
  ds : DL ι s.ds a.defers
variable {N : Nat} {s : St} {a : Act}
theorem SR.weak (h : SR GL N ι s a w) : SP GL N ι s a w := ⟨h.size, fun i => .inr (h.tmps i), h.wr, h.ds⟩
theorem SR.env (h : SR GL N ι s a w) (x : Operand) (hx : okOpd GL x = true) : VR ι (s.env x) (a.eval x) := by
  cases x with
  | tmp t => exact h.tmps t
  | const v => exact flatVR ι 3 v hx
  | global g =>
    obtain ⟨i, hi, hc, hd⟩ := h.wr.glob g (by simpa [okOpd] using hx)
    have := VR.ptr (ι := ι) g 0 i hi
    rw [hc, hd] at this
    exact this
  | func f => exact .func _ _ _ _ _ rfl rfl (fun j v v' e => by simp at e) (fun j v v' e => by simp at e)
theorem get_put (s : St) (d : Option Nat) (v : Value) (i : Nat) : (s.put d v).get i = if d = some i then v else s.get i := by
  cases d with
  | none => simp [St.put]
  | some d =>
    simp only [St.put, St.get, Tr.get_set, Option.some.injEq]
    split <;> rfl
theorem put_H (s : St) (d : Option Nat) (v : Value) : (s.put d v).H = s.H := by cases d <;> rfl
theorem put_ds (s : St) (d : Option Nat) (v : Value) : (s.put d v).ds = s.ds := by cases d <;> rfl
theorem tmps_put {d : Option Nat} {v : Value} (i : Nat) (hd : ∀ j, d = some j → j < a.tmps.size) : (a.put d v).tmps.getD i undef = if d = some i then v else a.tmps.getD i undef := by
  cases d with
  | none => simp [Act.put]
  | some d =>
    simp only [Act.put, Option.some.injEq, Array.getD_eq_getD_getElem?, Array.getElem?_setIfInBounds]
    by_cases h : d = i
    · subst h
      simp [hd d rfl]
    · simp [h]
theorem size_put (d : Option Nat) (v : Value) : (a.put d v).tmps.size = a.tmps.size := by
  cases d <;> simp [Act.put]
theorem defers_put (d : Option Nat) (v : Value) : (a.put d v).defers = a.defers := by cases d <;> rfl
theorem SR.next (h : SR GL N ι s a w) {ι' : Inj} {w' : World} {H' : Hp} (e : Ext ι ι') (hw : WR GL ι' H' w') {d : Option Nat} (hd : d.all (· < N) = true) {v v' : Value} (hv : VR ι' v v') : SR GL N ι' ({ s with H := H' }.put d v) (a.put d v') w' := by
  refine ⟨by rw [size_put]; exact h.size, fun i => ?_, by rw [put_H]; exact hw, ?_⟩
  · rw [get_put, tmps_put i (fun j hj => by subst hj; rw [h.size]; simpa using hd)]
    split
    · exact hv
    · exact (h.tmps i).ext e
  · rw [put_ds, defers_put]
    exact h.ds.ext e
theorem SR.move (h : SR GL N ι s a w) {ι' : Inj} {w' : World} {H' : Hp} (e : Ext ι ι') (hw : WR GL ι' H' w') : SR GL N ι' { s with H := H' } a w' :=
  ⟨h.size, fun i => (h.tmps i).ext e, hw, h.ds.ext e⟩
theorem SR.defer (h : SR GL N ι s a w) {d : Option Nat} (hd : d.all (· < N) = true) {x : Nat × Array Value} {x' : Deferred} (hx : DR ι x x') : SR GL N ι ({ s with ds := x :: s.ds }.put d undef) (({ a with defers := x' :: a.defers } : Act).put d undef) w := by
  refine ⟨by rw [size_put]; exact h.size, fun i => ?_, by rw [put_H]; exact h.wr, ?_⟩
  · rw [get_put, tmps_put i (fun j hj => by subst hj; show j < a.tmps.size; rw [h.size]; simpa using hd)]
    split
    · exact undefVR _
    · exact h.tmps i
  · rw [put_ds, defers_put]
    exact .cons hx h.ds
theorem wanted_same (h : SR GL N ι s a w) (ops : Array Oper) (o : Oper) : Region.wanted o (yielded ops a.tmps) = wantedO s (o.guard.map fun (j, b) => ((ops[j]?).bind (·.dst), b)) := by
  unfold Region.wanted wantedO
  cases hg : o.guard with
  | none => rfl
  | some jb =>
    obtain ⟨j, b⟩ := jb
    simp only [Option.map_some, yielded]
    cases hd : (ops[j]?).bind (·.dst) with
    | none => rfl
    | some t =>
      simp only [Option.bind_some]
      have ht := h.tmps t
      cases hq : a.tmps[t]? with
      | none =>
        have : a.tmps.getD t undef = undef := by simp [hq]
        rw [this] at ht
        generalize hs : s.get t = z at ht ⊢
        cases ht
        rfl
      | some v' =>
        have : a.tmps.getD t undef = v' := by simp [hq]
        rw [this] at ht
        generalize hs : s.get t = z at ht ⊢
        cases ht <;> first | rfl | simp
end Go.Proofs.YtbjdbpkdkfkpeaaDoorEv
