import Derived.Test.YtehbekgmemebjaaDoorEvL
import Derived.Orders
namespace Go.Proofs.YtehbekgmemebjaaDoorEv
open Go
set_option linter.unusedVariables false
set_option linter.unusedSimpArgs false
variable {P : Program} {GL : List Nat} {ι : Inj} {H : Hp} {w : World}
def oddOp : AOp → Bool
  | .call _ _ | .defer _ _ | .recover | .panic _ => true
  | _ => false
set_option maxHeartbeats 2000000 in
theorem comp_odd {o : Oper} {ao : AOp} (hc : compOp P o = some ao) (ho : oddOp ao = true) :
    (∃ f as ats, o.op = .call ⟨.value f, as, ats⟩ ∧ ao = .call f as) ∨ (∃ f as ats, o.op = .defer ⟨.value f, as, ats⟩ ∧ ao = .defer f as) ∨ (∃ as ats, o.op = .call ⟨.builtin .recover, as, ats⟩ ∧ ao = .recover) ∨ (∃ x, o.op = .panic x ∧ ao = .panic x) := by
  obtain ⟨dst, op, ty, pos, after, guard⟩ := o
  cases op
  case call c =>
    obtain ⟨callee, args, argTypes⟩ := c
    cases callee with
    | value f => simp only [compOp] at hc; cases hc; exact .inl ⟨_, _, _, rfl, rfl⟩
    | invoke r m => simp [compOp] at hc
    | builtin b =>
      cases b
      case recover => simp only [compOp] at hc; cases hc; exact .inr (.inr (.inl ⟨_, _, rfl, rfl⟩))
      all_goals
        simp only [compOp] at hc
        try cases hc
      all_goals
        repeat' split at hc
        all_goals first | (cases hc; cases ho; done) | (cases hc; done) | (simp only [Option.map_eq_some_iff] at hc; obtain ⟨_, _, rfl⟩ := hc; cases ho)
  case defer c =>
    obtain ⟨callee, args, argTypes⟩ := c
    cases callee <;> simp only [compOp] at hc <;> first | (cases hc; done) | (cases hc; exact .inr (.inl ⟨_, _, _, rfl, rfl⟩))
  case panic x => simp only [compOp] at hc; cases hc; exact .inr (.inr (.inr ⟨_, rfl, rfl⟩))
  case binOp op t x y yt =>
    cases op <;> simp only [compOp, compEq] at hc
    all_goals
      repeat' split at hc
      all_goals first | (cases hc; cases ho; done) | (cases hc; done)
  case makeFunc fn a b => cases fn <;> simp only [compOp] at hc <;> first | (cases hc; done) | (cases hc; cases ho)
  case makeMap t r => cases r <;> simp only [compOp] at hc <;> first | (cases hc; done) | (cases hc; cases ho)
  case next it st => cases st <;> simp only [compOp] at hc <;> first | (cases hc; done) | (cases hc; cases ho)
  all_goals first | (simp only [compOp] at hc; done) | skip
  all_goals
    simp only [compOp] at hc
    repeat' split at hc
    all_goals first
      | (cases hc; cases ho; done)
      | (cases hc; done)
      | (simp only [Option.map_eq_some_iff] at hc; obtain ⟨_, _, rfl⟩ := hc; cases ho; done)
      | (simp only [Option.bind_eq_some_iff] at hc
         obtain ⟨_, _, hc⟩ := hc
         split at hc <;> first | (cases hc; done) | (cases hc; cases ho; done))
theorem evOp_odd {ρ : Env} {ao : AOp} {r : OR} (h : evOp ρ H ao = some r) (hr : ∀ v H', r ≠ .ok v H') : oddOp ao = true := by
  cases ao <;> first | rfl | skip
  all_goals exfalso
  all_goals simp only [evOp] at h
  all_goals first
    | (simp only [Option.map_eq_some_iff] at h; obtain ⟨_, _, h⟩ := h; exact hr _ _ h.symm)
    | (cases h; exact hr _ _ rfl)
    | skip
  all_goals
    repeat' split at h
    all_goals first
      | (cases h; done)
      | (cases h; exact hr _ _ rfl)
      | (simp only [Option.map_eq_some_iff] at h; obtain ⟨_, _, h⟩ := h; exact hr _ _ h.symm)
      | skip
  all_goals
    simp only [Option.bind_eq_bind, Option.bind_eq_some_iff] at h
    obtain ⟨_, _, _, _, h⟩ := h
    repeat' split at h
    all_goals first
      | (cases h; done)
      | (cases h; exact hr _ _ rfl)
theorem op_call {o : Oper} {ao : AOp} (hc : compOp P o = some ao) {ρ ρ' : Env} (hρ : ∀ x ∈ o.op.operands, VR ι (ρ x) (ρ' x)) {f : Nat} {args : Array Value} (h : evOp ρ H ao = some (.call f args)) :
    ∃ args', VA ι args args' ∧ (execOp ρ' o).run P w = (callFunc f args').run P w := by
  have ho := evOp_odd h (by simp)
  obtain ⟨dst, op, ty, pos, after, guard⟩ := o
  rcases comp_odd hc ho with ⟨g, as, ats, e1, e2⟩ | ⟨g, as, ats, e1, e2⟩ | ⟨as, ats, e1, e2⟩ | ⟨x, e1, e2⟩
  · simp only at e1
    subst e1; subst e2
    have h1 := hρ g (by simp [Op.operands, Call.operands])
    have h2 := VA_map (ρ := ρ) (ρ' := ρ') (xs := as) (fun y hy => hρ y (by simp [Op.operands, Call.operands]; exact .inr hy))
    simp only [evOp] at h
    split at h
    · rename_i q first captured hq
      simp only [Option.some.injEq, OR.call.injEq] at h
      obtain ⟨rfl, rfl⟩ := h
      rw [hq] at h1
      cases hcc : ρ' g <;> rw [hcc] at h1 <;> cases h1
      rename_i a' b' ha hA hb hB
      refine ⟨a' ++ as.map ρ' ++ b', VA_append (VA_append ⟨ha, hA⟩ h2) ⟨hb, hB⟩, ?_⟩
      simp only [execOp, resolve, hcc, Deferred.ofValue, Sem.run_bind, Sem.run_pure, Result.andThen_ok, invoke]
    · cases h
  · subst e2
    simp only [evOp] at h
    split at h <;> cases h
  · subst e2
    simp only [evOp] at h
    cases h
  · subst e2
    simp only [evOp] at h
    split at h <;> cases h
def DR (ι : Inj) (d : Nat × Array Value) (d' : Deferred) : Prop := ∃ cap da, d' = { target := .fn (.func d.1) cap, args := da } ∧ VA ι d.2 (da ++ cap)
theorem op_defer {o : Oper} {ao : AOp} (hc : compOp P o = some ao) {ρ ρ' : Env} (hρ : ∀ x ∈ o.op.operands, VR ι (ρ x) (ρ' x)) {f : Nat} {args : Array Value} (h : evOp ρ H ao = some (.defer f args)) :
    ∃ d, DR ι (f, args) d ∧ (execOp ρ' o).run P w = .ok (.defer d) w := by
  have ho := evOp_odd h (by simp)
  obtain ⟨dst, op, ty, pos, after, guard⟩ := o
  rcases comp_odd hc ho with ⟨g, as, ats, e1, e2⟩ | ⟨g, as, ats, e1, e2⟩ | ⟨as, ats, e1, e2⟩ | ⟨x, e1, e2⟩
  · subst e2
    simp only [evOp] at h
    split at h <;> cases h
  · simp only at e1
    subst e1; subst e2
    have h1 := hρ g (by simp [Op.operands, Call.operands])
    have h2 := VA_map (ρ := ρ) (ρ' := ρ') (xs := as) (fun y hy => hρ y (by simp [Op.operands, Call.operands]; exact .inr hy))
    simp only [evOp] at h
    split at h
    · rename_i q first captured hq
      simp only [Option.some.injEq, OR.defer.injEq] at h
      obtain ⟨rfl, rfl⟩ := h
      rw [hq] at h1
      cases hcc : ρ' g <;> rw [hcc] at h1 <;> cases h1
      rename_i a' b' ha hA hb hB
      refine ⟨{ target := .fn (.func q) b', args := a' ++ as.map ρ' }, ⟨b', a' ++ as.map ρ', rfl, VA_append (VA_append ⟨ha, hA⟩ h2) ⟨hb, hB⟩⟩, ?_⟩
      simp only [execOp, resolve, hcc, Deferred.ofValue, Sem.run_bind, Sem.run_pure, Result.andThen_ok]
    · cases h
  · subst e2
    simp only [evOp] at h
    cases h
  · subst e2
    simp only [evOp] at h
    split at h <;> cases h
theorem op_recover {o : Oper} {ao : AOp} (hc : compOp P o = some ao) {ρ ρ' : Env} (h : evOp ρ H ao = some .recover) : (execOp ρ' o).run P w = .ok .recover w := by
  have ho := evOp_odd h (by simp)
  obtain ⟨dst, op, ty, pos, after, guard⟩ := o
  rcases comp_odd hc ho with ⟨g, as, ats, e1, e2⟩ | ⟨g, as, ats, e1, e2⟩ | ⟨as, ats, e1, e2⟩ | ⟨x, e1, e2⟩
  · subst e2
    simp only [evOp] at h
    split at h <;> cases h
  · subst e2
    simp only [evOp] at h
    split at h <;> cases h
  · simp only at e1
    subst e1
    simp only [execOp, resolve, Sem.run_bind, Sem.run_pure, Result.andThen_ok, invoke, builtin]
  · subst e2
    simp only [evOp] at h
    split at h <;> cases h
theorem op_panic {o : Oper} {ao : AOp} (hc : compOp P o = some ao) {ρ ρ' : Env} (hρ : ∀ x ∈ o.op.operands, VR ι (ρ x) (ρ' x)) {v : Value} (h : evOp ρ H ao = some (.panic v)) : ∃ v', VR ι v v' ∧ (execOp ρ' o).run P w = .halt (.panic v') w := by
  have ho := evOp_odd h (by simp)
  obtain ⟨dst, op, ty, pos, after, guard⟩ := o
  rcases comp_odd hc ho with ⟨g, as, ats, e1, e2⟩ | ⟨g, as, ats, e1, e2⟩ | ⟨as, ats, e1, e2⟩ | ⟨x, e1, e2⟩
  · subst e2
    simp only [evOp] at h
    split at h <;> cases h
  · subst e2
    simp only [evOp] at h
    split at h <;> cases h
  · subst e2
    simp only [evOp] at h
    cases h
  · simp only at e1
    subst e1; subst e2
    have h1 := hρ x (by simp [Op.operands])
    simp only [evOp] at h
    split at h
    · rename_i t u hx
      simp only [Option.some.injEq, OR.panic.injEq] at h
      subst h
      rw [hx] at h1
      cases hcc : ρ' x <;> rw [hcc] at h1 <;> cases h1
      refine ⟨_, .iface _ _ _ (by assumption), ?_⟩
      simp only [execOp, hcc, Instr.panic, goPanic, Sem.run_bind, Sem.run_halt, Result.andThen_halt]
    · cases h
inductive DL (ι : Inj) : List (Nat × Array Value) → List Deferred → Prop where
  | nil : DL ι [] []
  | cons {x : Nat × Array Value} {x' : Deferred} {l : List (Nat × Array Value)} {l' : List Deferred} (h : DR ι x x') (t : DL ι l l') : DL ι (x :: l) (x' :: l')
theorem DR.ext {ι ι' : Inj} (e : Ext ι ι') {d : Nat × Array Value} {d' : Deferred} (h : DR ι d d') : DR ι' d d' := by
  obtain ⟨cap, da, e1, e2⟩ := h
  exact ⟨cap, da, e1, e2.ext e⟩
theorem DL.ext {ι ι' : Inj} (e : Ext ι ι') {l : List (Nat × Array Value)} {l' : List Deferred} (h : DL ι l l') : DL ι' l l' := by
  induction h with
  | nil => exact .nil
  | cons h _ ih => exact .cons (h.ext e) ih
structure SR (GL : List Nat) (N : Nat) (ι : Inj) (s : St) (a : Act) (w : World) : Prop where
  size : a.tmps.size = N
  tmps : ∀ i, VR ι (s.get i) (a.tmps.getD i undef)
  wr : WR GL ι s.H w
  ds : DL ι s.ds a.defers
structure SP (GL : List Nat) (N : Nat) (ι : Inj) (s : St) (a : Act) (w : World) : Prop where
  size : a.tmps.size = N
  tmps : ∀ i, s.get i = bad ∨ VR ι (s.get i) (a.tmps.getD i undef)
  wr : WR GL ι s.H w
  ds : DL ι s.ds a.defers
variable {N : Nat} {s : St} {a : Act}
theorem SR.weak (h : SR GL N ι s a w) : SP GL N ι s a w := ⟨h.size, fun i => .inr (h.tmps i), h.wr, h.ds⟩
theorem SR.env (h : SR GL N ι s a w) (x : Operand) (hx : okOpd GL x = true) : VR ι (s.env x) (a.eval x) := by
  cases x with
  | tmp t => exact h.tmps t
  | const v => exact flatVR ι 3 v hx
  | global g =>
    obtain ⟨i, hi, hc, hd⟩ := h.wr.glob g (by simpa [okOpd] using hx)
    have := VR.ptr (ι := ι) g 0 i hi
    rw [hc, hd] at this
    exact this
  | func f => exact .func _ _ _ _ _ rfl rfl (fun j v v' e => by simp at e) (fun j v v' e => by simp at e)
theorem get_put (s : St) (d : Option Nat) (v : Value) (i : Nat) : (s.put d v).get i = if d = some i then v else s.get i := by
  cases d with
  | none => simp [St.put]
  | some d =>
    simp only [St.put, St.get, Tr.get_set, Option.some.injEq]
    split <;> rfl
theorem put_H (s : St) (d : Option Nat) (v : Value) : (s.put d v).H = s.H := by cases d <;> rfl
theorem put_ds (s : St) (d : Option Nat) (v : Value) : (s.put d v).ds = s.ds := by cases d <;> rfl
theorem tmps_put {d : Option Nat} {v : Value} (i : Nat) (hd : ∀ j, d = some j → j < a.tmps.size) : (a.put d v).tmps.getD i undef = if d = some i then v else a.tmps.getD i undef := by
  cases d with
  | none => simp [Act.put]
  | some d =>
    simp only [Act.put, Option.some.injEq, Array.getD_eq_getD_getElem?, Array.getElem?_setIfInBounds]
    by_cases h : d = i
    · subst h
      simp [hd d rfl]
    · simp [h]
theorem size_put (d : Option Nat) (v : Value) : (a.put d v).tmps.size = a.tmps.size := by
  cases d <;> simp [Act.put]
theorem defers_put (d : Option Nat) (v : Value) : (a.put d v).defers = a.defers := by cases d <;> rfl
theorem SR.next (h : SR GL N ι s a w) {ι' : Inj} {w' : World} {H' : Hp} (e : Ext ι ι') (hw : WR GL ι' H' w') {d : Option Nat} (hd : d.all (· < N) = true) {v v' : Value} (hv : VR ι' v v') : SR GL N ι' ({ s with H := H' }.put d v) (a.put d v') w' := by
  refine ⟨by rw [size_put]; exact h.size, fun i => ?_, by rw [put_H]; exact hw, ?_⟩
  · rw [get_put, tmps_put i (fun j hj => by subst hj; rw [h.size]; simpa using hd)]
    split
    · exact hv
    · exact (h.tmps i).ext e
  · rw [put_ds, defers_put]
    exact h.ds.ext e
theorem SR.move (h : SR GL N ι s a w) {ι' : Inj} {w' : World} {H' : Hp} (e : Ext ι ι') (hw : WR GL ι' H' w') : SR GL N ι' { s with H := H' } a w' :=
  ⟨h.size, fun i => (h.tmps i).ext e, hw, h.ds.ext e⟩
theorem SR.defer (h : SR GL N ι s a w) {d : Option Nat} (hd : d.all (· < N) = true) {x : Nat × Array Value} {x' : Deferred} (hx : DR ι x x') : SR GL N ι ({ s with ds := x :: s.ds }.put d undef) (({ a with defers := x' :: a.defers } : Act).put d undef) w := by
  refine ⟨by rw [size_put]; exact h.size, fun i => ?_, by rw [put_H]; exact h.wr, ?_⟩
  · rw [get_put, tmps_put i (fun j hj => by subst hj; show j < a.tmps.size; rw [h.size]; simpa using hd)]
    split
    · exact undefVR _
    · exact h.tmps i
  · rw [put_ds, defers_put]
    exact .cons hx h.ds
theorem wanted_same (h : SR GL N ι s a w) (ops : Array Oper) (o : Oper) : Region.wanted o (yielded ops a.tmps) = wantedO s (o.guard.map fun (j, b) => ((ops[j]?).bind (·.dst), b)) := by
  unfold Region.wanted wantedO
  cases hg : o.guard with
  | none => rfl
  | some jb =>
    obtain ⟨j, b⟩ := jb
    simp only [Option.map_some, yielded]
    cases hd : (ops[j]?).bind (·.dst) with
    | none => rfl
    | some t =>
      simp only [Option.bind_some]
      have ht := h.tmps t
      cases hq : a.tmps[t]? with
      | none =>
        have : a.tmps.getD t undef = undef := by simp [hq]
        rw [this] at ht
        generalize hs : s.get t = z at ht ⊢
        cases ht
        rfl
      | some v' =>
        have : a.tmps.getD t undef = v' := by simp [hq]
        rw [this] at ht
        generalize hs : s.get t = z at ht ⊢
        cases ht <;> first | rfl | simp
end Go.Proofs.YtehbekgmemebjaaDoorEv
namespace Go.Proofs.YtehbekgmemebjaaDoorEv
open Go
set_option linter.unusedVariables false
set_option linter.unusedSimpArgs false
variable {P : Program} {GL : List Nat} {ι : Inj} {H : Hp} {w : World} {N : Nat} {s s1 : St} {a : Act}
def CRel (GL : List Nat) (ι : Inj) (H : Hp) (w : World) (r : CR) (e : Ending) (w' : World) : Prop := match r with
  | .ret v H' => ∃ v' ι', e = .returned v' ∧ New ι ι' H.size w ∧ VR ι' v v' ∧ WR GL ι' H' w' ∧ Fr ι w w' ∧ H.size ≤ H'.size
  | .pan v H' => ∃ v' ι', e = .panicked [{ v := v', recovered := false }] ∧ New ι ι' H.size w ∧ VR ι' v v' ∧ WR GL ι' H' w' ∧ Fr ι w w' ∧ H.size ≤ H'.size
def HasBody (P : Program) (f : Nat) : Prop := ∃ fn, P.funcs[f]? = some fn ∧ (fn.name == "runtime.NumGoroutine") = false ∧ fn.body.isNone = false
def CallOK (P : Program) (GL : List Nat) (call : Caller) : Prop := ∀ f args H r, call f args H = some r → HasBody P f ∧ ∀ ι w args', WR GL ι H w → VA ι args args' → Calls P f args' w (CRel GL ι H w r)
theorem callFunc_run {f : Nat} (h : HasBody P f) (args : Array Value) : (callFunc f args).run P w = .ok (.enter f args) w := by
  obtain ⟨fn, h1, h2, h3⟩ := h
  simp only [callFunc, Sem.run_bind, run_program, Result.andThen_ok, h1, h2, h3, Bool.false_eq_true, if_false, Sem.run_pure]
def Post (GL : List Nat) (N : Nat) (ι : Inj) (s : St) (w : World) (ex : AExit) (s1 : St) (e : Exit) (a' : Act) (w' : World) : Prop :=
  ∃ ι', New ι ι' s.H.size w ∧ Fr ι w w' ∧ s.H.size ≤ s1.H.size ∧ match ex with
    | .normal => e = .normal ∧ SR GL N ι' s1 a' w'
    | .exit i => e = .exit i ∧ SR GL N ι' s1 a' w'
    | .ret => e = .ret ∧ SR GL N ι' s1 a' w'
    | .pan v => (∃ v', e = .panic [{ v := v', recovered := false }] ∧ VR ι' v v') ∧ SP GL N ι' s1 a' w'
theorem Post.after {ι1 : Inj} {w1 : World} {s2 : St} {ex : AExit} {e : Exit} {a' : Act} {w' : World} (hn : New ι ι1 s.H.size w) (hf : Fr ι w w1) (hs : s.H.size ≤ s1.H.size) (h : Post GL N ι1 s1 w1 ex s2 e a' w') : Post GL N ι s w ex s2 e a' w' := by
  obtain ⟨ι2, n2, f2, z2, r⟩ := h
  exact ⟨ι2, hn.trans n2 hs hf.size, hf.trans f2 hn, by omega, r⟩
def Owes (K : Act → World → Prop) (Q : Exit → Act → World → Prop) : Exit → Act → World → Prop
  | .normal, a, w => K a w
  | e, a, w => Q e a w
theorem opr_out {call : Caller} (hcall : CallOK P GL call) {ops : Array Oper} {i : Nat} {o : Oper} {ao : AOpr} (hi : ops[i]? = some o) (hc : compOpr P N GL ops o = some ao) (hdf : s.df = false) (hρ : ∀ x ∈ o.op.operands, okOpd GL x = true → VR ι (s.env x) (a.eval x))
    (hg : Region.wanted o (yielded ops a.tmps) = wantedO s ao.guard) (hwr : WR GL ι s.H w) {ex : AExit} (he : evOpr call ao s = some (ex, s1))
    {K : Act → World → Prop} {Q : Exit → Act → World → Prop} (hK : ∀ v v' H' w' ι', ex = .normal → s1 = { s with H := H' }.put ao.dst v → New ι ι' s.H.size w → VR ι' v v' → WR GL ι' H' w' → Fr ι w w' → s.H.size ≤ H'.size → K (a.put ao.dst v') w')
    (hD : ∀ x d, ex = .normal → s1 = { s with ds := x :: s.ds }.put ao.dst undef → DR ι x d → K (({ a with defers := d :: a.defers } : Act).put ao.dst undef) w)
    (hQ : ∀ v v' H' w' ι', ex = .pan v → s1 = { s with H := H' } → New ι ι' s.H.size w → VR ι' v v' → WR GL ι' H' w' → Fr ι w w' → s.H.size ≤ H'.size → Q (.panic [{ v := v', recovered := false }]) a w') : wpOp P ops Q i K a w := by
  unfold compOpr at hc
  split at hc
  case isFalse => cases hc
  rename_i hok
  simp only [Bool.and_eq_true, Array.all_eq_true_iff_forall_mem] at hok
  simp only [Option.map_eq_some_iff] at hc
  obtain ⟨op, hop, rfl⟩ := hc
  have hρ : ∀ x ∈ o.op.operands, VR ι (s.env x) (a.eval x) := fun x hx => hρ x hx (hok.1 x hx)
  have hdst := hok.2
  unfold wpOp
  simp only [hi]
  rw [hg]
  unfold evOpr at he
  simp only at he
  split at he
  · rename_i hw
    rw [if_pos hw]
    left
    split at he
    · rename_i v H' hv
      simp only [Option.some.injEq, Prod.mk.injEq] at he
      obtain ⟨rfl, rfl⟩ := he
      obtain ⟨v', w', ι', hr, hn, hvv, hww, hf, hz⟩ := op_sound hop hρ hwr hv
      unfold Oper.wp
      rcases hr with hr | ⟨hr, rfl⟩
      · rw [hr]
        exact hK v v' H' w' ι' rfl rfl hn hvv hww hf hz
      · rw [hr]
        exact hK v _ H' w' ι' rfl rfl hn hvv hww hf hz
    · rename_i f args hv
      obtain ⟨args', hva, hr⟩ := op_call (P := P) (w := w) hop hρ hv
      unfold Oper.wp
      split at he
      · rename_i v H' hcl
        simp only [Option.some.injEq, Prod.mk.injEq] at he
        obtain ⟨rfl, rfl⟩ := he
        obtain ⟨hb, hcs⟩ := hcall f args s.H _ hcl
        rw [hr, callFunc_run hb]
        refine (hcs ι w args' hwr hva).mono ?_
        rintro e w'' ⟨v', ι', rfl, hn, hvv, hww, hf, hz⟩
        exact hK v v' H' w'' ι' rfl rfl hn hvv hww hf hz
      · rename_i v H' hcl
        simp only [Option.some.injEq, Prod.mk.injEq] at he
        obtain ⟨rfl, rfl⟩ := he
        obtain ⟨hb, hcs⟩ := hcall f args s.H _ hcl
        rw [hr, callFunc_run hb]
        refine (hcs ι w args' hwr hva).mono ?_
        rintro e w'' ⟨v', ι', rfl, hn, hvv, hww, hf, hz⟩
        exact hQ v v' H' w'' ι' rfl rfl hn hvv hww hf hz
      · cases he
    · rename_i f args hv
      rw [if_neg (by simp [hdf])] at he
      simp only [Option.some.injEq, Prod.mk.injEq] at he
      obtain ⟨rfl, rfl⟩ := he
      obtain ⟨d, hd, hr⟩ := op_defer (P := P) (w := w) hop hρ hv
      unfold Oper.wp
      rw [hr]
      exact hD _ d rfl rfl hd
    · rw [if_neg (by simp [hdf])] at he
      cases he
    · rename_i v hv
      simp only [Option.some.injEq, Prod.mk.injEq] at he
      obtain ⟨rfl, rfl⟩ := he
      obtain ⟨v', hvv, hr⟩ := op_panic (P := P) (w := w) hop hρ hv
      unfold Oper.wp
      rw [hr]
      exact hQ v v' s.H w ι rfl rfl (New.refl _ _ _) hvv hwr (Fr.refl _ _) (Nat.le_refl _)
    · cases he
  · rename_i hw
    rw [if_neg hw]
    simp only [Option.some.injEq, Prod.mk.injEq] at he
    obtain ⟨rfl, rfl⟩ := he
    exact hK undef undef s.H w ι rfl rfl (New.refl _ _ _) (undefVR _) hwr (Fr.refl _ _) (Nat.le_refl _)
theorem compOpr_dst {ops : Array Oper} {o : Oper} {ao : AOpr} (hc : compOpr P N GL ops o = some ao) : ao.dst = o.dst ∧ ao.dst.all (· < N) = true ∧ ao.guard = o.guard.map fun (j, b) => ((ops[j]?).bind (·.dst), b) := by
  unfold compOpr at hc
  split at hc
  case isFalse => cases hc
  rename_i hok
  simp only [Bool.and_eq_true] at hok
  simp only [Option.map_eq_some_iff] at hc
  obtain ⟨op, hop, rfl⟩ := hc
  exact ⟨rfl, hok.2, rfl⟩
theorem opr_wp {call : Caller} (hcall : CallOK P GL call) {ops : Array Oper} {i : Nat} {o : Oper} {ao : AOpr} (hi : ops[i]? = some o) (hc : compOpr P N GL ops o = some ao) (hdf : s.df = false) (hs : SR GL N ι s a w) {ex : AExit} (he : evOpr call ao s = some (ex, s1))
    {K : Act → World → Prop} {Q : Exit → Act → World → Prop} (hK : ∀ e a' w', Post GL N ι s w ex s1 e a' w' → Owes K Q e a' w') : wpOp P ops Q i K a w := by
  obtain ⟨hd, hdst, hg⟩ := compOpr_dst hc
  refine opr_out hcall hi hc hdf (fun x _ hx => hs.env x hx) (by rw [hg]; exact wanted_same hs ops o) hs.wr he ?_ ?_ ?_
  · rintro v v' H' w' ι' rfl rfl hn hvv hww hf hz
    exact hK .normal _ _ ⟨ι', hn, hf, by rw [put_H]; exact hz, rfl, hs.next hn.ext hww hdst hvv⟩
  · rintro x d rfl rfl hx
    exact hK .normal _ _ ⟨ι, New.refl _ _ _, Fr.refl _ _, by rw [put_H]; exact Nat.le_refl _, rfl, hs.defer hdst hx⟩
  · rintro v v' H' w' ι' rfl rfl hn hvv hww hf hz
    exact hK (.panic [{ v := v', recovered := false }]) _ _ ⟨ι', hn, hf, hz, ⟨v', rfl, hvv⟩, (hs.move hn.ext hww).weak⟩
theorem evOpr_df {call : Caller} {ao : AOpr} {ex : AExit} (he : evOpr call ao s = some (ex, s1)) : s1.df = s.df := by
  have hp : ∀ (s : St) d v, (s.put d v).df = s.df := fun s d v => by cases d <;> rfl
  unfold evOpr at he
  repeat' split at he
  all_goals first
    | (cases he; done)
    | (simp only [Option.some.injEq, Prod.mk.injEq] at he; obtain ⟨_, rfl⟩ := he; first | rfl | exact hp _ _ _ | (rw [hp]))
theorem evOps_df {call : Caller} : ∀ (l : List AOpr) (s : St) {ex : AExit} {s1 : St}, evOps call l s = some (ex, s1) → s1.df = s.df
  | [], s, ex, s1, h => by simp only [evOps, Option.some.injEq, Prod.mk.injEq] at h; rw [h.2]
  | o :: r, s, ex, s1, h => by
    simp only [evOps] at h
    split at h
    · rename_i s2 h2
      rw [evOps_df r s2 h, evOpr_df h2]
    · exact evOpr_df h
theorem ops_wp {call : Caller} (hcall : CallOK P GL call) {ops : Array Oper} {l : List AOpr} (hl : ops.toList.mapM (compOpr P N GL ops) = some l) {Q : Exit → Act → World → Prop} : ∀ (r : List AOpr) (j : Nat), l.drop j = r → ∀ (ι : Inj) (s : St) (a : Act) (w : World) (ex : AExit) (s1 : St), s.df = false → SR GL N ι s a w → evOps call r s = some (ex, s1) →
    (∀ e a' w', Post GL N ι s w ex s1 e a' w' → Q e a' w') → wpOps P ops Q (List.range' j r.length) a w := by
  have hlen : l.length = ops.size := by
    have : ∀ (xs : List Oper) (l : List AOpr), xs.mapM (compOpr P N GL ops) = some l → l.length = xs.length := by
      intro xs
      induction xs with
      | nil => intro l h; simp at h; simp [← h]
      | cons x xs ih =>
        intro l h
        simp only [List.mapM_cons, Option.bind_eq_bind, Option.bind_eq_some_iff, Option.pure_def] at h
        obtain ⟨y, _, ys, hys, h⟩ := h
        cases h
        simp [ih ys hys]
    simpa using this _ _ hl
  have hat : ∀ (xs : List Oper) (l : List AOpr), xs.mapM (compOpr P N GL ops) = some l → ∀ (j : Nat) (ao : AOpr), l[j]? = some ao → ∃ o, xs[j]? = some o ∧ compOpr P N GL ops o = some ao := by
    intro xs
    induction xs with
    | nil => intro l h j ao hj; simp at h; subst h; simp at hj
    | cons x xs ih =>
      intro l h j ao hj
      simp only [List.mapM_cons, Option.bind_eq_bind, Option.bind_eq_some_iff, Option.pure_def] at h
      obtain ⟨y, hy, ys, hys, h⟩ := h
      cases h
      cases j with
      | zero => simp at hj; subst hj; exact ⟨x, rfl, hy⟩
      | succ j => simpa using ih ys hys j ao (by simpa using hj)
  intro r
  induction r with
  | nil =>
    intro j _ ι s a w ex s1 hdf hs he hQ
    simp only [evOps, Option.some.injEq, Prod.mk.injEq] at he
    obtain ⟨rfl, rfl⟩ := he
    exact hQ .normal a w ⟨ι, New.refl _ _ _, Fr.refl _ _, Nat.le_refl _, rfl, hs⟩
  | cons ao r ih =>
    intro j hj ι s a w ex s1 hdf hs he hQ
    have hj0 : l[j]? = some ao := by
      have : (l.drop j)[0]? = some ao := by rw [hj]; rfl
      simpa using this
    obtain ⟨o, ho, hc⟩ := hat _ _ hl j ao hj0
    have ho' : ops[j]? = some o := by simpa using ho
    rw [List.length_cons, List.range'_succ, wpOps_cons]
    simp only [evOps] at he
    split at he
    · rename_i s2 h2
      refine opr_wp hcall ho' hc hdf hs h2 ?_
      rintro e a' w' ⟨ι', hn, hf, hz, rfl, hs'⟩
      refine ih (j + 1) (by have := congrArg List.tail hj; simpa [List.tail_drop] using this) ι' s2 a' w' ex s1 (by rw [evOpr_df h2]; exact hdf) hs' he (fun e a'' w'' hp => hQ e a'' w'' (hp.after hn hf hz))
    · rename_i hne
      refine opr_wp hcall ho' hc hdf hs he ?_
      intro e a' w' hp
      have := hQ e a' w' hp
      obtain ⟨ι', _, _, _, hx⟩ := hp
      cases ex with
      | normal => exact absurd he (hne s1)
      | exit i => obtain ⟨rfl, _⟩ := hx; exact this
      | ret => obtain ⟨rfl, _⟩ := hx; exact this
      | pan v => obtain ⟨⟨v', rfl, _⟩, _⟩ := hx; exact this
end Go.Proofs.YtehbekgmemebjaaDoorEv
