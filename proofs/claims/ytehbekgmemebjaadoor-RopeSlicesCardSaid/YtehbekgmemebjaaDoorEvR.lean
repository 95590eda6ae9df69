import Derived.Test.YtehbekgmemebjaaDoorEvQ
namespace Go.Proofs.YtehbekgmemebjaaDoorEv
open Go
set_option linter.unusedVariables false
set_option linter.unusedSimpArgs false
variable {P : Program} {GL : List Nat} {ι : Inj} {H : Hp} {w : World} {N : Nat} {s s1 : St} {a : Act}
theorem enterT_get : ∀ (l : List Value) (i : Nat) (t : Tr Value) (j : Nat), (enterT i l t).get j = if i ≤ j ∧ j < i + l.length then l[j - i]? else t.get j := by
  intro l
  induction l with
  | nil => intro i t j; rw [enterT, if_neg (by simp only [List.length_nil]; omega)]
  | cons v r ih =>
    intro i t j
    rw [enterT, ih, Tr.get_set]
    simp only [List.length_cons]
    by_cases h1 : i + 1 ≤ j ∧ j < i + 1 + r.length
    · rw [if_pos h1, if_pos (by omega), show j - i = (j - (i + 1)) + 1 by omega, List.getElem?_cons_succ]
    · rw [if_neg h1]
      by_cases h2 : i = j
      · subst h2
        rw [if_pos rfl, if_pos (by omega)]
        simp
      · rw [if_neg h2, if_neg (by omega)]
theorem SR.enter (hw : WR GL ι H w) {args args' : Array Value} (ha : VA ι args args') {n : Nat} (hn : ¬ n < args.size) (df : Bool) (pm : Option (Value × Bool)) :
    SR GL n ι { t := enterT 0 args.toList .nil, H, ds := [], df, pm } { tmps := args' ++ Array.replicate (n - args'.size) undef, defers := [] } w := by
  have hsz := ha.1
  refine ⟨by simp only [Array.size_append, Array.size_replicate]; omega, fun i => ?_, hw, .nil⟩
  simp only [St.get, enterT_get, Nat.zero_le, true_and, Nat.zero_add, Nat.sub_zero, Array.length_toList]
  by_cases hi : i < args.size
  · rw [if_pos hi]
    have e1 : args.toList[i]? = some args[i] := by simp [hi]
    have e2 : (args' ++ Array.replicate (n - args'.size) undef).getD i undef = args'[i]'(by omega) := by
      rw [Array.getD_eq_getD_getElem?, Array.getElem?_append_left (by omega), Array.getElem?_eq_getElem (by omega)]
      rfl
    rw [e1, e2]
    exact ha.2 i _ _ (by simp [hi]) (by first | (simp; done) | (simp; omega))
  · rw [if_neg hi]
    have e2 : (args' ++ Array.replicate (n - args'.size) undef).getD i undef = undef := by
      rw [Array.getD_eq_getD_getElem?, Array.getElem?_append_right (by omega), Array.getElem?_replicate]
      split <;> rfl
    rw [e2]
    exact undefVR ι
theorem res_run {fn : Func} {tmps : Array Value} {rs : List ARes} (hrs : fn.results.toList.mapM (compRes P) = some rs) (ht : ∀ i, s.get i = bad ∨ VR ι (s.get i) (tmps.getD i undef)) (hw : WR GL ι s.H w) {v : Value} (h : resultsO s rs = some v) :
    ∃ v', (results fn tmps).run P w = .ok v' w ∧ VR ι v v' := by
  unfold resultsO at h
  simp only [Option.map_eq_some_iff] at h
  obtain ⟨vs, hvs, hv⟩ := h
  have key : ∀ (xs : List ResultVar) (rs : List ARes) (vs : List Value), xs.mapM (compRes P) = some rs → rs.mapM (resO s) = some vs → ∃ vs', (xs.mapM fun x => (match x with
      | .tmp t => pure (tmps.getD t undef)
      | .cell a t => do loadVar t (← asAddr (tmps.getD a undef)) : Sem Value)).run P w = .ok vs' w ∧ VL ι vs vs' := by
    intro xs
    induction xs with
    | nil =>
      intro rs vs h1 h2
      simp at h1; subst h1
      simp at h2; subst h2
      exact ⟨[], by simp, rfl, fun j v v' e => by simp at e⟩
    | cons x xs ih =>
      intro rs vs h1 h2
      simp only [List.mapM_cons, Option.bind_eq_bind, Option.bind_eq_some_iff, Option.pure_def] at h1
      obtain ⟨y, hy, ys, hys, h1⟩ := h1
      cases h1
      simp only [List.mapM_cons, Option.bind_eq_bind, Option.bind_eq_some_iff, Option.pure_def] at h2
      obtain ⟨z, hz, zs, hzs, h2⟩ := h2
      cases h2
      obtain ⟨vs', hr, hvl⟩ := ih ys zs hys hzs
      have one : ∃ z', ((match x with
          | .tmp t => pure (tmps.getD t undef)
          | .cell a t => do loadVar t (← asAddr (tmps.getD a undef)) : Sem Value)).run P w = .ok z' w ∧ VR ι z z' := by
        cases x with
        | tmp t =>
          simp only [compRes, Option.some.injEq] at hy
          subst hy
          simp only [resO] at hz
          refine ⟨tmps.getD t undef, rfl, ?_⟩
          rcases ht t with hb | hvr
          · rw [hb] at hz; simp [bad] at hz
          · split at hz
            · cases hz
            · simp only [Option.some.injEq] at hz
              subst hz; exact hvr
        | cell c t =>
          simp only [compRes] at hy
          split at hy
          · rename_i n hagg hn
            cases hy
            simp only [resO] at hz
            rcases ht c with hb | hvr
            · rw [hb] at hz; simp [bad, loadAO] at hz
            · unfold loadAO at hz
              split at hz
              · rename_i b o hp
                rw [hp] at hvr
                split at hz
                · rename_i cs u ro hg
                  split at hz
                  · rename_i hle
                    cases hz
                    show ∃ z', (do loadVar t (← asAddr (tmps.getD c undef)) : Sem Value).run P w = .ok z' w ∧ VR ι _ z'
                    generalize tmps.getD c undef = pv at hvr ⊢
                    cases hvr with
                    | ptr _ _ i hi =>
                      obtain ⟨l, hl, hv, hc⟩ := cells_of hw hi hg hle
                      have := run_loadCells_list (P := P) w _ l hc
                      rw [hl] at this
                      exact ⟨.agg l.toArray, by simp [asAddr, loadVar, aggQ_run hagg, sizeQ_run hn, this], .agg _ _ hv.array.1 hv.array.2⟩
                  · cases hz
                · cases hz
              · cases hz
          · rename_i n hagg hn
            cases hy
            simp only [resO] at hz
            rcases ht c with hb | hvr
            · rw [hb] at hz; simp [bad, loadO] at hz
            · unfold loadO at hz
              split at hz
              · rename_i b o hp
                rw [hp] at hvr
                split at hz
                · rename_i cs u ro hg
                  show ∃ z', (do loadVar t (← asAddr (tmps.getD c undef)) : Sem Value).run P w = .ok z' w ∧ VR ι _ z'
                  generalize tmps.getD c undef = pv at hvr ⊢
                  cases hvr with
                  | ptr _ _ i hi =>
                    obtain ⟨v', hc, hv⟩ := cell_of hw hi hg hz
                    exact ⟨v', by simp [asAddr, loadVar, aggQ_run hagg, hc], hv⟩
                · cases hz
              · cases hz
          · cases hy
      obtain ⟨z', hz', hzz⟩ := one
      refine ⟨z' :: vs', ?_, ?_⟩
      · simp only [List.mapM_cons, Sem.run_bind, hz', hr, Result.andThen_ok, Sem.run_pure]
      · refine ⟨by simp [hvl.1], fun j p q e1 e2 => ?_⟩
        cases j with
        | zero => simp at e1 e2; subst e1; subst e2; exact hzz
        | succ j => exact hvl.2 j p q (by simpa using e1) (by simpa using e2)
  obtain ⟨vs', hr, hvl⟩ := key _ _ _ hrs hvs
  have hm : (fn.results.mapM fun x => (match x with
      | .tmp t => pure (tmps.getD t undef)
      | .cell a t => do loadVar t (← asAddr (tmps.getD a undef)) : Sem Value)).run P w = .ok vs'.toArray w := by
    rw [Array.mapM_eq_mapM_toList]
    simp only [Sem.run_map, hr, Result.andThen_ok]
  refine ⟨if h : vs'.toArray.size = 1 then vs'.toArray[0] else .tuple vs'.toArray, ?_, ?_⟩
  · unfold results
    simp only [Sem.run_bind]
    exact (congrArg (fun r => Result.andThen r fun a w' => Sem.run P (pure (if h : a.size = 1 then a[0] else Value.tuple a)) w') hm)
  · subst hv
    have hl := hvl.1
    match vs, vs', hvl with
    | [v], [v'], hvl => exact hvl.2 0 v v' rfl rfl
    | [], [], hvl => exact .tuple _ _ rfl fun j v v' e => by simp at e
    | x :: y :: r, x' :: y' :: r', hvl => exact .tuple _ _ hvl.array.1 hvl.array.2
    | [], _ :: _, hvl => simp [VL] at hvl
    | _ :: _, [], hvl => simp [VL] at hvl
    | [_], _ :: _ :: _, hvl => simp [VL] at hvl
    | _ :: _ :: _, [_], hvl => simp [VL] at hvl
def CodeOK (P : Program) (GL : List Nat) (code : Nat → Option AFunc) : Prop := ∀ f af, code f = some af → compFunc P GL f = some af
theorem compFunc_inv {f : Nat} {af : AFunc} (h : compFunc P GL f = some af) : ∃ fn c, P.funcs[f]? = some fn ∧ (fn.name == "runtime.NumGoroutine") = false ∧ fn.body = some c ∧ compCode P fn.ntmps GL c = some af.body ∧ fn.results.toList.mapM (compRes P) = some af.results ∧ af.ntmps = fn.ntmps := by
  unfold compFunc at h
  split at h
  · rename_i fn hfn
    split at h
    · cases h
    · rename_i hname
      split at h
      · rename_i c hc
        simp only [Option.bind_eq_some_iff, Option.map_eq_some_iff] at h
        obtain ⟨body, hb, rs, hrs, rfl⟩ := h
        exact ⟨fn, c, hfn, by simpa using hname, hc, hb, hrs, rfl⟩
      · cases h
  · cases h
def PMo (ι : Inj) (pm : Option Value) (u : FrameMode) : Prop := match pm with
  | none => u = .returning
  | some v => ∃ v', VR ι v v' ∧ u = .panicking [{ v := v', recovered := false }]
theorem CRel.after {ι1 : Inj} {H1 : Hp} {w1 : World} {r : CR} {e : Ending} {w' : World} (hn : New ι ι1 H.size w) (hf : Fr ι w w1) (hs : H.size ≤ H1.size) (h : CRel GL ι1 H1 w1 r e w') : CRel GL ι H w r e w' := by
  cases r with
  | ret v H' =>
    obtain ⟨v', ι2, he, n2, hv, hw, f2, z2⟩ := h
    exact ⟨v', ι2, he, hn.trans n2 hs hf.size, hv, hw, hf.trans f2 hn, by omega⟩
  | pan v H' =>
    obtain ⟨v', ι2, he, n2, hv, hw, f2, z2⟩ := h
    exact ⟨v', ι2, he, hn.trans n2 hs hf.size, hv, hw, hf.trans f2 hn, by omega⟩
theorem leave_ok {call : Caller} {code : Nat → Option AFunc} (hcall : CallOK P GL call) (hcode : CodeOK P GL code) {fn : Func} {tmps : Array Value} {rs : List ARes} (hrs : fn.results.toList.mapM (compRes P) = some rs) :
    ∀ (ds : List (Nat × Array Value)) (ds' : List Deferred) (pm : Option Value) (s : St) (ι : Inj) (u : FrameMode) (w : World) (r : CR) (R : Ending → World → Prop), leave call code rs ds pm s = some r → DL ι ds ds' → PMo ι pm u → (∀ i, s.get i = bad ∨ VR ι (s.get i) (tmps.getD i undef)) → WR GL ι s.H w → (∀ e w', CRel GL ι s.H w r e w' → R e w') → Leaves P fn tmps R ds' u w := by
  intro ds
  induction ds with
  | nil =>
    intro ds' pm s ι u w r R h hds hpm ht hw hR
    cases hds
    cases pm with
    | none =>
      simp only [leave, Option.map_eq_some_iff] at h
      obtain ⟨v, hv, rfl⟩ := h
      obtain ⟨v', hr, hvv⟩ := res_run hrs ht hw hv
      simp only [PMo] at hpm
      subst hpm
      exact ⟨v', hr, hR _ _ ⟨v', ι, rfl, New.refl _ _ _, hvv, hw, Fr.refl _ _, Nat.le_refl _⟩⟩
    | some v =>
      simp only [leave, Option.some.injEq] at h
      subst h
      obtain ⟨v', hvv, rfl⟩ := hpm
      exact hR _ _ ⟨v', ι, rfl, New.refl _ _ _, hvv, hw, Fr.refl _ _, Nat.le_refl _⟩
  | cons d ds ih =>
    intro ds' pm s ι u w r R h hds hpm ht hw hR
    obtain ⟨f, args⟩ := d
    cases hds with
    | cons hd htl =>
      rename_i d' dr
      obtain ⟨cap, da, rfl, hva⟩ := hd
      simp only [leave] at h
      split at h
      case h_2 => cases h
      rename_i af haf
      obtain ⟨fd, c, h1, h2, h3, h4, h5, h6⟩ := compFunc_inv (hcode f af haf)
      split at h
      · cases h
      rename_i hle
      rw [h6] at hle
      have hsr := SR.enter hw hva hle true (pm.map fun v => (v, false))
      have hpm0 : PM ι (pm.map fun v => (v, false)) u := by
        cases pm with
        | none => exact hpm
        | some v => exact hpm
      have hu : u ≠ .run := by
        cases pm with
        | none => simp only [PMo] at hpm; subst hpm; simp
        | some v => obtain ⟨v', _, rfl⟩ := hpm; simp
      have hbody : HasBody P f := ⟨fd, h1, h2, by rw [h3]; rfl⟩
      have go : ∀ (ex : AExit) (s1 : St), (ex = .normal ∨ ex = .ret) → evS call af.body { t := enterT 0 args.toList .nil, H := s.H, ds := [], df := true, pm := pm.map fun v => (v, false) } = some (ex, s1) → (if s1.ds.isEmpty && af.results.isEmpty then leave call code rs ds (match s1.pm with
          | some (v, false) => some v
          | _ => none) { s with H := s1.H } else none) = some r → Leaves P fn tmps R ({ target := .fn (.func f) cap, args := da } :: dr) u w := by
        intro ex s1 hex he hlv
        split at hlv
        case isFalse => cases hlv
        rename_i hempty
        simp only [Bool.and_eq_true, List.isEmpty_iff] at hempty
        obtain ⟨hds1, hres⟩ := hempty
        refine leaves_cons hu (by simp only [invoke]; exact callFunc_run hbody _) ?_
        refine callsD_of_wpS h1 h3 ?_
        intro c₀ cs hc0
        have hcs : (c₀ :: cs : List Frame) = { c₀ with mode := u } :: cs := by subst hc0; rfl
        rw [hcs]
        have hnp : ∀ v, ex ≠ .pan v := by intro v hv; subst hv; rcases hex with h | h <;> cases h
        obtain ⟨p1, _⟩ := codeS (c0 := c₀) (cs0 := cs) hcall c af.body h4 ι _ _ w u ex s1 rfl hsr hpm0 he hnp
        intro b k hb hr
        obtain ⟨e, a', cs', w', hq, harr⟩ := p1 b k hb hr
        refine ⟨e, a', cs', w', ?_, harr⟩
        obtain ⟨ι', u', rfl, hpm', hn, hf, hz, hx⟩ := hq
        have fin : ∀ (hs' : SR GL fd.ntmps ι' s1 a' w'), a'.defers = [] ∧ ∃ u'', ({ c₀ with mode := u' } :: cs : List Frame) = { c₀ with mode := u'' } :: cs ∧ ∃ v, (results fd a'.tmps).run P w' = .ok v w' ∧ Leaves P fn tmps R dr (settle u'') w' := by
          intro hs'
          have hd' : a'.defers = [] := by
            have := hs'.ds
            rw [hds1] at this
            generalize a'.defers = dd at this ⊢
            cases this
            rfl
          have hres0 : fd.results = #[] := by
            rw [hres] at h5
            have : fd.results.toList = [] := by
              cases hq : fd.results.toList with
              | nil => rfl
              | cons x xs =>
                rw [hq] at h5
                simp only [List.mapM_cons, Option.bind_eq_bind, Option.bind_eq_some_iff, Option.pure_def] at h5
                obtain ⟨y, _, ys, _, h⟩ := h5
                cases h
            exact Array.toList_eq_nil_iff.1 this
          refine ⟨hd', u', rfl, .tuple #[], by simp [results, hres0], ?_⟩
          refine ih dr _ { s with H := s1.H } ι' (settle u') w' r R hlv (htl.ext hn.ext) ?_ (fun i => (ht i).imp id fun x => x.ext hn.ext) hs'.wr (fun e w'' hcr => hR e w'' (hcr.after hn hf hz))
          cases hp1 : s1.pm with
          | none =>
            rw [hp1] at hpm'
            simp only [PM] at hpm'
            subst hpm'
            rfl
          | some p =>
            obtain ⟨v, b⟩ := p
            rw [hp1] at hpm'
            obtain ⟨v', hvv, rfl⟩ := hpm'
            cases b with
            | false => exact ⟨v', hvv, rfl⟩
            | true => rfl
        rcases hex with rfl | rfl
        · obtain ⟨rfl, hs'⟩ := hx
          exact fin hs'
        · obtain ⟨rfl, hs'⟩ := hx
          exact fin hs'
      split at h
      · rename_i s1 he
        exact go .normal s1 (.inl rfl) he h
      · rename_i s1 he
        exact go .ret s1 (.inr rfl) he h
      · cases h
theorem call_ok (hm : P.follows .mixedOrders = true) {x : Caller} (hx : CallOK P GL x) {code : Nat → Option AFunc} (hcode : CodeOK P GL code) : ∀ n, CallOK P GL (evCall x code n) := by
  intro n
  induction n with
  | zero => intro f args H r h; simp [evCall] at h
  | succ n ih =>
    intro f args H r h
    simp only [evCall] at h
    split at h
    · rename_i r' hr'
      rw [h] at hr'
      exact hx f args H r hr'
    split at h
    case h_2 => cases h
    rename_i af haf
    obtain ⟨fn, c, h1, h2, h3, h4, h5, h6⟩ := compFunc_inv (hcode f af haf)
    split at h
    · cases h
    rename_i hle
    rw [h6] at hle
    refine ⟨⟨fn, h1, h2, by rw [h3]; rfl⟩, ?_⟩
    intro ι w args' hw hva
    refine calls_of_wp_defers h1 h3 ?_
    have hsr := SR.enter hw hva hle false none
    have up : ∀ (ex : AExit) (s : St), evC (evCall x code n) n af.body { t := enterT 0 args.toList .nil, H, ds := [], df := false, pm := none } = some (ex, s) → c.wp P (Post GL fn.ntmps ι { t := enterT 0 args.toList .nil, H, ds := [], df := false, pm := none } w ex s) { tmps := args' ++ Array.replicate (fn.ntmps - args'.size) undef, defers := [] } w :=
      fun ex s he => code_wp hm ih n c af.body h4 ι _ _ w ex s rfl hsr he
    split at h
    · rename_i s he
      refine wp_mono (up _ s he) ?_
      rintro e a' w' ⟨ι', hn, hf, hz, rfl, hs'⟩
      exact leave_ok ih hcode h5 s.ds a'.defers none s ι' .returning w' r _ h hs'.ds rfl (fun i => .inr (hs'.tmps i)) hs'.wr (fun e w'' hcr => hcr.after hn hf hz)
    · rename_i s he
      refine wp_mono (up _ s he) ?_
      rintro e a' w' ⟨ι', hn, hf, hz, rfl, hs'⟩
      exact leave_ok ih hcode h5 s.ds a'.defers none s ι' .returning w' r _ h hs'.ds rfl (fun i => .inr (hs'.tmps i)) hs'.wr (fun e w'' hcr => hcr.after hn hf hz)
    · rename_i v s he
      refine wp_mono (up _ s he) ?_
      rintro e a' w' ⟨ι', hn, hf, hz, ⟨v', rfl, hvv⟩, hs'⟩
      exact leave_ok ih hcode h5 s.ds a'.defers (some v) s ι' (.panicking [{ v := v', recovered := false }]) w' r _ h hs'.ds ⟨v', hvv, rfl⟩ hs'.tmps hs'.wr (fun e w'' hcr => hcr.after hn hf hz)
    · cases h
def noX : Caller := fun _ _ _ => none
theorem noX_ok : CallOK P GL noX := fun f args H r h => by cases h
theorem CodeOK.comp : CodeOK P GL (compFunc P GL) := fun _ _ h => h
end Go.Proofs.YtehbekgmemebjaaDoorEv
