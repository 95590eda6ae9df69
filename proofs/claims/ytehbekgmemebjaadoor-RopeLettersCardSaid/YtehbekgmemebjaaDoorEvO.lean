import Derived.Test.YtehbekgmemebjaaDoorEvN
namespace Go.Proofs.YtehbekgmemebjaaDoorEv
open Go
set_option linter.unusedVariables false
set_option linter.unusedSimpArgs false
variable {P : Program} {GL : List Nat} {ι : Inj} {H : Hp} {w : World} {N : Nat} {s s1 : St} {a : Act}
theorem eqV_eq : ∀ (f : Nat) (a b : Value), eqV f a b = true → a = b := by
  intro f
  induction f with
  | zero =>
    intro a b h
    cases a <;> cases b <;> simp only [eqV, Bool.and_eq_true, beq_iff_eq, Bool.false_eq_true] at h <;> first
      | rfl
      | (subst h; rfl)
      | (obtain ⟨h1, h2⟩ := h; subst h1; subst h2; rfl)
      | (obtain ⟨⟨h1, h2⟩, h3⟩ := h; subst h1; subst h2; subst h3; rfl)
      | (exact congrArg Value.string (ByteArray.ext (Array.ext' h)))
  | succ f ih =>
    intro a b h
    have arr : ∀ (x y : Array Value), x.toList.length = y.toList.length → ((x.toList.zip y.toList).all fun (x, y) => eqV f x y) = true → x = y := by
      intro x y hl hz
      apply Array.ext'
      apply List.ext_getElem hl
      intro j h1 h2
      rw [List.all_eq_true] at hz
      have := hz (x.toList[j], y.toList[j]) (by
        have : (x.toList.zip y.toList)[j]? = some (x.toList[j], y.toList[j]) := by simp [List.getElem?_zip_eq_some, h1, h2]
        exact List.mem_of_getElem? this)
      exact ih _ _ this
    have fnc : ∀ (fn fn' : Fn) (a1 a2 b1 b2 : Array Value), eqV (f + 1) (.func fn a1 a2) (.func fn' b1 b2) = true → Value.func fn a1 a2 = .func fn' b1 b2 := by
      intro fn fn' a1 a2 b1 b2 h
      cases fn with
      | func p =>
        cases fn' with
        | func q =>
          simp only [eqV, Bool.and_eq_true, beq_iff_eq] at h
          obtain ⟨⟨h1, h2⟩, h3⟩ := h
          rw [h1, arr _ _ h2.1 h2.2, arr _ _ h3.1 h3.2]
        | _ => simp [eqV] at h
      | _ => cases fn' <;> simp [eqV] at h
    cases a <;> cases b <;> first
      | exact fnc _ _ _ _ _ _ h
      | (simp only [eqV, Bool.and_eq_true, beq_iff_eq, Bool.false_eq_true] at h
         first
           | rfl
           | (subst h; rfl)
           | (obtain ⟨h1, h2⟩ := h; subst h1; subst h2; rfl)
           | (obtain ⟨⟨h1, h2⟩, h3⟩ := h; subst h1; subst h2; subst h3; rfl)
           | (exact congrArg Value.string (ByteArray.ext (Array.ext' h)))
           | (rw [arr _ _ h.1 h.2]; done))
      | (simp [eqV] at h; done)
theorem reads_same {ρ : Env} {ao : AOp} {v : Value} {H' : Hp} (hr : reads ao = true) (h : evOp ρ H ao = some (.ok v H')) : H' = H := by
  cases ao <;> simp [reads, hfree] at hr <;> simp only [evOp] at h
  all_goals
    repeat' split at h
    all_goals first
      | (cases h; done)
      | (simp only [Option.some.injEq, OR.ok.injEq] at h; exact h.2.symm)
      | (simp only [Option.map_eq_some_iff] at h; obtain ⟨_, _, h⟩ := h; simp only [OR.ok.injEq] at h; exact h.2.symm)
theorem hfree_any {ρ : Env} {ao : AOp} {v : Value} {H' : Hp} (hr : hfree ao = true) (h : evOp ρ H ao = some (.ok v H')) (G : Hp) : evOp ρ G ao = some (.ok v G) := by
  cases ao <;> simp [hfree] at hr <;> simp only [evOp] at h ⊢
  all_goals
    repeat' split at h
    all_goals first
      | (cases h; done)
      | (simp only [Option.some.injEq, OR.ok.injEq] at h; obtain ⟨rfl, _⟩ := h; first | rfl | simp_all)
      | (rw [Option.map_eq_some_iff] at h ⊢; obtain ⟨x, hx, h⟩ := h; simp only [OR.ok.injEq] at h; exact ⟨x, hx, by rw [h.1]⟩)
      | (simp only [Option.map_eq_some_iff] at h; obtain ⟨x, hx, h⟩ := h; simp only [OR.ok.injEq] at h; obtain ⟨rfl, _⟩ := h; simp_all; done)
theorem reads_ok {ρ : Env} {ao : AOp} {r : OR} (hr : reads ao = true) (h : evOp ρ H ao = some r) : ∃ v, r = .ok v H := by
  cases hq : r with
  | ok v H' => subst hq; exact ⟨v, by rw [reads_same hr h]⟩
  | _ =>
    have := evOp_odd h (by rw [hq]; simp)
    cases ao <;> simp [oddOp] at this <;> simp [reads, hfree] at hr
theorem runD_trace {call : Caller} : ∀ (l : List DOpr) (i : Nat) (x y : DSt), runD call i l x = some y → ∃ xs : Nat → DSt, xs i = x ∧ xs (i + l.length) = y ∧ ∀ j, j < l.length → ∃ d, l[j]? = some d ∧ stepD call (i + j) d (xs (i + j)) = some (xs (i + j + 1)) := by
  intro l
  induction l with
  | nil =>
    intro i x y h
    simp only [runD, Option.some.injEq] at h
    subst h
    exact ⟨fun _ => x, rfl, rfl, fun j hj => absurd hj (Nat.not_lt_zero _)⟩
  | cons d r ih =>
    intro i x y h
    simp only [runD] at h
    split at h
    · rename_i x1 h1
      obtain ⟨xs, e1, e2, e3⟩ := ih (i + 1) x1 y h
      refine ⟨fun k => if k = i then x else xs k, by simp, ?_, fun j hj => ?_⟩
      · simp only [List.length_cons]
        rw [if_neg (by omega), ← e2]
        congr 1
        omega
      · cases j with
        | zero =>
          refine ⟨d, rfl, ?_⟩
          simp only [Nat.add_zero, if_true]
          rw [if_neg (by omega), e1]
          exact h1
        | succ j =>
          obtain ⟨d', f1, f2⟩ := e3 j (by simpa using hj)
          refine ⟨d', by simpa using f1, ?_⟩
          simp only
          rw [if_neg (by omega), if_neg (by omega)]
          rw [show i + (j + 1) = i + 1 + j by omega]
          exact f2
    · cases h
structure DF (P : Program) (N : Nat) (GL : List Nat) (ops : Array Oper) (l : List DOpr) : Prop where
  len : l.length = ops.size
  at_ : ∀ i, i < ops.size → ∃ o d, ops[i]? = some o ∧ l[i]? = some d ∧ compOpr P N GL ops o = some d.o
  lt : ∀ (i : Nat) (o : Oper), ops[i]? = some o → ∀ e ∈ o.after, Region.binds .any e = true → e.on < i
  cl : ∀ (i : Nat) (o : Oper) (d : DOpr), ops[i]? = some o → l[i]? = some d → ∀ k ∈ d.B, ∃ e ∈ o.after, Region.binds .any e = true ∧ (e.on = k ∨ ∃ d' : DOpr, l[e.on]? = some d' ∧ k ∈ d'.B)
  tr : ∀ (i k : Nat) (d d' : DOpr), l[i]? = some d → k ∈ d.B → l[k]? = some d' → ∀ q ∈ d'.B, q ∈ d.B
  rd : ∀ (i : Nat) (d : DOpr), l[i]? = some d → d.chain = true ∨ reads d.o.op = true
  nd : ∀ (i : Nat) (d : DOpr), l[i]? = some d → ∀ f as, d.o.op ≠ .defer f as
  ch : ∀ (i j : Nat) (d d' : DOpr), l[i]? = some d → d.chain = true → j < i → l[j]? = some d' → d'.chain = true → j ∈ d.B
  sl : ∀ (i j t : Nat) (o o' : Oper) (d d' : DOpr), ops[i]? = some o → l[i]? = some d → t ∈ slotsOf ops o → ops[j]? = some o' → l[j]? = some d' → j ≠ i → o'.dst = some t → if j < i then j ∈ d.B else i ∈ d'.B
theorem compDrawn_DF {ops : Array Oper} {l : List DOpr} (h : compDrawn P N GL ops = some l) : DF P N GL ops l := by
  unfold compDrawn at h
  simp only [Option.bind_eq_some_iff] at h
  obtain ⟨l0, hl0, h⟩ := h
  split at h
  case isFalse => cases h
  rename_i hok
  cases h
  simp only [Bool.and_eq_true, beq_iff_eq] at hok
  obtain ⟨hok, hlen⟩ := hok
  have hlen0 : l0.length = ops.size := by
    have : ∀ (xs : List Oper) (l : List AOpr), xs.mapM (compOpr P N GL ops) = some l → l.length = xs.length := by
      intro xs
      induction xs with
      | nil => intro l h; simp at h; simp [← h]
      | cons x xs ih =>
        intro l h
        simp only [List.mapM_cons, Option.bind_eq_bind, Option.bind_eq_some_iff, Option.pure_def] at h
        obtain ⟨y, _, ys, hys, h⟩ := h
        cases h
        simp [ih ys hys]
    simpa using this _ _ hl0
  have hat : ∀ (xs : List Oper) (l : List AOpr), xs.mapM (compOpr P N GL ops) = some l → ∀ (j : Nat) (o : Oper) (ao : AOpr), xs[j]? = some o → l[j]? = some ao → compOpr P N GL ops o = some ao := by
    intro xs
    induction xs with
    | nil => intro l h j o ao hj; simp at hj
    | cons x xs ih =>
      intro l h j o ao hj hj'
      simp only [List.mapM_cons, Option.bind_eq_bind, Option.bind_eq_some_iff, Option.pure_def] at h
      obtain ⟨y, hy, ys, hys, h⟩ := h
      cases h
      cases j with
      | zero => simp at hj hj'; subst hj; subst hj'; exact hy
      | succ j => exact ih ys hys j o ao (by simpa using hj) (by simpa using hj')
  generalize hds : ((l0.zip (ops.toList.foldl closeB [])).map fun (o, B) => ({ o, B, chain := !reads o.op } : DOpr)) = ds at *
  have hdl : ds.length = ops.size := by omega
  have hcomp : ∀ (i : Nat) (o : Oper) (d : DOpr), ops[i]? = some o → ds[i]? = some d → compOpr P N GL ops o = some d.o := by
    intro i o d ho hd
    rw [← hds] at hd
    simp only [List.getElem?_map, Option.map_eq_some_iff] at hd
    obtain ⟨⟨ao, B⟩, hz, rfl⟩ := hd
    rw [List.getElem?_zip_eq_some] at hz
    exact hat _ _ hl0 i o ao (by simpa using ho) hz.1
  unfold drawnOK at hok
  simp only [List.all_eq_true, List.mem_range] at hok
  have key : ∀ (i : Nat) (o : Oper) (d : DOpr), ops[i]? = some o → ds[i]? = some d → _ := fun i o d ho hd => by
    have hi : i < ops.size := (Array.getElem?_eq_some_iff.1 ho).1
    have := hok i hi
    simp only [ho, hd, Bool.and_eq_true] at this
    exact this
  have ex : ∀ i, i < ops.size → ∃ o d, ops[i]? = some o ∧ ds[i]? = some d := fun i hi => ⟨ops[i], ds[i]'(by omega), Array.getElem?_eq_getElem hi, List.getElem?_eq_getElem (by omega)⟩
  have dx : ∀ (i : Nat) (d : DOpr), ds[i]? = some d → ∃ o, ops[i]? = some o := fun i d hd => by
    have := (List.getElem?_eq_some_iff.1 hd).1
    exact ⟨ops[i]'(by omega), Array.getElem?_eq_getElem (by omega)⟩
  refine ⟨hdl, fun i hi => ?_, ?_, ?_, ?_, ?_, ?_, ?_, ?_⟩
  · obtain ⟨o, d, h1, h2⟩ := ex i hi
    exact ⟨o, d, h1, h2, hcomp i o d h1 h2⟩
  · intro i o ho e he hb
    obtain ⟨o', d, h1, h2⟩ := ex i (Array.getElem?_eq_some_iff.1 ho).1
    rw [ho] at h1; cases h1
    have := (key i o d ho h2).1.1.1.1.1.1
    rw [Array.all_eq_true_iff_forall_mem] at this
    have := this e he
    simp only [hb, Bool.not_true, Bool.false_or, decide_eq_true_eq] at this
    exact this
  · intro i o d ho hd k hk
    have := List.all_eq_true.1 (key i o d ho hd).1.1.1.1.1.2 k hk
    rw [Array.any_eq_true'] at this
    obtain ⟨e, he, h⟩ := this
    simp only [Bool.and_eq_true, Bool.or_eq_true, beq_iff_eq] at h
    refine ⟨e, he, h.1, ?_⟩
    rcases h.2 with h2 | h2
    · exact .inl h2
    · right
      cases hq : ds[e.on]? with
      | none => rw [hq] at h2; simp at h2
      | some d' => rw [hq] at h2; simp at h2; exact ⟨d', rfl, h2⟩
  · intro i k d d' hd hk hd' q hq
    obtain ⟨o, ho⟩ := dx i d hd
    have := List.all_eq_true.1 (key i o d ho hd).1.1.1.1.2 k hk
    rw [hd'] at this
    simp only [Option.any_some, List.all_eq_true] at this
    simpa using this q hq
  · intro i d hd
    obtain ⟨o, ho⟩ := dx i d hd
    have := (key i o d ho hd).1.1.1.2
    simpa using this
  · intro i d hd f as hf
    obtain ⟨o, ho⟩ := dx i d hd
    have := (key i o d ho hd).1.1.2
    rw [hf] at this
    cases this
  · intro i j d d' hd hc hji hd' hc'
    obtain ⟨o, ho⟩ := dx i d hd
    have := (key i o d ho hd).1.2
    rw [hc] at this
    simp only [Bool.not_true, Bool.false_or, List.all_eq_true, List.mem_range] at this
    have := this j hji
    rw [hd'] at this
    simp only [Option.any_some, hc', Bool.not_true, Bool.false_or] at this
    simpa using this
  · intro i j t o o' d d' ho hd ht ho' hd' hne hdst
    have := List.all_eq_true.1 (List.all_eq_true.1 (key i o d ho hd).2 t ht) j (List.mem_range.2 (Array.getElem?_eq_some_iff.1 ho').1)
    simp only [ho', hd', hdst, bne_self_eq_false, Bool.false_or, Bool.or_eq_true, beq_iff_eq] at this
    rcases this with this | this
    · exact absurd this hne
    · split at this <;> rename_i hlt
      · rw [if_pos hlt]; simpa using this
      · rw [if_neg hlt]; simpa using this
structure Run (call : Caller) (l : List DOpr) (xs : Nat → DSt) : Prop where
  step : ∀ j, j < l.length → ∃ d, l[j]? = some d ∧ stepD call j d (xs j) = some (xs (j + 1))
section run
variable {call : Caller} {l : List DOpr} {xs : Nat → DSt}
theorem step_ways {j : Nat} {d : DOpr} {x y : DSt} (h : stepD call j d x = some y) :
    (∃ p v, x.pan = some (p, v) ∧ p ∈ d.B ∧ y = { x with rs := none :: x.rs }) ∨
    (∃ p v s1, x.pan = some (p, v) ∧ p ∉ d.B ∧ d.chain = false ∧ evOpr call d.o x.s = some (.normal, s1) ∧ y = { x with s := s1, rs := some ⟨x.s, s1.getO d.o.dst⟩ :: x.rs }) ∨
    (∃ s1, x.pan = none ∧ evOpr call d.o x.s = some (.normal, s1) ∧ y = { s := s1, Gs := if d.chain then s1.H :: x.Gs else x.Gs, rs := some ⟨x.s, s1.getO d.o.dst⟩ :: x.rs, pan := none }) ∨
    (∃ v s1, x.pan = none ∧ d.chain = true ∧ evOpr call d.o x.s = some (.pan v, s1) ∧ y = { s := s1, Gs := s1.H :: x.Gs, rs := none :: x.rs, pan := some (j, v) }) := by
  unfold stepD at h
  split at h
  · rename_i p v hp
    split at h
    · rename_i hc
      cases h
      exact .inl ⟨p, v, hp, by simpa using hc, rfl⟩
    · rename_i hc
      split at h
      · cases h
      · rename_i hch
        split at h
        · rename_i s1 he
          cases h
          exact .inr (.inl ⟨p, v, s1, hp, by simpa using hc, by simpa using hch, he, rfl⟩)
        · cases h
  · rename_i hp
    split at h
    · rename_i s1 he
      cases h
      exact .inr (.inr (.inl ⟨s1, hp, he, rfl⟩))
    · rename_i v s1 he
      split at h
      · rename_i hc
        cases h
        exact .inr (.inr (.inr ⟨v, s1, hp, hc, he, rfl⟩))
      · cases h
    · cases h
theorem pan_keeps (h : Run call l xs) {q : Nat × Value} : ∀ {j : Nat}, (xs j).pan = some q → ∀ k, j ≤ k → k ≤ l.length → (xs k).pan = some q := by
  intro j hj k
  induction k with
  | zero => intro hk _; have : j = 0 := by omega
            subst this; exact hj
  | succ k ih =>
    intro hk hl
    by_cases hjk : j = k + 1
    · subst hjk; exact hj
    · have := ih (by omega) (by omega)
      obtain ⟨d, hd, hs⟩ := h.step k (by omega)
      rcases step_ways hs with ⟨p, v, e1, e2, e3⟩ | ⟨p, v, s1, e1, e2, e3, e4, e5⟩ | ⟨s1, e1, e2, e3⟩ | ⟨v, s1, e1, e2, e3, e4⟩
      · rw [e3]; exact this
      · rw [e5]; exact this
      · rw [this] at e1; cases e1
      · rw [this] at e1; cases e1
theorem pan_from (h : Run call l xs) (h0 : (xs 0).pan = none) {p : Nat} {v : Value} : ∀ (j : Nat), j ≤ l.length → (xs j).pan = some (p, v) → p < j ∧ (xs p).pan = none ∧ ∃ d s1, l[p]? = some d ∧ d.chain = true ∧ evOpr call d.o (xs p).s = some (.pan v, s1) ∧ xs (p + 1) = { s := s1, Gs := s1.H :: (xs p).Gs, rs := none :: (xs p).rs, pan := some (p, v) } := by
  intro j
  induction j with
  | zero => intro _ hj; rw [h0] at hj; cases hj
  | succ j ih =>
    intro hl hj
    obtain ⟨d, hd, hs⟩ := h.step j (by omega)
    rcases step_ways hs with ⟨p', v', e1, e2, e3⟩ | ⟨p', v', s1, e1, e2, e3, e4, e5⟩ | ⟨s1, e1, e2, e3⟩ | ⟨v', s1, e1, e2, e3, e4⟩
    · rw [e3] at hj
      obtain ⟨a, b⟩ := ih (by omega) hj
      exact ⟨by omega, b⟩
    · rw [e5] at hj
      obtain ⟨a, b⟩ := ih (by omega) hj
      exact ⟨by omega, b⟩
    · rw [e3] at hj; cases hj
    · have hj' := hj
      rw [e4] at hj
      simp only [Option.some.injEq, Prod.mk.injEq] at hj
      obtain ⟨rfl, rfl⟩ := hj
      exact ⟨Nat.lt_succ_self _, e1, d, s1, hd, e2, e3, e4⟩
theorem cIdx_succ {j : Nat} {d : DOpr} (hd : l[j]? = some d) : cIdx l (j + 1) = cIdx l j + if d.chain then 1 else 0 := by
  simp only [cIdx, hd, Option.any_some]
theorem cIdx_mono (l : List DOpr) {i j : Nat} (h : i ≤ j) : cIdx l i ≤ cIdx l j := by
  induction j with
  | zero => have : i = 0 := by omega
            subst this; exact Nat.le_refl _
  | succ j ih =>
    by_cases hij : i = j + 1
    · subst hij; exact Nat.le_refl _
    · have := ih (by omega)
      simp only [cIdx]
      omega
theorem cIdx_lt {i j : Nat} {d : DOpr} (hd : l[i]? = some d) (hc : d.chain = true) (h : i < j) : cIdx l i < cIdx l j := by
  have h1 := cIdx_succ hd
  rw [hc] at h1
  have h2 := cIdx_mono l (show i + 1 ≤ j from h)
  simp only [if_true] at h1
  omega
theorem cIdx_inj {i j : Nat} {d d' : DOpr} (hd : l[i]? = some d) (hd' : l[j]? = some d') (hc : d.chain = true) (hc' : d'.chain = true) (h : cIdx l i = cIdx l j) : i = j := by
  rcases Nat.lt_trichotomy i j with h1 | h1 | h1
  · have := cIdx_lt hd hc h1; omega
  · exact h1
  · have := cIdx_lt hd' hc' h1; omega
theorem Gs_at (h : Run call l xs) (hG0 : (xs 0).Gs = [(xs 0).s.H]) (hrd : ∀ (i : Nat) (d : DOpr), l[i]? = some d → d.chain = true ∨ reads d.o.op = true) : ∀ j, j ≤ l.length → (xs j).pan = none → (xs j).Gs.length = cIdx l j + 1 ∧ (xs j).Gs.head? = some (xs j).s.H := by
  intro j
  induction j with
  | zero => intro _ _; rw [hG0]; exact ⟨rfl, rfl⟩
  | succ j ih =>
    intro hl hp
    obtain ⟨d, hd, hs⟩ := h.step j (by omega)
    rcases step_ways hs with ⟨p', v', e1, e2, e3⟩ | ⟨p', v', s1, e1, e2, e3, e4, e5⟩ | ⟨s1, e1, e2, e3⟩ | ⟨v', s1, e1, e2, e3, e4⟩
    · rw [e3] at hp; rw [e1] at hp; cases hp
    · rw [e5] at hp; rw [e1] at hp; cases hp
    · obtain ⟨a, b⟩ := ih (by omega) e1
      rw [cIdx_succ hd, e3]
      cases hc : d.chain with
      | true => simp [a]
      | false =>
        have hr : reads d.o.op = true := by rcases hrd j d hd with h | h
                                            · rw [hc] at h; cases h
                                            · exact h
        have hH : s1.H = (xs j).s.H := by
          unfold evOpr at e2
          split at e2
          · split at e2
            · rename_i v H' hv
              simp only [Option.some.injEq, Prod.mk.injEq] at e2
              rw [← e2.2, put_H]
              exact reads_same hr hv
            all_goals first
              | (cases e2; done)
              | (rename_i hv
                 obtain ⟨v, hv'⟩ := reads_ok hr hv
                 cases hv')
          · simp only [Option.some.injEq, Prod.mk.injEq] at e2
            rw [← e2.2, put_H]
        simp [a, b, hH]
    · rw [e4] at hp; cases hp
theorem Gs_suffix (h : Run call l xs) : ∀ (k j : Nat), j ≤ k → k ≤ l.length → ∃ pre, (xs k).Gs = pre ++ (xs j).Gs := by
  intro k
  induction k with
  | zero => intro j hj _; have : j = 0 := by omega
            subst this; exact ⟨[], rfl⟩
  | succ k ih =>
    intro j hj hl
    by_cases hjk : j = k + 1
    · subst hjk; exact ⟨[], rfl⟩
    · obtain ⟨pre, hp⟩ := ih j (by omega) (by omega)
      obtain ⟨d, hd, hs⟩ := h.step k (by omega)
      rcases step_ways hs with ⟨p', v', e1, e2, e3⟩ | ⟨p', v', s1, e1, e2, e3, e4, e5⟩ | ⟨s1, e1, e2, e3⟩ | ⟨v', s1, e1, e2, e3, e4⟩
      · exact ⟨pre, by rw [e3]; exact hp⟩
      · exact ⟨pre, by rw [e5]; exact hp⟩
      · rw [e3]
        cases d.chain with
        | true => exact ⟨s1.H :: pre, by simp [hp]⟩
        | false => exact ⟨pre, by simp [hp]⟩
      · exact ⟨s1.H :: pre, by rw [e4]; simp [hp]⟩
theorem rs_len (h : Run call l xs) (h0 : (xs 0).rs = []) : ∀ j, j ≤ l.length → (xs j).rs.length = j := by
  intro j
  induction j with
  | zero => intro _; rw [h0]; rfl
  | succ j ih =>
    intro hl
    have := ih (by omega)
    obtain ⟨d, hd, hs⟩ := h.step j (by omega)
    rcases step_ways hs with ⟨p', v', e1, e2, e3⟩ | ⟨p', v', s1, e1, e2, e3, e4, e5⟩ | ⟨s1, e1, e2, e3⟩ | ⟨v', s1, e1, e2, e3, e4⟩
    · rw [e3]; simp [this]
    · rw [e5]; simp [this]
    · rw [e3]; simp [this]
    · rw [e4]; simp [this]
theorem rs_suffix (h : Run call l xs) : ∀ (k j : Nat), j ≤ k → k ≤ l.length → ∃ pre, (xs k).rs = pre ++ (xs j).rs := by
  intro k
  induction k with
  | zero => intro j hj _; have : j = 0 := by omega
            subst this; exact ⟨[], rfl⟩
  | succ k ih =>
    intro j hj hl
    by_cases hjk : j = k + 1
    · subst hjk; exact ⟨[], rfl⟩
    · obtain ⟨pre, hp⟩ := ih j (by omega) (by omega)
      obtain ⟨d, hd, hs⟩ := h.step k (by omega)
      rcases step_ways hs with ⟨p', v', e1, e2, e3⟩ | ⟨p', v', s1, e1, e2, e3, e4, e5⟩ | ⟨s1, e1, e2, e3⟩ | ⟨v', s1, e1, e2, e3, e4⟩
      · exact ⟨none :: pre, by rw [e3]; simp [hp]⟩
      · exact ⟨_ :: pre, by rw [e5]; simp only [hp]; rfl⟩
      · exact ⟨_ :: pre, by rw [e3]; simp only [hp]; rfl⟩
      · exact ⟨none :: pre, by rw [e4]; simp [hp]⟩
theorem rec_at (h : Run call l xs) (h0 : (xs 0).rs = []) {j : Nat} (hj : j < l.length) {r : Option Rec} (hr : (xs (j + 1)).rs = r :: (xs j).rs) : (xs l.length).rs.reverse[j]? = some r := by
  obtain ⟨pre, hp⟩ := rs_suffix h l.length (j + 1) (by omega) (Nat.le_refl _)
  rw [hp, hr]
  have hl := rs_len h h0 j (by omega)
  simp only [List.reverse_append, List.reverse_cons, List.append_assoc]
  rw [List.getElem?_append_right (by simp [hl])]
  simp [hl]
end run
end Go.Proofs.YtehbekgmemebjaaDoorEv
