import Derived.Test.YtehbekgmemebjaaDoorEvW
namespace Go.Proofs.YtehbekgmemebjaaDoorEv
open Go
set_option linter.unusedVariables false
set_option linter.unusedSimpArgs false
variable {P : Program} {GL : List Nat} {ι : Inj} {H : Hp} {w : World} {N : Nat} {s s1 : St} {a : Act}
theorem reads_same {ρ : Env} {ao : AOp} {v : Value} {H' : Hp} (hr : reads ao = true) (h : evOp ρ H ao = some (.ok v H')) : H' = H := by
  cases ao <;> simp [reads, hfree] at hr <;> simp only [evOp] at h
  all_goals
    repeat' split at h
    all_goals first
      | (cases h; done)
      | (simp only [Option.some.injEq, OR.ok.injEq] at h; exact h.2.symm)
      | (simp only [Option.map_eq_some_iff] at h; obtain ⟨_, _, h⟩ := h; simp only [OR.ok.injEq] at h; exact h.2.symm)
theorem hfree_any {ρ : Env} {ao : AOp} {v : Value} {H' : Hp} (hr : hfree ao = true) (h : evOp ρ H ao = some (.ok v H')) (G : Hp) : evOp ρ G ao = some (.ok v G) := by
  cases ao <;> simp [hfree] at hr <;> simp only [evOp] at h ⊢
  all_goals
    repeat' split at h
    all_goals first
      | (cases h; done)
      | (simp only [Option.some.injEq, OR.ok.injEq] at h; obtain ⟨rfl, _⟩ := h; first | rfl | simp_all)
      | (rw [Option.map_eq_some_iff] at h ⊢; obtain ⟨x, hx, h⟩ := h; simp only [OR.ok.injEq] at h; exact ⟨x, hx, by rw [h.1]⟩)
      | (simp only [Option.map_eq_some_iff] at h; obtain ⟨x, hx, h⟩ := h; simp only [OR.ok.injEq] at h; obtain ⟨rfl, _⟩ := h; simp_all; done)
theorem reads_ok {ρ : Env} {ao : AOp} {r : OR} (hr : reads ao = true) (h : evOp ρ H ao = some r) : ∃ v, r = .ok v H := by
  cases hq : r with
  | ok v H' => subst hq; exact ⟨v, by rw [reads_same hr h]⟩
  | _ =>
    have := evOp_odd h (by rw [hq]; simp)
    cases ao <;> simp [oddOp] at this <;> simp [reads, hfree] at hr
theorem runD_trace {call : Caller} : ∀ (l : List DOpr) (i : Nat) (x y : DSt), runD call i l x = some y → ∃ xs : Nat → DSt, xs i = x ∧ xs (i + l.length) = y ∧ ∀ j, j < l.length → ∃ d, l[j]? = some d ∧ stepD call (i + j) d (xs (i + j)) = some (xs (i + j + 1)) := by
  intro l
  induction l with
  | nil =>
    intro i x y h
    simp only [runD, Option.some.injEq] at h
    subst h
    exact ⟨fun _ => x, rfl, rfl, fun j hj => absurd hj (Nat.not_lt_zero _)⟩
  | cons d r ih =>
    intro i x y h
    simp only [runD] at h
    split at h
    · rename_i x1 h1
      obtain ⟨xs, e1, e2, e3⟩ := ih (i + 1) x1 y h
      refine ⟨fun k => if k = i then x else xs k, by simp, ?_, fun j hj => ?_⟩
      · simp only [List.length_cons]
        rw [if_neg (by omega), ← e2]
        congr 1
        omega
      · cases j with
        | zero =>
          refine ⟨d, rfl, ?_⟩
          simp only [Nat.add_zero, if_true]
          rw [if_neg (by omega), e1]
          exact h1
        | succ j =>
          obtain ⟨d', f1, f2⟩ := e3 j (by simpa using hj)
          refine ⟨d', by simpa using f1, ?_⟩
          simp only
          rw [if_neg (by omega), if_neg (by omega)]
          rw [show i + (j + 1) = i + 1 + j by omega]
          exact f2
    · cases h
structure DF0 (P : Program) (N : Nat) (GL : List Nat) (p : Bool) (ops : Array Oper) (l : List DOpr) : Prop where
  len : l.length = ops.size
  at_ : ∀ i, i < ops.size → ∃ o d, ops[i]? = some o ∧ l[i]? = some d ∧ compOpr P N GL ops o = some d.o
  lt : ∀ (i : Nat) (o : Oper), ops[i]? = some o → ∀ e ∈ o.after, Region.binds .any e = true → e.on < i
  cl : ∀ (i : Nat) (o : Oper) (d : DOpr), ops[i]? = some o → l[i]? = some d → ∀ k ∈ d.B, ∃ e ∈ o.after, Region.binds .any e = true ∧ (e.on = k ∨ ∃ d' : DOpr, l[e.on]? = some d' ∧ k ∈ d'.B)
  tr : ∀ (i k : Nat) (d d' : DOpr), l[i]? = some d → k ∈ d.B → l[k]? = some d' → ∀ q ∈ d'.B, q ∈ d.B
  rd : ∀ (i : Nat) (d : DOpr), l[i]? = some d → d.chain = true ∨ reads d.o.op = true ∨ p = true ∧ isFree d.o = true
  nd : ∀ (i : Nat) (d : DOpr), l[i]? = some d → ∀ f as, d.o.op ≠ .defer f as
  ch : ∀ (i j : Nat) (d d' : DOpr), l[i]? = some d → d.chain = true → j < i → l[j]? = some d' → d'.chain = true → j ∈ d.B
  sl : ∀ (i j t : Nat) (o o' : Oper) (d d' : DOpr), ops[i]? = some o → l[i]? = some d → t ∈ slotsOf ops o → ops[j]? = some o' → l[j]? = some d' → j ≠ i → o'.dst = some t → if j < i then j ∈ d.B else i ∈ d'.B
def CompAt (P : Program) (N : Nat) (GL : List Nat) (ops : Array Oper) (cb : Option Nat) (o : Oper) (d : DOpr) : Prop :=
  (cb = none ∧ compOpr P N GL ops o = some d.o) ∨ ∃ b ao, cb = some b ∧ d.chain = false ∧ reads d.o.op = true ∧ compOpr P N GL ops o = some ao ∧ claimOf b ao.op = some d.o.op ∧ d.o.dst = ao.dst ∧ d.o.guard = ao.guard
theorem CompAt.dst {P : Program} {N : Nat} {GL : List Nat} {ops : Array Oper} {cb : Option Nat} {o : Oper} {d : DOpr} (hc : CompAt P N GL ops cb o d) : d.o.dst = o.dst ∧ d.o.dst.all (· < N) = true ∧ d.o.guard = o.guard.map fun (j, b) => ((ops[j]?).bind (·.dst), b) := by
  rcases hc with ⟨_, hc⟩ | ⟨b, ao, _, _, _, hc, _, h1, h2⟩
  · exact compOpr_dst hc
  · obtain ⟨a1, a2, a3⟩ := compOpr_dst hc
    exact ⟨h1.trans a1, by rw [h1]; exact a2, h2.trans a3⟩
structure DF (P : Program) (N : Nat) (GL : List Nat) (ops : Array Oper) (n0 n1 : Nat) (cb : Nat → Option Nat) (l : List DOpr) : Prop where
  len : l.length = ops.size
  at_ : ∀ i, i < ops.size → ∃ o d, ops[i]? = some o ∧ l[i]? = some d ∧ CompAt P N GL ops (cb i) o d
  lt : ∀ (i : Nat) (o : Oper), ops[i]? = some o → ∀ e ∈ o.after, Region.binds .any e = true → e.on < i
  cl : ∀ (i : Nat) (o : Oper) (d : DOpr), ops[i]? = some o → l[i]? = some d → ∀ k ∈ d.B, ∃ e ∈ o.after, Region.binds .any e = true ∧ (e.on = k ∨ ∃ d' : DOpr, l[e.on]? = some d' ∧ k ∈ d'.B)
  tr : ∀ (i k : Nat) (d d' : DOpr), l[i]? = some d → k ∈ d.B → l[k]? = some d' → ∀ q ∈ d'.B, q ∈ d.B
  rd : ∀ (i : Nat) (d : DOpr), l[i]? = some d → d.chain = true ∨ reads d.o.op = true
  nd : ∀ (i : Nat) (d : DOpr), l[i]? = some d → ∀ f as, d.o.op ≠ .defer f as
  ch : ∀ (i j : Nat) (d d' : DOpr), l[i]? = some d → d.chain = true → j < i → l[j]? = some d' → d'.chain = true → j ∈ d.B
  sl : ∀ (i j t : Nat) (o o' : Oper) (d d' : DOpr), ops[i]? = some o → l[i]? = some d → t ∈ slotsOf ops o → ops[j]? = some o' → l[j]? = some d' → j ≠ i → o'.dst = some t → if j < i then j ∈ d.B else i ∈ d'.B
  rg : ∀ i b, cb i = some b → n0 ≤ b ∧ b < n1
  un : ∀ i j b, cb i = some b → cb j = some b → i = j
theorem DF.of0 {P : Program} {N : Nat} {GL : List Nat} {ops : Array Oper} {l : List DOpr} (h : DF0 P N GL false ops l) (n0 n1 : Nat) : DF P N GL ops n0 n1 (fun _ => none) l :=
  ⟨h.len, (fun i hi => by obtain ⟨o, d, a, b, c⟩ := h.at_ i hi; exact ⟨o, d, a, b, .inl ⟨rfl, c⟩⟩), h.lt, h.cl, h.tr, (fun i d hd => by
    rcases h.rd i d hd with a | a | ⟨a, _⟩
    · exact .inl a
    · exact .inr a
    · cases a), h.nd, h.ch, h.sl, (fun i b e => nomatch e), (fun i j b e => nomatch e)⟩
theorem claimOf_reads {b : Nat} {op c : AOp} (h : claimOf b op = some c) : reads c = true := by
  cases op <;> simp only [claimOf] at h <;> first | (cases h; done) | (cases h; rfl)
theorem claimOf_new {b b' : Nat} {op c : AOp} (h : claimOf b op = some c) {ρ : Env} {H H1 : Hp} {v : Value} (he : evOp ρ H op = some (.ok v H1)) : ∃ o, H1 = H.new o := by
  cases op <;> simp only [claimOf] at h <;> first | (cases h; done) | skip
  all_goals simp only [evOp] at he
  · simp only [Option.some.injEq, OR.ok.injEq] at he; exact ⟨_, he.2.symm⟩
  · simp only [Option.some.injEq, OR.ok.injEq] at he; exact ⟨_, he.2.symm⟩
  · simp only [Option.map_eq_some_iff] at he
    obtain ⟨_, _, he⟩ := he
    simp only [OR.ok.injEq] at he
    exact ⟨_, he.2.symm⟩
  · repeat' split at he
    all_goals first
      | (cases he; done)
      | (simp only [Option.some.injEq, OR.ok.injEq] at he; exact ⟨_, he.2.symm⟩)
theorem preD_spec : ∀ (l : List DOpr) (s : St) (l' : List DOpr) (H0 : Hp), preD l s = some (l', H0) → s.H.size ≤ H0.size ∧ (∀ b, b < s.H.size → H0.get b = s.H.get b) ∧ l'.length = l.length ∧ ∃ cb : Nat → Option Nat,
    (∀ i b, cb i = some b → s.H.size ≤ b ∧ b < H0.size) ∧ (∀ i j b, cb i = some b → cb j = some b → i = j) ∧
    ∀ i d, l[i]? = some d → ∃ d' : DOpr, l'[i]? = some d' ∧ d'.B = d.B ∧ d'.chain = d.chain ∧ ((cb i = none ∧ d' = d ∧ (d.chain = true ∨ reads d.o.op = true)) ∨
      ∃ b, cb i = some b ∧ d.chain = false ∧ claimOf b d.o.op = some d'.o.op ∧ d'.o.dst = d.o.dst ∧ d'.o.guard = d.o.guard) := by
  intro l
  induction l with
  | nil =>
    intro s l' H0 h
    simp only [preD, Option.some.injEq, Prod.mk.injEq] at h
    obtain ⟨rfl, rfl⟩ := h
    exact ⟨Nat.le_refl _, fun _ _ => rfl, rfl, fun _ => none, (fun i b e => nomatch e), (fun i j b e => nomatch e), (fun i d e => by simp at e)⟩
  | cons d r ih =>
    intro s l' H0 h
    simp only [preD] at h
    split at h
    · rename_i hcr
      split at h
      · rename_i l1 H1 h1
        simp only [Option.some.injEq, Prod.mk.injEq] at h
        obtain ⟨rfl, rfl⟩ := h
        have hH : (preV d s).H = s.H := by unfold preV; split <;> exact put_H _ _ _
        obtain ⟨a1, a2, a3, cb, a4, a5, a6⟩ := ih _ _ _ h1
        rw [hH] at a1 a2 a4
        refine ⟨a1, a2, by simp [a3], fun i => match i with
          | 0 => none
          | i + 1 => cb i, fun i b e => ?_, fun i j b e e' => ?_, fun i d1 e => ?_⟩
        · cases i with
          | zero => cases e
          | succ i => exact a4 i b e
        · cases i with
          | zero => cases e
          | succ i => cases j with
            | zero => cases e'
            | succ j => rw [a5 i j b e e']
        · cases i with
          | zero =>
            simp only [List.getElem?_cons_zero, Option.some.injEq] at e
            subst e
            exact ⟨_, rfl, rfl, rfl, .inl ⟨rfl, rfl, by simpa using hcr⟩⟩
          | succ i => exact a6 i d1 (by simpa using e)
      · cases h
    · rename_i hcr
      simp only [Bool.or_eq_true, not_or, Bool.not_eq_true] at hcr
      · split at h
        · rename_i c v H1 hc he
          split at h
          · rename_i l1 H2 h1
            simp only [Option.some.injEq, Prod.mk.injEq] at h
            obtain ⟨rfl, rfl⟩ := h
            obtain ⟨o, rfl⟩ := claimOf_new (b' := 0) hc he
            obtain ⟨a1, a2, a3, cb, a4, a5, a6⟩ := ih _ _ _ h1
            simp only [put_H, Hp.size_new] at a1 a2 a4
            refine ⟨by omega, fun b hb => by rw [a2 b (by omega), Hp.get_new, if_neg (by omega)], by simp [a3], fun i => match i with
              | 0 => some s.H.size
              | i + 1 => cb i, fun i b e => ?_, fun i j b e e' => ?_, fun i d1 e => ?_⟩
            · cases i with
              | zero => cases e; omega
              | succ i => have := a4 i b e; omega
            · cases i with
              | zero => cases e; cases j with
                | zero => rfl
                | succ j => have := a4 j _ e'; omega
              | succ i => cases j with
                | zero => cases e'; have := a4 i _ e; omega
                | succ j => rw [a5 i j b e e']
            · cases i with
              | zero =>
                simp only [List.getElem?_cons_zero, Option.some.injEq] at e
                subst e
                exact ⟨_, rfl, rfl, rfl, .inr ⟨s.H.size, rfl, hcr.1, hc, rfl, rfl⟩⟩
              | succ i => exact a6 i d1 (by simpa using e)
          · cases h
        · cases h
theorem DF.pre {P : Program} {N : Nat} {GL : List Nat} {ops : Array Oper} {l l' : List DOpr} {s : St} {H0 : Hp} (h : DF0 P N GL true ops l) (hp : preD l s = some (l', H0)) : ∃ cb, DF P N GL ops s.H.size H0.size cb l' := by
  obtain ⟨_, _, a3, cb, a4, a5, a6⟩ := preD_spec l s l' H0 hp
  have inv : ∀ i d', l'[i]? = some d' → ∃ d, l[i]? = some d ∧ d'.B = d.B ∧ d'.chain = d.chain ∧ ((cb i = none ∧ d' = d ∧ (d.chain = true ∨ reads d.o.op = true)) ∨
      ∃ b, cb i = some b ∧ d.chain = false ∧ claimOf b d.o.op = some d'.o.op ∧ d'.o.dst = d.o.dst ∧ d'.o.guard = d.o.guard) := fun i d' e => by
    have hlt := (List.getElem?_eq_some_iff.1 e).1
    have hd : l[i]? = some (l[i]'(by omega)) := List.getElem?_eq_getElem (by omega)
    obtain ⟨d2, e2, r⟩ := a6 i _ hd
    rw [e] at e2; cases e2
    exact ⟨_, hd, r⟩
  refine ⟨cb, by rw [a3]; exact h.len, fun i hi => ?_, h.lt, fun i o d' ho hd' k hk => ?_, fun i k d1 d2 e1 hk e2 q hq => ?_, fun i d' hd' => ?_, fun i d' hd' f as hf => ?_, fun i j d1 d2 e1 hc hj e2 hc2 => ?_, fun i j t o o' d1 d2 ho e1 ht ho' e2 hne hdst => ?_, a4, a5⟩
  · obtain ⟨o, d, b1, b2, b3⟩ := h.at_ i hi
    obtain ⟨d', c1, c2, c3, c4⟩ := a6 i d b2
    refine ⟨o, d', b1, c1, ?_⟩
    rcases c4 with ⟨x1, x2, _⟩ | ⟨b, x1, x2, x4, x5, x6⟩
    · subst x2; exact .inl ⟨x1, b3⟩
    · exact .inr ⟨b, d.o, x1, by rw [c3]; exact x2, claimOf_reads x4, b3, x4, x5, x6⟩
  · obtain ⟨d, b1, b2, _⟩ := inv i d' hd'
    rw [b2] at hk
    obtain ⟨e, he, hb, hr⟩ := h.cl i o d ho b1 k hk
    refine ⟨e, he, hb, ?_⟩
    rcases hr with hr | ⟨dq, q1, q2⟩
    · exact .inl hr
    · obtain ⟨d2, c1, c2, _⟩ := a6 _ dq q1
      exact .inr ⟨d2, c1, by rw [c2]; exact q2⟩
  · obtain ⟨d, b1, b2, _⟩ := inv i d1 e1
    obtain ⟨d', c1, c2, _⟩ := inv k d2 e2
    rw [b2] at hk ⊢
    rw [c2] at hq
    exact h.tr i k d d' b1 hk c1 q hq
  · obtain ⟨d, b1, b2, b3, b4⟩ := inv i d' hd'
    rcases b4 with ⟨_, x2, x3⟩ | ⟨b, _, _, x4, _⟩
    · subst x2; exact x3
    · exact .inr (claimOf_reads x4)
  · obtain ⟨d, b1, b2, b3, b4⟩ := inv i d' hd'
    rcases b4 with ⟨_, x2, x3⟩ | ⟨b, _, _, x4, _⟩
    · subst x2; exact h.nd i _ b1 f as hf
    · have := claimOf_reads x4
      rw [hf] at this
      cases this
  · obtain ⟨d, b1, b2, b3, _⟩ := inv i d1 e1
    obtain ⟨d', c1, c2, c3, _⟩ := inv j d2 e2
    rw [b3] at hc
    rw [c3] at hc2
    rw [b2]
    exact h.ch i j d d' b1 hc hj c1 hc2
  · obtain ⟨d, b1, b2, b3, _⟩ := inv i d1 e1
    obtain ⟨d', c1, c2, c3, _⟩ := inv j d2 e2
    rw [b2, c2]
    exact h.sl i j t o o' d d' ho b1 ht ho' c1 hne hdst
theorem mem_mask {B : NS} {k : Nat} : B.m.testBit k = true ↔ k ∈ B := by rw [← NS.contains_eq]; exact Iff.rfl
theorem mem_binds {o : Oper} {j : Nat} : j ∈ bindsOn o ↔ ∃ e ∈ o.after, Region.binds .any e = true ∧ e.on = j := by
  unfold bindsOn
  simp only [List.mem_map, List.mem_filter, Array.mem_toList_iff]
  constructor
  · rintro ⟨e, ⟨a, b⟩, c⟩; exact ⟨e, a, b, c⟩
  · rintro ⟨e, a, b, c⟩; exact ⟨e, ⟨a, b⟩, c⟩
theorem small_testBit {m n k : Nat} (h : m < 2 ^ n) (hk : n ≤ k) : m.testBit k = false := Nat.testBit_lt_two_pow (Nat.lt_of_lt_of_le h (Nat.pow_le_pow_right (by omega) hk))
theorem pkL_testBit {n k : Nat} (hk : k < n) : ∀ (ms : List Nat) (j : Nat), (∀ m ∈ ms, m < 2 ^ n) → (pkL n ms).testBit (n * j + k) = (ms.getD j 0).testBit k := by
  intro ms
  induction ms with
  | nil => intro j _; simp [pkL]
  | cons m r ih =>
    intro j h
    have hm := h m (by simp)
    have hr : ∀ m ∈ r, m < 2 ^ n := fun m hm => h m (by simp [hm])
    unfold pkL
    rw [Nat.testBit_or, Nat.testBit_shiftLeft]
    cases j with
    | zero =>
      have : decide (n * 0 + k ≥ n) = false := by simp; omega
      rw [this]
      simp
    | succ j =>
      have e : n * (j + 1) + k = n * j + k + n := by rw [Nat.mul_add]; omega
      rw [e, small_testBit hm (by omega)]
      have : decide (n * j + k + n ≥ n) = true := by simp
      rw [this, Nat.add_sub_cancel, ih j hr]
      simp
theorem pkAt_testBit {n k : Nat} {ms : List Nat} (h : ∀ m ∈ ms, m < 2 ^ n) (j : Nat) : (pkAt n (pkL n ms) j).testBit k = (ms.getD j 0).testBit k := by
  unfold pkAt
  rw [Nat.testBit_and, Nat.testBit_shiftRight, Nat.testBit_two_pow_sub_one]
  by_cases hk : k < n
  · rw [pkL_testBit hk ms j h]; simp [hk]
  · have h2 : ms.getD j 0 < 2 ^ n := by
      rw [List.getD_eq_getElem?_getD]
      cases hq : ms[j]? with
      | none => simp; exact Nat.two_pow_pos n
      | some m => exact h m (List.mem_of_getElem? hq)
    rw [small_testBit h2 (by omega)]
    simp [hk]
theorem testBit_clM {n M : Nat} {o : Oper} {k : Nat} : (clM n M o).testBit k = true ↔ ∃ j ∈ bindsOn o, j = k ∨ (pkAt n M j).testBit k = true := by
  unfold clM
  have key : ∀ (l : List Nat) (m : Nat), (l.foldl (fun m j => m ||| ((1 <<< j) ||| pkAt n M j)) m).testBit k = true ↔ m.testBit k = true ∨ ∃ j ∈ l, j = k ∨ (pkAt n M j).testBit k = true := by
    intro l
    induction l with
    | nil => intro m; simp
    | cons a l ih =>
      intro m
      rw [List.foldl_cons, ih, Nat.testBit_or, Nat.testBit_or, Nat.one_shiftLeft, Nat.testBit_two_pow]
      simp only [Bool.or_eq_true, decide_eq_true_eq, List.mem_cons, exists_eq_or_imp, or_assoc]
  rw [key]
  simp
theorem drawnW_at {n j t : Nat} {ops : Array Oper} {o : Oper} (hj : j < n) (ho : ops[j]? = some o) (ht : o.dst = some t) : (pkAt n (drawnW n ops) t).testBit j = true := by
  unfold pkAt
  rw [Nat.testBit_and, Nat.testBit_shiftRight, Nat.testBit_two_pow_sub_one]
  simp only [hj, decide_true, Bool.and_true]
  unfold drawnW
  have key : ∀ (l : List Nat) (m : Nat), (m.testBit (n * t + j) = true ∨ j ∈ l) → (l.foldl (fun m j => match (ops[j]?).bind (·.dst) with
      | some t => m ||| (1 <<< (n * t + j))
      | none => m) m).testBit (n * t + j) = true := by
    intro l
    induction l with
    | nil => intro m h; rcases h with h | h
             · exact h
             · cases h
    | cons a l ih =>
      intro m h
      rw [List.foldl_cons]
      apply ih
      rcases h with h | h
      · left
        split
        · rw [Nat.testBit_or, h]; rfl
        · exact h
      · rcases List.mem_cons.1 h with rfl | h
        · left
          rw [ho]
          simp only [Option.bind_some, ht]
          rw [Nat.testBit_or, Nat.one_shiftLeft, Nat.testBit_two_pow]
          simp
        · exact .inr h
  exact key _ 0 (.inr (List.mem_range.2 hj))
theorem compDrawn_DF {p : Bool} {ops : Array Oper} {l : List DOpr} (h : compDrawnG P N GL p ops = some l) : DF0 P N GL p ops l := by
  unfold compDrawnG at h
  simp only [Option.bind_eq_some_iff] at h
  obtain ⟨l0, hl0, h⟩ := h
  split at h
  case isFalse => cases h
  rename_i hok
  cases h
  simp only [Bool.and_eq_true, beq_iff_eq] at hok
  obtain ⟨hok, hlen⟩ := hok
  have hlen0 : l0.length = ops.size := by
    have : ∀ (xs : List Oper) (l : List AOpr), xs.mapM (compOpr P N GL ops) = some l → l.length = xs.length := by
      intro xs
      induction xs with
      | nil => intro l h; simp at h; simp [← h]
      | cons x xs ih =>
        intro l h
        simp only [List.mapM_cons, Option.bind_eq_bind, Option.bind_eq_some_iff, Option.pure_def] at h
        obtain ⟨y, _, ys, hys, h⟩ := h
        cases h
        simp [ih ys hys]
    simpa using this _ _ hl0
  have hat : ∀ (xs : List Oper) (l : List AOpr), xs.mapM (compOpr P N GL ops) = some l → ∀ (j : Nat) (o : Oper) (ao : AOpr), xs[j]? = some o → l[j]? = some ao → compOpr P N GL ops o = some ao := by
    intro xs
    induction xs with
    | nil => intro l h j o ao hj; simp at hj
    | cons x xs ih =>
      intro l h j o ao hj hj'
      simp only [List.mapM_cons, Option.bind_eq_bind, Option.bind_eq_some_iff, Option.pure_def] at h
      obtain ⟨y, hy, ys, hys, h⟩ := h
      cases h
      cases j with
      | zero => simp at hj hj'; subst hj; subst hj'; exact hy
      | succ j => exact ih ys hys j o ao (by simpa using hj) (by simpa using hj')
  generalize hd0 : ((l0.zip (closeM ops.size ops.toList)).map fun (o, m) => ({ o, B := ⟨m⟩, chain := !reads o.op } : DOpr)) = d0 at *
  generalize hds : freed p d0 = ds at *
  have hdl : ds.length = ops.size := by omega
  have hcomp : ∀ (i : Nat) (o : Oper) (d : DOpr), ops[i]? = some o → ds[i]? = some d → compOpr P N GL ops o = some d.o := by
    intro i o d ho hd
    obtain ⟨d1, hd, e1⟩ : ∃ d1, d0[i]? = some d1 ∧ d.o = d1.o := by
      rw [← hds] at hd
      unfold freed at hd
      cases p with
      | false => exact ⟨d, by simpa using hd, rfl⟩
      | true =>
        simp only [if_true, List.getElem?_map, Option.map_eq_some_iff] at hd
        obtain ⟨⟨d', j⟩, hz, rfl⟩ := hd
        rw [List.getElem?_zip_eq_some] at hz
        exact ⟨d', hz.1, rfl⟩
    rw [e1]
    rw [← hd0] at hd
    simp only [List.getElem?_map, Option.map_eq_some_iff] at hd
    obtain ⟨⟨ao, B⟩, hz, rfl⟩ := hd
    rw [List.getElem?_zip_eq_some] at hz
    exact hat _ _ hl0 i o ao (by simpa using ho) hz.1
  unfold drawnOK at hok
  simp only [List.all_eq_true, List.mem_range] at hok
  have key : ∀ (i : Nat) (o : Oper) (d : DOpr), ops[i]? = some o → ds[i]? = some d → _ := fun i o d ho hd => by
    have hi : i < ops.size := (Array.getElem?_eq_some_iff.1 ho).1
    have := hok i hi
    simp only [ho, hd, Bool.and_eq_true] at this
    exact this
  have ex : ∀ i, i < ops.size → ∃ o d, ops[i]? = some o ∧ ds[i]? = some d := fun i hi => ⟨ops[i], ds[i]'(by omega), Array.getElem?_eq_getElem hi, List.getElem?_eq_getElem (by omega)⟩
  have dx : ∀ (i : Nat) (d : DOpr), ds[i]? = some d → ∃ o, ops[i]? = some o := fun i d hd => by
    have := (List.getElem?_eq_some_iff.1 hd).1
    exact ⟨ops[i]'(by omega), Array.getElem?_eq_getElem (by omega)⟩
  have hsm : ∀ m ∈ ds.map fun d => d.B.m, m < 2 ^ ops.size := by
    intro m hm
    simp only [List.mem_map] at hm
    obtain ⟨d, hd, rfl⟩ := hm
    obtain ⟨i, hi⟩ := List.mem_iff_getElem?.1 hd
    obtain ⟨o, ho⟩ := dx i d hi
    have := (key i o d ho hi).1.1.1.1.2
    rw [blt_eq] at this
    simpa using this
  have hB : ∀ (i : Nat) (o : Oper) (d : DOpr), ops[i]? = some o → ds[i]? = some d → ∀ k, k ∈ d.B ↔ ∃ j ∈ bindsOn o, j = k ∨ ∃ d' : DOpr, ds[j]? = some d' ∧ k ∈ d'.B := by
    intro i o d ho hd k
    have h2 := (key i o d ho hd).1.1.1.1.1.2
    rw [nbeq_iff] at h2
    rw [← mem_mask, h2, testBit_clM]
    simp only [pkAt_testBit hsm]
    constructor
    · rintro ⟨j, hj, h⟩
      refine ⟨j, hj, h.imp id fun h => ?_⟩
      rw [List.getD_eq_getElem?_getD, List.getElem?_map] at h
      cases hq : ds[j]? with
      | none => rw [hq] at h; simp at h
      | some d' => rw [hq] at h; exact ⟨d', rfl, mem_mask.1 (by simpa using h)⟩
    · rintro ⟨j, hj, h⟩
      refine ⟨j, hj, h.imp id fun h => ?_⟩
      obtain ⟨d', hq, hk⟩ := h
      rw [List.getD_eq_getElem?_getD, List.getElem?_map, hq]
      simpa using mem_mask.2 hk
  have hlt : ∀ (i : Nat) (o : Oper), ops[i]? = some o → ∀ j ∈ bindsOn o, j < i := by
    intro i o ho j hj
    obtain ⟨o', d, h1, h2⟩ := ex i (Array.getElem?_eq_some_iff.1 ho).1
    rw [ho] at h1; cases h1
    have := List.all_eq_true.1 (key i o d ho h2).1.1.1.1.1.1 j hj
    rw [blt_eq] at this
    simpa using this
  refine ⟨hdl, fun i hi => ?_, ?_, ?_, ?_, ?_, ?_, ?_, ?_⟩
  · obtain ⟨o, d, h1, h2⟩ := ex i hi
    exact ⟨o, d, h1, h2, hcomp i o d h1 h2⟩
  · intro i o ho e he hb
    exact hlt i o ho e.on (mem_binds.2 ⟨e, he, hb, rfl⟩)
  · intro i o d ho hd k hk
    obtain ⟨j, hj, h⟩ := (hB i o d ho hd k).1 hk
    obtain ⟨e, he, hb, rfl⟩ := mem_binds.1 hj
    exact ⟨e, he, hb, h⟩
  · intro i
    induction i using Nat.strongRecOn with
    | _ i ih =>
      intro k d d' hd hk hd' q hq
      obtain ⟨o, ho⟩ := dx i d hd
      obtain ⟨j, hj, h⟩ := (hB i o d ho hd k).1 hk
      rcases h with rfl | ⟨d2, hd2, hk2⟩
      · exact (hB i o d ho hd q).2 ⟨j, hj, .inr ⟨d', hd', hq⟩⟩
      · exact (hB i o d ho hd q).2 ⟨j, hj, .inr ⟨d2, hd2, ih j (hlt i o ho j hj) k d2 d' hd2 hk2 hd' q hq⟩⟩
  · intro i d hd
    obtain ⟨o, ho⟩ := dx i d hd
    have := (key i o d ho hd).1.1.1.2
    simpa using this
  · intro i d hd f as hf
    obtain ⟨o, ho⟩ := dx i d hd
    have := (key i o d ho hd).1.1.2
    rw [hf] at this
    cases this
  · intro i j d d' hd hc hji hd' hc'
    obtain ⟨o, ho⟩ := dx i d hd
    have := (key i o d ho hd).1.2
    rw [hc] at this
    simp only [Bool.not_true, Bool.false_or, List.all_eq_true] at this
    have := this j (by
      simp only [drawnC, List.mem_filter, List.mem_range]
      exact ⟨(List.getElem?_eq_some_iff.1 hd').1, by rw [hd']; simpa using hc'⟩)
    simp only [Bool.or_eq_true, Nat.ble_eq] at this
    exact this.resolve_left (by omega)
  · intro i j t o o' d d' ho hd ht ho' hd' hne hdst
    have hw : (pkAt ops.size (drawnW ops.size ops) t).testBit j = true := drawnW_at (Array.getElem?_eq_some_iff.1 ho').1 ho' hdst
    have hs := List.all_eq_true.1 (key i o d ho hd).2 t ht
    unfold slotOK at hs
    simp only [Bool.and_eq_true, Bool.or_eq_true, nbeq_iff] at hs
    by_cases hji : j < i
    · rw [if_pos hji]
      have h1 : ((pkAt ops.size (drawnW ops.size ops) t) % 2 ^ i).testBit j = true := by rw [Nat.testBit_mod_two_pow, hw]; simp [hji]
      have h2 : (Nat.land ((pkAt ops.size (drawnW ops.size ops) t) % 2 ^ i) d.B.m).testBit j = true := by
        have := hs.1
        show (Nat.land (Nat.mod _ _) _).testBit j = true
        rw [this]
        exact h1
      have h3 : (((pkAt ops.size (drawnW ops.size ops) t) % 2 ^ i) &&& d.B.m).testBit j = true := h2
      rw [Nat.testBit_and, Bool.and_eq_true] at h3
      exact mem_mask.1 h3.2
    · rw [if_neg hji]
      rcases hs.2 with h0 | h0
      · exfalso
        have h1 : ((pkAt ops.size (drawnW ops.size ops) t) >>> (i + 1)).testBit (j - i - 1) = true := by
          rw [Nat.testBit_shiftRight, show i + 1 + (j - i - 1) = j by omega]; exact hw
        have h2 : (pkAt ops.size (drawnW ops.size ops) t) >>> (i + 1) = 0 := h0
        rw [h2] at h1
        simp at h1
      · have := List.all_eq_true.1 h0 j (List.mem_range.2 (Array.getElem?_eq_some_iff.1 ho').1)
        simp only [Bool.or_eq_true, Nat.ble_eq, Bool.not_eq_true'] at this
        rcases this with h | h | h
        · omega
        · rw [NS.contains_eq, hw] at h; cases h
        · rw [hd'] at h
          exact h
structure Run (call : Caller) (l : List DOpr) (xs : Nat → DSt) : Prop where
  step : ∀ j, j < l.length → ∃ d, l[j]? = some d ∧ stepD call j d (xs j) = some (xs (j + 1))
section run
variable {call : Caller} {l : List DOpr} {xs : Nat → DSt}
theorem step_ways {j : Nat} {d : DOpr} {x y : DSt} (h : stepD call j d x = some y) :
    (∃ p v, x.pan = some (p, v) ∧ p ∈ d.B ∧ y = { x with rs := none :: x.rs }) ∨
    (∃ p v s1, x.pan = some (p, v) ∧ p ∉ d.B ∧ d.chain = false ∧ evOpr call d.o x.s = some (.normal, s1) ∧ y = { x with s := s1, rs := some ⟨x.s, s1.getO d.o.dst⟩ :: x.rs }) ∨
    (∃ s1, x.pan = none ∧ evOpr call d.o x.s = some (.normal, s1) ∧ y = { s := s1, Gs := if d.chain then s1.H :: x.Gs else x.Gs, rs := some ⟨x.s, s1.getO d.o.dst⟩ :: x.rs, pan := none }) ∨
    (∃ v s1, x.pan = none ∧ d.chain = true ∧ evOpr call d.o x.s = some (.pan v, s1) ∧ y = { s := s1, Gs := s1.H :: x.Gs, rs := none :: x.rs, pan := some (j, v) }) := by
  unfold stepD at h
  split at h
  · rename_i p v hp
    split at h
    · rename_i hc
      cases h
      exact .inl ⟨p, v, hp, by simpa using hc, rfl⟩
    · rename_i hc
      split at h
      · cases h
      · rename_i hch
        split at h
        · rename_i s1 he
          cases h
          exact .inr (.inl ⟨p, v, s1, hp, by simpa using hc, by simpa using hch, he, rfl⟩)
        · cases h
  · rename_i hp
    split at h
    · rename_i s1 he
      cases h
      exact .inr (.inr (.inl ⟨s1, hp, he, rfl⟩))
    · rename_i v s1 he
      split at h
      · rename_i hc
        cases h
        exact .inr (.inr (.inr ⟨v, s1, hp, hc, he, rfl⟩))
      · cases h
    · cases h
theorem pan_keeps (h : Run call l xs) {q : Nat × Value} : ∀ {j : Nat}, (xs j).pan = some q → ∀ k, j ≤ k → k ≤ l.length → (xs k).pan = some q := by
  intro j hj k
  induction k with
  | zero => intro hk _; have : j = 0 := by omega
            subst this; exact hj
  | succ k ih =>
    intro hk hl
    by_cases hjk : j = k + 1
    · subst hjk; exact hj
    · have := ih (by omega) (by omega)
      obtain ⟨d, hd, hs⟩ := h.step k (by omega)
      rcases step_ways hs with ⟨p, v, e1, e2, e3⟩ | ⟨p, v, s1, e1, e2, e3, e4, e5⟩ | ⟨s1, e1, e2, e3⟩ | ⟨v, s1, e1, e2, e3, e4⟩
      · rw [e3]; exact this
      · rw [e5]; exact this
      · rw [this] at e1; cases e1
      · rw [this] at e1; cases e1
theorem pan_from (h : Run call l xs) (h0 : (xs 0).pan = none) {p : Nat} {v : Value} : ∀ (j : Nat), j ≤ l.length → (xs j).pan = some (p, v) → p < j ∧ (xs p).pan = none ∧ ∃ d s1, l[p]? = some d ∧ d.chain = true ∧ evOpr call d.o (xs p).s = some (.pan v, s1) ∧ xs (p + 1) = { s := s1, Gs := s1.H :: (xs p).Gs, rs := none :: (xs p).rs, pan := some (p, v) } := by
  intro j
  induction j with
  | zero => intro _ hj; rw [h0] at hj; cases hj
  | succ j ih =>
    intro hl hj
    obtain ⟨d, hd, hs⟩ := h.step j (by omega)
    rcases step_ways hs with ⟨p', v', e1, e2, e3⟩ | ⟨p', v', s1, e1, e2, e3, e4, e5⟩ | ⟨s1, e1, e2, e3⟩ | ⟨v', s1, e1, e2, e3, e4⟩
    · rw [e3] at hj
      obtain ⟨a, b⟩ := ih (by omega) hj
      exact ⟨by omega, b⟩
    · rw [e5] at hj
      obtain ⟨a, b⟩ := ih (by omega) hj
      exact ⟨by omega, b⟩
    · rw [e3] at hj; cases hj
    · have hj' := hj
      rw [e4] at hj
      simp only [Option.some.injEq, Prod.mk.injEq] at hj
      obtain ⟨rfl, rfl⟩ := hj
      exact ⟨Nat.lt_succ_self _, e1, d, s1, hd, e2, e3, e4⟩
theorem cIdx_succ {j : Nat} {d : DOpr} (hd : l[j]? = some d) : cIdx l (j + 1) = cIdx l j + if d.chain then 1 else 0 := by
  simp only [cIdx, hd, Option.any_some]
theorem cIdx_mono (l : List DOpr) {i j : Nat} (h : i ≤ j) : cIdx l i ≤ cIdx l j := by
  induction j with
  | zero => have : i = 0 := by omega
            subst this; exact Nat.le_refl _
  | succ j ih =>
    by_cases hij : i = j + 1
    · subst hij; exact Nat.le_refl _
    · have := ih (by omega)
      simp only [cIdx]
      omega
theorem cIdx_lt {i j : Nat} {d : DOpr} (hd : l[i]? = some d) (hc : d.chain = true) (h : i < j) : cIdx l i < cIdx l j := by
  have h1 := cIdx_succ hd
  rw [hc] at h1
  have h2 := cIdx_mono l (show i + 1 ≤ j from h)
  simp only [if_true] at h1
  omega
theorem cIdx_inj {i j : Nat} {d d' : DOpr} (hd : l[i]? = some d) (hd' : l[j]? = some d') (hc : d.chain = true) (hc' : d'.chain = true) (h : cIdx l i = cIdx l j) : i = j := by
  rcases Nat.lt_trichotomy i j with h1 | h1 | h1
  · have := cIdx_lt hd hc h1; omega
  · exact h1
  · have := cIdx_lt hd' hc' h1; omega
theorem Gs_at (h : Run call l xs) (hG0 : (xs 0).Gs = [(xs 0).s.H]) (hrd : ∀ (i : Nat) (d : DOpr), l[i]? = some d → d.chain = true ∨ reads d.o.op = true) : ∀ j, j ≤ l.length → (xs j).pan = none → (xs j).Gs.length = cIdx l j + 1 ∧ (xs j).Gs.head? = some (xs j).s.H := by
  intro j
  induction j with
  | zero => intro _ _; rw [hG0]; exact ⟨rfl, rfl⟩
  | succ j ih =>
    intro hl hp
    obtain ⟨d, hd, hs⟩ := h.step j (by omega)
    rcases step_ways hs with ⟨p', v', e1, e2, e3⟩ | ⟨p', v', s1, e1, e2, e3, e4, e5⟩ | ⟨s1, e1, e2, e3⟩ | ⟨v', s1, e1, e2, e3, e4⟩
    · rw [e3] at hp; rw [e1] at hp; cases hp
    · rw [e5] at hp; rw [e1] at hp; cases hp
    · obtain ⟨a, b⟩ := ih (by omega) e1
      rw [cIdx_succ hd, e3]
      cases hc : d.chain with
      | true => simp [a]
      | false =>
        have hr : reads d.o.op = true := by rcases hrd j d hd with h | h
                                            · rw [hc] at h; cases h
                                            · exact h
        have hH : s1.H = (xs j).s.H := by
          unfold evOpr at e2
          split at e2
          · split at e2
            · rename_i v H' hv
              simp only [Option.some.injEq, Prod.mk.injEq] at e2
              rw [← e2.2, put_H]
              exact reads_same hr hv
            all_goals first
              | (cases e2; done)
              | (rename_i hv
                 obtain ⟨v, hv'⟩ := reads_ok hr hv
                 cases hv')
          · simp only [Option.some.injEq, Prod.mk.injEq] at e2
            rw [← e2.2, put_H]
        simp [a, b, hH]
    · rw [e4] at hp; cases hp
theorem Gs_suffix (h : Run call l xs) : ∀ (k j : Nat), j ≤ k → k ≤ l.length → ∃ pre, (xs k).Gs = pre ++ (xs j).Gs := by
  intro k
  induction k with
  | zero => intro j hj _; have : j = 0 := by omega
            subst this; exact ⟨[], rfl⟩
  | succ k ih =>
    intro j hj hl
    by_cases hjk : j = k + 1
    · subst hjk; exact ⟨[], rfl⟩
    · obtain ⟨pre, hp⟩ := ih j (by omega) (by omega)
      obtain ⟨d, hd, hs⟩ := h.step k (by omega)
      rcases step_ways hs with ⟨p', v', e1, e2, e3⟩ | ⟨p', v', s1, e1, e2, e3, e4, e5⟩ | ⟨s1, e1, e2, e3⟩ | ⟨v', s1, e1, e2, e3, e4⟩
      · exact ⟨pre, by rw [e3]; exact hp⟩
      · exact ⟨pre, by rw [e5]; exact hp⟩
      · rw [e3]
        cases d.chain with
        | true => exact ⟨s1.H :: pre, by simp [hp]⟩
        | false => exact ⟨pre, by simp [hp]⟩
      · exact ⟨s1.H :: pre, by rw [e4]; simp [hp]⟩
theorem rs_len (h : Run call l xs) (h0 : (xs 0).rs = []) : ∀ j, j ≤ l.length → (xs j).rs.length = j := by
  intro j
  induction j with
  | zero => intro _; rw [h0]; rfl
  | succ j ih =>
    intro hl
    have := ih (by omega)
    obtain ⟨d, hd, hs⟩ := h.step j (by omega)
    rcases step_ways hs with ⟨p', v', e1, e2, e3⟩ | ⟨p', v', s1, e1, e2, e3, e4, e5⟩ | ⟨s1, e1, e2, e3⟩ | ⟨v', s1, e1, e2, e3, e4⟩
    · rw [e3]; simp [this]
    · rw [e5]; simp [this]
    · rw [e3]; simp [this]
    · rw [e4]; simp [this]
theorem rs_suffix (h : Run call l xs) : ∀ (k j : Nat), j ≤ k → k ≤ l.length → ∃ pre, (xs k).rs = pre ++ (xs j).rs := by
  intro k
  induction k with
  | zero => intro j hj _; have : j = 0 := by omega
            subst this; exact ⟨[], rfl⟩
  | succ k ih =>
    intro j hj hl
    by_cases hjk : j = k + 1
    · subst hjk; exact ⟨[], rfl⟩
    · obtain ⟨pre, hp⟩ := ih j (by omega) (by omega)
      obtain ⟨d, hd, hs⟩ := h.step k (by omega)
      rcases step_ways hs with ⟨p', v', e1, e2, e3⟩ | ⟨p', v', s1, e1, e2, e3, e4, e5⟩ | ⟨s1, e1, e2, e3⟩ | ⟨v', s1, e1, e2, e3, e4⟩
      · exact ⟨none :: pre, by rw [e3]; simp [hp]⟩
      · exact ⟨_ :: pre, by rw [e5]; simp only [hp]; rfl⟩
      · exact ⟨_ :: pre, by rw [e3]; simp only [hp]; rfl⟩
      · exact ⟨none :: pre, by rw [e4]; simp [hp]⟩
theorem rec_at (h : Run call l xs) (h0 : (xs 0).rs = []) {j : Nat} (hj : j < l.length) {r : Option Rec} (hr : (xs (j + 1)).rs = r :: (xs j).rs) : (xs l.length).rs.reverse[j]? = some r := by
  obtain ⟨pre, hp⟩ := rs_suffix h l.length (j + 1) (by omega) (Nat.le_refl _)
  rw [hp, hr]
  have hl := rs_len h h0 j (by omega)
  simp only [List.reverse_append, List.reverse_cons, List.append_assoc]
  rw [List.getElem?_append_right (by simp [hl])]
  simp [hl]
end run
end Go.Proofs.YtehbekgmemebjaaDoorEv
