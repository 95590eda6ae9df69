import Derived.Test.YtehbekgmemebjaaDoorEvP
import Derived.LoopN
namespace Go.Proofs.YtehbekgmemebjaaDoorEv
open Go
set_option linter.unusedVariables false
set_option linter.unusedSimpArgs false
variable {P : Program} {GL : List Nat} {ι : Inj} {H : Hp} {w : World} {N : Nat} {s s1 : St} {a : Act}
theorem runD_df {call : Caller} : ∀ (l : List DOpr) (i : Nat) (x y : DSt), runD call i l x = some y → y.s.df = x.s.df := by
  intro l
  induction l with
  | nil => intro i x y h; simp only [runD, Option.some.injEq] at h; rw [h]
  | cons d r ih =>
    intro i x y h
    simp only [runD] at h
    split at h
    · rename_i x1 h1
      rw [ih _ _ _ h]
      rcases step_ways h1 with ⟨p', v', e1, e2, e3⟩ | ⟨p', v', s1, e1, e2, e3, e4, e5⟩ | ⟨s1, e1, e2, e3⟩ | ⟨v', s1, e1, e2, e3, e4⟩
      · rw [e3]
      · rw [e5]; exact evOpr_df e4
      · rw [e3]; exact evOpr_df e2
      · rw [e4]; exact evOpr_df e3
    · cases h
theorem poison_df : ∀ (l : List DOpr) (s : St), (poison l s).df = s.df := by
  intro l
  induction l with
  | nil => intro s; rfl
  | cons d r ih =>
    intro s
    have : poison (d :: r) s = poison r (s.put d.o.dst bad) := rfl
    rw [this, ih]
    cases d.o.dst <;> rfl
theorem evDrawn_df {call : Caller} {l : List DOpr} {ex : AExit} (h : evDrawn call l s = some (ex, s1)) : s1.df = s.df := by
  unfold evDrawn at h
  split at h
  · cases h
  · rename_i x hx
    have hd := runD_df _ _ _ _ hx
    split at h
    · split at h
      · simp only [Option.some.injEq, Prod.mk.injEq] at h
        rw [← h.2]; exact hd
      · simp only [Option.some.injEq, Prod.mk.injEq] at h
        rw [← h.2]; exact poison_df _ _
    · cases h
theorem evC_df {call : Caller} : ∀ (n : Nat) (c : ACode) (s : St) {ex : AExit} {s1 : St}, evC call n c s = some (ex, s1) → s1.df = s.df := by
  intro n
  induction n with
  | zero => intro c s ex s1 h; simp [evC] at h
  | succ n ih =>
    intro c s ex s1 h
    cases c with
    | skip => simp only [evC, Option.some.injEq, Prod.mk.injEq] at h; rw [h.2]
    | ops l => simp only [evC] at h; exact evOps_df l s h
    | drawn l => simp only [evC] at h; exact evDrawn_df h
    | drawnP l =>
      simp only [evC] at h
      split at h
      · have := evDrawn_df h
        exact this
      · cases h
    | seq a b =>
      simp only [evC] at h
      split at h
      · rename_i s2 h2; rw [ih b s2 h, ih a s h2]
      · exact ih a s h
    | cond x a b =>
      simp only [evC] at h
      split at h
      · exact ih a s h
      · exact ih b s h
      · cases h
    | block id c =>
      simp only [evC] at h
      split at h
      · rename_i i s2 h2
        split at h <;> (simp only [Option.some.injEq, Prod.mk.injEq] at h; rw [← h.2]; exact ih c s h2)
      · exact ih c s h
    | loop c =>
      simp only [evC] at h
      split at h
      · rename_i s2 h2; rw [ih (.loop c) s2 h, ih c s h2]
      · exact ih c s h
    | exit id => simp only [evC, Option.some.injEq, Prod.mk.injEq] at h; rw [h.2]
    | ret => simp only [evC, Option.some.injEq, Prod.mk.injEq] at h; rw [h.2]
theorem Post.here {ex : AExit} {e : Exit} (hs : SR GL N ι s a w) (h : match ex with
    | .normal => e = .normal
    | .exit i => e = .exit i
    | .ret => e = .ret
    | .pan _ => False) : Post GL N ι s w ex s e a w := by
  refine ⟨ι, New.refl _ _ _, Fr.refl _ _, Nat.le_refl _, ?_⟩
  cases ex <;> first | exact ⟨h, hs⟩ | exact h.elim
theorem code_wp (hm : P.follows .mixedOrders = true) {call : Caller} (hcall : CallOK P GL call) : ∀ (n : Nat) (code : Code) (c : ACode), compCode P N GL code = some c → ∀ (ι : Inj) (s : St) (a : Act) (w : World) (ex : AExit) (s1 : St), s.df = false → SR GL N ι s a w → evC call n c s = some (ex, s1) →
    code.wp P (Post GL N ι s w ex s1) a w := by
  intro n
  induction n with
  | zero => intro code c hc ι s a w ex s1 hdf hs he; simp [evC] at he
  | succ n ih =>
    intro code c hc ι s a w ex s1 hdf hs he
    cases code with
    | skip =>
      simp only [compCode, Option.some.injEq] at hc
      subst hc
      simp only [evC, Option.some.injEq, Prod.mk.injEq] at he
      obtain ⟨rfl, rfl⟩ := he
      exact wp_skip (Post.here hs rfl)
    | region id ops draw =>
      cases draw with
      | false =>
        simp only [compCode, Option.map_eq_some_iff] at hc
        obtain ⟨l, hl, rfl⟩ := hc
        simp only [evC] at he
        refine wp_region ?_
        have := ops_wp hcall hl (Q := Post GL N ι s w ex s1) l 0 rfl ι s a w ex s1 hdf hs he (fun e a' w' h => h)
        have hlen : l.length = ops.size := by
          have : ∀ (xs : List Oper) (l : List AOpr), xs.mapM (compOpr P N GL ops) = some l → l.length = xs.length := by
            intro xs
            induction xs with
            | nil => intro l h; simp at h; simp [← h]
            | cons x xs ih =>
              intro l h
              simp only [List.mapM_cons, Option.bind_eq_bind, Option.bind_eq_some_iff, Option.pure_def] at h
              obtain ⟨y, _, ys, hys, h⟩ := h
              cases h
              simp [ih ys hys]
          simpa using this _ _ hl
        rw [hlen] at this
        rw [List.range_eq_range']
        exact this
      | true =>
        simp only [compCode] at hc
        split at hc
        · rename_i l hl
          cases hc
          simp only [evC] at he
          exact drawn_wp hm hcall hl hdf hs he (fun e a' w' h => h)
        · simp only [Option.map_eq_some_iff] at hc
          obtain ⟨l, hl, rfl⟩ := hc
          simp only [evC] at he
          split at he
          · rename_i l' H0 hp
            exact drawnP_wp hm hcall hl hdf hs hp he (fun e a' w' h => h)
          · cases he
    | seq x y =>
      simp only [compCode, Option.bind_eq_some_iff, Option.map_eq_some_iff] at hc
      obtain ⟨cx, hx, cy, hy, rfl⟩ := hc
      simp only [evC] at he
      refine wp_seq ?_
      split at he
      · rename_i s2 h2
        refine wp_mono (ih x cx hx ι s a w .normal s2 hdf hs h2) ?_
        rintro e a' w' ⟨ι', hn, hf, hz, rfl, hs'⟩
        exact wp_mono (ih y cy hy ι' s2 a' w' ex s1 (by rw [evC_df n _ _ h2]; exact hdf) hs' he) fun e a'' w'' hp => hp.after hn hf hz
      · rename_i hne
        refine wp_mono (ih x cx hx ι s a w ex s1 hdf hs he) ?_
        intro e a' w' hp
        have hp' := hp
        obtain ⟨ι', _, _, _, hx'⟩ := hp'
        cases ex with
        | normal => exact absurd he (hne s1)
        | exit i => obtain ⟨rfl, _⟩ := hx'; exact hp
        | ret => obtain ⟨rfl, _⟩ := hx'; exact hp
        | pan v => obtain ⟨⟨v', rfl, _⟩, _⟩ := hx'; exact hp
    | cond x p q =>
      simp only [compCode] at hc
      split at hc
      case isFalse => cases hc
      rename_i hok
      simp only [Option.bind_eq_some_iff, Option.map_eq_some_iff] at hc
      obtain ⟨cp, hp, cq, hq, rfl⟩ := hc
      have hx := hs.env x hok
      simp only [evC] at he
      split at he
      · rename_i hb
        rw [hb] at hx
        refine wp_cond (t := true) ?_ (ih p cp hp ι s a w ex s1 hdf hs he)
        generalize a.eval x = z at hx
        cases hx; rfl
      · rename_i hb
        rw [hb] at hx
        refine wp_cond (t := false) ?_ (ih q cq hq ι s a w ex s1 hdf hs he)
        generalize a.eval x = z at hx
        cases hx; rfl
      · cases he
    | block id c0 =>
      simp only [compCode, Option.map_eq_some_iff] at hc
      obtain ⟨c1, h1, rfl⟩ := hc
      simp only [evC] at he
      refine wp_block ?_
      split at he
      · rename_i i s2 h2
        refine wp_mono (ih c0 c1 h1 ι s a w (.exit i) s2 hdf hs h2) ?_
        rintro e a' w' ⟨ι', hn, hf, hz, rfl, hs'⟩
        split at he
        · rename_i hid
          simp only [Option.some.injEq, Prod.mk.injEq] at he
          obtain ⟨rfl, rfl⟩ := he
          simp only [Exit.inBlock, hid, if_true]
          exact ⟨ι', hn, hf, hz, rfl, hs'⟩
        · rename_i hid
          simp only [Option.some.injEq, Prod.mk.injEq] at he
          obtain ⟨rfl, rfl⟩ := he
          simp only [Exit.inBlock, hid, if_false]
          exact ⟨ι', hn, hf, hz, rfl, hs'⟩
      · rename_i hne
        refine wp_mono (ih c0 c1 h1 ι s a w ex s1 hdf hs he) ?_
        intro e a' w' hp
        have hp' := hp
        obtain ⟨ι', _, _, _, hx'⟩ := hp'
        cases ex with
        | normal => obtain ⟨rfl, _⟩ := hx'; exact hp
        | exit i => exact absurd he (hne i s1)
        | ret => obtain ⟨rfl, _⟩ := hx'; exact hp
        | pan v => obtain ⟨⟨v', rfl, _⟩, _⟩ := hx'; exact hp
    | loop c0 =>
      have hc' := hc
      simp only [compCode, Option.map_eq_some_iff] at hc
      obtain ⟨c1, h1, rfl⟩ := hc
      have rounds : ∀ (k : Nat), k ≤ n + 1 → ∀ (ι : Inj) (s : St) (a : Act) (w : World) (ex : AExit) (s1 : St), s.df = false → SR GL N ι s a w → evC call k (.loop c1) s = some (ex, s1) → ∀ Q : Exit → Act → World → Prop, (∀ e a' w', Post GL N ι s w ex s1 e a' w' → Q e a' w') → Code.rounds P c0 Q k a w := by
        intro k
        induction k with
        | zero => intro _ ι s a w ex s1 hdf hs he; simp [evC] at he
        | succ k ihk =>
          intro hk ι s a w ex s1 hdf hs he Q hQ
          simp only [evC] at he
          rw [rounds_succ]
          have up : ∀ ex s1, evC call k c1 s = some (ex, s1) → Code.wp P c0 (Post GL N ι s w ex s1) a w := fun ex9 s9 hev => by
            by_cases hkn : k = n
            · rw [hkn] at hev; exact ih c0 c1 h1 ι s a w ex9 s9 hdf hs hev
            · have mono : ∀ (k n : Nat), k ≤ n → ∀ c s r, evC call k c s = some r → evC call n c s = some r := by
                intro k
                induction k with
                | zero => intro n _ c s r h; simp [evC] at h
                | succ k ihm =>
                  intro n hn c s r h
                  obtain ⟨n, rfl⟩ : ∃ m, n = m + 1 := ⟨n - 1, by omega⟩
                  have im := ihm n (by omega)
                  cases c with
                  | skip => exact h
                  | ops l => exact h
                  | drawn l => exact h
                  | drawnP l => exact h
                  | exit id => exact h
                  | ret => exact h
                  | seq a b =>
                    simp only [evC] at h ⊢
                    cases ha : evC call k a s with
                    | none => rw [ha] at h; cases h
                    | some p =>
                      rw [im a s p ha]
                      rw [ha] at h
                      obtain ⟨e, s2⟩ := p
                      cases e <;> simp only at h ⊢ <;> first | exact im b s2 r h | exact h
                  | cond x a b =>
                    simp only [evC] at h ⊢
                    split at h
                    · exact im a s r h
                    · exact im b s r h
                    · cases h
                  | block id c =>
                    simp only [evC] at h ⊢
                    cases ha : evC call k c s with
                    | none => rw [ha] at h; cases h
                    | some p => rw [im c s p ha]; rw [ha] at h; exact h
                  | loop c =>
                    simp only [evC] at h ⊢
                    cases ha : evC call k c s with
                    | none => rw [ha] at h; cases h
                    | some p =>
                      rw [im c s p ha]
                      rw [ha] at h
                      obtain ⟨e, s2⟩ := p
                      cases e <;> simp only at h ⊢ <;> first | exact im (.loop c) s2 r h | exact h
              exact ih c0 c1 h1 ι s a w ex9 s9 hdf hs (mono k n (by omega) c1 s _ hev)
          split at he
          · rename_i s2 h2
            refine wp_mono (up .normal s2 h2) ?_
            rintro e a' w' ⟨ι', hn, hf, hz, rfl, hs'⟩
            exact ihk (by omega) ι' s2 a' w' ex s1 (by rw [evC_df k _ _ h2]; exact hdf) hs' he Q fun e a'' w'' hp => hQ e a'' w'' (hp.after hn hf hz)
          · rename_i hne
            refine wp_mono (up ex s1 he) ?_
            intro e a' w' hp
            have hq := hQ e a' w' hp
            obtain ⟨ι', _, _, _, hx'⟩ := hp
            cases ex with
            | normal => exact absurd he (hne s1)
            | exit i => obtain ⟨rfl, _⟩ := hx'; exact hq
            | ret => obtain ⟨rfl, _⟩ := hx'; exact hq
            | pan v => obtain ⟨⟨v', rfl, _⟩, _⟩ := hx'; exact hq
      exact wp_loop_rounds (n + 1) (rounds (n + 1) (Nat.le_refl _) ι s a w ex s1 hdf hs he _ (fun e a' w' h => h))
    | exit id =>
      simp only [compCode, Option.some.injEq] at hc
      subst hc
      simp only [evC, Option.some.injEq, Prod.mk.injEq] at he
      obtain ⟨rfl, rfl⟩ := he
      exact wp_exit (Post.here hs rfl)
    | ret =>
      simp only [compCode, Option.some.injEq] at hc
      subst hc
      simp only [evC, Option.some.injEq, Prod.mk.injEq] at he
      obtain ⟨rfl, rfl⟩ := he
      exact wp_ret (Post.here hs rfl)
    | _ => simp [compCode] at hc
def Exit.inBlockS (id : Nat) (Q : Exit → Act → List Frame → World → Prop) : Exit → Act → List Frame → World → Prop
  | .exit i, a, cs, w => if i = id then Q .normal a cs w else Q (.exit i) a cs w
  | e, a, cs, w => Q e a cs w
theorem wpS_block {id : Nat} {c : Code} {Q : Exit → Act → List Frame → World → Prop} {cs : List Frame} (h : c.wpS P (Exit.inBlockS id Q) a cs w) : (Code.block id c).wpS P Q a cs w := by
  intro b k hb hr
  obtain ⟨e, a₁, cs₁, w₁, hq, harr⟩ := h b (.inBlock id :: k) hb hr
  cases e with
  | normal => exact ⟨.normal, a₁, cs₁, w₁, hq, .head step_block (Steps.trans harr (.one step_inBlock))⟩
  | exit id' =>
    by_cases hid : id' = id
    · simp only [Exit.inBlockS, hid, if_true] at hq
      exact ⟨.normal, a₁, cs₁, w₁, hq, .head step_block (harr k (by simp [exitTo, hid]))⟩
    · simp only [Exit.inBlockS, hid, if_false] at hq
      refine ⟨.exit id', a₁, cs₁, w₁, hq, fun k' hk => .head step_block (harr k' ?_)⟩
      have : (id == id') = false := by simp; exact fun h => hid h.symm
      simp [exitTo, this, hk]
  | goto l => exact ⟨_, a₁, cs₁, w₁, hq, fun k' hk => .head step_block (harr k' (by simp [gotoIn, hk]))⟩
  | ret => exact ⟨_, a₁, cs₁, w₁, hq, .of_steps (.one step_block) harr⟩
  | panic ch => exact ⟨_, a₁, cs₁, w₁, hq, .of_steps (.one step_block) harr⟩
  | outgrown => exact ⟨_, a₁, cs₁, w₁, hq, .of_steps (b := b) (k := k) (cs := cs₁) (e := .outgrown) (.one step_block) harr⟩
theorem wpS_mono {c : Code} {Q Q' : Exit → Act → List Frame → World → Prop} {cs : List Frame} (h : c.wpS P Q a cs w) (hq : ∀ e a cs w, Q e a cs w → Q' e a cs w) : c.wpS P Q' a cs w :=
  fun b k hb hr => let ⟨e, a', cs', w', q, r⟩ := h b k hb hr; ⟨e, a', cs', w', hq _ _ _ _ q, r⟩
def PM (ι : Inj) (pm : Option (Value × Bool)) (u : FrameMode) : Prop := match pm with
  | none => u = .returning
  | some (v, b) => ∃ v', VR ι v v' ∧ u = .panicking [{ v := v', recovered := b }]
theorem PM.ext {ι ι' : Inj} (e : Ext ι ι') {pm : Option (Value × Bool)} {u : FrameMode} (h : PM ι pm u) : PM ι' pm u := by
  cases pm with
  | none => exact h
  | some p =>
    obtain ⟨v, b⟩ := p
    obtain ⟨v', h1, h2⟩ := h
    exact ⟨v', h1.ext e, h2⟩
def PostS (GL : List Nat) (N : Nat) (ι : Inj) (s : St) (w : World) (c0 : Frame) (cs0 : List Frame) (ex : AExit) (s1 : St) (e : Exit) (a' : Act) (cs' : List Frame) (w' : World) : Prop :=
  ∃ ι' u', cs' = { c0 with mode := u' } :: cs0 ∧ PM ι' s1.pm u' ∧ New ι ι' s.H.size w ∧ Fr ι w w' ∧ s.H.size ≤ s1.H.size ∧ match ex with
    | .normal => e = .normal ∧ SR GL N ι' s1 a' w'
    | .exit i => e = .exit i ∧ SR GL N ι' s1 a' w'
    | .ret => e = .ret ∧ SR GL N ι' s1 a' w'
    | .pan v => True
theorem PostS.after {c0 : Frame} {cs0 : List Frame} {ι1 : Inj} {w1 : World} {s2 : St} {ex : AExit} {e : Exit} {a' : Act} {cs' : List Frame} {w' : World} (hn : New ι ι1 s.H.size w) (hf : Fr ι w w1) (hs : s.H.size ≤ s1.H.size) (h : PostS GL N ι1 s1 w1 c0 cs0 ex s2 e a' cs' w') : PostS GL N ι s w c0 cs0 ex s2 e a' cs' w' := by
  obtain ⟨ι2, u', hu, hpm, n2, f2, z2, r⟩ := h
  exact ⟨ι2, u', hu, hpm, hn.trans n2 hs hf.size, hf.trans f2 hn, by omega, r⟩
theorem put_pm (s : St) (d : Option Nat) (v : Value) : (s.put d v).pm = s.pm := by cases d <;> rfl
theorem oprS {call : Caller} (hcall : CallOK P GL call) {ops : Array Oper} {i : Nat} {rest : List Nat} {o : Oper} {ao : AOpr} (hi : ops[i]? = some o) (hc : compOpr P N GL ops o = some ao) (hdf : s.df = true) (hs : SR GL N ι s a w) {c0 : Frame} {cs0 : List Frame} {u : FrameMode} (hu : PM ι s.pm u)
    (he : evOpr call ao s = some (.normal, s1)) {Q : Exit → Act → List Frame → World → Prop} (hK : ∀ a' cs' w', PostS GL N ι s w c0 cs0 .normal s1 .normal a' cs' w' → wpOpsS P ops Q rest a' cs' w') : wpOpsS P ops Q (i :: rest) a ({ c0 with mode := u } :: cs0) w := by
  obtain ⟨hdst, hdN, hdg⟩ := compOpr_dst hc
  unfold compOpr at hc
  split at hc
  case isFalse => cases hc
  rename_i hok
  simp only [Bool.and_eq_true, Array.all_eq_true_iff_forall_mem] at hok
  simp only [Option.map_eq_some_iff] at hc
  obtain ⟨op, hop, rfl⟩ := hc
  have hρ : ∀ x ∈ o.op.operands, VR ι (s.env x) (a.eval x) := fun x hx => hs.env x (hok.1 x hx)
  simp only [wpOpsS, hi]
  rw [wanted_same hs ops o]
  unfold evOpr at he
  simp only at he hdst hdN
  split at he
  · rename_i hw
    rw [if_pos hw]
    split at he
    · rename_i v H' hv
      simp only [Option.some.injEq, Prod.mk.injEq, true_and] at he
      subst he
      obtain ⟨v', w', ι', hr, hn, hvv, hww, hf, hz⟩ := op_sound hop hρ hs.wr hv
      have hsr := hs.next hn.ext hww hdN hvv
      have fin := hK (a.put o.dst v') ({ c0 with mode := u } :: cs0) w' ⟨ι', u, rfl, by rw [put_pm]; exact hu.ext hn.ext, hn, hf, by rw [put_H]; exact hz, rfl, hsr⟩
      rcases hr with hr | ⟨hr, rfl⟩
      · rw [hr]; exact fin
      · rw [hr]; exact fin
    · rename_i f args hv
      obtain ⟨args', hva, hr⟩ := op_call (P := P) (w := w) hop hρ hv
      split at he
      · rename_i v H' hcl
        simp only [Option.some.injEq, Prod.mk.injEq, true_and] at he
        subst he
        obtain ⟨hb, hcs⟩ := hcall f args s.H _ hcl
        rw [hr, callFunc_run hb]
        refine (hcs ι w args' hs.wr hva).mono ?_
        rintro e w'' ⟨v', ι', rfl, hn, hvv, hww, hf, hz⟩
        exact hK (a.put o.dst v') _ w'' ⟨ι', u, rfl, by rw [put_pm]; exact hu.ext hn.ext, hn, hf, by rw [put_H]; exact hz, rfl, hs.next hn.ext hww hdN hvv⟩
      · simp at he
      · cases he
    · first | (cases he; done) | (rw [if_pos hdf] at he; cases he)
    · rename_i hv
      have hr := op_recover (P := P) (w := w) (ρ' := a.eval) hop hv
      try rw [if_pos hdf] at he
      rw [hr]
      cases hpm : s.pm with
      | none =>
        rw [hpm] at he hu
        simp only [Option.some.injEq, Prod.mk.injEq, true_and] at he
        subst he
        simp only [PM] at hu
        subst hu
        have : recoverD ({ c0 with mode := .returning } :: cs0) = none := rfl
        rw [this]
        exact hK (a.put o.dst .nilIface) _ w ⟨ι, .returning, rfl, by rw [put_pm, hpm]; rfl, New.refl _ _ _, Fr.refl _ _, by rw [put_H]; exact Nat.le_refl _, rfl, hs.next (Ext.refl _) hs.wr hdN .nilIface⟩
      | some p =>
        obtain ⟨v, b⟩ := p
        rw [hpm] at he hu
        obtain ⟨v', hvv, rfl⟩ := hu
        cases b with
        | false =>
          simp only [Option.some.injEq, Prod.mk.injEq, true_and] at he
          subst he
          have : recoverD ({ c0 with mode := .panicking [{ v := v', recovered := false }] } :: cs0) = some (v', { c0 with mode := .panicking [{ v := v', recovered := true }] } :: cs0) := rfl
          rw [this]
          have hs2 : SR GL N ι ({ s with pm := some (v, true) }.put o.dst v) (a.put o.dst v') w := by
            have := hs.next (Ext.refl _) hs.wr hdN hvv
            refine ⟨this.size, fun i => ?_, by rw [put_H]; exact hs.wr, by rw [put_ds, defers_put]; exact hs.ds⟩
            have h1 := this.tmps i
            rw [get_put] at h1 ⊢
            exact h1
          exact hK (a.put o.dst v') _ w ⟨ι, .panicking [{ v := v', recovered := true }], rfl, by rw [put_pm]; exact ⟨v', hvv, rfl⟩, New.refl _ _ _, Fr.refl _ _, by rw [put_H]; exact Nat.le_refl _, rfl, hs2⟩
        | true =>
          simp only [Option.some.injEq, Prod.mk.injEq, true_and] at he
          subst he
          have : recoverD ({ c0 with mode := .panicking [{ v := v', recovered := true }] } :: cs0) = none := rfl
          rw [this]
          exact hK (a.put o.dst .nilIface) _ w ⟨ι, .panicking [{ v := v', recovered := true }], rfl, by rw [put_pm, hpm]; exact ⟨v', hvv, rfl⟩, New.refl _ _ _, Fr.refl _ _, by rw [put_H]; exact Nat.le_refl _, rfl, hs.next (Ext.refl _) hs.wr hdN .nilIface⟩
    · simp at he
    · cases he
  · rename_i hw
    rw [if_neg hw]
    simp only [Option.some.injEq, Prod.mk.injEq, true_and] at he
    subst he
    exact hK (a.put o.dst undef) _ w ⟨ι, u, rfl, by rw [put_pm]; exact hu, New.refl _ _ _, Fr.refl _ _, by rw [put_H]; exact Nat.le_refl _, rfl, hs.next (Ext.refl _) hs.wr hdN (undefVR _)⟩
theorem mapM_at {ops : Array Oper} : ∀ (xs : List Oper) (l : List AOpr), xs.mapM (compOpr P N GL ops) = some l → l.length = xs.length ∧ ∀ (j : Nat) (ao : AOpr), l[j]? = some ao → ∃ o, xs[j]? = some o ∧ compOpr P N GL ops o = some ao := by
  intro xs
  induction xs with
  | nil => intro l h; simp at h; subst h; exact ⟨rfl, fun j ao hj => by simp at hj⟩
  | cons x xs ih =>
    intro l h
    simp only [List.mapM_cons, Option.bind_eq_bind, Option.bind_eq_some_iff, Option.pure_def] at h
    obtain ⟨y, hy, ys, hys, h⟩ := h
    cases h
    obtain ⟨i1, i2⟩ := ih ys hys
    refine ⟨by simp [i1], fun j ao hj => ?_⟩
    cases j with
    | zero => simp at hj; subst hj; exact ⟨x, rfl, hy⟩
    | succ j => simpa using i2 j ao (by simpa using hj)
theorem opsS {call : Caller} (hcall : CallOK P GL call) {ops : Array Oper} {l : List AOpr} (hl : ops.toList.mapM (compOpr P N GL ops) = some l) {c0 : Frame} {cs0 : List Frame} {Q : Exit → Act → List Frame → World → Prop} : ∀ (r : List AOpr) (j : Nat), l.drop j = r → ∀ (ι : Inj) (s : St) (a : Act) (w : World) (u : FrameMode) (s1 : St), s.df = true → SR GL N ι s a w → PM ι s.pm u → evOps call r s = some (.normal, s1) →
    (∀ a' cs' w', PostS GL N ι s w c0 cs0 .normal s1 .normal a' cs' w' → Q .normal a' cs' w') → wpOpsS P ops Q (List.range' j r.length) a ({ c0 with mode := u } :: cs0) w := by
  obtain ⟨hlen, hat⟩ := mapM_at _ _ hl
  intro r
  induction r with
  | nil =>
    intro j _ ι s a w u s1 hdf hs hu he hQ
    simp only [evOps, Option.some.injEq, Prod.mk.injEq, true_and] at he
    subst he
    exact hQ a _ w ⟨ι, u, rfl, hu, New.refl _ _ _, Fr.refl _ _, Nat.le_refl _, rfl, hs⟩
  | cons ao r ih =>
    intro j hj ι s a w u s1 hdf hs hu he hQ
    have hj0 : l[j]? = some ao := by
      have : (l.drop j)[0]? = some ao := by rw [hj]; rfl
      simpa using this
    obtain ⟨o, ho, hc⟩ := hat j ao hj0
    have ho' : ops[j]? = some o := by simpa using ho
    rw [List.length_cons, List.range'_succ]
    simp only [evOps] at he
    split at he
    · rename_i s2 h2
      refine oprS hcall ho' hc hdf hs hu h2 ?_
      rintro a' cs' w' ⟨ι', u', rfl, hu', hn, hf, hz, _, hs'⟩
      refine ih (j + 1) (by have := congrArg List.tail hj; simpa [List.tail_drop] using this) ι' s2 a' w' u' s1 (by rw [evOpr_df h2]; exact hdf) hs' hu' he (fun a'' cs'' w'' hp => hQ a'' cs'' w'' (hp.after hn hf hz))
    · rename_i hne
      exact absurd he (hne s1)
theorem codeS {call : Caller} (hcall : CallOK P GL call) {c0 : Frame} {cs0 : List Frame} : ∀ (code : Code) (c : ACode), compCode P N GL code = some c → ∀ (ι : Inj) (s : St) (a : Act) (w : World) (u : FrameMode) (ex : AExit) (s1 : St), s.df = true → SR GL N ι s a w → PM ι s.pm u → evS call c s = some (ex, s1) → (∀ v, ex ≠ .pan v) →
    code.wpS P (PostS GL N ι s w c0 cs0 ex s1) a ({ c0 with mode := u } :: cs0) w ∧ s1.df = true := by
  intro code
  induction code with
  | skip =>
    intro c hc ι s a w u ex s1 hdf hs hu he hnp
    simp only [compCode, Option.some.injEq] at hc
    subst hc
    simp only [evS, Option.some.injEq, Prod.mk.injEq] at he
    obtain ⟨rfl, rfl⟩ := he
    exact ⟨wpS_of_wp (wp_skip ⟨ι, u, rfl, hu, New.refl _ _ _, Fr.refl _ _, Nat.le_refl _, rfl, hs⟩), hdf⟩
  | ret =>
    intro c hc ι s a w u ex s1 hdf hs hu he hnp
    simp only [compCode, Option.some.injEq] at hc
    subst hc
    simp only [evS, Option.some.injEq, Prod.mk.injEq] at he
    obtain ⟨rfl, rfl⟩ := he
    exact ⟨wpS_of_wp (wp_ret ⟨ι, u, rfl, hu, New.refl _ _ _, Fr.refl _ _, Nat.le_refl _, rfl, hs⟩), hdf⟩
  | region id ops draw =>
    intro c hc ι s a w u ex s1 hdf hs hu he hnp
    cases draw with
    | false =>
      simp only [compCode, Option.map_eq_some_iff] at hc
      obtain ⟨l, hl, rfl⟩ := hc
      simp only [evS] at he
      have hex : ex = .normal := by
        have : ∀ (r : List AOpr) (s : St) ex s1, evOps call r s = some (ex, s1) → ex = .normal ∨ ∃ v, ex = .pan v := by
          intro r
          induction r with
          | nil => intro s ex s1 h; simp only [evOps, Option.some.injEq, Prod.mk.injEq] at h; exact .inl h.1.symm
          | cons o r ih =>
            intro s ex s1 h
            simp only [evOps] at h
            split at h
            · exact ih _ _ _ h
            · unfold evOpr at h
              repeat' split at h
              all_goals first
                | (cases h; done)
                | (simp only [Option.some.injEq, Prod.mk.injEq] at h; obtain ⟨rfl, _⟩ := h; first | exact .inl rfl | exact .inr ⟨_, rfl⟩)
        rcases this l s ex s1 he with h | ⟨v, h⟩
        · exact h
        · exact absurd h (hnp v)
      subst hex
      refine ⟨wpS_region ?_, by rw [evOps_df l s he]; exact hdf⟩
      have := opsS (c0 := c0) (cs0 := cs0) hcall hl (Q := PostS GL N ι s w c0 cs0 .normal s1) l 0 rfl ι s a w u s1 hdf hs hu he (fun a' cs' w' h => h)
      have hlen := (mapM_at _ _ hl).1
      rw [hlen] at this
      rw [List.range_eq_range']
      simpa using this
    | true =>
      simp only [compCode] at hc
      split at hc
      · cases hc
        simp only [evS] at he
        cases he
      · simp only [Option.map_eq_some_iff] at hc
        obtain ⟨l, hl, rfl⟩ := hc
        simp only [evS] at he
        cases he
  | seq x y ihx ihy =>
    intro c hc ι s a w u ex s1 hdf hs hu he hnp
    simp only [compCode, Option.bind_eq_some_iff, Option.map_eq_some_iff] at hc
    obtain ⟨cx, hx, cy, hy, rfl⟩ := hc
    simp only [evS] at he
    split at he
    · rename_i s2 h2
      obtain ⟨p1, p2⟩ := ihx cx hx ι s a w u .normal s2 hdf hs hu h2 (by simp)
      have hdf1 : s1.df = true := by
        have : ∀ (c : ACode) (s : St) ex s1, evS call c s = some (ex, s1) → s1.df = s.df := by
          intro c
          induction c with
          | skip => intro s ex s1 h; simp only [evS, Option.some.injEq, Prod.mk.injEq] at h; rw [h.2]
          | ret => intro s ex s1 h; simp only [evS, Option.some.injEq, Prod.mk.injEq] at h; rw [h.2]
          | ops l => intro s ex s1 h; simp only [evS] at h; exact evOps_df l s h
          | seq a b iha ihb =>
            intro s ex s1 h
            simp only [evS] at h
            split at h
            · rename_i s2 h2; rw [ihb _ _ _ h, iha _ _ _ h2]
            · exact iha _ _ _ h
          | cond x a b iha ihb =>
            intro s ex s1 h
            simp only [evS] at h
            split at h
            · exact iha _ _ _ h
            · exact ihb _ _ _ h
            · cases h
          | block id c ihc =>
            intro s ex s1 h
            simp only [evS] at h
            split at h
            · rename_i i s2 h2
              split at h
              · simp only [Option.some.injEq, Prod.mk.injEq] at h; rw [← h.2]; exact ihc _ _ _ h2
              · simp only [Option.some.injEq, Prod.mk.injEq] at h; rw [← h.2]; exact ihc _ _ _ h2
            · exact ihc _ _ _ h
          | exit id => intro s ex s1 h; simp only [evS, Option.some.injEq, Prod.mk.injEq] at h; rw [h.2]
          | _ => intro s ex s1 h; simp [evS] at h
        rw [this cy s2 ex s1 he]; exact p2
      refine ⟨?_, hdf1⟩
      refine wpS_seq ?_
      intro b k hb hr
      obtain ⟨e, a', cs', w', hq, harr⟩ := p1 b k hb hr
      refine ⟨e, a', cs', w', ?_, harr⟩
      obtain ⟨ι', u', rfl, hu', hn, hf, hz, rfl, hs'⟩ := hq
      obtain ⟨q1, _⟩ := ihy cy hy ι' s2 a' w' u' ex s1 p2 hs' hu' he hnp
      intro b2 k2 hb2 hr2
      obtain ⟨e2, a2, cs2, w2, hq2, harr2⟩ := q1 b2 k2 hb2 hr2
      exact ⟨e2, a2, cs2, w2, hq2.after hn hf hz, harr2⟩
    · rename_i hne
      obtain ⟨p1, p2⟩ := ihx cx hx ι s a w u ex s1 hdf hs hu he hnp
      refine ⟨?_, p2⟩
      refine wpS_seq ?_
      intro b k hb hr
      obtain ⟨e, a', cs', w', hq, harr⟩ := p1 b k hb hr
      refine ⟨e, a', cs', w', ?_, harr⟩
      have hq' := hq
      obtain ⟨ι', u', _, _, _, _, _, hx'⟩ := hq'
      cases ex with
      | normal => exact absurd he (hne s1)
      | exit i => obtain ⟨rfl, _⟩ := hx'; exact hq
      | ret => obtain ⟨rfl, _⟩ := hx'; exact hq
      | pan v => exact absurd rfl (hnp v)
  | cond x p q ihp ihq =>
    intro c hc ι s a w u ex s1 hdf hs hu he hnp
    simp only [compCode] at hc
    split at hc
    case isFalse => cases hc
    rename_i hok
    simp only [Option.bind_eq_some_iff, Option.map_eq_some_iff] at hc
    obtain ⟨cp, hp, cq, hq, rfl⟩ := hc
    have hx := hs.env x hok
    simp only [evS] at he
    split at he
    · rename_i hb
      rw [hb] at hx
      obtain ⟨p1, p2⟩ := ihp cp hp ι s a w u ex s1 hdf hs hu he hnp
      refine ⟨wpS_cond (t := true) ?_ p1, p2⟩
      generalize a.eval x = z at hx
      cases hx; rfl
    · rename_i hb
      rw [hb] at hx
      obtain ⟨p1, p2⟩ := ihq cq hq ι s a w u ex s1 hdf hs hu he hnp
      refine ⟨wpS_cond (t := false) ?_ p1, p2⟩
      generalize a.eval x = z at hx
      cases hx; rfl
    · cases he
  | block id c0' ih =>
    intro c hc ι s a w u ex s1 hdf hs hu he hnp
    simp only [compCode, Option.map_eq_some_iff] at hc
    obtain ⟨c1, h1, rfl⟩ := hc
    simp only [evS] at he
    split at he
    · rename_i i s2 h2
      obtain ⟨p1, p2⟩ := ih c1 h1 ι s a w u (.exit i) s2 hdf hs hu h2 (by simp)
      have hs2 : s2 = s1 := by
        split at he <;> (simp only [Option.some.injEq, Prod.mk.injEq] at he; exact he.2)
      subst hs2
      refine ⟨wpS_block (wpS_mono p1 fun e a' cs' w' hq => ?_), p2⟩
      obtain ⟨ι', u', rfl, hu', hn, hf, hz, rfl, hs'⟩ := hq
      split at he
      · rename_i hid
        simp only [Option.some.injEq, Prod.mk.injEq] at he
        obtain ⟨rfl, _⟩ := he
        simp only [Exit.inBlockS, hid, if_true]
        exact ⟨ι', u', rfl, hu', hn, hf, hz, rfl, hs'⟩
      · rename_i hid
        simp only [Option.some.injEq, Prod.mk.injEq] at he
        obtain ⟨rfl, _⟩ := he
        simp only [Exit.inBlockS, hid, if_false]
        exact ⟨ι', u', rfl, hu', hn, hf, hz, rfl, hs'⟩
    · rename_i hne
      obtain ⟨p1, p2⟩ := ih c1 h1 ι s a w u ex s1 hdf hs hu he hnp
      refine ⟨wpS_block (wpS_mono p1 fun e a' cs' w' hq => ?_), p2⟩
      have hq' := hq
      obtain ⟨ι', u', _, _, _, _, _, hx'⟩ := hq'
      cases ex with
      | normal => obtain ⟨rfl, _⟩ := hx'; exact hq
      | exit i => exact absurd he (hne i s1)
      | ret => obtain ⟨rfl, _⟩ := hx'; exact hq
      | pan v => exact absurd rfl (hnp v)
  | loop c0' ih =>
    intro c hc ι s a w u ex s1 hdf hs hu he hnp
    simp only [compCode, Option.map_eq_some_iff] at hc
    obtain ⟨c1, h1, rfl⟩ := hc
    simp [evS] at he
  | exit id =>
    intro c hc ι s a w u ex s1 hdf hs hu he hnp
    simp only [compCode, Option.some.injEq] at hc
    subst hc
    simp only [evS, Option.some.injEq, Prod.mk.injEq] at he
    obtain ⟨rfl, rfl⟩ := he
    exact ⟨wpS_of_wp (wp_exit ⟨ι, u, rfl, hu, New.refl _ _ _, Fr.refl _ _, Nat.le_refl _, rfl, hs⟩), hdf⟩
  | _ => intro c hc; simp [compCode] at hc
end Go.Proofs.YtehbekgmemebjaaDoorEv
