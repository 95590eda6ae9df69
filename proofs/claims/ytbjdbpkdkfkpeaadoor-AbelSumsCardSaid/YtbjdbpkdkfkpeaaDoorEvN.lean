import Derived.Test.YtbjdbpkdkfkpeaaDoorEvM
import Derived.Orders
namespace Go.Proofs.YtbjdbpkdkfkpeaaDoorEv
open Go
set_option linter.unusedVariables false
set_option linter.unusedSimpArgs false
variable {P : Program} {GL : List Nat} {ι : Inj} {H : Hp} {w : World} {N : Nat} {s s1 : St} {a : Act}
def CRel (GL : List Nat) (ι : Inj) (H : Hp) (w : World) (r : CR) (e : Ending) (w' : World) : Prop := match r with
  | .ret v H' => ∃ v' ι', e = .returned v' ∧ New ι ι' H.size w ∧ VR ι' v v' ∧ WR GL ι' H' w' ∧ Fr ι w w' ∧ H.size ≤ H'.size
  | .pan v H' => ∃ v' ι', e = .panicked [{ v := v', recovered := false }] ∧ New ι ι' H.size w ∧ VR ι' v v' ∧ WR GL ι' H' w' ∧ Fr ι w w' ∧ H.size ≤ H'.size
def HasBody (P : Program) (f : Nat) : Prop := ∃ fn, P.funcs[f]? = some fn ∧ (fn.name == "runtime.NumGoroutine") = false ∧ fn.body.isNone = false
def CallOK (P : Program) (GL : List Nat) (call : Caller) : Prop := ∀ f args H r, call f args H = some r → HasBody P f ∧ ∀ ι w args', WR GL ι H w → VA ι args args' → Calls P f args' w (CRel GL ι H w r)
theorem callFunc_run {f : Nat} (h : HasBody P f) (args : Array Value) : (callFunc f args).run P w = .ok (.enter f args) w := by
  obtain ⟨fn, h1, h2, h3⟩ := h
  simp only [callFunc, Sem.run_bind, run_program, Result.andThen_ok, h1, h2, h3, Bool.false_eq_true, if_false, Sem.run_pure]
def Post (GL : List Nat) (N : Nat) (ι : Inj) (s : St) (w : World) (ex : AExit) (s1 : St) (e : Exit) (a' : Act) (w' : World) : Prop :=
  ∃ ι', New ι ι' s.H.size w ∧ Fr ι w w' ∧ s.H.size ≤ s1.H.size ∧ match ex with
    | .normal => e = .normal ∧ SR GL N ι' s1 a' w'
    | .exit i => e = .exit i ∧ SR GL N ι' s1 a' w'
    | .ret => e = .ret ∧ SR GL N ι' s1 a' w'
    | .pan v => (∃ v', e = .panic [{ v := v', recovered := false }] ∧ VR ι' v v') ∧ SP GL N ι' s1 a' w'
theorem Post.after {ι1 : Inj} {w1 : World} {s2 : St} {ex : AExit} {e : Exit} {a' : Act} {w' : World} (hn : New ι ι1 s.H.size w) (hf : Fr ι w w1) (hs : s.H.size ≤ s1.H.size) (h : Post GL N ι1 s1 w1 ex s2 e a' w') : Post GL N ι s w ex s2 e a' w' := by
  obtain ⟨ι2, n2, f2, z2, r⟩ := h
  exact ⟨ι2, hn.trans n2 hs hf.size, hf.trans f2 hn, by omega, r⟩
def Owes (K : Act → World → Prop) (Q : Exit → Act → World → Prop) : Exit → Act → World → Prop
  | .normal, a, w => K a w
  | e, a, w => Q e a w
theorem opr_out {call : Caller} (hcall : CallOK P GL call) {ops : Array Oper} {i : Nat} {o : Oper} {ao : AOpr} (hi : ops[i]? = some o) (hc : compOpr P N GL ops o = some ao) (hdf : s.df = false) (hρ : ∀ x ∈ o.op.operands, okOpd GL x = true → VR ι (s.env x) (a.eval x))
    (hg : Region.wanted o (yielded ops a.tmps) = wantedO s ao.guard) (hwr : WR GL ι s.H w) {ex : AExit} (he : evOpr call ao s = some (ex, s1))
    {K : Act → World → Prop} {Q : Exit → Act → World → Prop} (hK : ∀ v v' H' w' ι', ex = .normal → s1 = { s with H := H' }.put ao.dst v → New ι ι' s.H.size w → VR ι' v v' → WR GL ι' H' w' → Fr ι w w' → s.H.size ≤ H'.size → K (a.put ao.dst v') w')
    (hD : ∀ x d, ex = .normal → s1 = { s with ds := x :: s.ds }.put ao.dst undef → DR ι x d → K (({ a with defers := d :: a.defers } : Act).put ao.dst undef) w)
    (hQ : ∀ v v' H' w' ι', ex = .pan v → s1 = { s with H := H' } → New ι ι' s.H.size w → VR ι' v v' → WR GL ι' H' w' → Fr ι w w' → s.H.size ≤ H'.size → Q (.panic [{ v := v', recovered := false }]) a w') : wpOp P ops Q i K a w := by
  unfold compOpr at hc
  split at hc
  case isFalse => cases hc
  rename_i hok
  simp only [Bool.and_eq_true, Array.all_eq_true_iff_forall_mem] at hok
  simp only [Option.map_eq_some_iff] at hc
  obtain ⟨op, hop, rfl⟩ := hc
  have hρ : ∀ x ∈ o.op.operands, VR ι (s.env x) (a.eval x) := fun x hx => hρ x hx (hok.1 x hx)
  have hdst := hok.2
  unfold wpOp
  simp only [hi]
  rw [hg]
  unfold evOpr at he
  simp only at he
  split at he
  · rename_i hw
    rw [if_pos hw]
    left
    split at he
    · rename_i v H' hv
      simp only [Option.some.injEq, Prod.mk.injEq] at he
      obtain ⟨rfl, rfl⟩ := he
      obtain ⟨v', w', ι', hr, hn, hvv, hww, hf, hz⟩ := op_sound hop hρ hwr hv
      unfold Oper.wp
      rcases hr with hr | ⟨hr, rfl⟩
      · rw [hr]
        exact hK v v' H' w' ι' rfl rfl hn hvv hww hf hz
      · rw [hr]
        exact hK v _ H' w' ι' rfl rfl hn hvv hww hf hz
    · rename_i f args hv
      obtain ⟨args', hva, hr⟩ := op_call (P := P) (w := w) hop hρ hv
      unfold Oper.wp
      split at he
      · rename_i v H' hcl
        simp only [Option.some.injEq, Prod.mk.injEq] at he
        obtain ⟨rfl, rfl⟩ := he
        obtain ⟨hb, hcs⟩ := hcall f args s.H _ hcl
        rw [hr, callFunc_run hb]
        refine (hcs ι w args' hwr hva).mono ?_
        rintro e w'' ⟨v', ι', rfl, hn, hvv, hww, hf, hz⟩
        exact hK v v' H' w'' ι' rfl rfl hn hvv hww hf hz
      · rename_i v H' hcl
        simp only [Option.some.injEq, Prod.mk.injEq] at he
        obtain ⟨rfl, rfl⟩ := he
        obtain ⟨hb, hcs⟩ := hcall f args s.H _ hcl
        rw [hr, callFunc_run hb]
        refine (hcs ι w args' hwr hva).mono ?_
        rintro e w'' ⟨v', ι', rfl, hn, hvv, hww, hf, hz⟩
        exact hQ v v' H' w'' ι' rfl rfl hn hvv hww hf hz
      · cases he
    · rename_i f args hv
      rw [if_neg (by simp [hdf])] at he
      simp only [Option.some.injEq, Prod.mk.injEq] at he
      obtain ⟨rfl, rfl⟩ := he
      obtain ⟨d, hd, hr⟩ := op_defer (P := P) (w := w) hop hρ hv
      unfold Oper.wp
      rw [hr]
      exact hD _ d rfl rfl hd
    · rw [if_neg (by simp [hdf])] at he
      cases he
    · rename_i v hv
      simp only [Option.some.injEq, Prod.mk.injEq] at he
      obtain ⟨rfl, rfl⟩ := he
      obtain ⟨v', hvv, hr⟩ := op_panic (P := P) (w := w) hop hρ hv
      unfold Oper.wp
      rw [hr]
      exact hQ v v' s.H w ι rfl rfl (New.refl _ _ _) hvv hwr (Fr.refl _ _) (Nat.le_refl _)
    · cases he
  · rename_i hw
    rw [if_neg hw]
    simp only [Option.some.injEq, Prod.mk.injEq] at he
    obtain ⟨rfl, rfl⟩ := he
    exact hK undef undef s.H w ι rfl rfl (New.refl _ _ _) (undefVR _) hwr (Fr.refl _ _) (Nat.le_refl _)
theorem compOpr_dst {ops : Array Oper} {o : Oper} {ao : AOpr} (hc : compOpr P N GL ops o = some ao) : ao.dst = o.dst ∧ ao.dst.all (· < N) = true ∧ ao.guard = o.guard.map fun (j, b) => ((ops[j]?).bind (·.dst), b) := by
  unfold compOpr at hc
  split at hc
  case isFalse => cases hc
  rename_i hok
  simp only [Bool.and_eq_true] at hok
  simp only [Option.map_eq_some_iff] at hc
  obtain ⟨op, hop, rfl⟩ := hc
  exact ⟨rfl, hok.2, rfl⟩
theorem opr_wp {call : Caller} (hcall : CallOK P GL call) {ops : Array Oper} {i : Nat} {o : Oper} {ao : AOpr} (hi : ops[i]? = some o) (hc : compOpr P N GL ops o = some ao) (hdf : s.df = false) (hs : SR GL N ι s a w) {ex : AExit} (he : evOpr call ao s = some (ex, s1))
    {K : Act → World → Prop} {Q : Exit → Act → World → Prop} (hK : ∀ e a' w', Post GL N ι s w ex s1 e a' w' → Owes K Q e a' w') : wpOp P ops Q i K a w := by
  obtain ⟨hd, hdst, hg⟩ := compOpr_dst hc
  refine opr_out hcall hi hc hdf (fun x _ hx => hs.env x hx) (by rw [hg]; exact wanted_same hs ops o) hs.wr he ?_ ?_ ?_
  · rintro v v' H' w' ι' rfl rfl hn hvv hww hf hz
    exact hK .normal _ _ ⟨ι', hn, hf, by rw [put_H]; exact hz, rfl, hs.next hn.ext hww hdst hvv⟩
  · rintro x d rfl rfl hx
    exact hK .normal _ _ ⟨ι, New.refl _ _ _, Fr.refl _ _, by rw [put_H]; exact Nat.le_refl _, rfl, hs.defer hdst hx⟩
  · rintro v v' H' w' ι' rfl rfl hn hvv hww hf hz
    exact hK (.panic [{ v := v', recovered := false }]) _ _ ⟨ι', hn, hf, hz, ⟨v', rfl, hvv⟩, (hs.move hn.ext hww).weak⟩
theorem evOpr_df {call : Caller} {ao : AOpr} {ex : AExit} (he : evOpr call ao s = some (ex, s1)) : s1.df = s.df := by
  have hp : ∀ (s : St) d v, (s.put d v).df = s.df := fun s d v => by cases d <;> rfl
  unfold evOpr at he
  repeat' split at he
  all_goals first
    | (cases he; done)
    | (simp only [Option.some.injEq, Prod.mk.injEq] at he; obtain ⟨_, rfl⟩ := he; first | rfl | exact hp _ _ _ | (rw [hp]))
theorem evOps_df {call : Caller} : ∀ (l : List AOpr) (s : St) {ex : AExit} {s1 : St}, evOps call l s = some (ex, s1) → s1.df = s.df
  | [], s, ex, s1, h => by simp only [evOps, Option.some.injEq, Prod.mk.injEq] at h; rw [h.2]
  | o :: r, s, ex, s1, h => by
    simp only [evOps] at h
    split at h
    · rename_i s2 h2
      rw [evOps_df r s2 h, evOpr_df h2]
    · exact evOpr_df h
theorem ops_wp {call : Caller} (hcall : CallOK P GL call) {ops : Array Oper} {l : List AOpr} (hl : ops.toList.mapM (compOpr P N GL ops) = some l) {Q : Exit → Act → World → Prop} : ∀ (r : List AOpr) (j : Nat), l.drop j = r → ∀ (ι : Inj) (s : St) (a : Act) (w : World) (ex : AExit) (s1 : St), s.df = false → SR GL N ι s a w → evOps call r s = some (ex, s1) →
    (∀ e a' w', Post GL N ι s w ex s1 e a' w' → Q e a' w') → wpOps P ops Q (List.range' j r.length) a w := by
  have hlen : l.length = ops.size := by
    have : ∀ (xs : List Oper) (l : List AOpr), xs.mapM (compOpr P N GL ops) = some l → l.length = xs.length := by
      intro xs
      induction xs with
      | nil => intro l h; simp at h; simp [← h]
      | cons x xs ih =>
        intro l h
        simp only [List.mapM_cons, Option.bind_eq_bind, Option.bind_eq_some_iff, Option.pure_def] at h
        obtain ⟨y, _, ys, hys, h⟩ := h
        cases h
        simp [ih ys hys]
    simpa using this _ _ hl
  have hat : ∀ (xs : List Oper) (l : List AOpr), xs.mapM (compOpr P N GL ops) = some l → ∀ (j : Nat) (ao : AOpr), l[j]? = some ao → ∃ o, xs[j]? = some o ∧ compOpr P N GL ops o = some ao := by
    intro xs
    induction xs with
    | nil => intro l h j ao hj; simp at h; subst h; simp at hj
    | cons x xs ih =>
      intro l h j ao hj
      simp only [List.mapM_cons, Option.bind_eq_bind, Option.bind_eq_some_iff, Option.pure_def] at h
      obtain ⟨y, hy, ys, hys, h⟩ := h
      cases h
      cases j with
      | zero => simp at hj; subst hj; exact ⟨x, rfl, hy⟩
      | succ j => simpa using ih ys hys j ao (by simpa using hj)
  intro r
  induction r with
  | nil =>
    intro j _ ι s a w ex s1 hdf hs he hQ
    simp only [evOps, Option.some.injEq, Prod.mk.injEq] at he
    obtain ⟨rfl, rfl⟩ := he
    exact hQ .normal a w ⟨ι, New.refl _ _ _, Fr.refl _ _, Nat.le_refl _, rfl, hs⟩
  | cons ao r ih =>
    intro j hj ι s a w ex s1 hdf hs he hQ
    have hj0 : l[j]? = some ao := by
      have : (l.drop j)[0]? = some ao := by rw [hj]; rfl
      simpa using this
    obtain ⟨o, ho, hc⟩ := hat _ _ hl j ao hj0
    have ho' : ops[j]? = some o := by simpa using ho
    rw [List.length_cons, List.range'_succ, wpOps_cons]
    simp only [evOps] at he
    split at he
    · rename_i s2 h2
      refine opr_wp hcall ho' hc hdf hs h2 ?_
      rintro e a' w' ⟨ι', hn, hf, hz, rfl, hs'⟩
      refine ih (j + 1) (by have := congrArg List.tail hj; simpa [List.tail_drop] using this) ι' s2 a' w' ex s1 (by rw [evOpr_df h2]; exact hdf) hs' he (fun e a'' w'' hp => hQ e a'' w'' (hp.after hn hf hz))
    · rename_i hne
      refine opr_wp hcall ho' hc hdf hs he ?_
      intro e a' w' hp
      have := hQ e a' w' hp
      obtain ⟨ι', _, _, _, hx⟩ := hp
      cases ex with
      | normal => exact absurd he (hne s1)
      | exit i => obtain ⟨rfl, _⟩ := hx; exact this
      | ret => obtain ⟨rfl, _⟩ := hx; exact this
      | pan v => obtain ⟨⟨v', rfl, _⟩, _⟩ := hx; exact this
end Go.Proofs.YtbjdbpkdkfkpeaaDoorEv
