import Derived.Test.YtehbekgmemebjaaDoorEvO
namespace Go.Proofs.YtehbekgmemebjaaDoorEv
open Go
set_option linter.unusedVariables false
set_option linter.unusedSimpArgs false
variable {P : Program} {GL : List Nat} {ι : Inj} {H : Hp} {w : World} {N : Nat} {s s1 : St} {a : Act}
def writes (l : List DOpr) (t j : Nat) : Bool := (l[j]?).any fun d => d.o.dst == some t
def cur (l : List DOpr) (V : Nat → Value) (v0 : Value) (t : Nat) (D : Nat → Bool) : Nat → Value
  | 0 => v0
  | j + 1 => if D j && writes l t j then V j else cur l V v0 t D j
theorem cur_skip {l : List DOpr} {V : Nat → Value} {v0 : Value} {t : Nat} {D : Nat → Bool} {i : Nat} : ∀ n, i ≤ n → (∀ j, i ≤ j → j < n → writes l t j = true → D j = false) → cur l V v0 t D n = cur l V v0 t D i := by
  intro n
  induction n with
  | zero => intro hi _; have : i = 0 := by omega
            subst this; rfl
  | succ n ih =>
    intro hi h
    by_cases hin : i = n + 1
    · subst hin; rfl
    · rw [cur]
      have : (D n && writes l t n) = false := by
        cases hw : writes l t n with
        | false => simp
        | true => rw [h n (by omega) (Nat.lt_succ_self _) hw]; rfl
      rw [this]
      exact ih (by omega) fun j hj hjn => h j hj (by omega)
theorem cur_congr {l : List DOpr} {V : Nat → Value} {v0 : Value} {t : Nat} {D D' : Nat → Bool} : ∀ n, (∀ j, j < n → writes l t j = true → D j = D' j) → cur l V v0 t D n = cur l V v0 t D' n := by
  intro n
  induction n with
  | zero => intro _; rfl
  | succ n ih =>
    intro h
    rw [cur, cur, ih fun j hj => h j (by omega)]
    cases hw : writes l t n with
    | false => simp
    | true => rw [h n (Nat.lt_succ_self _) hw]
theorem evOpr_get {call : Caller} {ao : AOpr} (he : evOpr call ao s = some (.normal, s1)) (t : Nat) (ht : ao.dst ≠ some t) : s1.get t = s.get t := by
  have hp : ∀ (s : St) v, (s.put ao.dst v).get t = s.get t := fun s v => by rw [get_put, if_neg ht]
  unfold evOpr at he
  repeat' split at he
  all_goals first
    | (cases he; done)
    | (simp only [Option.some.injEq, Prod.mk.injEq] at he; obtain ⟨e, rfl⟩ := he; first | (cases e; done) | exact hp _ _ | (rw [hp]; rfl))
theorem evOpr_keeps {call : Caller} {ao : AOpr} {ex : AExit} (he : evOpr call ao s = some (ex, s1)) (hdf : s.df = false) (hnd : ∀ f as, ao.op ≠ .defer f as) : s1.ds = s.ds ∧ s1.pm = s.pm := by
  have hp : ∀ (s : St) d v, (s.put d v).ds = s.ds ∧ (s.put d v).pm = s.pm := fun s d v => by cases d <;> exact ⟨rfl, rfl⟩
  unfold evOpr at he
  split at he
  · split at he
    · simp only [Option.some.injEq, Prod.mk.injEq] at he; obtain ⟨_, rfl⟩ := he; exact hp _ _ _
    · split at he
      · simp only [Option.some.injEq, Prod.mk.injEq] at he; obtain ⟨_, rfl⟩ := he; exact hp _ _ _
      · simp only [Option.some.injEq, Prod.mk.injEq] at he; obtain ⟨_, rfl⟩ := he; exact ⟨rfl, rfl⟩
      · cases he
    · rename_i f args hv
      exfalso
      cases hao : ao.op with
      | «defer» g as => exact hnd g as hao
      | _ =>
        have := evOp_odd hv (by simp)
        rw [hao] at this hv
        first
          | (cases this; done)
          | (simp only [evOp] at hv; (repeat' split at hv) <;> cases hv)
    · rw [if_neg (by simp [hdf])] at he; cases he
    · simp only [Option.some.injEq, Prod.mk.injEq] at he; obtain ⟨_, rfl⟩ := he; exact ⟨rfl, rfl⟩
    · cases he
  · simp only [Option.some.injEq, Prod.mk.injEq] at he; obtain ⟨_, rfl⟩ := he; exact hp _ _ _
theorem evOpr_reads {call : Caller} {ao : AOpr} (hr : reads ao.op = true) (he : evOpr call ao s = some (.normal, s1)) :
    (wantedO s ao.guard = true ∧ ∃ v, evOp s.env s.H ao.op = some (.ok v s.H) ∧ s1 = s.put ao.dst v) ∨ (wantedO s ao.guard = false ∧ s1 = s.put ao.dst undef) := by
  unfold evOpr at he
  split at he
  · rename_i hw
    left
    refine ⟨hw, ?_⟩
    split at he
    · rename_i v H' hv
      have := reads_same hr hv
      subst this
      simp only [Option.some.injEq, Prod.mk.injEq] at he
      exact ⟨v, hv, he.2.symm⟩
    all_goals first
      | (cases he; done)
      | (rename_i hv
         obtain ⟨v, hv'⟩ := reads_ok hr hv
         cases hv')
  · rename_i hw
    right
    simp only [Option.some.injEq, Prod.mk.injEq] at he
    exact ⟨by simpa using hw, he.2.symm⟩
theorem getO_put {ao : AOpr} {v : Value} : (s.put ao.dst v).getO ao.dst = if ao.dst.isSome then v else undef := by
  cases h : ao.dst with
  | none => rfl
  | some t => simp only [St.getO]; rw [get_put, if_pos rfl]; rfl
section main
variable {call : Caller} {ops : Array Oper} {l : List DOpr} {xs : Nat → DSt} {n0 : Nat} {cb : Nat → Option Nat}
def seenV (xs : Nat → DSt) (j : Nat) : Value := match (xs (j + 1)).rs.head? with
  | some (some r) => r.v
  | _ => undef
theorem slot_at (h : Run call l xs) {t : Nat} : ∀ i, i ≤ l.length → (∀ j, j < i → writes l t j = true → (xs (j + 1)).rs.head? ≠ some none) → (xs i).s.get t = cur l (seenV xs) ((xs 0).s.get t) t (fun _ => true) i := by
  intro i
  induction i with
  | zero => intro _ _; rfl
  | succ i ih =>
    intro hl hn
    have ih := ih (by omega) fun j hj => hn j (by omega)
    obtain ⟨d, hd, hs⟩ := h.step i (by omega)
    have hw : writes l t i = (d.o.dst == some t) := by simp [writes, hd]
    rw [cur]
    have norm : ∀ s1 : St, evOpr call d.o (xs i).s = some (.normal, s1) → (xs (i + 1)).s = s1 → seenV xs i = s1.getO d.o.dst → (xs (i + 1)).s.get t = if ((fun _ => true) i && writes l t i) = true then seenV xs i else cur l (seenV xs) ((xs 0).s.get t) t (fun _ => true) i := by
      intro s1 he e1 e2
      rw [e1]
      by_cases hdt : d.o.dst = some t
      · rw [hw, hdt]
        simp only [Bool.true_and, beq_self_eq_true, if_true]
        rw [e2, hdt]
        rfl
      · have hf : (d.o.dst == some t) = false := by simpa using hdt
        rw [hw, hf]
        simp only [Bool.and_false, Bool.false_eq_true, if_false]
        rw [evOpr_get he t hdt, ih]
    have same : (xs (i + 1)).s.get t = (xs i).s.get t → (xs (i + 1)).rs.head? = some none → (xs (i + 1)).s.get t = if ((fun _ => true) i && writes l t i) = true then seenV xs i else cur l (seenV xs) ((xs 0).s.get t) t (fun _ => true) i := by
      intro e1 e2
      have hf : writes l t i = false := by
        cases hq : writes l t i with
        | false => rfl
        | true => exact absurd e2 (hn i (Nat.lt_succ_self _) hq)
      rw [hf]
      simp only [Bool.and_false, Bool.false_eq_true, if_false]
      rw [e1, ih]
    rcases step_ways hs with ⟨p', v', e1, e2, e3⟩ | ⟨p', v', s1, e1, e2, e3, e4, e5⟩ | ⟨s1, e1, e2, e3⟩ | ⟨v', s1, e1, e2, e3, e4⟩
    · exact same (by rw [e3]) (by rw [e3]; rfl)
    · exact norm s1 e4 (by rw [e5]) (by simp [seenV, e5])
    · exact norm s1 e2 (by rw [e3]) (by simp [seenV, e3])
    · refine same ?_ (by rw [e4]; rfl)
      rw [e4]
      have : s1.t = (xs i).s.t := by
        unfold evOpr at e3
        repeat' split at e3
        all_goals first
          | (cases e3; done)
          | (simp only [Option.some.injEq, Prod.mk.injEq] at e3; obtain ⟨e, rfl⟩ := e3; first | (cases e; done) | rfl)
      simp only [St.get, this]
theorem env_H (s : St) (G : Hp) : ({ s with H := G } : St).env = s.env := by funext x; cases x <;> rfl
theorem wanted_of {ι : Inj} {o : Oper} (h : ∀ j b, o.guard = some (j, b) → ∀ t, (ops[j]?).bind (·.dst) = some t → VR ι (s.get t) (a.tmps.getD t undef)) :
    Region.wanted o (yielded ops a.tmps) = wantedO s (o.guard.map fun (j, b) => ((ops[j]?).bind (·.dst), b)) := by
  unfold Region.wanted wantedO
  cases hg : o.guard with
  | none => rfl
  | some jb =>
    obtain ⟨j, b⟩ := jb
    simp only [Option.map_some, yielded]
    cases hd : (ops[j]?).bind (·.dst) with
    | none => rfl
    | some t =>
      simp only [Option.bind_some]
      have ht := h j b hg t hd
      cases hq : a.tmps[t]? with
      | none =>
        have : a.tmps.getD t undef = undef := by simp [hq]
        rw [this] at ht
        generalize hs : s.get t = z at ht ⊢
        cases ht
        rfl
      | some v' =>
        have : a.tmps.getD t undef = v' := by simp [hq]
        rw [this] at ht
        generalize hs : s.get t = z at ht ⊢
        cases ht <;> first | rfl | simp
theorem run_keeps (h : Run call l xs) (hdf : (xs 0).s.df = false) (hnd : ∀ (i : Nat) (d : DOpr), l[i]? = some d → ∀ f as, d.o.op ≠ .defer f as) : ∀ j, j ≤ l.length → (xs j).s.ds = (xs 0).s.ds ∧ (xs j).s.pm = (xs 0).s.pm ∧ (xs j).s.df = false := by
  intro j
  induction j with
  | zero => intro _; exact ⟨rfl, rfl, hdf⟩
  | succ j ih =>
    intro hl
    obtain ⟨i1, i2, i3⟩ := ih (by omega)
    obtain ⟨d, hd, hs⟩ := h.step j (by omega)
    have go : ∀ (ex : AExit) (s1 : St), evOpr call d.o (xs j).s = some (ex, s1) → s1.ds = (xs 0).s.ds ∧ s1.pm = (xs 0).s.pm ∧ s1.df = false := fun ex s1 he => by
      obtain ⟨k1, k2⟩ := evOpr_keeps he i3 (hnd j d hd)
      exact ⟨k1.trans i1, k2.trans i2, (evOpr_df he).trans i3⟩
    rcases step_ways hs with ⟨p', v', e1, e2, e3⟩ | ⟨p', v', s1, e1, e2, e3, e4, e5⟩ | ⟨s1, e1, e2, e3⟩ | ⟨v', s1, e1, e2, e3, e4⟩
    · rw [e3]; exact ⟨i1, i2, i3⟩
    · rw [e5]; exact go _ _ e4
    · rw [e3]; exact go _ _ e2
    · rw [e4]; exact go _ _ e3
theorem H_after (h : Run call l xs) (hrd : ∀ (i : Nat) (d : DOpr), l[i]? = some d → d.chain = true ∨ reads d.o.op = true) {q : Nat × Value} {i : Nat} (hi : (xs i).pan = some q) : ∀ j, i ≤ j → j ≤ l.length → (xs j).s.H = (xs i).s.H := by
  intro j
  induction j with
  | zero => intro hj _; have : i = 0 := by omega
            subst this; rfl
  | succ j ih =>
    intro hj hl
    by_cases hij : i = j + 1
    · subst hij; rfl
    · have ih := ih (by omega) (by omega)
      have hp := pan_keeps h hi j (by omega) (by omega)
      obtain ⟨d, hd, hs⟩ := h.step j (by omega)
      rcases step_ways hs with ⟨p', v', e1, e2, e3⟩ | ⟨p', v', s1, e1, e2, e3, e4, e5⟩ | ⟨s1, e1, e2, e3⟩ | ⟨v', s1, e1, e2, e3, e4⟩
      · rw [e3]; exact ih
      · rw [e5, ← ih]
        have hr : reads d.o.op = true := by rcases hrd j d hd with h | h
                                            · rw [e3] at h; cases h
                                            · exact h
        rcases evOpr_reads hr e4 with ⟨_, v, _, rfl⟩ | ⟨_, rfl⟩ <;> exact put_H _ _ _
      · rw [hp] at e1; cases e1
      · rw [hp] at e1; cases e1
theorem poison_get : ∀ (l : List DOpr) (s : St) (t : Nat), (poison l s).get t = if (l.any fun d => d.o.dst == some t) then bad else s.get t := by
  intro l
  induction l with
  | nil => intro s t; simp [poison]
  | cons d r ih =>
    intro s t
    have : poison (d :: r) s = poison r (s.put d.o.dst bad) := rfl
    rw [this, ih, List.any_cons, get_put]
    by_cases h1 : (r.any fun d => d.o.dst == some t) = true
    · simp [h1]
    · by_cases h2 : d.o.dst = some t
      · simp [h1, h2]
      · have : (d.o.dst == some t) = false := by simpa using h2
        simp [h1, h2, this]
structure Inv (GL : List Nat) (N : Nat) (ops : Array Oper) (l : List DOpr) (n0 : Nat) (cb : Nat → Option Nat) (xs : Nat → DSt) (ι0 : Inj) (w0 : World) (listed : Array Bool) (m : Nat) (ι : Inj) (a : Act) (w : World) : Prop where
  sz : listed.size = ops.size
  cl : ∀ (j : Nat) (d : DOpr), listed.getD j false = true → l[j]? = some d → ∀ k ∈ d.B, listed.getD k false = true
  ch : ∀ (j : Nat) (d : DOpr), l[j]? = some d → d.chain = true → (listed.getD j false = true ↔ cIdx l j < m)
  np : ∀ p v, (xs l.length).pan = some (p, v) → listed.getD p false = false
  hp : ∃ G, (xs l.length).Gs.reverse[m]? = some G ∧ WR GL ι G w ∧ (xs 0).s.H.size ≤ G.size
  nw : New ι0 ι n0 w0
  cm : ∀ j b, cb j = some b → listed.getD j false = false → ι b = none
  fr : Fr ι0 w0 w
  asz : a.tmps.size = N
  tm : ∀ t, VR ι (cur l (seenV xs) ((xs 0).s.get t) t (fun j => listed.getD j false) l.length) (a.tmps.getD t undef)
  ds : DL ι (xs 0).s.ds a.defers
theorem listed_set {listed : Array Bool} {i j : Nat} (hi : i < listed.size) : (listed.setIfInBounds i true).getD j false = if i = j then true else listed.getD j false := by
  simp only [Array.getD_eq_getD_getElem?, Array.getElem?_setIfInBounds]
  split
  · subst_vars; simp [hi]
  · rfl
theorem tm_next {listed : Array Bool} {ι ι' : Inj} {i : Nat} {d : DOpr} (hF : DF P N GL ops n0 (xs 0).s.H.size cb l) {o : Oper} (ho : ops[i]? = some o) (hd : l[i]? = some d) (hdst : d.o.dst = o.dst) (hsz : listed.size = ops.size) (hcl : ∀ (j : Nat) (d : DOpr), listed.getD j false = true → l[j]? = some d → ∀ k ∈ d.B, listed.getD k false = true) (hni : listed.getD i false = false) (e : Ext ι ι')
    (htm : ∀ t, VR ι (cur l (seenV xs) ((xs 0).s.get t) t (fun j => listed.getD j false) l.length) (a.tmps.getD t undef)) (hN : d.o.dst.all (· < a.tmps.size) = true) {v v' : Value} (hv : VR ι' v v') (hseen : ∀ t, d.o.dst = some t → seenV xs i = v) :
    ∀ t, VR ι' (cur l (seenV xs) ((xs 0).s.get t) t (fun j => (listed.setIfInBounds i true).getD j false) l.length) ((a.put d.o.dst v').tmps.getD t undef) := by
  intro t
  have hil : i < l.length := (List.getElem?_eq_some_iff.1 hd).1
  have hiL : i < listed.size := by rw [hsz, ← hF.len]; exact hil
  rw [tmps_put t (fun j hj => by rw [hj] at hN; simpa using hN)]
  by_cases hdt : d.o.dst = some t
  · rw [if_pos hdt]
    have hskip := cur_skip (l := l) (V := seenV xs) (v0 := (xs 0).s.get t) (t := t) (D := fun j => (listed.setIfInBounds i true).getD j false) (i := i + 1) l.length (by omega) (fun j hj hjl hw => by
      rw [listed_set hiL, if_neg (by omega)]
      obtain ⟨o', d', ho', hd', _⟩ := hF.at_ j (by rw [← hF.len]; exact hjl)
      have hw' : d'.o.dst = some t := by simpa [writes, hd'] using hw
      obtain ⟨o2, d2, ho2, hd2, hc2⟩ := hF.at_ j (by rw [← hF.len]; exact hjl)
      rw [hd'] at hd2; cases hd2
      have hod := hc2.dst.1
      have := hF.sl i j t o o2 d d' ho hd (by simp only [slotsOf, List.mem_append]; left; right; rw [← hdst, hdt]; simp) ho2 hd' (by omega) (by rw [← hod]; exact hw')
      rw [if_neg (by omega)] at this
      cases hq : listed.getD j false with
      | false => rfl
      | true =>
        have := hcl j d' hq hd' i this
        rw [hni] at this; cases this)
    rw [hskip, cur]
    have hw : writes l t i = true := by simp [writes, hd, hdt]
    rw [listed_set hiL, if_pos rfl, hw]
    simp only [Bool.and_self, if_true]
    rw [hseen t hdt]
    exact hv
  · rw [if_neg hdt]
    rw [cur_congr (D' := fun j => listed.getD j false) l.length (fun j hj hw => by
      rw [listed_set hiL]
      split
      · subst_vars
        simp [writes, hd] at hw
        exact absurd hw hdt
      · rfl)]
    exact (htm t).ext e
set_option maxHeartbeats 1000000 in
theorem drawn_step (hcall : CallOK P GL call) (hF : DF P N GL ops n0 (xs 0).s.H.size cb l) (hR : Run call l xs) (h0p : (xs 0).pan = none) (h0r : (xs 0).rs = []) (h0G : (xs 0).Gs = [(xs 0).s.H]) (hdf : (xs 0).s.df = false) (hchk : checkD l (xs l.length).rs.reverse (xs l.length).Gs.reverse = true)
    {ι0 : Inj} {w0 : World} {listed : Array Bool} {m : Nat} (hI : Inv GL N ops l n0 cb xs ι0 w0 listed m ι a w) {i : Nat} (hi : i ∈ Region.ready .any ops listed) {K : Act → World → Prop} {Q : Exit → Act → World → Prop}
    (hn0 : n0 ≤ (xs 0).s.H.size) (hK : ∀ m' ι' a' w', Inv GL N ops l n0 cb xs ι0 w0 (listed.setIfInBounds i true) m' ι' a' w' → K a' w')
    (hQ : ∀ v v' ι' w', (xs l.length).pan = some (i, v) → New ι0 ι' n0 w0 → VR ι' v v' → WR GL ι' (xs l.length).s.H w' → Fr ι0 w0 w' → (xs 0).s.H.size ≤ (xs l.length).s.H.size → (∀ t, VR ι' (cur l (seenV xs) ((xs 0).s.get t) t (fun j => listed.getD j false) l.length) (a.tmps.getD t undef)) → DL ι' (xs 0).s.ds a.defers → Q (.panic [{ v := v', recovered := false }]) a w') :
    wpOp P ops Q i K a w := by
  obtain ⟨hnd, o, ho, hedges⟩ := mem_ready.1 hi
  have hio : i < ops.size := (Array.getElem?_eq_some_iff.1 ho).1
  have hil : i < l.length := by rw [hF.len]; exact hio
  have hiL : i < listed.size := by rw [hI.sz]; exact hio
  have hni : listed.getD i false = false := by simpa [hiL] using hnd
  obtain ⟨o1, d, ho1, hd, hc⟩ := hF.at_ i hio
  rw [ho] at ho1; cases ho1
  obtain ⟨hdst, hdN, hdg⟩ := hc.dst
  have hB : ∀ k ∈ d.B, listed.getD k false = true := fun k hk => by
    obtain ⟨e, he, hb, h⟩ := hF.cl i o d ho hd k hk
    rcases h with rfl | ⟨d', hd', hk'⟩
    · exact hedges e he hb
    · exact hI.cl e.on d' (hedges e he hb) hd' k hk'
  have hnp : ∀ p v, (xs l.length).pan = some (p, v) → p ∉ d.B := fun p v hp hk => by
    have := hI.np p v hp
    rw [hB p hk] at this; cases this
  have hchain : ∀ q e, l[q]? = some e → e.chain = true → (cIdx l q < m → i ∉ e.B) := fun q e hq he hlt hk => by
    have := hI.cl q e ((hI.ch q e hq he).2 hlt) hq i hk
    rw [hni] at this; cases this
  -- the slots that the operation names
  have slot : ∀ t ∈ slotsOf ops o, VR ι ((xs i).s.get t) (a.tmps.getD t undef) := fun t ht => by
    have h1 := slot_at (t := t) hR i (by omega) (fun j hj hw hn => by
      obtain ⟨oj, dj, hoj, hdj, hcj⟩ := hF.at_ j (by omega)
      have hwj : dj.o.dst = some t := by simpa [writes, hdj] using hw
      have hjB := hF.sl i j t o oj d dj ho hd ht hoj hdj (by omega) (by rw [← hcj.dst.1]; exact hwj)
      rw [if_pos hj] at hjB
      obtain ⟨dj', hdj', hs⟩ := hR.step j (by omega)
      rw [hdj] at hdj'; cases hdj'
      rcases step_ways hs with ⟨p', v', e1, e2, e3⟩ | ⟨p', v', s1, e1, e2, e3, e4, e5⟩ | ⟨s1, e1, e2, e3⟩ | ⟨v', s1, e1, e2, e3, e4⟩
      · exact hnp p' v' (pan_keeps hR e1 l.length (by omega) (Nat.le_refl _)) (hF.tr i j d dj hd hjB hdj p' e2)
      · rw [e5] at hn; simp at hn
      · rw [e3] at hn; simp at hn
      · exact hnp j v' (pan_keeps hR (j := j + 1) (by rw [e4]) l.length (by omega) (Nat.le_refl _)) hjB)
    have h2 := cur_skip (l := l) (V := seenV xs) (v0 := (xs 0).s.get t) (t := t) (D := fun j => listed.getD j false) (i := i) l.length (by omega) (fun j hj hjl hw => by
      by_cases hji : j = i
      · subst hji; exact hni
      · obtain ⟨oj, dj, hoj, hdj, hcj⟩ := hF.at_ j (by have := hF.len; omega)
        have hwj : dj.o.dst = some t := by simpa [writes, hdj] using hw
        have hjB := hF.sl i j t o oj d dj ho hd ht hoj hdj hji (by rw [← hcj.dst.1]; exact hwj)
        rw [if_neg (by omega)] at hjB
        cases hq : listed.getD j false with
        | false => rfl
        | true =>
          have := hI.cl j dj hq hdj i hjB
          rw [hni] at this; cases this)
    have h3 := cur_congr (l := l) (V := seenV xs) (v0 := (xs 0).s.get t) (t := t) (D := fun j => listed.getD j false) (D' := fun _ => true) i (fun j hj hw => by
      obtain ⟨oj, dj, hoj, hdj, hcj⟩ := hF.at_ j (by omega)
      have hwj : dj.o.dst = some t := by simpa [writes, hdj] using hw
      have hjB := hF.sl i j t o oj d dj ho hd ht hoj hdj (by omega) (by rw [← hcj.dst.1]; exact hwj)
      rw [if_pos hj] at hjB
      exact hB j hjB)
    rw [h1, ← h3, ← h2]
    exact hI.tm t
  obtain ⟨G, hG, hwr, hGs⟩ := hI.hp
  have envs : ∀ x ∈ o.op.operands, okOpd GL x = true → VR ι ((xs i).s.env x) (a.eval x) := fun x hx hok => by
    cases x with
    | tmp t => exact slot t (by
        simp only [slotsOf, List.mem_append, List.mem_filterMap]
        left; left
        exact ⟨.tmp t, by simpa using hx, rfl⟩)
    | const v => exact flatVR ι 3 v hok
    | global g =>
      obtain ⟨bi, hbi, hbc, hbd⟩ := hwr.glob g (by simpa [okOpd] using hok)
      have := VR.ptr (ι := ι) g 0 bi hbi
      rw [hbc, hbd] at this
      exact this
    | func f => exact .func _ _ _ _ _ rfl rfl (fun j v v' e => by simp at e) (fun j v v' e => by simp at e)
  have hwant : Region.wanted o (yielded ops a.tmps) = wantedO (xs i).s d.o.guard := by
    rw [hdg]
    exact wanted_of fun j b hg t ht => slot t (by
      simp only [slotsOf, List.mem_append]
      right
      rw [hg]
      simp [ht])
  have hNa : d.o.dst.all (· < a.tmps.size) = true := by rw [hI.asz]; exact hdN
  have keeps := run_keeps hR hdf hF.nd i (by omega)
  obtain ⟨d1, hd1, hs⟩ := hR.step i hil
  rw [hd] at hd1; cases hd1
  -- the next stage
  have nextInv : ∀ (m' : Nat) (G' : Hp) (ι' : Inj) (w' : World) (v v' : Value), (xs l.length).Gs.reverse[m']? = some G' → (∀ (j : Nat) (e : DOpr), l[j]? = some e → e.chain = true → ((listed.setIfInBounds i true).getD j false = true ↔ cIdx l j < m')) → (∀ v, (xs l.length).pan ≠ some (i, v)) → New ι ι' n0 w → (∀ j b, j ≠ i → cb j = some b → listed.getD j false = false → ι' b = none) → VR ι' v v' → WR GL ι' G' w' → Fr ι w w' → G.size ≤ G'.size → (∀ t, d.o.dst = some t → seenV xs i = v) → Inv GL N ops l n0 cb xs ι0 w0 (listed.setIfInBounds i true) m' ι' (a.put d.o.dst v') w' := by
    intro m' G' ι' w' v v' hG' hch' hpi hn hcm hvv hww hf hz hseen
    refine ⟨by simp [hI.sz], ?_, hch', ?_, ⟨G', hG', hww, by omega⟩, hI.nw.trans hn (Nat.le_refl _) hI.fr.size, fun j b hj hl => (by
      rw [listed_set hiL] at hl
      by_cases hij : i = j
      · rw [if_pos hij] at hl; cases hl
      · rw [if_neg hij] at hl; exact hcm j b (Ne.symm hij) hj hl), hI.fr.trans hf hI.nw, by rw [size_put]; exact hI.asz, ?_, ?_⟩
    · intro j e hj he k hk
      rw [listed_set hiL] at hj ⊢
      split
      · rfl
      · by_cases hij : i = j
        · subst hij
          rw [hd] at he; cases he
          exact hB k hk
        · rw [if_neg hij] at hj
          exact hI.cl j e hj he k hk
    · intro p v hp
      rw [listed_set hiL]
      split
      · subst_vars; exact absurd hp (hpi v)
      · exact hI.np p v hp
    · exact tm_next hF ho hd hdst hI.sz hI.cl hni hn.ext hI.tm hNa hvv hseen
    · rw [defers_put]
      exact hI.ds.ext hn.ext
  have newc : ∀ (ι' : Inj), New ι ι' G.size w → ∀ j b, j ≠ i → cb j = some b → listed.getD j false = false → ι' b = none := fun ι' hn j b _ hj hl => by
    cases hq : ι' b with
    | none => rfl
    | some bi =>
      have h1 := (hn.new b bi hq (hI.cm j b hj hl)).1
      have h2 := (hF.rg j b hj).2
      omega
  have hn0G : n0 ≤ G.size := by omega
  cases hch : d.chain with
  | false =>
    have hr : reads d.o.op = true := by
      rcases hF.rd i d hd with h | h
      · rw [hch] at h; cases h
      · exact h
    -- what was seen
    obtain ⟨s1', he, hrec⟩ : ∃ s1', evOpr call d.o (xs i).s = some (.normal, s1') ∧ (xs (i + 1)).rs = some ⟨(xs i).s, s1'.getO d.o.dst⟩ :: (xs i).rs := by
      rcases step_ways hs with ⟨p', v', e1, e2, e3⟩ | ⟨p', v', s1, e1, e2, e3, e4, e5⟩ | ⟨s1, e1, e2, e3⟩ | ⟨v', s1, e1, e2, e3, e4⟩
      · exact absurd e2 (hnp p' v' (pan_keeps hR e1 l.length (by omega) (Nat.le_refl _)))
      · exact ⟨s1, e4, by rw [e5]⟩
      · exact ⟨s1, e2, by rw [e3]⟩
      · rw [hch] at e2; cases e2
    have hra := rec_at hR h0r hil hrec
    have hsv : seenV xs i = s1'.getO d.o.dst := by simp [seenV, hrec]
    have hpi : ∀ v, (xs l.length).pan ≠ some (i, v) := fun v hp => by
      obtain ⟨_, _, d2, s2, hd2, hc2, _⟩ := pan_from hR h0p l.length (Nat.le_refl _) hp
      rw [hd] at hd2; cases hd2
      rw [hch] at hc2; cases hc2
    have hstage : stageOK l i d.B m = true := by
      simp only [stageOK, List.all_eq_true, List.mem_range]
      intro q hq
      rw [List.getElem?_eq_getElem hq]
      simp only [Bool.or_eq_true, Bool.not_eq_true', Bool.and_eq_true, decide_eq_true_eq, decide_eq_false_iff_not]
      cases hqc : (l[q]).chain with
      | false => exact .inl rfl
      | true =>
        right
        have hq' : l[q]? = some l[q] := List.getElem?_eq_getElem hq
        constructor
        · cases hqb : d.B.contains q with
          | false => exact .inl rfl
          | true => exact .inr ((hI.ch q _ hq' hqc).1 (hB q (by simpa using hqb)))
        · by_cases hlt : cIdx l q < m
          · left
            have := hchain q _ hq' hqc hlt
            exact Bool.eq_false_iff.2 this
          · exact .inr hlt
    obtain ⟨vv, he2, hvv2⟩ : ∃ vv, evOpr call d.o { (xs i).s with H := G } = some (.normal, ({ (xs i).s with H := G } : St).put d.o.dst vv) ∧ ∀ t, d.o.dst = some t → seenV xs i = vv := by
      rcases evOpr_reads hr he with ⟨hw, v, hv, rfl⟩ | ⟨hw, rfl⟩
      · by_cases hfr : hfree d.o.op = true
        · refine ⟨v, ?_, fun t ht => ?_⟩
          · unfold evOpr
            have hw' : wantedO { (xs i).s with H := G } d.o.guard = true := hw
            rw [if_pos hw', env_H, hfree_any hfr hv G]
          · rw [hsv, getO_put, ht]; rfl
        · have hck := hchk
          simp only [checkD, List.all_eq_true, List.mem_range] at hck
          have hck := hck i hil
          rw [hd, hra] at hck
          simp only [hch, Bool.false_or, Bool.or_eq_true] at hck
          have hck := hck.resolve_left hfr
          rw [List.all_eq_true] at hck
          have hmL : m < (xs l.length).Gs.reverse.length := (List.getElem?_eq_some_iff.1 hG).1
          have hck := hck m (List.mem_range.2 hmL)
          rw [hstage, hG] at hck
          simp only [Bool.not_true, Bool.false_or] at hck
          unfold okAt at hck
          simp only at hck
          rw [if_pos hw] at hck
          split at hck
          · rename_i v2 H2 hv2
            have h2 := eqV_eq 3 _ _ hck
            have h3 := reads_same hr hv2
            rw [h3] at hv2
            refine ⟨v2, ?_, fun t ht => ?_⟩
            · unfold evOpr
              have hw' : wantedO { (xs i).s with H := G } d.o.guard = true := hw
              rw [if_pos hw', env_H, hv2]
            · rw [hsv, h2]
          · cases hck
      · refine ⟨undef, ?_, fun t ht => ?_⟩
        · unfold evOpr
          have hw' : wantedO { (xs i).s with H := G } d.o.guard = false := hw
          rw [if_neg (by rw [hw']; simp)]
        · rw [hsv, getO_put, ht]; rfl
    have hchm : ∀ (j : Nat) (e : DOpr), l[j]? = some e → e.chain = true → ((listed.setIfInBounds i true).getD j false = true ↔ cIdx l j < m) := fun j e hj hce => by
      rw [listed_set hiL]
      split
      · subst_vars
        rw [hd] at hj; cases hj
        rw [hch] at hce; cases hce
      · exact hI.ch j e hj hce
    rcases hc with ⟨hcn, hc⟩ | ⟨b, ao, hcb, _, _, hco, hcl, hcd, hcg⟩
    case inr =>
      have hbn := hI.cm i b hcb hni
      have hbr := hF.rg i b hcb
      rcases evOpr_reads hr he2 with ⟨hwt, v, hv, hst⟩ | ⟨hw, hst⟩
      · rw [env_H] at hv
        refine claim_out ho hco envs (by rw [hwant]; exact hwt) hwr hcl hbn (by omega) hv fun v' w' bi k1 k2 k3 k4 k5 => ?_
        rw [← hcd]
        refine hK m (ι.add b bi) _ w' (nextInv m G (ι.add b bi) w' v v' hG hchm hpi ⟨add_ext hbn, fun x j hx h0 => ?_⟩ (fun j b' hj hcj hl => ?_) k3 k4 k5 (Nat.le_refl _) (fun t ht => ?_))
        · unfold Inj.add at hx
          split at hx
          · subst_vars; cases hx
            exact ⟨hbr.1, k1, .inl k2⟩
          · rw [hx] at h0; cases h0
        · unfold Inj.add
          split
          · subst_vars
            exact absurd (hF.un j i _ hcj hcb) hj
          · exact hI.cm j b' hcj hl
        · have := congrArg (fun s : St => s.get t) hst
          simp only [get_put, ht, if_true] at this
          rw [hvv2 t ht, this]
      · have hw' : Region.wanted o (yielded ops a.tmps) = false := by rw [hwant]; exact hw
        unfold wpOp
        simp only [ho]
        rw [hw']
        simp only [Bool.false_eq_true, if_false]
        rw [← hdst]
        refine hK m ι _ w (nextInv m G ι w undef undef hG hchm hpi (New.refl _ _ _) (fun j b' _ hcj hl => hI.cm j b' hcj hl) (undefVR _) hwr (Fr.refl _ _) (Nat.le_refl _) (fun t ht => ?_))
        have := congrArg (fun s : St => s.get t) hst
        simp only [get_put, ht, if_true] at this
        rw [hvv2 t ht, this]
    refine opr_out (s := { (xs i).s with H := G }) hcall ho hc keeps.2.2 (fun x hx hok => by rw [env_H]; exact envs x hx hok) hwant hwr he2 ?_ ?_ ?_
    · intro v v' H' w' ι' _ hst hn hv hww hf hz
      have hH : H' = G := by
        have := congrArg St.H hst
        rw [put_H, put_H] at this
        exact this.symm
      subst hH
      refine hK m ι' _ w' (nextInv m H' ι' w' v v' hG hchm hpi (hn.weak hn0G) (newc ι' hn) hv hww hf hz (fun t ht => ?_))
      · have := congrArg (fun s : St => s.get t) hst
        simp only [get_put, ht, if_true] at this
        rw [hvv2 t ht, this]
    · intro x d' _ hst _
      have := congrArg St.ds hst
      rw [put_ds, put_ds] at this
      simp at this
    · intro v v' H' w' ι' hex
      cases hex
  | true =>
    have hcc : compOpr P N GL ops o = some d.o := by
      rcases hc with ⟨_, hc⟩ | ⟨b, ao, _, h, _⟩
      · exact hc
      · rw [hch] at h; cases h
    have hpn : (xs i).pan = none := by
      cases hq : (xs i).pan with
      | none => rfl
      | some q =>
        obtain ⟨p, v⟩ := q
        obtain ⟨hpi, _, d2, s2, hd2, hc2, _⟩ := pan_from hR h0p i (by omega) hq
        exact absurd (hF.ch i p d d2 hd hch hpi hd2 hc2) (hnp p v (pan_keeps hR hq l.length (by omega) (Nat.le_refl _)))
    have hci : cIdx l i = m := by
      have h1 : m ≤ cIdx l i := by
        rcases Nat.lt_or_ge (cIdx l i) m with h | h
        · have := (hI.ch i d hd hch).2 h
          rw [hni] at this; cases this
        · exact h
      have h2 : ∀ k, k ≤ i → cIdx l k ≤ m := by
        intro k
        induction k with
        | zero => intro _; exact Nat.zero_le _
        | succ k ih =>
          intro hk
          have hk' : l[k]? = some (l[k]'(by omega)) := List.getElem?_eq_getElem (by omega)
          rw [cIdx_succ hk']
          cases hkc : (l[k]'(by omega)).chain with
          | false => have := ih (by omega); simp; omega
          | true =>
            have := (hI.ch k _ hk' hkc).1 (hB k (hF.ch i k d _ hd hch (by omega) hk' hkc))
            simp; omega
      have := h2 i (Nat.le_refl _)
      omega
    obtain ⟨hgl, hgh⟩ := Gs_at hR h0G hF.rd i (by omega) hpn
    have hlast : ∀ (k : Nat) (g : Hp), i ≤ k → k ≤ l.length → (xs k).Gs.head? = some g → (xs l.length).Gs.reverse[(xs k).Gs.length - 1]? = some g := by
      intro k g hik hk hg
      obtain ⟨pre, hp⟩ := Gs_suffix hR l.length k hk (Nat.le_refl _)
      rw [hp, List.reverse_append]
      cases hq : (xs k).Gs with
      | nil => rw [hq] at hg; cases hg
      | cons g' r =>
        rw [hq] at hg
        simp at hg
        subst hg
        simp
    have hGi : (xs i).s.H = G := by
      have := hlast i _ (Nat.le_refl _) (by omega) hgh
      rw [hgl, hci] at this
      simp only [Nat.add_sub_cancel] at this
      rw [hG] at this
      exact (Option.some.inj this).symm
    subst hGi
    rcases step_ways hs with ⟨p', v', e1, e2, e3⟩ | ⟨p', v', s1, e1, e2, e3, e4, e5⟩ | ⟨s1', e1, e2, e3⟩ | ⟨vp, s1', e1, e2, e3, e4⟩
    · rw [hpn] at e1; cases e1
    · rw [hpn] at e1; cases e1
    · refine opr_out hcall ho hcc keeps.2.2 envs hwant hwr e2 ?_ ?_ ?_
      · intro v v' H' w' ι' _ hst hn hv hww hf hz
        have hH : s1'.H = H' := by rw [hst, put_H]
        have hG' : (xs l.length).Gs.reverse[m + 1]? = some H' := by
          have h2 : (xs (i + 1)).Gs = s1'.H :: (xs i).Gs := by rw [e3]; simp [hch]
          have := hlast (i + 1) s1'.H (by omega) (by omega) (by rw [h2]; rfl)
          rw [h2] at this
          simp only [List.length_cons, Nat.add_sub_cancel] at this
          rw [hgl, hci] at this
          rw [← hH]; exact this
        refine hK (m + 1) ι' _ w' (nextInv (m + 1) H' ι' w' v v' hG' (fun j e hj hce => ?_) (fun v hp => ?_) (hn.weak hn0G) (newc ι' hn) hv hww hf hz (fun t ht => ?_))
        · rw [listed_set hiL]
          split
          · subst_vars
            simp
          · rename_i hij
            rw [hI.ch j e hj hce]
            constructor
            · intro h; omega
            · intro h
              rcases Nat.lt_or_ge (cIdx l j) m with h' | h'
              · exact h'
              · exfalso
                have : cIdx l i = cIdx l j := by omega
                exact hij (cIdx_inj hd hj hch hce this)
        · obtain ⟨_, _, d2, s2, hd2, _, hev, _⟩ := pan_from hR h0p l.length (Nat.le_refl _) hp
          rw [hd] at hd2; cases hd2
          rw [e2] at hev; cases hev
        · have h2 : seenV xs i = s1'.getO d.o.dst := by simp [seenV, e3]
          rw [h2, hst, getO_put, ht]; rfl
      · intro x d' _ hst _
        have k2 := (evOpr_keeps e2 keeps.2.2 (hF.nd i d hd)).1
        rw [hst, put_ds] at k2
        simp at k2
      · intro v v' H' w' ι' hex
        cases hex
    · have hfin : (xs l.length).pan = some (i, vp) := pan_keeps hR (j := i + 1) (by rw [e4]) l.length (by omega) (Nat.le_refl _)
      have hHfin : (xs l.length).s.H = s1'.H := by
        rw [H_after hR hF.rd (i := i + 1) (q := (i, vp)) (by rw [e4]) l.length (by omega) (Nat.le_refl _), e4]
      refine opr_out hcall ho hcc keeps.2.2 envs hwant hwr e3 ?_ ?_ ?_
      · intro v v' H' w' ι' hex
        cases hex
      · intro x d' hex
        cases hex
      · intro v v' H' w' ι' hex hst hn hv hww hf hz
        cases hex
        have hH : s1'.H = H' := by rw [hst]
        refine hQ vp v' ι' w' hfin (hI.nw.trans (hn.weak hn0G) (Nat.le_refl _) hI.fr.size) hv (by rw [hHfin, hH]; exact hww) (hI.fr.trans hf hI.nw) (by rw [hHfin, hH]; omega) (fun t => (hI.tm t).ext hn.ext) (hI.ds.ext hn.ext)
def doneN (listed : Array Bool) (n : Nat) : Nat := (List.range n).countP fun j => listed.getD j false
theorem doneN_set {listed : Array Bool} {i n : Nat} (hi : i < listed.size) (hin : i < n) (hf : listed.getD i false = false) : doneN (listed.setIfInBounds i true) n = doneN listed n + 1 := by
  have key : ∀ k, (List.range k).countP (fun j => (listed.setIfInBounds i true).getD j false) = (List.range k).countP (fun j => listed.getD j false) + if i < k then 1 else 0 := by
    intro k
    induction k with
    | zero => simp
    | succ k ih =>
      rw [List.range_succ, List.countP_append, List.countP_append, ih, List.countP_singleton, List.countP_singleton, listed_set hi]
      by_cases h1 : i = k
      · subst h1
        rw [hf]
        simp
      · rw [if_neg h1]
        by_cases h2 : i < k
        · have h3 : i < k + 1 := by omega
          simp only [h2, h3, if_true]; omega
        · have h3 : ¬ i < k + 1 := by omega
          simp only [h2, h3, if_false]; omega
  have := key n
  rw [if_pos hin] at this
  exact this
theorem all_done {listed : Array Bool} (hF : DF P N GL ops n0 (xs 0).s.H.size cb l) (hsz : listed.size = ops.size) (hr : Region.ready .any ops listed = []) : ∀ j, j < ops.size → listed.getD j false = true := by
  intro j
  induction j using Nat.strongRecOn with
  | _ j ih =>
    intro hj
    cases hq : listed.getD j false with
    | true => rfl
    | false =>
      exfalso
      have : j ∈ Region.ready .any ops listed := by
        rw [mem_ready]
        refine ⟨by simp [hsz, hj] at hq ⊢; exact hq, ops[j], Array.getElem?_eq_getElem hj, fun e he hb => ?_⟩
        have := hF.lt j ops[j] (Array.getElem?_eq_getElem hj) e he hb
        exact ih e.on this (by omega)
      rw [hr] at this
      cases this
def PostN (GL : List Nat) (N : Nat) (ι : Inj) (n0 : Nat) (s : St) (w : World) (ex : AExit) (s1 : St) (e : Exit) (a' : Act) (w' : World) : Prop :=
  ∃ ι', New ι ι' n0 w ∧ Fr ι w w' ∧ s.H.size ≤ s1.H.size ∧ match ex with
    | .normal => e = .normal ∧ SR GL N ι' s1 a' w'
    | .exit i => e = .exit i ∧ SR GL N ι' s1 a' w'
    | .ret => e = .ret ∧ SR GL N ι' s1 a' w'
    | .pan v => (∃ v', e = .panic [{ v := v', recovered := false }] ∧ VR ι' v v') ∧ SP GL N ι' s1 a' w'
theorem drawn_wp0 (hm : P.follows .mixedOrders = true) (hcall : CallOK P GL call) {id : Nat} (hF : DF P N GL ops n0 s.H.size cb l) (hn0 : n0 ≤ s.H.size) (hcm : ∀ j b, cb j = some b → ι b = none) (hdf : s.df = false) (hs : SR GL N ι s a w) {ex : AExit} (he : evDrawn call l s = some (ex, s1)) {Q : Exit → Act → World → Prop}
    (hQ : ∀ e a' w', PostN GL N ι n0 s w ex s1 e a' w' → Q e a' w') :
    (Code.region id ops true).wp P Q a w := by
  unfold evDrawn at he
  split at he
  · cases he
  rename_i y hy
  split at he
  case isFalse => cases he
  rename_i hchk
  rw [checkF_D] at hchk
  obtain ⟨xs, x0, xn, hst⟩ := runD_trace l 0 _ y hy
  simp only [Nat.zero_add] at xn hst
  have hR : Run call l xs := ⟨hst⟩
  have x0s : (xs 0).s = s := by rw [x0]
  rw [← x0s] at hF hn0
  have h0p : (xs 0).pan = none := by rw [x0]
  have h0r : (xs 0).rs = [] := by rw [x0]
  have h0G : (xs 0).Gs = [(xs 0).s.H] := by rw [x0]
  rw [← xn] at he hchk
  have hdf0 : (xs 0).s.df = false := by rw [x0s]; exact hdf
  have keepsN := run_keeps hR hdf0 hF.nd l.length (Nat.le_refl _)
  refine wp_region_any hm ?_
  have start : Inv GL N ops l n0 cb xs ι w (Array.replicate ops.size false) 0 ι a { w with drawn := w.drawn + 1 } := by
    have hff : ∀ j, (Array.replicate ops.size false).getD j false = false := fun j => by
      simp only [Array.getD_eq_getD_getElem?, Array.getElem?_replicate]
      split <;> rfl
    refine ⟨by simp, fun j d hj => (by rw [hff] at hj; cases hj), fun j d _ _ => ⟨fun hj => (by rw [hff] at hj; cases hj), fun hj => absurd hj (Nat.not_lt_zero _)⟩, fun p v _ => hff p, ⟨s.H, ?_, hs.wr.same rfl, by rw [x0s]; exact Nat.le_refl _⟩, New.refl _ _ _, fun j b hj _ => hcm j b hj, Fr.same rfl rfl rfl rfl, hs.size, fun t => ?_, by rw [x0s]; exact hs.ds⟩
    · obtain ⟨pre, hp⟩ := Gs_suffix hR l.length 0 (Nat.zero_le _) (Nat.le_refl _)
      rw [hp, h0G, x0s]
      simp
    · rw [cur_skip (i := 0) l.length (Nat.zero_le _) (fun j _ _ _ => hff j)]
      simp only [cur]
      rw [x0s]
      exact hs.tmps t
  have main : ∀ (fuel : Nat) (listed : Array Bool) (m : Nat) (ι' : Inj) (a' : Act) (w' : World), fuel + doneN listed ops.size = ops.size → Inv GL N ops l n0 cb xs ι w listed m ι' a' w' → wpAny P .any ops Q fuel listed a' w' := by
    intro fuel
    have finish : ∀ (listed : Array Bool) (m : Nat) (ι' : Inj) (a' : Act) (w' : World), Inv GL N ops l n0 cb xs ι w listed m ι' a' w' → (∀ j, j < ops.size → listed.getD j false = true) → Q .normal a' w' := by
      intro listed m ι' a' w' hI hall
      have hpn : (xs l.length).pan = none := by
        cases hq : (xs l.length).pan with
        | none => rfl
        | some q =>
          obtain ⟨p, v⟩ := q
          obtain ⟨hpl, _⟩ := pan_from hR h0p l.length (Nat.le_refl _) hq
          have := hI.np p v hq
          rw [hall p (by rw [← hF.len]; exact hpl)] at this
          cases this
      rw [hpn] at he
      simp only [Option.some.injEq, Prod.mk.injEq] at he
      obtain ⟨rfl, rfl⟩ := he
      obtain ⟨G, hG, hwr, hGs⟩ := hI.hp
      obtain ⟨hgl, hgh⟩ := Gs_at hR h0G hF.rd l.length (Nat.le_refl _) hpn
      have hcm : cIdx l l.length = m := by
        have h1 : m < (xs l.length).Gs.reverse.length := (List.getElem?_eq_some_iff.1 hG).1
        simp only [List.length_reverse] at h1
        have h2 : ∀ k, k ≤ l.length → cIdx l k ≤ m := by
          intro k
          induction k with
          | zero => intro _; exact Nat.zero_le _
          | succ k ih =>
            intro hk
            have hk' : l[k]? = some (l[k]'(by omega)) := List.getElem?_eq_getElem (by omega)
            rw [cIdx_succ hk']
            cases hkc : (l[k]'(by omega)).chain with
            | false => have := ih (by omega); simp; omega
            | true =>
              have := (hI.ch k _ hk' hkc).1 (hall k (by rw [← hF.len]; omega))
              simp; omega
        have := h2 l.length (Nat.le_refl _)
        omega
      have hGH : G = (xs l.length).s.H := by
        cases hq : (xs l.length).Gs with
        | nil => rw [hq] at hgh; cases hgh
        | cons g r =>
          rw [hq] at hgh hgl hG
          simp only [List.head?_cons, Option.some.injEq] at hgh
          simp only [List.length_cons] at hgl
          rw [List.reverse_cons, List.getElem?_append_right (by simp; omega)] at hG
          simp only [List.length_reverse] at hG
          rw [show m - r.length = 0 by omega] at hG
          simp at hG
          rw [← hG, hgh]
      refine hQ .normal a' w' ⟨ι', hI.nw, hI.fr, by rw [← hGH, ← x0s]; exact hGs, rfl, ⟨hI.asz, fun t => ?_, by rw [← hGH]; exact hwr, by rw [keepsN.1]; exact hI.ds⟩⟩
      have hsl := slot_at (t := t) hR l.length (Nat.le_refl _) (fun j hj hw hn => by
        obtain ⟨dj, hdj, hsj⟩ := hR.step j hj
        rcases step_ways hsj with ⟨p', v', e1, e2, e3⟩ | ⟨p', v', s1, e1, e2, e3, e4, e5⟩ | ⟨s1, e1, e2, e3⟩ | ⟨v', s1, e1, e2, e3, e4⟩
        · have := pan_keeps hR e1 l.length (by omega) (Nat.le_refl _)
          rw [hpn] at this; cases this
        · rw [e5] at hn; simp at hn
        · rw [e3] at hn; simp at hn
        · have := pan_keeps hR (j := j + 1) (q := (j, v')) (by rw [e4]) l.length (by omega) (Nat.le_refl _)
          rw [hpn] at this; cases this)
      rw [hsl, ← cur_congr (D := fun j => listed.getD j false) l.length (fun j hj _ => hall j (by rw [← hF.len]; exact hj))]
      exact hI.tm t
    induction fuel with
    | zero =>
      intro listed m ι' a' w' hn hI
      have hall : ∀ j, j < ops.size → listed.getD j false = true := by
        have : doneN listed ops.size = (List.range ops.size).length := by simpa using hn
        have := List.countP_eq_length.1 this
        intro j hj
        exact this j (List.mem_range.2 hj)
      have hr : Region.ready .any ops listed = [] := by
        rw [List.eq_nil_iff_forall_not_mem]
        intro j hj
        obtain ⟨h1, o, ho, _⟩ := mem_ready.1 hj
        have hjs := (Array.getElem?_eq_some_iff.1 ho).1
        have := hall j hjs
        rw [Array.getD_eq_getD_getElem?, Array.getElem?_eq_getElem (by rw [hI.sz]; exact hjs)] at this h1
        simp only [Option.getD_some] at this h1
        rw [this] at h1; cases h1
      exact ⟨hr, finish listed m ι' a' w' hI hall⟩
    | succ fuel ih =>
      intro listed m ι' a' w' hn hI
      refine ⟨fun hr => finish listed m ι' a' w' hI (all_done hF hI.sz hr), fun i hi => ?_⟩
      obtain ⟨h1, o, ho, _⟩ := mem_ready.1 hi
      have his := (Array.getElem?_eq_some_iff.1 ho).1
      have hiL : i < listed.size := by rw [hI.sz]; exact his
      have hfi : listed.getD i false = false := by
        rw [Array.getD_eq_getD_getElem?, Array.getElem?_eq_getElem hiL] at h1 ⊢
        exact h1
      refine drawn_step hcall hF hR h0p h0r h0G hdf0 hchk hI hi hn0 ?_ ?_
      · intro m' ι'' a'' w'' hI'
        exact ih _ m' ι'' a'' w'' (by rw [doneN_set hiL his hfi]; omega) hI'
      · intro v v' ι'' w'' hfin hn2 hvv hww hf2 hz htm hds
        rw [hfin] at he
        simp only [Option.some.injEq, Prod.mk.injEq] at he
        obtain ⟨rfl, rfl⟩ := he
        refine hQ _ a' w'' ⟨ι'', hn2, hf2, by rw [← x0s]; exact hz, ⟨v', rfl, hvv⟩, ⟨hI.asz, fun t => ?_, hww, by show DL ι'' (xs l.length).s.ds a'.defers; rw [keepsN.1]; exact hds⟩⟩
        have hp : ({ poison l s with H := (xs l.length).s.H, ds := (xs l.length).s.ds, pm := (xs l.length).s.pm } : St).get t = (poison l s).get t := rfl
        rw [hp, poison_get]
        by_cases hw : (l.any fun d => d.o.dst == some t) = true
        · left; rw [if_pos hw]
        · right
          rw [if_neg hw]
          have := htm t
          rw [cur_skip (i := 0) l.length (Nat.zero_le _) (fun j _ hjl hwj => by
            exfalso
            apply hw
            rw [List.any_eq_true]
            refine ⟨l[j], List.getElem_mem hjl, ?_⟩
            simpa [writes, hjl] using hwj)] at this
          simp only [cur] at this
          rw [x0s] at this
          exact this
  refine main ops.size _ 0 ι a _ ?_ start
  have : doneN (Array.replicate ops.size false) ops.size = 0 := by
    rw [doneN, List.countP_eq_zero]
    intro j _
    simp only [Array.getD_eq_getD_getElem?, Array.getElem?_replicate]
    split <;> simp
  omega
theorem drawn_wp (hm : P.follows .mixedOrders = true) (hcall : CallOK P GL call) {id : Nat} (hc : compDrawn P N GL ops = some l) (hdf : s.df = false) (hs : SR GL N ι s a w) {ex : AExit} (he : evDrawn call l s = some (ex, s1)) {Q : Exit → Act → World → Prop} (hQ : ∀ e a' w', Post GL N ι s w ex s1 e a' w' → Q e a' w') :
    (Code.region id ops true).wp P Q a w :=
  drawn_wp0 hm hcall (DF.of0 (compDrawn_DF hc) s.H.size s.H.size) (Nat.le_refl _) (fun j b h => by cases h) hdf hs he hQ
theorem WR.ahead {H0 : Hp} (h : WR GL ι H w) (hs : H.size ≤ H0.size) (hg : ∀ b, b < H.size → H0.get b = H.get b) : WR GL ι H0 w := by
  refine ⟨fun b i hb => ?_, fun b i hb => ?_, fun b b' i i' hb hb' hne hl hl' hr => ?_, h.glob⟩
  · obtain ⟨o, e, k⟩ := h.obj b i hb
    exact ⟨o, by rw [hg b (h.dom b i hb).1]; exact e, k⟩
  · have := h.dom b i hb
    exact ⟨by omega, this.2⟩
  · rw [hg b (h.dom b i hb).1] at hl
    rw [hg b' (h.dom b' i' hb').1] at hl'
    exact h.inj b b' i i' hb hb' hne hl hl' hr
theorem drawnP_wp (hm : P.follows .mixedOrders = true) (hcall : CallOK P GL call) {id : Nat} (hc : compDrawnP P N GL ops = some l) (hdf : s.df = false) (hs : SR GL N ι s a w) {l' : List DOpr} {H0 : Hp} (hp : preD l s = some (l', H0)) {ex : AExit} (he : evDrawn call l' { s with H := H0 } = some (ex, s1)) {Q : Exit → Act → World → Prop} (hQ : ∀ e a' w', Post GL N ι s w ex s1 e a' w' → Q e a' w') :
    (Code.region id ops true).wp P Q a w := by
  obtain ⟨cb, hF⟩ := DF.pre (compDrawn_DF hc) hp
  obtain ⟨a1, a2, _⟩ := preD_spec l s l' H0 hp
  refine drawn_wp0 (s := { s with H := H0 }) (n0 := s.H.size) hm hcall hF a1 (fun j b hj => ?_) hdf ⟨hs.size, hs.tmps, hs.wr.ahead a1 a2, hs.ds⟩ he (fun e a' w' h => hQ e a' w' ?_)
  · cases hq : ι b with
    | none => rfl
    | some bi =>
      have := (hs.wr.dom b bi hq).1
      have := (hF.rg j b hj).1
      omega
  · obtain ⟨ι', b1, b2, b3, b4⟩ := h
    exact ⟨ι', b1, b2, Nat.le_trans a1 b3, b4⟩
end main
end Go.Proofs.YtehbekgmemebjaaDoorEv
