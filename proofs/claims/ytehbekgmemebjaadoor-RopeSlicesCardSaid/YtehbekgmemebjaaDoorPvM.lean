import Derived.Test.YtehbekgmemebjaaDoorPvL
import Derived.Test.YtehbekgmemebjaaDoorEvY
namespace Go.Proofs.YtehbekgmemebjaaDoorEv
open Go
set_option linter.unusedVariables false
set_option linter.unusedSimpArgs false
section
variable {H0 : Hp} {Z0 : Nat → Prop} {A : AState} {e : Pe A.ts} {s : St} {K : Caller} {G : Hp → Prop}
theorem frz_ok (h : Sem H0 Z0 A e s) (js : List Nat) : Sem H0 Z0 (frz A js) e s := by
  obtain ⟨Z, hv, h⟩ := h
  obtain ⟨Z', h'⟩ := SemD.frzs js (sl := A.sl) (ob := A.ob) h
  exact ⟨Z', hv, h'⟩
theorem adj1_ok (h : Sem H0 Z0 A e s) {d : Nat} {m : Md} {n : Nx A} (hn : adj1 A d m = some n) {e' : Pe n.B.ts} (he : n.F e = some e') : Sem H0 Z0 n.B e' s := by
  cases m with
  | as => simp only [adj1] at hn; cases hn; cases he; exact h
  | own t ty =>
    simp only [adj1] at hn
    split at hn
    · rename_i hl
      cases hn; cases he
      obtain ⟨Z, hv, h⟩ := h
      have h1 : [s.get d] = [.slice none 0 0] := h.sl d _ hl
      have h2 : s.get d = .slice none 0 0 := by simpa using h1
      obtain ⟨a1, a2, a3, a4⟩ := nx_same s d h2
      show Sem H0 Z0 ⟨.sl t :: A.ts, setS A.sl (some d) (.v (.a (.hd A.ob.length))), A.ob ++ [.sl t ty A.ts.length]⟩ (([] : List t.den), e) s
      refine ⟨Z, _, (h.grow (d := some d) (Ex.push e ([] : List t.den)) (Kept.refl _) (o := .sl t ty A.ts.length) (v0 := .slice none 0 0) (ts' := .sl t :: A.ts) ?_ (fun b hb => by cases hb) fun _ => hdOK ⟨_, _, _, rfl⟩).congr (fun j => (a1 j).symm) a2.symm a3.symm a4.symm⟩
      exact ⟨_, lk_top (t := .sl t) e [], .inl ⟨rfl, rfl⟩⟩
    · cases hn; cases he; exact h
  | shr t =>
    simp only [adj1] at hn
    split at hn
    · rename_i hl
      cases hn; cases he
      obtain ⟨Z, hv, h⟩ := h
      have h1 : [s.get d] = [.slice none 0 0] := h.sl d _ hl
      have h2 : s.get d = .slice none 0 0 := by simpa using h1
      obtain ⟨a1, a2, a3, a4⟩ := nx_same s d h2
      exact ⟨Z, hv, (h.pure (d := some d) (a := .v (.a (.pu A.ts.length))) (v := .slice none 0 0) (Ex.push (t := .sl t) e []) fun _ => ⟨.sl t, [], lk_top (t := .sl t) e [], none, 0, rfl, .inl ⟨rfl, fun _ => rfl⟩⟩).congr (fun j => (a1 j).symm) a2.symm a3.symm a4.symm⟩
    · cases hn; cases he; exact frz_ok h _
    · cases hn; cases he; exact h
theorem adj_ok : ∀ (r : List (Nat × Md)) {A : AState} {e : Pe A.ts} {n : Nx A}, Sem H0 Z0 A e s → adj A r = some n → ∀ {e' : Pe n.B.ts}, n.F e = some e' → Sem H0 Z0 n.B e' s
  | [], A, e, n, h, hn, e', he => by
    simp only [adj] at hn
    cases hn; cases he; exact h
  | (d, m) :: r, A, e, n, h, hn, e', he => by
    simp only [adj] at hn
    split at hn
    · rename_i n1 h1
      split at hn
      · rename_i n2 h2
        cases hn
        obtain ⟨e1, w1, w2⟩ := Option.bind_eq_some_iff.1 he
        exact adj_ok r (adj1_ok h h1 w1) h2 w2
      · cases hn
    · cases hn
theorem canon_ok (h : Sem H0 Z0 A e s) {keep : List (Nat × Md)} {n : Nx A} (hn : canon A keep = some n) {e' : Pe n.B.ts} (he : n.F e = some e') : Sem H0 Z0 n.B e' s := by
  unfold canon at hn
  split at hn
  · rename_i n1 h1
    split at hn
    · rename_i n2 h2
      cases hn
      obtain ⟨e1, w1, w2⟩ := Option.bind_eq_some_iff.1 he
      obtain ⟨Z, hv, h3⟩ := adj_ok _ h h1 w1
      obtain ⟨e2, w3, hv', h4⟩ := canon0_ok h3 h2
      rw [w3] at w2
      cases w2
      exact ⟨Z, hv', h4⟩
    · cases hn
  · cases hn
theorem castK_ok {B C : AState} (hB : B = C) {γ : Type} {κ : Pe C.ts → γ} {e0 : Pe B.ts} {b : γ} (h : castK hB κ e0 = b) : ∃ e' : Pe C.ts, κ e' = b ∧ (Sem H0 Z0 B e0 s → Sem H0 Z0 C e' s) := by
  subst hB
  exact ⟨e0, h, fun h => h⟩
theorem nxC_some {n : Nx A} {β : Type} {κ : Pe n.B.ts → Option β} {b : β} (h : n.C e κ = some b) : ∃ e', n.F e = some e' ∧ κ e' = some b := by
  rw [n.hC] at h
  exact Option.bind_eq_some_iff.1 h
def exOK : Xt → AExit → Prop
  | .n, .normal => True
  | .x i, .exit j => i = j
  | .r, .ret => True
  | .p t, .pan v => v = .iface t (.agg #[])
  | _, _ => False
def OutQ (H0 : Hp) (Z0 : Nat → Prop) : (X : List Xh) → Out X → AExit → St → Prop
  | h :: _, .inl e, ex, s => exOK h.x ex ∧ Sem H0 Z0 h.B e s
  | _ :: r, .inr o, ex, s => OutQ H0 Z0 r o ex s
def OutK (H0 : Hp) (Z0 : Nat → Prop) (X : List Xh) {β : Type} (κ : Out X → Option β) (b : β) (ex : AExit) (s : St) : Prop := ∃ o, κ o = some b ∧ OutQ H0 Z0 X o ex s
theorem fin_ok {β : Type} : ∀ (X : List Xh) {κ : Out X → Option β} {x : Xt} {f : Pe A.ts → Option β} {b : β} {ex : AExit}, fin A x X κ = some f → Sem H0 Z0 A e s → f e = some b → exOK x ex → OutK H0 Z0 X κ b ex s
  | [], κ, x, f, b, ex, h, _, _, _ => by simp [fin] at h
  | h0 :: r, κ, x, f, b, ex, h, hs, hf, hx => by
    simp only [fin] at h
    split at h
    · rename_i hxx
      split at h
      · rename_i n hn
        split at h
        · rename_i hB
          cases h
          obtain ⟨e0, w1, w2⟩ := nxC_some hf
          obtain ⟨e', w3, w4⟩ := castK_ok (H0 := H0) (Z0 := Z0) (s := s) hB w2
          exact ⟨.inl e', w3, by rw [hxx]; exact hx, w4 (canon_ok hs hn w1)⟩
        · cases h
      · cases h
    · obtain ⟨o, q1, q2⟩ := fin_ok r h hs hf hx
      exact ⟨.inr o, q1, q2⟩
def WK (K : Caller) : List Fm → AExit → St → (AExit → St → Prop) → Prop
  | [], ex, s, Q => Q ex s
  | .c c :: r, ex, s, Q => match ex with
    | .normal => W K c s fun ex s' => WK K r ex s' Q
    | ex => WK K r ex s Q
  | .m id :: r, ex, s, Q => match ex with
    | .exit i => if i = id then WK K r .normal s Q else WK K r (.exit i) s Q
    | ex => WK K r ex s Q
theorem W.kseq {a b : ACode} {stk : List Fm} {Q : AExit → St → Prop} (h : W K a s fun ex s' => WK K (.c b :: stk) ex s' Q) : W K (.seq a b) s fun ex s' => WK K stk ex s' Q :=
  W.seq (h.mono fun ex s1 h => by cases ex <;> exact h)
theorem W.kblock {id : Nat} {c : ACode} {stk : List Fm} {Q : AExit → St → Prop} (h : W K c s fun ex s' => WK K (.m id :: stk) ex s' Q) : W K (.block id c) s fun ex s' => WK K stk ex s' Q :=
  W.block (h.mono fun ex s1 h => by cases ex <;> exact h)
theorem cst_bool {Z : Nat → Prop} {hv : Nat → Value} (h : SemD H0 Z0 A e s Z hv) {j : Nat} {b : Bool} (hl : look A.sl j = some (.v (.a (.cst (.bool b))))) : s.get j = .bool b := by
  have h1 : [s.get j] = [Lt.val (.bool b)] := h.sl j _ hl
  simpa [Lt.val] using h1
theorem skip_ok (h : Sem H0 Z0 A e s) (d : Option Nat) : Sem H0 Z0 ⟨A.ts, setS A.sl d .un, A.ob⟩ e (s.nx s.H d undef) := by
  obtain ⟨Z, hv, h⟩ := h
  exact ⟨Z, hv, h.put fun _ => rfl⟩
theorem know_bool (h : Sem H0 Z0 A e s) {j : Nat} {b : Bool} (hb : s.get j = .bool b) : Sem H0 Z0 ⟨A.ts, setS A.sl (some j) (.v (.a (.cst (.bool b)))), A.ob⟩ e s := by
  obtain ⟨Z, hv, h⟩ := h
  exact ⟨Z, hv, h.know (show [s.get j] = [Lt.val (.bool b)] by rw [hb]; rfl)⟩
theorem op_ok (hG : ∀ H, Kept H0 H → G H) {PT : List (PC K G)} {TT : Nat → Option Ty} {k : Nat} {d : Option Nat} {op : AOp} (h : Sem H0 Z0 A e s) {nx : Nx (frz A (preF PT A op))} (hn : trOp PT TT k (frz A (preF PT A op)) d op = some nx) {e' : Pe nx.B.ts} (he : nx.F e = some e') :
    ∃ v H', evOpr K ⟨d, op, none⟩ s = some (.normal, s.nx H' d v) ∧ (reads op = true → H' = s.H) ∧ (reads op = true → hfree op = false → eqV 3 v v = true) ∧ Sem H0 Z0 nx.B e' (s.nx H' d v) := by
  obtain ⟨Z, hv, h1⟩ := frz_ok h (preF PT A op)
  obtain ⟨v, H', a1, a2, a3, Z', hv', a4⟩ := trOp_ok h1 (hG _ h1.keep) hn he
  exact ⟨v, H', a1, a2, a3, Z', hv', a4⟩
theorem kindO_pan {PQ : List (PP K G)} {op : AOp} {t : Nat} (h : kindO PQ A op = .pan t) : ∃ x, op = .panic x ∧ opA A x = some (.a (.ifc t)) := by
  unfold kindO at h
  split at h
  · rename_i x
    split at h
    · rename_i t' hx
      cases h
      exact ⟨x, rfl, hx⟩
    · cases h
  · split at h
    · split at h <;> cases h
    · cases h
  · split at h <;> cases h
  · cases h
theorem kindO_call {PQ : List (PP K G)} {op : AOp} {p : PP K G} {args : List Operand} (h : kindO PQ A op = .callP p args) : ∃ f ar, op = .call (.func f) ar ∧ findQ PQ f = some p ∧ args = ar.toList := by
  unfold kindO at h
  split at h
  · split at h <;> cases h
  · rename_i f ar
    split at h
    · rename_i f
      split at h
      · rename_i p' hp
        cases h
        exact ⟨f, ar, rfl, hp, rfl⟩
      · cases h
    · cases h
  · split at h <;> cases h
  · cases h
theorem runO_ok (hG : ∀ H, Kept H0 H → G H) {PT : List (PC K G)} {TT : Nat → Option Ty} {PQ : List (PP K G)} {k : Nat} {β : Type} {pn : Nat → (A : AState) → Option (Pe A.ts → Option β)} {fn : (A : AState) → Option (Pe A.ts → Option β)} {o : β} {Q : St → Prop} {R : Nat → St → Prop}
    (hpn : ∀ (t : Nat) (B : AState) (F : Pe B.ts → Option β) (e' : Pe B.ts) (s' : St), pn t B = some F → Sem H0 Z0 B e' s' → F e' = some o → R t s')
    (hfn : ∀ (B : AState) (F : Pe B.ts → Option β) (e' : Pe B.ts) (s' : St), fn B = some F → Sem H0 Z0 B e' s' → F e' = some o → Q s') :
    ∀ (n : Nat) (l : List AOpr) (A : AState) (F : Pe A.ts → Option β) (e : Pe A.ts) (s : St), runO PT TT PQ k pn fn n l A = some F → Sem H0 Z0 A e s → F e = some o → WO K l s fun ex s' => (ex = .normal ∧ Q s') ∨ ∃ t, ex = .pan (.iface t (.agg #[])) ∧ R t s' := by
  intro n
  induction n with
  | zero => intro l A F e s h; simp [runO] at h
  | succ n ih =>
    intro l A F e s h hs hF
    cases l with
    | nil =>
      simp only [runO] at h
      exact WO.nil (.inl ⟨rfl, hfn A F e s h hs hF⟩)
    | cons a r =>
      simp only [runO] at h
      split at h
      · rename_i hg
        obtain ⟨dst, op, guard⟩ := a
        have hg' : guard = none := hg
        subst hg'
        split at h
        · rename_i t hk
          simp only at hk
          obtain ⟨x, rfl, hx⟩ := kindO_pan hk
          obtain ⟨Z, hv, hsd⟩ := hs
          have h1 : [s.env x] = [.iface t (.agg #[])] := opA_ok hsd hx
          simp only [List.cons.injEq, and_true] at h1
          exact WO.panic (by simp only [evOp, h1]) (.inr ⟨t, rfl, hpn t A F e s h ⟨Z, hv, hsd⟩ hF⟩)
        · cases h; cases hF
        · rename_i p args hk
          simp only at hk
          obtain ⟨f, ar, rfl, hf, rfl⟩ := kindO_call hk
          split at h
          · rename_i g F1 F2 hg1 h1 h2
            split at h
            · rename_i hown
              cases h
              have hF : (p.F k (g e)).bind (sumE (fun x => F1 (rsF p.res A.ts x e)) fun _ => F2 e) = some o := hF
              obtain ⟨x, w1, w2⟩ := Option.bind_eq_some_iff.1 hF
              obtain ⟨Z, hv, hsd⟩ := frz_ok hs (preQ A p ar.toList)
              obtain ⟨c1, c2⟩ := callP_ok (d := dst) (k := k) hsd (hG _ hsd.keep) hg1 hown
              have hev : evOp s.env s.H (.call (.func f) ar) = some (.call f (ar.toList.map s.env).toArray) := by
                have e1 : (#[] : Array Value) ++ ar.map s.env ++ #[] = (ar.toList.map s.env).toArray := by cases ar; simp
                simp only [evOp, St.env, e1]
              have hpf := findQ_f hf
              subst hpf
              cases x with
              | inl x =>
                obtain ⟨v, H', k1, Z', hv', k2⟩ := c1 x w1
                exact WO.call hev k1 (ih r _ F1 _ _ h1 ⟨Z', hv', k2⟩ w2)
              | inr x =>
                obtain ⟨H', k1, Z', hv', k2⟩ := c2 w1
                have e2 : s.nx H' none undef = { s with H := H' } := by rw [nx_eq]; rfl
                rw [e2] at k2
                exact WO.callp hev k1 (.inr ⟨p.t, rfl, hpn p.t _ F2 e _ h2 ⟨Z', hv', k2⟩ w2⟩)
            · cases h
          · cases h
        split at h
        · rename_i nx hnx
          split at h
          · rename_i F' hF'
            cases h
            obtain ⟨e', w1, w2⟩ := nxC_some hF
            obtain ⟨v, H', a1, _, _, a4⟩ := op_ok hG hs hnx w1
            have hr := ih r nx.B F' e' _ hF' a4 w2
            unfold WO
            rw [a1]
            exact hr
          · cases h
        · cases h
      · rename_i j want hg
        obtain ⟨dst, op, guard⟩ := a
        have hg' : guard = some (some j, want) := hg
        subst hg'
        obtain ⟨Z, hv, hsd⟩ := hs
        split at h
        · rename_i b hl
          have hb := cst_bool hsd hl
          split at h
          · rename_i hbw
            exact WO.yes hb hbw (ih _ A F e s h ⟨Z, hv, hsd⟩ hF)
          · rename_i hbw
            exact WO.no hb (by cases b <;> cases want <;> first | rfl | exact absurd rfl hbw) (ih _ ⟨A.ts, setS A.sl dst .un, A.ob⟩ F e _ h (skip_ok ⟨Z, hv, hsd⟩ dst) hF)
        · rename_i hl
          have hb : s.get j = undef := hsd.sl j _ hl
          exact WO.guardU hb (ih _ ⟨A.ts, setS A.sl dst .un, A.ob⟩ F e _ h (skip_ok ⟨Z, hv, hsd⟩ dst) hF)
        · split at h
          · rename_i f hf
            split at h
            · rename_i F1 F2 h1 h2
              cases h
              have hb : s.get j = .bool (f e) := exO_bool hsd hf
              have hF : (if f e = true then F1 e else F2 e) = some o := hF
              by_cases hfe : f e = true
              · rw [if_pos hfe] at hF
                rw [hfe] at hb
                exact ih _ ⟨A.ts, setS A.sl (some j) (.v (.a (.cst (.bool true)))), A.ob⟩ F1 e s h1 (know_bool ⟨Z, hv, hsd⟩ hb) hF
              · rw [if_neg hfe] at hF
                have hfe' : f e = false := by simpa using hfe
                rw [hfe'] at hb
                exact ih _ ⟨A.ts, setS A.sl (some j) (.v (.a (.cst (.bool false)))), A.ob⟩ F2 e s h2 (know_bool ⟨Z, hv, hsd⟩ hb) hF
            · cases h
          · cases h
      · cases h
theorem WO.mono' : ∀ {l : List AOpr} {s : St} {Q Q' : AExit → St → Prop}, WO K l s Q → (∀ ex s1, Q ex s1 → Q' ex s1) → WO K l s Q'
  | [], s, Q, Q', h, hq => by
    unfold WO at h ⊢
    exact hq _ _ h
  | o :: r, s, Q, Q', h, hq => by
    unfold WO at h ⊢
    split
    · rename_i s1 e1; rw [e1] at h; exact WO.mono' h hq
    · rename_i ex s1 hne e1
      rw [e1] at h
      cases ex with
      | normal => exact (hne rfl).elim
      | _ => exact hq _ _ h
    · rename_i e1; rw [e1] at h; exact h
def StD (d : DOpr) : Prop := (d.chain = true ∨ reads d.o.op = true) ∧ (d.chain = true ∨ hfree d.o.op = true ∨ d.o.dst.isSome = true)
theorem runD_ok (hG : ∀ H, Kept H0 H → G H) {PT : List (PC K G)} {TT : Nat → Option Ty} {PQ : List (PP K G)} {k : Nat} {β : Type} {fn : (A : AState) → Option (Pe A.ts → Option β)} {o : β} {Q : St → Prop} {I : Hp → Prop} (rd : Bool) (hI : rd = false → ∀ H, I H)
    (hfn : ∀ (B : AState) (F : Pe B.ts → Option β) (e' : Pe B.ts) (s' : St), fn B = some F → Sem H0 Z0 B e' s' → F e' = some o → Q s') :
    ∀ (n : Nat) (l : List DOpr) (A : AState) (F : Pe A.ts → Option β) (e : Pe A.ts) (s : St), (∀ d ∈ l, StD d ∧ (rd = true → reads d.o.op = true)) → I s.H → runO PT TT PQ k (fun _ _ => none) fn n (l.map DOpr.o) A = some F → Sem H0 Z0 A e s → F e = some o → WD K I l s Q := by
  intro n
  induction n with
  | zero => intro l A F e s _ _ h; simp [runO] at h
  | succ n ih =>
    intro l A F e s hst hi h hs hF
    cases l with
    | nil =>
      simp only [List.map_nil, runO] at h
      exact WD.nil (hfn A F e s h hs hF)
    | cons a r =>
      have hst1 := hst a List.mem_cons_self
      have hstr : ∀ d ∈ r, StD d ∧ (rd = true → reads d.o.op = true) := fun d hd => hst d (List.mem_cons_of_mem _ hd)
      obtain ⟨⟨dst, op, guard⟩, B, ch⟩ := a
      simp only [List.map_cons, runO] at h
      split at h
      · split at h
        · cases h
        · cases h; cases hF
        · split at h
          · rename_i h9
            cases h9
          · cases h
        split at h
        · rename_i nx hnx
          split at h
          · rename_i F' hF'
            cases h
            obtain ⟨e', w1, w2⟩ := nxC_some hF
            obtain ⟨v, H', a1, a2, a3, a4⟩ := op_ok hG hs hnx w1
            have hi' : I (s.nx H' dst v).H := by
              rw [nx_H]
              cases hrd : rd with
              | false => exact hI hrd _
              | true => rw [a2 (hst1.2 hrd)]; exact hi
            have hr := ih r nx.B F' e' _ hstr hi' hF' a4 w2
            unfold WD
            simp only
            rw [a1]
            refine ⟨hi', ?_, hr⟩
            simp only [Bool.or_eq_true]
            rcases hst1.1.1 with h1 | h1
            · exact .inl (.inl (.inl h1))
            · rcases hst1.1.2 with h2 | h2 | h2
              · exact .inl (.inl (.inl h2))
              · exact .inl (.inl (.inr h2))
              · cases hfr : hfree op with
                | true => exact .inl (.inl (.inr rfl))
                | false =>
                  refine .inr ?_
                  cases dst with
                  | none => cases h2
                  | some t =>
                    show eqV 3 ((s.nx H' (some t) v).get t) ((s.nx H' (some t) v).get t) = true
                    rw [nx_get, if_pos rfl]
                    exact a3 h1 hfr
          · cases h
        · cases h
      · rename_i j want
        obtain ⟨Z, hv, hsd⟩ := hs
        have hst' : ∀ d ∈ (⟨⟨dst, op, none⟩, B, ch⟩ :: r : List DOpr), StD d ∧ (rd = true → reads d.o.op = true) := fun d hd => by
          rcases List.mem_cons.1 hd with rfl | hd
          · exact hst1
          · exact hstr d hd
        split at h
        · rename_i b hl
          have hb := cst_bool hsd hl
          split at h
          · rename_i hbw
            exact WD.yes hb hbw (ih (⟨⟨dst, op, none⟩, B, ch⟩ :: r) A F e s hst' hi h ⟨Z, hv, hsd⟩ hF)
          · rename_i hbw
            exact WD.no hb (by cases b <;> cases want <;> first | rfl | exact absurd rfl hbw) hi (ih _ ⟨A.ts, setS A.sl dst .un, A.ob⟩ F e _ hstr (by rw [nx_H]; exact hi) h (skip_ok ⟨Z, hv, hsd⟩ dst) hF)
        · rename_i hl
          have hb : s.get j = undef := hsd.sl j _ hl
          exact WD.guardU hb hi (ih _ ⟨A.ts, setS A.sl dst .un, A.ob⟩ F e _ hstr (by rw [nx_H]; exact hi) h (skip_ok ⟨Z, hv, hsd⟩ dst) hF)
        · split at h
          · rename_i f hf
            split at h
            · rename_i F1 F2 h1 h2
              cases h
              have hb : s.get j = .bool (f e) := exO_bool hsd hf
              have hF : (if f e = true then F1 e else F2 e) = some o := hF
              by_cases hfe : f e = true
              · rw [if_pos hfe] at hF
                rw [hfe] at hb
                exact ih (⟨⟨dst, op, some (some j, want)⟩, B, ch⟩ :: r) ⟨A.ts, setS A.sl (some j) (.v (.a (.cst (.bool true)))), A.ob⟩ F1 e s hst hi h1 (know_bool ⟨Z, hv, hsd⟩ hb) hF
              · rw [if_neg hfe] at hF
                have hfe' : f e = false := by simpa using hfe
                rw [hfe'] at hb
                exact ih (⟨⟨dst, op, some (some j, want)⟩, B, ch⟩ :: r) ⟨A.ts, setS A.sl (some j) (.v (.a (.cst (.bool false)))), A.ob⟩ F2 e s hst hi h2 (know_bool ⟨Z, hv, hsd⟩ hb) hF
            · cases h
          · cases h
      · cases h
end
section
variable {H0 : Hp} {Z0 Z : Nat → Prop} {A : AState} {e : Pe A.ts} {s s0 : St} {hv : Nat → Value} {S : List Nat}
def iS (S : List Nat) (s0 : St) (G : Hp) : Prop := ∀ d, d ∈ S → ∀ c, blk (s0.get d) = some c → G.get c = s0.H.get c
theorem load_same (hs : SemD H0 Z0 A e s Z hv) {x : Operand} {j off d o' : Nat} (hx : opA A x = some (.a (.bp j off))) (hd : look A.sl d = some (.v (.a (.bp j o')))) (hdS : d ∈ S) (hfix : ∀ d, d ∈ S → s.get d = s0.get d) (h1 : iS S s0 s.H) {G : Hp} (hG : iS S s0 G) : loadO G (s.env x) = loadO s.H (s.env x) := by
  obtain ⟨_, b, e1, e2⟩ := opA_a hs hx
  have h3 : AtOK ⟨s.H, Z, hv⟩ e A.ob.length (.bp j o') [s.get d] := hs.sl d _ hd
  obtain ⟨_, b', e3, e4⟩ := h3
  simp only [List.cons.injEq, and_true] at e2 e4
  rw [e3] at e1
  cases e1
  have hb : blk (s0.get d) = some b := by rw [← hfix d hdS, e4]; rfl
  have hg : G.get b = s.H.get b := (hG d hdS _ hb).trans (h1 d hdS _ hb).symm
  rw [e2]
  simp only [loadO, hg]
theorem storeO_get {H H' : Hp} {n b o : Nat} {x : Value} (h : storeO H n x (.pointer (some ⟨b, o, none⟩)) = some H') {c : Nat} (hc : c ≠ b) : H'.get c = H.get c := by
  simp only [storeO] at h
  split at h
  · split at h
    · cases h
      rw [Hp.get_put, if_neg fun h => hc h.symm]
    · cases h
  · cases h
theorem hfree_reads {op : AOp} (h : hfree op = true) : reads op = true := by
  cases op <;> first | rfl | exact h | cases h
theorem fix_step {dst : Option Nat} (hd : dst.all (fun t => !S.contains t) = true) (hfix : ∀ d, d ∈ S → s.get d = s0.get d) (H' : Hp) (v : Value) : ∀ d, d ∈ S → (s.nx H' dst v).get d = s0.get d := by
  intro d hdS
  cases dst with
  | none => rw [nx_getn]; exact hfix d hdS
  | some t =>
    rw [nx_get, if_neg]
    · exact hfix d hdS
    · rintro rfl
      simp at hd
      exact hd hdS
theorem isBp_of {j d : Nat} (h : isBp A j d = true) : ∃ o, look A.sl d = some (.v (.a (.bp j o))) := by
  unfold isBp at h
  split at h
  · rename_i j' o hl
    have := of_decide_eq_true h
    subst this
    exact ⟨o, hl⟩
  · cases h
theorem evOpr_load {K : Caller} {t : Nat} {x : Operand} {v : Value} {H' : Hp} (h : evOpr K ⟨some t, .load x, none⟩ s = some (.normal, s.nx H' (some t) v)) : loadO s.H (s.env x) = some v := by
  unfold evOpr at h
  simp only [wanted_none, if_true, evOp] at h
  cases hl : loadO s.H (s.env x) with
  | none => rw [hl] at h; cases h
  | some w =>
    rw [hl] at h
    simp only [Option.map_some, Option.some.injEq, Prod.mk.injEq, true_and] at h
    have h2 := congrArg (fun z : St => z.get t) h
    simp only [nx_get, if_true] at h2
    rw [← h2]
    rw [gp, if_pos rfl]
theorem evOpr_store {K : Caller} {d : Option Nat} {n : Nat} {a x : Operand} {v : Value} {H' : Hp} (h : evOpr K ⟨d, .store n a x, none⟩ s = some (.normal, s.nx H' d v)) : storeO s.H n (s.env x) (s.env a) = some H' := by
  unfold evOpr at h
  simp only [wanted_none, if_true, evOp] at h
  cases hl : storeO s.H n (s.env x) (s.env a) with
  | none => rw [hl] at h; cases h
  | some w =>
    rw [hl] at h
    simp only [Option.map_some, Option.some.injEq, Prod.mk.injEq, true_and] at h
    have h2 := congrArg St.H h
    rw [nx_H, put_H] at h2
    rw [← h2]
theorem store_far (hs : SemD H0 Z0 A e s Z hv) {n : Nat} {x y : Operand} {j i off w : Nat} {H' : Hp} (hx : opA A x = some (.a (.ep j i off w))) (hf : S.all (farBp A j) = true) (h : storeO s.H n (s.env y) (s.env x) = some H') (hfix : ∀ d, d ∈ S → s.get d = s0.get d) (h1 : iS S s0 s.H) : iS S s0 H' := by
  intro d hdS c hc
  rw [List.all_eq_true] at hf
  have hfd := hf d hdS
  unfold farBp at hfd
  split at hfd
  · rename_i j' o hl
    simp only [Bool.and_eq_true, decide_eq_true_eq] at hfd
    obtain ⟨⟨hne, hL⟩, hL'⟩ := hfd
    obtain ⟨_, b', e3, e4⟩ := (show AtOK ⟨s.H, Z, hv⟩ e A.ob.length (.bp j' o) [s.get d] from hs.sl d _ hl)
    obtain ⟨_, xx, b, o2, sp, len, k, q1, q2, q3, q4, q5⟩ := opA_a hs hx
    simp only [List.cons.injEq, and_true] at e4 q5
    rw [← hfix d hdS, e4] at hc
    cases hc
    rw [q5] at h
    rw [storeO_get h, h1 d hdS _ (by rw [← hfix d hdS, e4]; rfl)]
    rintro rfl
    cases ho1 : A.ob[j]? with
    | none => rw [ho1] at hL; cases hL
    | some o1 =>
      cases ho3 : A.ob[j']? with
      | none => rw [ho3] at hL'; cases hL'
      | some o3 =>
        rw [ho1] at hL
        rw [ho3] at hL'
        refine hs.dj j j' o1 o3 _ hne ho1 ho3 hL hL' ?_ (by rw [show hv j' = _ from e3]; rfl)
        rw [show hv j = _ from q2]; rfl
  · cases hfd
end
section
variable {K : Caller} {G : Hp → Prop} {H0 : Hp} {Z0 : Nat → Prop}
theorem runF_ok (hG : ∀ H, Kept H0 H → G H) {PT : List (PC K G)} {TT : Nat → Option Ty} {PQ : List (PP K G)} {k : Nat} {β : Type} {fn : (A : AState) → Option (Pe A.ts → Option β)} {o : β} {Q : St → Prop} {S : List Nat} {s0 : St}
    (hfn : ∀ (B : AState) (F : Pe B.ts → Option β) (e' : Pe B.ts) (s' : St), fn B = some F → Sem H0 Z0 B e' s' → F e' = some o → Q s') :
    ∀ (n : Nat) (l : List DOpr) (A : AState) (F : Pe A.ts → Option β) (e : Pe A.ts) (s : St), (∀ d ∈ l, StD d) → (∀ d, d ∈ S → s.get d = s0.get d) → iS S s0 s.H → chkO PT TT k S n (l.map DOpr.o) A = true → runO PT TT PQ k (fun _ _ => none) fn n (l.map DOpr.o) A = some F → Sem H0 Z0 A e s → F e = some o → WF K (iS S s0) l s Q := by
  intro n
  induction n with
  | zero => intro l A F e s _ _ _ _ h; simp [runO] at h
  | succ n ih =>
    intro l A F e s hst hfix hi hc h hs hF
    cases l with
    | nil =>
      simp only [List.map_nil, runO] at h
      exact WF.nil (hfn A F e s h hs hF)
    | cons a r =>
      have hst1 := hst a List.mem_cons_self
      have hstr : ∀ d ∈ r, StD d := fun d hd => hst d (List.mem_cons_of_mem _ hd)
      obtain ⟨⟨dst, op, guard⟩, B, ch⟩ := a
      simp only [List.map_cons, runO] at h
      simp only [List.map_cons, chkO] at hc
      split at h
      · simp only at hc
        split at h
        · cases h
        · cases h; cases hF
        · split at h
          · rename_i h9
            cases h9
          · cases h
        split at h
        · rename_i nx hnx
          rw [hnx] at hc
          simp only [Bool.and_eq_true] at hc
          obtain ⟨⟨hc1, hc2⟩, hc3⟩ := hc
          split at h
          · rename_i F' hF'
            cases h
            obtain ⟨e', w1, w2⟩ := nxC_some hF
            obtain ⟨v, H', a1, a2, a3, a4⟩ := op_ok hG hs hnx w1
            obtain ⟨Z1, hv1, hz⟩ := frz_ok hs (preF PT A op)
            have key : iS S s0 H' ∧ (ch = true ∨ hfree op = true ∨ ∀ G, iS S s0 G → okAt ⟨⟨dst, op, none⟩, B, ch⟩ ⟨s, (s.nx H' dst v).getO dst⟩ G = true) := by
              obtain ⟨⟨hcr, hds⟩⟩ : Nonempty (StD ⟨⟨dst, op, none⟩, B, ch⟩) := ⟨hst1⟩
              unfold safeO at hc2
              split at hc2
              · split at hc2
                · rename_i x _ j off hx
                  rw [a2 rfl]
                  by_cases hch : ch = true
                  · exact ⟨hi, .inl hch⟩
                  refine ⟨hi, .inr (.inr fun G0 hG0 => ?_)⟩
                  rw [List.any_eq_true] at hc2
                  obtain ⟨d, hdS, hbp⟩ := hc2
                  obtain ⟨o', hl⟩ := isBp_of hbp
                  have hsame := load_same hz hx hl hdS hfix hi hG0
                  rcases hds with h | h | h
                  · exact absurd h hch
                  · cases h
                  · cases dst with
                    | none => cases h
                    | some t =>
                      have hv := evOpr_load a1
                      unfold okAt
                      simp only [wanted_none, if_true, evOp, hsame, hv, Option.map_some]
                      show eqV 3 v ((s.nx s.H (some t) v).get t) = true
                      rw [nx_get, if_pos rfl]
                      exact a3 rfl rfl
                · cases hc2
              · split at hc2
                · rename_i n0 a0 y0 _ j i0 off w hx
                  refine ⟨store_far hz hx hc2 (evOpr_store a1) hfix hi, ?_⟩
                  rcases hcr with h | h
                  · exact .inl h
                  · cases h
                · cases hc2
              · rw [a2 (hfree_reads hc2)]
                exact ⟨hi, .inr (.inl hc2)⟩
            obtain ⟨hi', hk⟩ := key
            have hr := ih r nx.B F' e' _ hstr (fix_step hc1 hfix H' v) (by rw [nx_H]; exact hi') hc3 hF' a4 w2
            unfold WF
            simp only
            rw [a1]
            exact ⟨by rw [nx_H]; exact hi', hk, hr⟩
          · cases h
        · cases h
      · rename_i j want
        obtain ⟨Z, hv, hsd⟩ := hs
        have hst' : ∀ d ∈ (⟨⟨dst, op, none⟩, B, ch⟩ :: r : List DOpr), StD d := fun d hd => by
          rcases List.mem_cons.1 hd with rfl | hd
          · exact hst1
          · exact hstr d hd
        simp only at hc
        split at h
        · rename_i b hl
          simp only [hl] at hc
          have hb := cst_bool hsd hl
          split at h
          · rename_i hbw
            rw [if_pos hbw] at hc
            exact WF.yes hb hbw (ih (⟨⟨dst, op, none⟩, B, ch⟩ :: r) A F e s hst' hfix hi hc h ⟨Z, hv, hsd⟩ hF)
          · rename_i hbw
            rw [if_neg hbw, Bool.and_eq_true] at hc
            exact WF.no hb (by cases b <;> cases want <;> first | rfl | exact absurd rfl hbw) hi (ih _ ⟨A.ts, setS A.sl dst .un, A.ob⟩ F e _ hstr (fix_step hc.1 hfix _ _) (by rw [nx_H]; exact hi) hc.2 h (skip_ok ⟨Z, hv, hsd⟩ dst) hF)
        · rename_i hl
          simp only [hl, Bool.and_eq_true] at hc
          have hb : s.get j = undef := hsd.sl j _ hl
          exact WF.guardU hb hi (ih _ ⟨A.ts, setS A.sl dst .un, A.ob⟩ F e _ hstr (fix_step hc.1 hfix _ _) (by rw [nx_H]; exact hi) hc.2 h (skip_ok ⟨Z, hv, hsd⟩ dst) hF)
        · rename_i hn1 hn2
          split at hc
          · rename_i b hl; exact absurd hl (hn1 b)
          · rename_i hl; exact absurd hl hn2
          rw [Bool.and_eq_true] at hc
          split at h
          · rename_i f hf
            split at h
            · rename_i F1 F2 h1 h2
              cases h
              have hb : s.get j = .bool (f e) := exO_bool hsd hf
              have hF : (if f e = true then F1 e else F2 e) = some o := hF
              by_cases hfe : f e = true
              · rw [if_pos hfe] at hF
                rw [hfe] at hb
                exact ih (⟨⟨dst, op, some (some j, want)⟩, B, ch⟩ :: r) ⟨A.ts, setS A.sl (some j) (.v (.a (.cst (.bool true)))), A.ob⟩ F1 e s hst hfix hi hc.1 h1 (know_bool ⟨Z, hv, hsd⟩ hb) hF
              · rw [if_neg hfe] at hF
                have hfe' : f e = false := by simpa using hfe
                rw [hfe'] at hb
                exact ih (⟨⟨dst, op, some (some j, want)⟩, B, ch⟩ :: r) ⟨A.ts, setS A.sl (some j) (.v (.a (.cst (.bool false)))), A.ob⟩ F2 e s hst hfix hi hc.2 h2 (know_bool ⟨Z, hv, hsd⟩ hb) hF
            · cases h
          · cases h
      · cases h
end
section
variable {H0 : Hp} {Z0 : Nat → Prop} {A : AState} {e : Pe A.ts} {s : St} {K : Caller} {G : Hp → Prop}
theorem okD_ok (hG : ∀ H, Kept H0 H → G H) {PT : List (PC K G)} {TT : Nat → Option Ty} {PQ : List (PP K G)} {k : Nat} {β : Type} {fn : (A : AState) → Option (Pe A.ts → Option β)} {o : β} {Q : St → Prop}
    (hfn : ∀ (B : AState) (F : Pe B.ts → Option β) (e' : Pe B.ts) (s' : St), fn B = some F → Sem H0 Z0 B e' s' → F e' = some o → Q s')
    {l : List DOpr} {F : Pe A.ts → Option β} (hl : okD PT TT k A l = true) (h : runO PT TT PQ k (fun _ _ => none) fn (3 * l.length + 1) (l.map DOpr.o) A = some F) (hs : Sem H0 Z0 A e s) (hF : F e = some o) : W K (.drawn l) s fun ex s' => ex = .normal ∧ Q s' := by
  unfold okD at hl
  have hfn' : ∀ (B : AState) (F : Pe B.ts → Option β) (e' : Pe B.ts) (s' : St), fn B = some F → Sem H0 Z0 B e' s' → F e' = some o → AExit.normal = .normal ∧ Q s' := fun B F e' s' h1 h2 h3 => ⟨rfl, hfn B F e' s' h1 h2 h3⟩
  by_cases hr : rigid l = true
  · exact W.wd hr (runD_ok (I := fun _ => True) (Q := fun s' => AExit.normal = .normal ∧ Q s') hG false (fun _ _ => trivial) hfn' _ l A F e s (fun d hd => by
      obtain ⟨i, hi, rfl⟩ := List.getElem_of_mem hd
      exact ⟨steady_at (rigid_steady hr) (List.getElem?_eq_getElem hi), fun h => by cases h⟩) trivial h hs hF)
  · have hr' : rigid l = false := by simpa using hr
    rw [hr', Bool.false_or, Bool.and_eq_true, Bool.or_eq_true] at hl
    obtain ⟨hst, hl⟩ := hl
    rcases hl with hl | hl
    case inr =>
      exact W.wf (I := iS (bpS A l) s) (Q := fun ex s' => ex = .normal ∧ Q s') hst (fun d _ c _ => rfl) (runF_ok (Q := fun s' => AExit.normal = .normal ∧ Q s') hG hfn' _ l A F e s (fun d hd => by
        obtain ⟨i, hi, rfl⟩ := List.getElem_of_mem hd
        exact steady_at hst (List.getElem?_eq_getElem hi)) (fun _ _ => rfl) (fun d _ c _ => rfl) hl h hs hF)
    rw [List.all_eq_true] at hl
    replace hl : steady l = true ∧ ∀ x ∈ l, reads x.o.op = true := ⟨hst, hl⟩
    exact W.wq hl.1 (runD_ok (I := fun H => H = s.H) (Q := fun s' => AExit.normal = .normal ∧ Q s') hG true (fun h => by cases h) hfn' _ l A F e s (fun d hd => by
      obtain ⟨i, hi, e1⟩ := List.getElem_of_mem hd
      subst e1
      exact ⟨steady_at hl.1 (List.getElem?_eq_getElem hi), fun _ => hl.2 _ (List.getElem_mem hi)⟩) rfl h hs hF)
theorem kn_ok {Z : Nat → Prop} {hv : Nat → Value} (h : SemD H0 Z0 A e s Z hv) {x : Operand} {b : Bool} (hx : s.env x = .bool b) : Sem H0 Z0 (kn A x b) e s := by
  cases x with
  | tmp j => exact know_bool ⟨Z, hv, h⟩ hx
  | const v => exact ⟨Z, hv, h⟩
  | global g => exact ⟨Z, hv, h⟩
  | func f => exact ⟨Z, hv, h⟩
theorem outs_ok {β : Type} {go : (h : Xh) → Option (Pe h.B.ts → Option β)} {P : AExit → St → Prop} {o : β} : ∀ {X : List Xh} {g : Out X → Option β} {x : Out X} {ex : AExit} {s : St}, outs go X = some g → g x = some o → OutQ H0 Z0 X x ex s →
    (∀ (h : Xh) (f : Pe h.B.ts → Option β) (e : Pe h.B.ts), go h = some f → f e = some o → exOK h.x ex → Sem H0 Z0 h.B e s → P ex s) → P ex s
  | [], g, x, ex, s, h, hg, hq, hp => nomatch x
  | h0 :: r, g, x, ex, s, h, hg, hq, hp => by
    simp only [outs] at h
    split at h
    · rename_i f g' hf hg'
      cases h
      cases x with
      | inl e => exact hp h0 f e hf hg hq.1 hq.2
      | inr x => exact outs_ok hg' hg hq hp
    · cases h
theorem loop_ok {c : ACode} {h : Lh} {F : Pe h.B.ts → Option (Out (⟨.n, h.keep, h.B⟩ :: h.X))} {P : AExit → St → Prop}
    (body : ∀ (e : Pe h.B.ts) (s : St) o, Sem H0 Z0 h.B e s → F e = some o → W K c s fun ex s' => OutQ H0 Z0 (⟨.n, h.keep, h.B⟩ :: h.X) o ex s')
    : ∀ (k : Nat) (e : Pe h.B.ts) (s : St) (o : Out h.X), Sem H0 Z0 h.B e s → iter F k e = some o → (∀ ex s', ex ≠ .normal → OutQ H0 Z0 h.X o ex s' → P ex s') → (∀ x ∈ h.X, x.x ≠ .n) → W K (.loop c) s P := by
  intro k
  induction k with
  | zero => intro e s o _ h; simp [iter] at h
  | succ k ih =>
    intro e s o hs hi hp hX
    simp only [iter] at hi
    split at hi
    · rename_i e' he
      refine W.loop1 ((body e s _ hs he).mono fun ex s' hq => ?_)
      obtain ⟨h1, h2⟩ := hq
      cases ex with
      | normal => exact ih e' s' o h2 hi hp hX
      | _ => exact h1.elim
    · rename_i o' he
      cases hi
      refine W.loop1 ((body e s _ hs he).mono fun ex s' hq => ?_)
      have hq' : OutQ H0 Z0 h.X o ex s' := hq
      have hne : ex ≠ .normal := by
        rintro rfl
        have : ∀ (X : List Xh) (o : Out X), (∀ x ∈ X, x.x ≠ .n) → OutQ H0 Z0 X o .normal s' → False := by
          intro X
          induction X with
          | nil => intro o _ h; exact nomatch o
          | cons x X ih =>
            intro o hX hq
            cases o with
            | inl e =>
              have h1 := hq.1
              have := hX x List.mem_cons_self
              cases hx : x.x with
              | n => exact this hx
              | x i => rw [hx] at h1; exact h1
              | r => rw [hx] at h1; exact h1
              | p t => rw [hx] at h1; exact h1
            | inr o => exact ih o (fun x hx => hX x (List.mem_cons_of_mem _ hx)) hq
        exact this _ _ hX hq'
      cases ex with
      | normal => exact absurd rfl hne
      | exit i => exact hp _ _ hne hq'
      | ret => exact hp _ _ hne hq'
      | pan v => exact hp _ _ hne hq'
    · cases hi
end
theorem noN_ok : ∀ {X : List Xh}, noN X = true → ∀ x ∈ X, x.x ≠ .n
  | [], _, x, hx => by cases hx
  | h :: r, hn, x, hx => by
    simp only [noN, Bool.and_eq_true, bne_iff_ne, ne_eq] at hn
    rcases List.mem_cons.1 hx with rfl | hx
    · exact hn.1
    · exact noN_ok hn.2 x hx
section
variable {K : Caller} {G : Hp → Prop} {H0 : Hp} {Z0 : Nat → Prop}
theorem outQ_ne : ∀ {X : List Xh} {o : Out X} {ex : AExit} {s : St}, noN X = true → OutQ H0 Z0 X o ex s → ex ≠ .normal
  | [], o, _, _, _, _ => nomatch o
  | h :: r, .inl e, ex, s, hn, hq => by
    obtain ⟨h1, _⟩ := hq
    rintro rfl
    have h2 := noN_ok hn h List.mem_cons_self
    cases hx : h.x with
    | n => exact h2 hx
    | x i => rw [hx] at h1; exact h1
    | r => rw [hx] at h1; exact h1
    | p t => rw [hx] at h1; exact h1
  | h :: r, .inr o, ex, s, hn, hq => by
    simp only [noN, Bool.and_eq_true] at hn
    exact outQ_ne hn.2 hq
theorem run_ok (hG : ∀ H, Kept H0 H → G H) {PT : List (PC K G)} {TT : Nat → Option Ty} {PQ : List (PP K G)} {LT : List Lh} {k : Nat} : ∀ (n : Nat),
    (∀ (c : ACode) (stk : List Fm) (A : AState) (β : Type) (X : List Xh) (κ : Out X → Option β) (F : Pe A.ts → Option β) (e : Pe A.ts) (s : St) (o : β), run PT TT PQ LT k n c stk A X κ = some F → Sem H0 Z0 A e s → F e = some o → W K c s fun ex s' => WK K stk ex s' (OutK H0 Z0 X κ o)) ∧
    (∀ (x : Xt) (stk : List Fm) (A : AState) (β : Type) (X : List Xh) (κ : Out X → Option β) (F : Pe A.ts → Option β) (e : Pe A.ts) (s : St) (o : β) (ex : AExit), exi PT TT PQ LT k n x stk A X κ = some F → Sem H0 Z0 A e s → F e = some o → exOK x ex → WK K stk ex s (OutK H0 Z0 X κ o)) := by
  intro n
  induction n with
  | zero => exact ⟨fun c stk A β X κ F e s o h => by simp [run] at h, fun x stk A β X κ F e s o ex h => by simp [exi] at h⟩
  | succ n ih =>
    obtain ⟨ih1, ih2⟩ := ih
    refine ⟨fun c stk A β X κ F e s o h hs hF => ?_, fun x stk A β X κ F e s o ex h hs hF hx => ?_⟩
    · cases c with
      | skip =>
        simp only [run] at h
        exact W.skip (ih2 .n stk A β X κ F e s o .normal h hs hF trivial)
      | ops l =>
        simp only [run] at h
        refine W.wo ?_
        have := runO_ok (Q := fun s' => WK K stk .normal s' (OutK H0 Z0 X κ o)) (R := fun t s' => WK K stk (.pan (.iface t (.agg #[]))) s' (OutK H0 Z0 X κ o)) hG (fun t B F' e' s' h1 h2 h3 => ih2 (.p t) stk B β X κ F' e' s' o _ h1 h2 h3 rfl) (fun B F' e' s' h1 h2 h3 => ih2 .n stk B β X κ F' e' s' o .normal h1 h2 h3 trivial) _ l A F e s h hs hF
        exact WO.mono' this fun ex s1 h12 => by
          rcases h12 with ⟨h1, h2⟩ | ⟨t, h1, h2⟩
          · subst h1; exact h2
          · subst h1; exact h2
      | drawn l =>
        simp only [run] at h
        split at h
        · rename_i hl
          exact (okD_ok (Q := fun s' => WK K stk .normal s' (OutK H0 Z0 X κ o)) hG (fun B F' e' s' h1 h2 h3 => ih2 .n stk B β X κ F' e' s' o .normal h1 h2 h3 trivial) hl h hs hF).mono fun ex s1 ⟨h1, h2⟩ => by subst h1; exact h2
        · cases h
      | drawnP l => simp only [run] at h; cases h
      | seq a b =>
        simp only [run] at h
        split at h
        · rename_i lh hlh
          split at h
          · rename_i F1 F2 g h1 h2 h3
            split at h
            · rename_i hno
              cases h
              obtain ⟨o1, w1, w2⟩ := Option.bind_eq_some_iff.1 hF
              refine W.kseq ((ih1 a [] A _ (⟨.n, lh.keep, lh.B⟩ :: lh.X) some F1 e s o1 h1 hs w1).mono fun ex s' hq => ?_)
              obtain ⟨o', q1, q2⟩ := hq
              cases q1
              cases o1 with
              | inl e' =>
                obtain ⟨q3, q4⟩ := q2
                cases ex with
                | normal => exact ih1 b stk lh.B β X κ F2 e' s' o h2 q4 w2
                | _ => exact q3.elim
              | inr o2 =>
                have hne : ex ≠ .normal := outQ_ne hno q2
                have hw := outs_ok (P := fun ex s' => WK K stk ex s' (OutK H0 Z0 X κ o)) h3 w2 q2 fun h f e hgo hf hex hsem => ih2 h.x stk h.B β X κ f e s' o ex hgo hsem hf hex
                cases ex with
                | normal => exact absurd rfl hne
                | _ => exact hw
            · cases h
          · cases h
        · exact W.kseq (ih1 a (.c b :: stk) A β X κ F e s o h hs hF)
      | cond x a b =>
        simp only [run] at h
        split at h
        · rename_i t hx
          obtain ⟨Z, hv, hsd⟩ := hs
          have hb : s.env x = .bool t := by
            have : [s.env x] = [Lt.val (.bool t)] := opA_ok hsd hx
            simpa [Lt.val] using this
          cases t with
          | true => exact W.condT hb (ih1 a stk A β X κ F e s o h ⟨Z, hv, hsd⟩ hF)
          | false => exact W.condF hb (ih1 b stk A β X κ F e s o h ⟨Z, hv, hsd⟩ hF)
        · split at h
          · rename_i f F1 F2 hf h1 h2
            cases h
            have hF : (if f e = true then F1 e else F2 e) = some o := hF
            obtain ⟨Z, hv, hsd⟩ := hs
            have hb := exO_bool hsd hf
            by_cases hfe : f e = true
            · rw [if_pos hfe] at hF
              rw [hfe] at hb
              exact W.condT hb (ih1 a stk (kn A x true) β X κ F1 e s o h1 (kn_ok hsd hb) hF)
            · rw [if_neg hfe] at hF
              have hfe' : f e = false := by simpa using hfe
              rw [hfe'] at hb
              exact W.condF hb (ih1 b stk (kn A x false) β X κ F2 e s o h2 (kn_ok hsd hb) hF)
          · cases h
      | block id c =>
        simp only [run] at h
        exact W.kblock (ih1 c (.m id :: stk) A β X κ F e s o h hs hF)
      | loop c =>
        simp only [run] at h
        split at h
        · rename_i i hi
          split at h
          · rename_i lh hlh
            split at h
            · rename_i nx F1 g h1 h2 h3
              split at h
              · rename_i hB
                split at h
                · rename_i hno
                  cases h
                  obtain ⟨e0, w3, w1⟩ := nxC_some hF
                  obtain ⟨e', w2, w4⟩ := castK_ok (H0 := H0) (Z0 := Z0) (s := s) hB w1
                  obtain ⟨o1, w5, w6⟩ := Option.bind_eq_some_iff.1 w2
                  have hs' := w4 (canon_ok hs h1 w3)
                  exact loop_ok (P := fun ex s' => WK K stk ex s' (OutK H0 Z0 X κ o)) (fun e s o hs hf => (ih1 c [] lh.B _ (⟨.n, lh.keep, lh.B⟩ :: lh.X) some F1 e s o h2 hs hf).mono fun ex s' ⟨o', q1, q2⟩ => by cases q1; exact q2) k e' s o1 hs' w5
                    (fun ex s' _ hq => outs_ok (P := fun ex s' => WK K stk ex s' (OutK H0 Z0 X κ o)) h3 w6 hq fun h f e hgo hf hex hsem => ih2 h.x stk h.B β X κ f e s' o ex hgo hsem hf hex) (noN_ok hno)
                · cases h
              · cases h
            · cases h
          · cases h
        · cases h
      | exit id =>
        simp only [run] at h
        exact W.exit (ih2 (.x id) stk A β X κ F e s o (.exit id) h hs hF rfl)
      | ret =>
        simp only [run] at h
        exact W.ret (ih2 .r stk A β X κ F e s o .ret h hs hF trivial)
    · cases stk with
      | nil =>
        simp only [exi] at h
        exact fin_ok X h hs hF hx
      | cons fm r =>
        cases fm with
        | c c =>
          cases x with
          | n =>
            simp only [exi] at h
            cases ex with
            | normal => exact ih1 c r A β X κ F e s o h hs hF
            | _ => exact hx.elim
          | x i =>
            simp only [exi] at h
            cases ex with
            | exit j => exact ih2 (.x i) r A β X κ F e s o (.exit j) h hs hF hx
            | _ => exact hx.elim
          | r =>
            simp only [exi] at h
            cases ex with
            | ret => exact ih2 .r r A β X κ F e s o .ret h hs hF hx
            | _ => exact hx.elim
          | p t =>
            simp only [exi] at h
            cases ex with
            | pan v => exact ih2 (.p t) r A β X κ F e s o (.pan v) h hs hF hx
            | _ => exact hx.elim
        | m j =>
          cases x with
          | n =>
            simp only [exi] at h
            cases ex with
            | normal => exact ih2 .n r A β X κ F e s o .normal h hs hF hx
            | _ => exact hx.elim
          | x i =>
            cases ex with
            | exit i' =>
              have hx' : i = i' := hx
              subst hx'
              show if i = j then WK K r .normal s _ else WK K r (.exit i) s _
              simp only [exi] at h
              split at h
              · rename_i hij
                rw [if_pos hij]
                exact ih2 .n r A β X κ F e s o .normal h hs hF trivial
              · rename_i hij
                rw [if_neg hij]
                exact ih2 (.x i) r A β X κ F e s o (.exit i) h hs hF rfl
            | _ => exact hx.elim
          | r =>
            simp only [exi] at h
            cases ex with
            | ret => exact ih2 .r r A β X κ F e s o .ret h hs hF hx
            | _ => exact hx.elim
          | p t =>
            simp only [exi] at h
            cases ex with
            | pan v => exact ih2 (.p t) r A β X κ F e s o (.pan v) h hs hF hx
            | _ => exact hx.elim
end
end Go.Proofs.YtehbekgmemebjaaDoorEv
