import Derived.Test.YtehbekgmemebjaaDoorEvX
namespace Go.Proofs.YtehbekgmemebjaaDoorEv
open Go
set_option linter.unusedVariables false
set_option linter.unusedSimpArgs false
variable {k : Caller} {s : St}
def rigAt (l : List DOpr) (i : Nat) (d : DOpr) : Bool := (List.range (cIdx l l.length + 1)).all fun m => !stageOK l i d.B m || m == cIdx l i
def WG (k : Caller) (l0 : List DOpr) (I : Hp → Prop) : Nat → List DOpr → St → (St → Prop) → Prop
  | _, [], s, Q => Q s
  | i, d :: r, s, Q => match evOpr k d.o s with
    | some (.normal, s1) => I s1.H ∧ (d.chain = true ∨ hfree d.o.op = true ∨ (rigAt l0 i d = true ∧ eqV 3 (s1.getO d.o.dst) (s1.getO d.o.dst) = true) ∨ ∀ G, I G → okAt d ⟨s, s1.getO d.o.dst⟩ G = true) ∧ WG k l0 I (i + 1) r s1 Q
    | _ => False
theorem WG.run {l : List DOpr} (hg : steady l = true) {I : Hp → Prop} {Q : St → Prop} : ∀ (r pre : List DOpr) (x : DSt), (∀ G ∈ x.Gs, I G) → l = pre ++ r → x.pan = none → x.Gs.head? = some x.s.H → x.rs.length = pre.length → x.Gs.length = cIdx l pre.length + 1 →
    (∀ i d, i < pre.length → l[i]? = some d → ∃ q, x.rs.reverse[i]? = some (some q) ∧ x.Gs.reverse[cIdx l i]? = some q.s.H ∧ (d.chain = true ∨ hfree d.o.op = true ∨ (rigAt l i d = true ∧ okAt d q q.s.H = true) ∨ ∀ G, I G → okAt d q G = true)) → WG k l I pre.length r x.s Q →
    ∃ y, runD k pre.length r x = some y ∧ (∀ G ∈ y.Gs, I G) ∧ y.pan = none ∧ Q y.s ∧ y.rs.length = l.length ∧ y.Gs.length = cIdx l l.length + 1 ∧
      (∀ i d, i < l.length → l[i]? = some d → ∃ q, y.rs.reverse[i]? = some (some q) ∧ y.Gs.reverse[cIdx l i]? = some q.s.H ∧ (d.chain = true ∨ hfree d.o.op = true ∨ (rigAt l i d = true ∧ okAt d q q.s.H = true) ∨ ∀ G, I G → okAt d q G = true)) := by
  intro r
  induction r with
  | nil =>
    intro pre x hGI hl hp hH hr hG hI h
    have : l = pre := by rw [hl]; simp
    subst this
    exact ⟨x, rfl, hGI, hp, h, hr, hG, hI⟩
  | cons d r ih =>
    intro pre x hGI hl hp hH hr hG hI h
    have hd : l[pre.length]? = some d := by rw [hl]; simp
    have hlt := (List.getElem?_eq_some_iff.1 hd).1
    simp only [WG] at h
    split at h
    case h_2 => exact h.elim
    rename_i s1 he
    obtain ⟨hi0, hc, h⟩ := h
    have hstep : stepD k pre.length d x = some { s := s1, Gs := if d.chain then s1.H :: x.Gs else x.Gs, rs := some ⟨x.s, s1.getO d.o.dst⟩ :: x.rs, pan := none } := by
      unfold stepD
      simp only [hp, he]
    have hci : cIdx l (pre.length + 1) = cIdx l pre.length + if d.chain then 1 else 0 := by
      simp only [cIdx, hd, Option.any_some]
    obtain ⟨r1, r2⟩ := steady_at hg hd
    have hsame : d.chain = false → s1.H = x.s.H := fun hch => by
      rcases r1 with r1 | r1
      · rw [hch] at r1; cases r1
      · exact (evOpr_reads_ok r1 he).1
    have hgl : ∀ (j : Nat) (g : Hp), x.Gs.reverse[j]? = some g → ({ s := s1, Gs := if d.chain then s1.H :: x.Gs else x.Gs, rs := some ⟨x.s, s1.getO d.o.dst⟩ :: x.rs, pan := none } : DSt).Gs.reverse[j]? = some g := by
      intro j g hj
      cases hch : d.chain with
      | true =>
        simp only [if_true, List.reverse_cons]
        rw [List.getElem?_append_left (List.getElem?_eq_some_iff.1 hj).1]
        exact hj
      | false => simpa using hj
    obtain ⟨y, hy, rest⟩ := ih (pre ++ [d]) { s := s1, Gs := if d.chain then s1.H :: x.Gs else x.Gs, rs := some ⟨x.s, s1.getO d.o.dst⟩ :: x.rs, pan := none } (by
        intro G hG'
        cases hch : d.chain with
        | true =>
          simp only [hch, if_true, List.mem_cons] at hG'
          rcases hG' with rfl | hG'
          · exact hi0
          · exact hGI G hG'
        | false =>
          simp only [hch, Bool.false_eq_true, if_false] at hG'
          exact hGI G hG') (by rw [hl]; simp) rfl (by
        cases hch : d.chain with
        | true => rfl
        | false => simp only [Bool.false_eq_true, if_false]; rw [hsame hch]; exact hH) (by simp [hr]) (by
        rw [List.length_append, List.length_singleton, hci]
        cases hch : d.chain with
        | true => simp [hG]
        | false => simp [hG]) (by
        intro i d' hi hd'
        rw [List.length_append, List.length_singleton] at hi
        by_cases e : i = pre.length
        · subst e
          rw [hd] at hd'; cases hd'
          refine ⟨⟨x.s, s1.getO d.o.dst⟩, by simp [hr], hgl _ _ ?_, ?_⟩
          · rw [List.getElem?_reverse (by omega), hG]
            have e0 : cIdx l pre.length + 1 - 1 - cIdx l pre.length = 0 := by omega
            rw [e0, ← List.head?_eq_getElem?]
            exact hH
          · rcases hc with hc | hc | ⟨hg1, hc⟩ | hc
            · exact .inl hc
            · exact .inr (.inl hc)
            · rcases r1 with r1 | r1
              · exact .inl r1
              rcases r2 with r2 | r2 | r2
              · exact .inl r2
              · exact .inr (.inl r2)
              refine .inr (.inr (.inl ⟨hg1, ?_⟩))
              unfold okAt
              split
              · rename_i hw
                obtain ⟨v, hv, rfl⟩ := (evOpr_reads_ok r1 he).2 hw
                rw [hv]
                cases hds : d.o.dst with
                | none => rw [hds] at r2; cases r2
                | some t =>
                  rw [hds] at hc
                  have hv2 : (x.s.put (some t) v).getO (some t) = v := by
                    show (x.s.put (some t) v).get t = v
                    rw [gp, if_pos rfl]
                  rw [hv2] at hc ⊢
                  exact hc
              · rfl
            · exact .inr (.inr (.inr hc))
        · obtain ⟨q, a, b, c⟩ := hI i d' (by omega) hd'
          exact ⟨q, by simp only [List.reverse_cons]; rw [List.getElem?_append_left (by rw [List.length_reverse]; omega)]; exact a, hgl _ _ b, c⟩) (by rw [List.length_append, List.length_singleton]; exact h)
    refine ⟨y, ?_, rest⟩
    simp only [runD, hstep]
    simpa using hy
theorem W.wg {l : List DOpr} (hg : steady l = true) {I : Hp → Prop} {Q : AExit → St → Prop} (h0 : I s.H) (h : WG k l I 0 l s (Q .normal)) : W k (.drawn l) s Q := by
  obtain ⟨y, h1, hGs, h2, h3, h4, h5, h6⟩ := WG.run hg l [] { s, Gs := [s.H], rs := [], pan := none } (by intro G hG; simp only [List.mem_singleton] at hG; subst hG; exact h0) rfl rfl rfl rfl rfl (fun i d hi => absurd hi (by simp)) h
  refine W.drawn (ex := .normal) (s1 := y.s) ?_ h3
  have hc : checkD l y.rs.reverse y.Gs.reverse = true := by
    unfold checkD
    rw [List.all_eq_true]
    intro i hi
    rw [List.mem_range] at hi
    obtain ⟨q, a, b, c⟩ := h6 i l[i] hi (List.getElem?_eq_getElem hi)
    rw [List.getElem?_eq_getElem hi, a]
    simp only [Bool.or_eq_true, List.all_eq_true, List.mem_range, Bool.not_eq_true']
    rcases c with c | c | ⟨c1, c2⟩ | c
    · exact .inl (.inl c)
    · exact .inl (.inr c)
    · right
      intro m hml
      cases hs : stageOK l i l[i].B m with
      | false => exact .inl rfl
      | true =>
        right
        rw [List.length_reverse, h5] at hml
        unfold rigAt at c1
        rw [List.all_eq_true] at c1
        have c3 := c1 m (List.mem_range.2 hml)
        simp only [hs, Bool.not_true, Bool.false_or, beq_iff_eq] at c3
        subst c3
        rw [b]
        exact c2
    · right
      intro m hml
      right
      rw [List.getElem?_eq_getElem hml]
      exact c _ (hGs _ (List.mem_reverse.1 (List.getElem_mem hml)))
  unfold evDrawn
  have h1' : runD k 0 l { s, Gs := [s.H], rs := [], pan := none } = some y := h1
  rw [h1']
  simp only [checkF_D, hc, if_true, h2]
section
variable {l0 : List DOpr} {I : Hp → Prop} {Q : St → Prop} {d : Option Nat} {op : AOp} {B : NS} {ch : Bool} {r : List DOpr} {i : Nat}
theorem WG.nil (h : Q s) : WG k l0 I i [] s Q := h
theorem WG.act {v : Value} {H' : Hp} (e : evOp s.env s.H op = some (.ok v H')) (hi : I H') (hc : (ch || hfree op) = true) (h : WG k l0 I (i + 1) r (s.nx H' d v) Q) : WG k l0 I i (⟨⟨d, op, none⟩, B, ch⟩ :: r) s Q := by
  rw [St.nx] at h
  simp only [WG, evOpr, wantedO, if_true, e]
  refine ⟨by rw [put_H]; exact hi, ?_, h⟩
  rcases Bool.or_eq_true _ _ ▸ hc with hc | hc
  · exact .inl hc
  · exact .inr (.inl hc)
theorem WG.same {v : Value} {H' : Hp} {t : Nat} (e : evOp s.env s.H op = some (.ok v H')) (hi : I H') (hv : eqV 3 v v = true) (ha : ∀ G, I G → ∃ G', evOp s.env G op = some (.ok v G')) (h : WG k l0 I (i + 1) r (s.nx H' (some t) v) Q) : WG k l0 I i (⟨⟨some t, op, none⟩, B, ch⟩ :: r) s Q := by
  rw [St.nx] at h
  simp only [WG, evOpr, wantedO, if_true, e]
  refine ⟨by rw [put_H]; exact hi, .inr (.inr (.inr fun G hG => ?_)), h⟩
  have : ({ s with H := H' }.put (some t) v).getO (some t) = v := by
    show ({ s with H := H' }.put (some t) v).get t = v
    rw [gp, if_pos rfl]
  rw [this]
  obtain ⟨G', hG'⟩ := ha G hG
  unfold okAt
  simp only [wantedO, if_true, hG']
  exact hv
theorem WG.callv {f : Operand} {args : Array Operand} {g : Nat} {fst cap : Array Value} {v : Value} {H' : Hp} (e : s.env f = .func (.func g) fst cap) (c : k g (fst ++ args.map s.env ++ cap) s.H = some (.ret v H')) (hi : I H') (hc : ch = true) (h : WG k l0 I (i + 1) r (s.nx H' d v) Q) : WG k l0 I i (⟨⟨d, .call f args, none⟩, B, ch⟩ :: r) s Q := by
  have e2 : evOp s.env s.H (.call f args) = some (.call g (fst ++ args.map s.env ++ cap)) := by simp only [evOp, e]
  rw [St.nx] at h
  simp only [WG, evOpr, wantedO, if_true, e2, c]
  exact ⟨by rw [put_H]; exact hi, .inl hc, h⟩
end
end Go.Proofs.YtehbekgmemebjaaDoorEv
