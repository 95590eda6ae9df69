import Derived.Test.YtehbekgmemebjaaDoorEvX
namespace Go.Proofs.YtehbekgmemebjaaDoorEv
open Go
set_option linter.unusedVariables false
set_option linter.unusedSimpArgs false
variable {k : Caller} {s : St}
def WF (k : Caller) (I : Hp → Prop) : List DOpr → St → (St → Prop) → Prop
  | [], s, Q => Q s
  | d :: r, s, Q => match evOpr k d.o s with
    | some (.normal, s1) => I s1.H ∧ (d.chain = true ∨ hfree d.o.op = true ∨ ∀ G, I G → okAt d ⟨s, s1.getO d.o.dst⟩ G = true) ∧ WF k I r s1 Q
    | _ => False
theorem WF.run {l : List DOpr} (hg : steady l = true) {I : Hp → Prop} {Q : St → Prop} : ∀ (r pre : List DOpr) (x : DSt), (∀ G ∈ x.Gs, I G) → l = pre ++ r → x.pan = none → x.Gs.head? = some x.s.H → x.rs.length = pre.length →
    (∀ i d, i < pre.length → l[i]? = some d → ∃ q, x.rs.reverse[i]? = some (some q) ∧ (d.chain = true ∨ hfree d.o.op = true ∨ ∀ G, I G → okAt d q G = true)) → WF k I r x.s Q →
    ∃ y, runD k pre.length r x = some y ∧ (∀ G ∈ y.Gs, I G) ∧ y.pan = none ∧ Q y.s ∧ y.rs.length = l.length ∧
      (∀ i d, i < l.length → l[i]? = some d → ∃ q, y.rs.reverse[i]? = some (some q) ∧ (d.chain = true ∨ hfree d.o.op = true ∨ ∀ G, I G → okAt d q G = true)) := by
  intro r
  induction r with
  | nil =>
    intro pre x hGI hl hp hH hr hI h
    have : l = pre := by rw [hl]; simp
    subst this
    exact ⟨x, rfl, hGI, hp, h, hr, hI⟩
  | cons d r ih =>
    intro pre x hGI hl hp hH hr hI h
    have hd : l[pre.length]? = some d := by rw [hl]; simp
    simp only [WF] at h
    split at h
    case h_2 => exact h.elim
    rename_i s1 he
    obtain ⟨hi0, hc, h⟩ := h
    have hstep : stepD k pre.length d x = some { s := s1, Gs := if d.chain then s1.H :: x.Gs else x.Gs, rs := some ⟨x.s, s1.getO d.o.dst⟩ :: x.rs, pan := none } := by
      unfold stepD
      simp only [hp, he]
    obtain ⟨r1, r2⟩ := steady_at hg hd
    have hsame : d.chain = false → s1.H = x.s.H := fun hch => by
      rcases r1 with r1 | r1
      · rw [hch] at r1; cases r1
      · exact (evOpr_reads_ok r1 he).1
    obtain ⟨y, hy, rest⟩ := ih (pre ++ [d]) { s := s1, Gs := if d.chain then s1.H :: x.Gs else x.Gs, rs := some ⟨x.s, s1.getO d.o.dst⟩ :: x.rs, pan := none } (by
        intro G hG'
        cases hch : d.chain with
        | true =>
          simp only [hch, if_true, List.mem_cons] at hG'
          rcases hG' with rfl | hG'
          · exact hi0
          · exact hGI G hG'
        | false =>
          simp only [hch, Bool.false_eq_true, if_false] at hG'
          exact hGI G hG') (by rw [hl]; simp) rfl (by
        cases hch : d.chain with
        | true => rfl
        | false => simp only [Bool.false_eq_true, if_false]; rw [hsame hch]; exact hH) (by simp [hr]) (by
        intro i d' hi hd'
        rw [List.length_append, List.length_singleton] at hi
        by_cases e : i = pre.length
        · subst e
          rw [hd] at hd'; cases hd'
          exact ⟨⟨x.s, s1.getO d.o.dst⟩, by simp [hr], hc⟩
        · obtain ⟨q, a, c⟩ := hI i d' (by omega) hd'
          exact ⟨q, by simp only [List.reverse_cons]; rw [List.getElem?_append_left (by rw [List.length_reverse]; omega)]; exact a, c⟩) h
    refine ⟨y, ?_, rest⟩
    simp only [runD, hstep]
    simpa using hy
theorem W.wf {l : List DOpr} (hg : steady l = true) {I : Hp → Prop} {Q : AExit → St → Prop} (h0 : I s.H) (h : WF k I l s (Q .normal)) : W k (.drawn l) s Q := by
  obtain ⟨y, h1, hGs, h2, h3, h4, h6⟩ := WF.run hg l [] { s, Gs := [s.H], rs := [], pan := none } (by intro G hG; simp only [List.mem_singleton] at hG; subst hG; exact h0) rfl rfl rfl rfl (fun i d hi => absurd hi (by simp)) h
  refine W.drawn (ex := .normal) (s1 := y.s) ?_ h3
  have hc : checkD l y.rs.reverse y.Gs.reverse = true := by
    unfold checkD
    rw [List.all_eq_true]
    intro i hi
    rw [List.mem_range] at hi
    obtain ⟨q, a, c⟩ := h6 i l[i] hi (List.getElem?_eq_getElem hi)
    rw [List.getElem?_eq_getElem hi, a]
    simp only [Bool.or_eq_true, List.all_eq_true, List.mem_range, Bool.not_eq_true']
    rcases c with c | c | c
    · exact .inl (.inl c)
    · exact .inl (.inr c)
    · right
      intro m hml
      right
      rw [List.getElem?_eq_getElem hml]
      exact c _ (hGs _ (List.mem_reverse.1 (List.getElem_mem hml)))
  unfold evDrawn
  have h1' : runD k 0 l { s, Gs := [s.H], rs := [], pan := none } = some y := h1
  rw [h1']
  simp only [checkF_D, hc, if_true, h2]
section
variable {I : Hp → Prop} {Q : St → Prop} {d : Option Nat} {op : AOp} {B : NS} {ch : Bool} {r : List DOpr} {j : Nat} {want b : Bool}
theorem WF.nil (h : Q s) : WF k I [] s Q := h
theorem WF.yes (hj : s.get j = .bool b) (hb : b = want) (h : WF k I (⟨⟨d, op, none⟩, B, ch⟩ :: r) s Q) : WF k I (⟨⟨d, op, some (some j, want)⟩, B, ch⟩ :: r) s Q := by
  have : wantedO s (some (some j, want)) = true := by rw [wantb hj, hb]; simp
  simp only [WF, evOpr, okAt, this, wanted_none, if_true] at h ⊢
  exact h
theorem WF.skip {g : Option (Option Nat × Bool)} (hw : wantedO s g = false) (hi : I s.H) (h : WF k I r (s.nx s.H d undef) Q) : WF k I (⟨⟨d, op, g⟩, B, ch⟩ :: r) s Q := by
  rw [St.nx] at h
  simp only [WF, evOpr, okAt, hw, Bool.false_eq_true, if_false]
  exact ⟨by rw [put_H]; exact hi, .inr (.inr fun _ _ => trivial), h⟩
theorem WF.no (hj : s.get j = .bool b) (hb : b = !want) (hi : I s.H) (h : WF k I r (s.nx s.H d undef) Q) : WF k I (⟨⟨d, op, some (some j, want)⟩, B, ch⟩ :: r) s Q :=
  WF.skip (by rw [wantb hj, hb]; cases want <;> rfl) hi h
theorem WF.guardU (hj : s.get j = undef) (hi : I s.H) (h : WF k I r (s.nx s.H d undef) Q) : WF k I (⟨⟨d, op, some (some j, want)⟩, B, ch⟩ :: r) s Q :=
  WF.skip (wantU (want := want) hj) hi h
end
end Go.Proofs.YtehbekgmemebjaaDoorEv
