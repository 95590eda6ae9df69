import Derived.Test.YtehbekgmemebjaaDoorEvS
namespace Go.Proofs.YtehbekgmemebjaaDoorEv
open Go
set_option linter.unusedVariables false
set_option linter.unusedSimpArgs false
variable {k : Caller} {s : St}
def WO (k : Caller) : List AOpr → St → (AExit → St → Prop) → Prop
  | [], s, Q => Q .normal s
  | o :: r, s, Q => match evOpr k o s with
    | some (.normal, s1) => WO k r s1 Q
    | some (ex, s1) => Q ex s1
    | none => False
theorem WO.run : ∀ (l : List AOpr) (s : St) (Q : AExit → St → Prop), WO k l s Q → ∃ ex s1, evOps k l s = some (ex, s1) ∧ Q ex s1
  | [], s, Q, h => ⟨.normal, s, rfl, h⟩
  | o :: r, s, Q, h => by
    simp only [WO] at h
    simp only [evOps]
    split at h
    · rename_i s1 e; simp only [e]; exact WO.run r s1 Q h
    · rename_i ex s1 hne e
      refine ⟨ex, s1, ?_, h⟩
      rw [e]
      cases ex <;> first | rfl | exact absurd rfl hne
    · exact h.elim
theorem W.wo {l : List AOpr} {Q : AExit → St → Prop} (h : WO k l s Q) : W k (.ops l) s Q := by
  obtain ⟨ex, s1, e, hq⟩ := WO.run l s Q h
  exact W.ops e hq
def WD (k : Caller) (I : Hp → Prop) : List DOpr → St → (St → Prop) → Prop
  | [], s, Q => Q s
  | d :: r, s, Q => match evOpr k d.o s with
    | some (.normal, s1) => I s1.H ∧ (d.chain || hfree d.o.op || !wantedO s d.o.guard || eqV 3 (s1.getO d.o.dst) (s1.getO d.o.dst)) = true ∧ WD k I r s1 Q
    | _ => False
def steady (l : List DOpr) : Bool := (List.range l.length).all fun i => match l[i]? with
  | some d => (d.chain || reads d.o.op) && (d.chain || hfree d.o.op || d.o.dst.isSome)
  | none => true
theorem steady_at {l : List DOpr} (h : steady l = true) {i : Nat} {d : DOpr} (hd : l[i]? = some d) : (d.chain = true ∨ reads d.o.op = true) ∧ (d.chain = true ∨ hfree d.o.op = true ∨ d.o.dst.isSome = true) := by
  have hlt := (List.getElem?_eq_some_iff.1 hd).1
  unfold steady at h
  rw [List.all_eq_true] at h
  have := h i (List.mem_range.2 hlt)
  simp only [hd, Bool.and_eq_true, Bool.or_eq_true, or_assoc] at this
  exact this
def rigid (l : List DOpr) : Bool := (List.range l.length).all fun i => match l[i]? with
  | some d => (d.chain || reads d.o.op) && (d.chain || hfree d.o.op || (d.o.dst.isSome && (List.range (cIdx l l.length + 1)).all fun m => !stageOK l i d.B m || m == cIdx l i))
  | none => true
theorem rigid_at {l : List DOpr} (h : rigid l = true) {i : Nat} {d : DOpr} (hd : l[i]? = some d) : (d.chain = true ∨ reads d.o.op = true) ∧ (d.chain = true ∨ hfree d.o.op = true ∨ d.o.dst.isSome = true ∧ ∀ m, m ≤ cIdx l l.length → stageOK l i d.B m = true → m = cIdx l i) := by
  have hlt := (List.getElem?_eq_some_iff.1 hd).1
  unfold rigid at h
  rw [List.all_eq_true] at h
  have := h i (List.mem_range.2 hlt)
  simp only [hd, Bool.and_eq_true, Bool.or_eq_true, List.all_eq_true, List.mem_range, Bool.not_eq_true', beq_iff_eq] at this
  obtain ⟨a, b⟩ := this
  refine ⟨a, ?_⟩
  rcases b with (b | b) | ⟨b, c⟩
  · exact .inl b
  · exact .inr (.inl b)
  · refine .inr (.inr ⟨b, fun m hm hs => ?_⟩)
    rcases c m (by omega) with c | c
    · rw [hs] at c; cases c
    · exact c
theorem evOpr_reads_ok {o : AOpr} {s1 : St} (hr : reads o.op = true) (h : evOpr k o s = some (.normal, s1)) : s1.H = s.H ∧ (wantedO s o.guard = true → ∃ v, evOp s.env s.H o.op = some (.ok v s.H) ∧ s1 = s.put o.dst v) := by
  unfold evOpr at h
  split at h
  · rename_i hw
    cases he : evOp s.env s.H o.op with
    | none => rw [he] at h; cases h
    | some r =>
      obtain ⟨v, rfl⟩ := reads_ok hr he
      rw [he] at h
      simp only [Option.some.injEq, Prod.mk.injEq, true_and] at h
      subst h
      exact ⟨put_H _ _ _, fun _ => ⟨v, rfl, rfl⟩⟩
  · rename_i hw
    simp only [Option.some.injEq, Prod.mk.injEq, true_and] at h
    subst h
    exact ⟨put_H _ _ _, fun h => absurd h hw⟩
theorem WD.run {l : List DOpr} (hg : steady l = true) {I : Hp → Prop} {Q : St → Prop} : ∀ (r pre : List DOpr) (x : DSt), (∀ G ∈ x.Gs, I G) → l = pre ++ r → x.pan = none → x.Gs.head? = some x.s.H → x.rs.length = pre.length → x.Gs.length = cIdx l pre.length + 1 →
    (∀ i d, i < pre.length → l[i]? = some d → ∃ q, x.rs.reverse[i]? = some (some q) ∧ x.Gs.reverse[cIdx l i]? = some q.s.H ∧ (d.chain = true ∨ hfree d.o.op = true ∨ okAt d q q.s.H = true)) → WD k I r x.s Q →
    ∃ y, runD k pre.length r x = some y ∧ (∀ G ∈ y.Gs, I G) ∧ y.pan = none ∧ Q y.s ∧ y.rs.length = l.length ∧ y.Gs.length = cIdx l l.length + 1 ∧
      (∀ i d, i < l.length → l[i]? = some d → ∃ q, y.rs.reverse[i]? = some (some q) ∧ y.Gs.reverse[cIdx l i]? = some q.s.H ∧ (d.chain = true ∨ hfree d.o.op = true ∨ okAt d q q.s.H = true)) := by
  intro r
  induction r with
  | nil =>
    intro pre x hGI hl hp hH hr hG hI h
    have : l = pre := by rw [hl]; simp
    subst this
    exact ⟨x, rfl, hGI, hp, h, hr, hG, hI⟩
  | cons d r ih =>
    intro pre x hGI hl hp hH hr hG hI h
    have hd : l[pre.length]? = some d := by rw [hl]; simp
    have hlt := (List.getElem?_eq_some_iff.1 hd).1
    simp only [WD] at h
    split at h
    case h_2 => exact h.elim
    rename_i s1 he
    obtain ⟨hi0, hc, h⟩ := h
    have hstep : stepD k pre.length d x = some { s := s1, Gs := if d.chain then s1.H :: x.Gs else x.Gs, rs := some ⟨x.s, s1.getO d.o.dst⟩ :: x.rs, pan := none } := by
      unfold stepD
      simp only [hp, he]
    have hci : cIdx l (pre.length + 1) = cIdx l pre.length + if d.chain then 1 else 0 := by
      simp only [cIdx, hd, Option.any_some]
    obtain ⟨r1, r2⟩ := steady_at hg hd
    have hsame : d.chain = false → s1.H = x.s.H := fun hch => by
      rcases r1 with r1 | r1
      · rw [hch] at r1; cases r1
      · exact (evOpr_reads_ok r1 he).1
    have hgl : ∀ (j : Nat) (g : Hp), x.Gs.reverse[j]? = some g → ({ s := s1, Gs := if d.chain then s1.H :: x.Gs else x.Gs, rs := some ⟨x.s, s1.getO d.o.dst⟩ :: x.rs, pan := none } : DSt).Gs.reverse[j]? = some g := by
      intro j g hj
      cases hch : d.chain with
      | true =>
        simp only [if_true, List.reverse_cons]
        rw [List.getElem?_append_left (List.getElem?_eq_some_iff.1 hj).1]
        exact hj
      | false => simpa using hj
    obtain ⟨y, hy, rest⟩ := ih (pre ++ [d]) { s := s1, Gs := if d.chain then s1.H :: x.Gs else x.Gs, rs := some ⟨x.s, s1.getO d.o.dst⟩ :: x.rs, pan := none } (by
        intro G hG'
        cases hch : d.chain with
        | true =>
          simp only [hch, if_true, List.mem_cons] at hG'
          rcases hG' with rfl | hG'
          · exact hi0
          · exact hGI G hG'
        | false =>
          simp only [hch, Bool.false_eq_true, if_false] at hG'
          exact hGI G hG') (by rw [hl]; simp) rfl (by
        cases hch : d.chain with
        | true => rfl
        | false => simp only [Bool.false_eq_true, if_false]; rw [hsame hch]; exact hH) (by simp [hr]) (by
        rw [List.length_append, List.length_singleton, hci]
        cases hch : d.chain with
        | true => simp [hG]
        | false => simp [hG]) (by
        intro i d' hi hd'
        rw [List.length_append, List.length_singleton] at hi
        by_cases e : i = pre.length
        · subst e
          rw [hd] at hd'; cases hd'
          refine ⟨⟨x.s, s1.getO d.o.dst⟩, by simp [hr], hgl _ _ ?_, ?_⟩
          · rw [List.getElem?_reverse (by omega), hG]
            have e0 : cIdx l pre.length + 1 - 1 - cIdx l pre.length = 0 := by omega
            rw [e0, ← List.head?_eq_getElem?]
            exact hH
          · rcases r1 with r1 | r1
            · exact .inl r1
            rcases r2 with r2 | r2 | r2
            · exact .inl r2
            · exact .inr (.inl r2)
            · simp only [Bool.or_eq_true] at hc
              rcases hc with ((hc | hc) | hc) | hc
              · exact .inl hc
              · exact .inr (.inl hc)
              · refine .inr (.inr ?_)
                unfold okAt
                rw [if_neg]
                simpa using hc
              · refine .inr (.inr ?_)
                unfold okAt
                split
                · rename_i hw
                  obtain ⟨v, hv, rfl⟩ := (evOpr_reads_ok r1 he).2 hw
                  rw [hv]
                  cases hds : d.o.dst with
                  | none => rw [hds] at r2; cases r2
                  | some t =>
                    rw [hds] at hc
                    have hv2 : (x.s.put (some t) v).getO (some t) = v := by
                      show (x.s.put (some t) v).get t = v
                      rw [gp, if_pos rfl]
                    rw [hv2] at hc ⊢
                    exact hc
                · rfl
        · obtain ⟨q, a, b, c⟩ := hI i d' (by omega) hd'
          exact ⟨q, by simp only [List.reverse_cons]; rw [List.getElem?_append_left (by rw [List.length_reverse]; omega)]; exact a, hgl _ _ b, c⟩) h
    refine ⟨y, ?_, rest⟩
    simp only [runD, hstep]
    simpa using hy
theorem rigid_steady {l : List DOpr} (hg : rigid l = true) : steady l = true := by
  unfold steady
  rw [List.all_eq_true]
  intro i hi
  rw [List.mem_range] at hi
  rw [List.getElem?_eq_getElem hi]
  obtain ⟨a, b⟩ := rigid_at hg (List.getElem?_eq_getElem hi)
  simp only [Bool.and_eq_true, Bool.or_eq_true]
  refine ⟨a, ?_⟩
  rcases b with b | b | ⟨b, _⟩
  · exact .inl (.inl b)
  · exact .inl (.inr b)
  · exact .inr b
theorem W.wd_of {l : List DOpr} (hg : steady l = true) {I : Hp → Prop} {Q : AExit → St → Prop} (h0 : I s.H) (hm : ∀ i d m G q, l[i]? = some d → d.o.dst.isSome = true → stageOK l i d.B m = true → I G → I q → (m ≠ cIdx l i → q = G)) (h : WD k I l s (Q .normal)) : W k (.drawn l) s Q := by
  obtain ⟨y, h1, hGs, h2, h3, h4, h5, h6⟩ := WD.run hg l [] { s, Gs := [s.H], rs := [], pan := none } (by intro G hG; simp only [List.mem_singleton] at hG; subst hG; exact h0) rfl rfl rfl rfl rfl (fun i d hi => absurd hi (by simp)) h
  refine W.drawn (ex := .normal) (s1 := y.s) ?_ h3
  have hc : checkD l y.rs.reverse y.Gs.reverse = true := by
    unfold checkD
    rw [List.all_eq_true]
    intro i hi
    rw [List.mem_range] at hi
    obtain ⟨q, a, b, c⟩ := h6 i l[i] hi (List.getElem?_eq_getElem hi)
    rw [List.getElem?_eq_getElem hi, a]
    simp only [Bool.or_eq_true, List.all_eq_true, List.mem_range, Bool.not_eq_true']
    obtain ⟨r1, r2⟩ := steady_at hg (List.getElem?_eq_getElem hi)
    rcases c with c | c | c
    · exact .inl (.inl c)
    · exact .inl (.inr c)
    · rcases r2 with r2 | r2 | r2
      · exact .inl (.inl r2)
      · exact .inl (.inr r2)
      · right
        intro m hml
        cases hs : stageOK l i l[i].B m with
        | false => exact .inl rfl
        | true =>
          right
          have hG : y.Gs.reverse[m]? = some (y.Gs.reverse[m]'hml) := List.getElem?_eq_getElem hml
          rw [hG]
          have m1 : I (y.Gs.reverse[m]'hml) := hGs _ (List.mem_reverse.1 (List.getElem_mem hml))
          have m2 : I q.s.H := hGs _ (List.mem_reverse.1 (List.mem_of_getElem? b))
          by_cases e : m = cIdx l i
          · subst e
            rw [hG] at b
            rw [Option.some.inj b]
            exact c
          · rw [hm i l[i] m _ _ (List.getElem?_eq_getElem hi) r2 hs m1 m2 e] at c
            exact c
  unfold evDrawn
  have h1' : runD k 0 l { s, Gs := [s.H], rs := [], pan := none } = some y := h1
  rw [h1']
  simp only [checkF_D, hc, if_true, h2]
theorem W.wq {l : List DOpr} (hg : steady l = true) {Q : AExit → St → Prop} (h : WD k (fun H => H = s.H) l s (Q .normal)) : W k (.drawn l) s Q :=
  W.wd_of (I := fun H => H = s.H) hg rfl (fun i d m G q _ _ _ h1 h2 _ => (h2 : q = s.H).trans (h1 : G = s.H).symm) h
theorem W.wd {l : List DOpr} (hg : rigid l = true) {Q : AExit → St → Prop} (h : WD k (fun _ => True) l s (Q .normal)) : W k (.drawn l) s Q := by
  obtain ⟨y, h1, hGs, h2, h3, h4, h5, h6⟩ := WD.run (rigid_steady hg) l [] { s, Gs := [s.H], rs := [], pan := none } (fun _ _ => trivial) rfl rfl rfl rfl rfl (fun i d hi => absurd hi (by simp)) h
  refine W.drawn (ex := .normal) (s1 := y.s) ?_ h3
  have hc : checkD l y.rs.reverse y.Gs.reverse = true := by
    unfold checkD
    rw [List.all_eq_true]
    intro i hi
    rw [List.mem_range] at hi
    obtain ⟨q, a, b, c⟩ := h6 i l[i] hi (List.getElem?_eq_getElem hi)
    rw [List.getElem?_eq_getElem hi, a]
    simp only [Bool.or_eq_true, List.all_eq_true, List.mem_range, Bool.not_eq_true']
    obtain ⟨r1, r2⟩ := rigid_at hg (List.getElem?_eq_getElem hi)
    rcases c with c | c | c
    · exact .inl (.inl c)
    · exact .inl (.inr c)
    · rcases r2 with r2 | r2 | ⟨_, r2⟩
      · exact .inl (.inl r2)
      · exact .inl (.inr r2)
      · right
        intro m hm
        rw [List.length_reverse, h5] at hm
        cases hs : stageOK l i l[i].B m with
        | false => exact .inl rfl
        | true =>
          right
          have := r2 m (by omega) hs
          subst this
          rw [b]
          exact c
  unfold evDrawn
  have h1' : runD k 0 l { s, Gs := [s.H], rs := [], pan := none } = some y := h1
  rw [h1']
  simp only [checkF_D, hc, if_true, h2]
def St.nx (s : St) (H : Hp) (d : Option Nat) (v : Value) : St := { s with H }.put d v
theorem nx_get (s : St) (H : Hp) (d : Nat) (v : Value) (j : Nat) : (s.nx H (some d) v).get j = if d = j then v else s.get j := by
  unfold St.nx; rw [gp]; rfl
theorem nx_getn (s : St) (H : Hp) (v : Value) (j : Nat) : (s.nx H none v).get j = s.get j := rfl
theorem nx_H (s : St) (H : Hp) (d : Option Nat) (v : Value) : (s.nx H d v).H = H := by unfold St.nx; rw [put_H]
theorem nx_ds (s : St) (H : Hp) (d : Option Nat) (v : Value) : (s.nx H d v).ds = s.ds := by unfold St.nx; rw [put_ds]
theorem nx_df (s : St) (H : Hp) (d : Option Nat) (v : Value) : (s.nx H d v).df = s.df := by unfold St.nx; cases d <;> rfl
theorem nx_pm (s : St) (H : Hp) (d : Option Nat) (v : Value) : (s.nx H d v).pm = s.pm := by unfold St.nx; cases d <;> rfl
theorem wanted_none (s : St) : wantedO s none = true := rfl
theorem wantb {s : St} {j : Nat} {want b : Bool} (h : s.get j = .bool b) : wantedO s (some (some j, want)) = (b == want) := by simp only [wantedO, h]
section
variable {Q : AExit → St → Prop} {d : Option Nat} {op : AOp} {g : Option (Option Nat × Bool)} {r : List AOpr}
theorem WO.nil (h : Q .normal s) : WO k [] s Q := h
theorem WO.ok {v : Value} {H' : Hp} (e : evOp s.env s.H op = some (.ok v H')) (h : WO k r (s.nx H' d v) Q) : WO k (⟨d, op, none⟩ :: r) s Q := by
  simp only [WO, evOpr, wantedO, if_true, e]; exact h
theorem WO.call {f : Nat} {args : Array Value} {v : Value} {H' : Hp} (e : evOp s.env s.H op = some (.call f args)) (c : k f args s.H = some (.ret v H')) (h : WO k r (s.nx H' d v) Q) : WO k (⟨d, op, none⟩ :: r) s Q := by
  simp only [WO, evOpr, wantedO, if_true, e, c]; exact h
theorem WO.callp {f : Nat} {args : Array Value} {v : Value} {H' : Hp} (e : evOp s.env s.H op = some (.call f args)) (c : k f args s.H = some (.pan v H')) (h : Q (.pan v) { s with H := H' }) : WO k (⟨d, op, none⟩ :: r) s Q := by
  simp only [WO, evOpr, wantedO, if_true, e, c]; exact h
theorem WO.panic {v : Value} (e : evOp s.env s.H op = some (.panic v)) (h : Q (.pan v) s) : WO k (⟨d, op, none⟩ :: r) s Q := by
  simp only [WO, evOpr, wantedO, if_true, e]; exact h
theorem WO.defer {f : Nat} {args : Array Value} (e : evOp s.env s.H op = some (.defer f args)) (hd : s.df = false) (h : WO k r ({ s with ds := (f, args) :: s.ds }.put d undef) Q) : WO k (⟨d, op, none⟩ :: r) s Q := by
  simp only [WO, evOpr, wantedO, if_true, e]
  rw [if_neg (by rw [hd]; simp)]
  exact h
theorem WO.yes {j : Nat} {want b : Bool} (hj : s.get j = .bool b) (hb : b = want) (h : WO k (⟨d, op, none⟩ :: r) s Q) : WO k (⟨d, op, some (some j, want)⟩ :: r) s Q := by
  have : wantedO s (some (some j, want)) = true := by rw [wantb hj, hb]; simp
  simp only [WO, evOpr, this, wanted_none, if_true] at h ⊢
  exact h
theorem WO.no {j : Nat} {want b : Bool} (hj : s.get j = .bool b) (hb : b = !want) (h : WO k r (s.nx s.H d undef) Q) : WO k (⟨d, op, some (some j, want)⟩ :: r) s Q := by
  have : wantedO s (some (some j, want)) = false := by rw [wantb hj, hb]; cases want <;> rfl
  simp only [WO, evOpr, this, Bool.false_eq_true, if_false]
  exact h
theorem WO.guard {j : Nat} {want b : Bool} (hj : s.get j = .bool b) (h1 : b = want → WO k (⟨d, op, none⟩ :: r) s Q) (h2 : b = !want → WO k r (s.nx s.H d undef) Q) : WO k (⟨d, op, some (some j, want)⟩ :: r) s Q := by
  by_cases hb : b = want
  · exact WO.yes hj hb (h1 hb)
  · have hb' : b = !want := by cases b <;> cases want <;> simp at hb ⊢
    exact WO.no hj hb' (h2 hb')
end
section
variable {Q : St → Prop} {I : Hp → Prop} {d : Option Nat} {op : AOp} {B : NS} {ch : Bool} {r : List DOpr}
theorem WD.nil (h : Q s) : WD k I [] s Q := h
theorem WD.ok {v : Value} {H' : Hp} (e : evOp s.env s.H op = some (.ok v H')) (hi : I H') (hc : (ch || hfree op || (d.isSome && eqV 3 v v)) = true) (h : WD k I r (s.nx H' d v) Q) : WD k I (⟨⟨d, op, none⟩, B, ch⟩ :: r) s Q := by
  simp only [WD, evOpr, wantedO, if_true, e]
  refine ⟨by rw [put_H]; exact hi, ?_, h⟩
  simp only [Bool.not_true, Bool.or_false]
  simp only [Bool.or_eq_true, Bool.and_eq_true] at hc ⊢
  rcases hc with hc | ⟨hd, hc⟩
  · exact .inl hc
  · right
    cases d with
    | none => cases hd
    | some t =>
      have : ({ s with H := H' }.put (some t) v).getO (some t) = v := by
        show ({ s with H := H' }.put (some t) v).get t = v
        rw [gp, if_pos rfl]
      rw [this]; exact hc
theorem WD.call {f : Nat} {args : Array Value} {v : Value} {H' : Hp} (e : evOp s.env s.H op = some (.call f args)) (c : k f args s.H = some (.ret v H')) (hi : I H') (hc : ch = true) (h : WD k I r (s.nx H' d v) Q) : WD k I (⟨⟨d, op, none⟩, B, ch⟩ :: r) s Q := by
  simp only [WD, evOpr, wantedO, if_true, e, c, hc, Bool.true_or]
  exact ⟨by rw [put_H]; exact hi, trivial, h⟩
theorem WD.yes {j : Nat} {want b : Bool} (hj : s.get j = .bool b) (hb : b = want) (h : WD k I (⟨⟨d, op, none⟩, B, ch⟩ :: r) s Q) : WD k I (⟨⟨d, op, some (some j, want)⟩, B, ch⟩ :: r) s Q := by
  have : wantedO s (some (some j, want)) = true := by rw [wantb hj, hb]; simp
  simp only [WD, evOpr, this, wanted_none, if_true] at h ⊢
  exact h
theorem WD.no {j : Nat} {want b : Bool} (hj : s.get j = .bool b) (hb : b = !want) (hi : I s.H) (h : WD k I r (s.nx s.H d undef) Q) : WD k I (⟨⟨d, op, some (some j, want)⟩, B, ch⟩ :: r) s Q := by
  have : wantedO s (some (some j, want)) = false := by rw [wantb hj, hb]; cases want <;> rfl
  simp only [WD, evOpr, this, Bool.false_eq_true, if_false, Bool.not_false, Bool.or_true, Bool.true_or]
  exact ⟨by rw [put_H]; exact hi, trivial, h⟩
theorem WD.guard {j : Nat} {want b : Bool} (hj : s.get j = .bool b) (hi : I s.H) (h1 : b = want → WD k I (⟨⟨d, op, none⟩, B, ch⟩ :: r) s Q) (h2 : b = !want → WD k I r (s.nx s.H d undef) Q) : WD k I (⟨⟨d, op, some (some j, want)⟩, B, ch⟩ :: r) s Q := by
  by_cases hb : b = want
  · exact WD.yes hj hb (h1 hb)
  · have hb' : b = !want := by cases b <;> cases want <;> simp at hb ⊢
    exact WD.no hj hb' hi (h2 hb')
end
theorem W.branch {x : Operand} {a b : ACode} {t : Bool} {Q : AExit → St → Prop} (e : s.env x = .bool t) (h1 : t = true → W k a s Q) (h2 : t = false → W k b s Q) : W k (.cond x a b) s Q := by
  refine W.cond e ?_
  cases t with
  | true => exact h1 rfl
  | false => exact h2 rfl
theorem W.condT {x : Operand} {a b : ACode} {Q : AExit → St → Prop} (e : s.env x = .bool true) (h : W k a s Q) : W k (.cond x a b) s Q := W.cond e h
theorem W.condF {x : Operand} {a b : ACode} {Q : AExit → St → Prop} (e : s.env x = .bool false) (h : W k b s Q) : W k (.cond x a b) s Q := W.cond e h
theorem env_func (s : St) (f : Nat) : s.env (.func f) = .func (.func f) #[] #[] := rfl
theorem env_global (s : St) (g : Nat) : s.env (.global g) = .pointer (some ⟨g, 0, none⟩) := rfl
theorem one_ne_zero' : ((1 : Nat) = 0) = False := by simp
theorem zero_ne_one' : ((0 : Nat) = 1) = False := by simp
theorem leave0 {code : Nat → Option AFunc} {rs : List ARes} {v : Value} {H' : Hp} (hd : s.ds = []) (hr : resultsO s rs = some v) (hH : s.H = H') : leave k code rs s.ds none s = some (.ret v H') := by
  rw [hd]; simp only [leave, hr, Option.map_some, hH]
theorem leavep {code : Nat → Option AFunc} {rs : List ARes} {v : Value} {H' : Hp} (hd : s.ds = []) (hH : s.H = H') : leave k code rs s.ds (some v) s = some (.pan v H') := by
  rw [hd]; simp only [leave, hH]
theorem res1 {t : Nat} {v : Value} (h : s.get t = v) (hv : ∀ c, v ≠ .chan c) : resultsO s [.tmp t] = some v := by
  have : resO s (.tmp t) = some v := by
    simp only [resO, h]
  simp only [resultsO, List.mapM_cons, this, List.mapM_nil, Option.bind_eq_bind, Option.bind_some, Option.pure_def, Option.map_some]
section
variable {Q : AExit → St → Prop} {d : Option Nat} {op : AOp} {r : List AOpr} {b : Bool}
theorem WO.guardT {j : Nat} (hj : s.get j = .bool b) (h1 : b = true → WO k (⟨d, op, none⟩ :: r) s Q) (h2 : b = false → WO k r (s.nx s.H d undef) Q) : WO k (⟨d, op, some (some j, true)⟩ :: r) s Q := WO.guard hj h1 h2
theorem WO.guardF {j : Nat} (hj : s.get j = .bool b) (h1 : b = false → WO k (⟨d, op, none⟩ :: r) s Q) (h2 : b = true → WO k r (s.nx s.H d undef) Q) : WO k (⟨d, op, some (some j, false)⟩ :: r) s Q := WO.guard hj h1 h2
theorem W.ct {x : Operand} {a c : ACode} (hj : s.env x = .bool b) (hb : b = true) (h : W k a s Q) : W k (.cond x a c) s Q := W.condT (by rw [hj, hb]) h
theorem W.cf {x : Operand} {a c : ACode} (hj : s.env x = .bool b) (hb : b = false) (h : W k c s Q) : W k (.cond x a c) s Q := W.condF (by rw [hj, hb]) h
end
section
variable {Q : St → Prop} {I : Hp → Prop} {d : Option Nat} {op : AOp} {B : NS} {ch : Bool} {r : List DOpr} {b : Bool}
theorem WD.guardT {j : Nat} (hj : s.get j = .bool b) (hi : I s.H) (h1 : b = true → WD k I (⟨⟨d, op, none⟩, B, ch⟩ :: r) s Q) (h2 : b = false → WD k I r (s.nx s.H d undef) Q) : WD k I (⟨⟨d, op, some (some j, true)⟩, B, ch⟩ :: r) s Q := WD.guard hj hi h1 h2
theorem WD.guardF {j : Nat} (hj : s.get j = .bool b) (hi : I s.H) (h1 : b = false → WD k I (⟨⟨d, op, none⟩, B, ch⟩ :: r) s Q) (h2 : b = true → WD k I r (s.nx s.H d undef) Q) : WD k I (⟨⟨d, op, some (some j, false)⟩, B, ch⟩ :: r) s Q := WD.guard hj hi h1 h2
end
section
variable {Q : AExit → St → Prop} {d : Option Nat} {r : List AOpr} {f x : Operand} {args : Array Operand} {g : Nat} {fst cap : Array Value} {v w : Value} {t : TypeId} {H' : Hp}
theorem WO.callv (e : s.env f = .func (.func g) fst cap) (c : k g (fst ++ args.map s.env ++ cap) s.H = some (.ret v H')) (h : WO k r (s.nx H' d v) Q) : WO k (⟨d, .call f args, none⟩ :: r) s Q :=
  WO.call (by simp only [evOp, e]) c h
theorem WO.panicv (e : s.env x = .iface t w) (h : Q (.pan (.iface t w)) s) : WO k (⟨d, .panic x, none⟩ :: r) s Q :=
  WO.panic (by simp only [evOp, e]) h
theorem WD.callv {I : Hp → Prop} {Q : St → Prop} {B : NS} {ch : Bool} {r : List DOpr} (e : s.env f = .func (.func g) fst cap) (c : k g (fst ++ args.map s.env ++ cap) s.H = some (.ret v H')) (hi : I H') (hc : ch = true) (h : WD k I r (s.nx H' d v) Q) : WD k I (⟨⟨d, .call f args, none⟩, B, ch⟩ :: r) s Q :=
  WD.call (by simp only [evOp, e]) c hi hc h
end
theorem wantU {j : Nat} {want : Bool} (hj : s.get j = undef) : wantedO s (some (some j, want)) = false := by
  have h : s.get j = .tuple #[] := hj
  simp only [wantedO, h]
theorem WO.guardU {Q : AExit → St → Prop} {d : Option Nat} {op : AOp} {r : List AOpr} {j : Nat} {want : Bool} (hj : s.get j = undef) (h : WO k r (s.nx s.H d undef) Q) : WO k (⟨d, op, some (some j, want)⟩ :: r) s Q := by
  have := wantU (want := want) hj
  rw [St.nx] at h
  simp only [WO, evOpr, this, Bool.false_eq_true, if_false]
  exact h
theorem WD.guardU {Q : St → Prop} {I : Hp → Prop} {d : Option Nat} {op : AOp} {B : NS} {ch : Bool} {r : List DOpr} {j : Nat} {want : Bool} (hj : s.get j = undef) (hi : I s.H) (h : WD k I r (s.nx s.H d undef) Q) : WD k I (⟨⟨d, op, some (some j, want)⟩, B, ch⟩ :: r) s Q := by
  have := wantU (want := want) hj
  rw [St.nx] at h
  simp only [WD, evOpr, this, Bool.false_eq_true, if_false, Bool.not_false, Bool.or_true, Bool.true_or]
  exact ⟨by rw [put_H]; exact hi, trivial, h⟩
theorem tf {p : Prop} (h : true = false) : p := by cases h
theorem ft {p : Prop} (h : false = true) : p := by cases h
attribute [irreducible] WO WD St.nx
end Go.Proofs.YtehbekgmemebjaaDoorEv
namespace Go.Proofs.YtehbekgmemebjaaDoorEv
open Go
set_option linter.unusedVariables false
set_option linter.unusedSimpArgs false
variable {k : Caller} {s : St} {Q : AExit → St → Prop}
def WS (k : Caller) (c : ACode) (s : St) (Q : AExit → St → Prop) : Prop := ∃ ex s1, evS k c s = some (ex, s1) ∧ Q ex s1
theorem WS.skip (h : Q .normal s) : WS k .skip s Q := ⟨.normal, s, rfl, h⟩
theorem WS.ret (h : Q .ret s) : WS k .ret s Q := ⟨.ret, s, rfl, h⟩
theorem WS.wo {l : List AOpr} (h : WO k l s Q) : WS k (.ops l) s Q := by
  obtain ⟨ex, s1, e, hq⟩ := WO.run l s Q h
  exact ⟨ex, s1, e, hq⟩
theorem WS.seq {a b : ACode} (h : WS k a s fun ex s1 => match ex with
    | .normal => WS k b s1 Q
    | e => Q e s1) : WS k (.seq a b) s Q := by
  obtain ⟨ex, s1, h1, h2⟩ := h
  cases ex with
  | normal =>
    obtain ⟨ex2, s2, h3, h4⟩ := h2
    exact ⟨ex2, s2, by simp only [evS, h1, h3], h4⟩
  | exit i => exact ⟨.exit i, s1, by simp only [evS, h1], h2⟩
  | ret => exact ⟨.ret, s1, by simp only [evS, h1], h2⟩
  | pan v => exact ⟨.pan v, s1, by simp only [evS, h1], h2⟩
theorem WS.ct {x : Operand} {a c : ACode} {b : Bool} (hj : s.env x = .bool b) (hb : b = true) (h : WS k a s Q) : WS k (.cond x a c) s Q := by
  obtain ⟨ex, s1, h1, h2⟩ := h
  exact ⟨ex, s1, by subst hb; simp only [evS, hj]; exact h1, h2⟩
theorem WS.cf {x : Operand} {a c : ACode} {b : Bool} (hj : s.env x = .bool b) (hb : b = false) (h : WS k c s Q) : WS k (.cond x a c) s Q := by
  obtain ⟨ex, s1, h1, h2⟩ := h
  exact ⟨ex, s1, by subst hb; simp only [evS, hj]; exact h1, h2⟩
def St.rcv (s : St) (v : Value) : St := { s with pm := some (v, true) }
theorem rcv_get (s : St) (v : Value) (j : Nat) : (s.rcv v).get j = s.get j := rfl
theorem rcv_H (s : St) (v : Value) : (s.rcv v).H = s.H := rfl
theorem rcv_ds (s : St) (v : Value) : (s.rcv v).ds = s.ds := rfl
theorem rcv_df (s : St) (v : Value) : (s.rcv v).df = s.df := rfl
theorem rcv_pm (s : St) (v : Value) : (s.rcv v).pm = some (v, true) := rfl
def St.dfr (s : St) (f : Nat) (args : Array Value) : St := { s with ds := (f, args) :: s.ds }
theorem dfr_get (s : St) (f : Nat) (args : Array Value) (j : Nat) : (s.dfr f args).get j = s.get j := rfl
theorem dfr_H (s : St) (f : Nat) (args : Array Value) : (s.dfr f args).H = s.H := rfl
theorem dfr_ds (s : St) (f : Nat) (args : Array Value) : (s.dfr f args).ds = (f, args) :: s.ds := rfl
theorem dfr_df (s : St) (f : Nat) (args : Array Value) : (s.dfr f args).df = s.df := rfl
theorem dfr_pm (s : St) (f : Nat) (args : Array Value) : (s.dfr f args).pm = s.pm := rfl
theorem nx_eq (s : St) (H : Hp) (d : Option Nat) (v : Value) : s.nx H d v = { s with H }.put d v := by unfold St.nx; rfl
section
variable {d : Option Nat} {op : AOp} {r : List AOpr}
theorem WO.recover1 {v : Value} (hd : s.df = true) (hp : s.pm = some (v, false)) (h : WO k r ((s.rcv v).nx s.H d v) Q) : WO k (⟨d, .recover, none⟩ :: r) s Q := by
  rw [nx_eq] at h
  unfold WO
  simp only [evOpr, wantedO, if_true, evOp]
  rw [if_pos hd, hp]
  exact h
theorem WO.recover0 (hd : s.df = true) (hp : s.pm = none) (h : WO k r (s.nx s.H d .nilIface) Q) : WO k (⟨d, .recover, none⟩ :: r) s Q := by
  rw [nx_eq] at h
  unfold WO
  simp only [evOpr, wantedO, if_true, evOp]
  rw [if_pos hd, hp]
  exact h
theorem WO.deferd {f : Nat} {args : Array Value} (e : evOp s.env s.H op = some (.defer f args)) (hd : s.df = false) (h : WO k r ((s.dfr f args).nx s.H d undef) Q) : WO k (⟨d, op, none⟩ :: r) s Q := by
  rw [nx_eq] at h
  exact WO.defer e hd h
end
theorem leave_cons {code : Nat → Option AFunc} {rs : List ARes} {f : Nat} {args : Array Value} {ds : List (Nat × Array Value)} {pm : Option Value} {fn : AFunc} {r : CR} (hf : code f = some fn) (hn : ¬ fn.ntmps < args.size) (hrs : fn.results = [])
    (h : WS k fn.body { t := enterT 0 args.toList .nil, H := s.H, ds := [], df := true, pm := pm.map fun v => (v, false) } fun ex s1 => (ex = .normal ∨ ex = .ret) ∧ s1.ds = [] ∧ leave k code rs ds (match s1.pm with
          | some (v, false) => some v
          | _ => none) { s with H := s1.H } = some r) : leave k code rs ((f, args) :: ds) pm s = some r := by
  obtain ⟨ex, s1, he, hex, hds, hl⟩ := h
  simp only [leave, hf, if_neg hn, he]
  rcases hex with rfl | rfl <;> simp only [hds, hrs, List.isEmpty_nil, Bool.and_self, if_true] <;> exact hl
theorem leave_one {code : Nat → Option AFunc} {rs : List ARes} {f : Nat} {args : Array Value} {pm : Option Value} {fn : AFunc} {v : Value} {H' : Hp} (hds : s.ds = [(f, args)]) (hf : code f = some fn) (hn : ¬ fn.ntmps < args.size) (hrs : fn.results = [])
    (h : WS k fn.body { t := enterT 0 args.toList .nil, H := s.H, ds := [], df := true, pm := pm.map fun v => (v, false) } fun ex s1 => (ex = .normal ∨ ex = .ret) ∧ s1.ds = [] ∧ (s1.pm = none ∨ ∃ v, s1.pm = some (v, true)) ∧ s1.H = H' ∧ resultsO { s with H := H' } rs = some v) : leave k code rs s.ds pm s = some (.ret v H') := by
  rw [hds]
  refine leave_cons hf hn hrs ?_
  unfold WS at h ⊢
  obtain ⟨ex, s1, h1, h2, h3, h4, rfl, h6⟩ := h
  refine ⟨ex, s1, h1, h2, h3, ?_⟩
  rcases h4 with h4 | ⟨v', h4⟩ <;> rw [h4] <;> simp only [leave, h6, Option.map_some]
theorem res2c {a b : Nat} {v w : Value} (h1 : loadO s.H (s.get a) = some v) (h2 : loadO s.H (s.get b) = some w) : resultsO s [.cell a, .cell b] = some (.tuple #[v, w]) := by
  simp only [resultsO, List.mapM_cons, List.mapM_nil, resO, h1, h2, Option.bind_eq_bind, Option.bind_some, Option.pure_def, Option.map_some]
theorem res2cH {a b : Nat} {v w : Value} {H' : Hp} (h1 : loadO H' (s.get a) = some v) (h2 : loadO H' (s.get b) = some w) : resultsO { s with H := H' } [.cell a, .cell b] = some (.tuple #[v, w]) := res2c h1 h2
theorem WO.callpn {d : Option Nat} {op : AOp} {r : List AOpr} {f : Nat} {args : Array Value} {v : Value} {H' : Hp} (e : evOp s.env s.H op = some (.call f args)) (c : k f args s.H = some (.pan v H')) (h : Q (.pan v) (s.nx H' none undef)) : WO k (⟨d, op, none⟩ :: r) s Q := by
  rw [nx_eq] at h
  exact WO.callp e c h
theorem WO.callpv {d : Option Nat} {r : List AOpr} {f : Operand} {args : Array Operand} {g : Nat} {fst cap : Array Value} {v : Value} {H' : Hp} (e : s.env f = .func (.func g) fst cap) (c : k g (fst ++ args.map s.env ++ cap) s.H = some (.pan v H')) (h : Q (.pan v) (s.nx H' none undef)) : WO k (⟨d, .call f args, none⟩ :: r) s Q :=
  WO.callpn (by simp only [evOp, e]) c h
theorem WO.defv {d : Option Nat} {r : List AOpr} {f : Operand} {args : Array Operand} {g : Nat} {fst cap : Array Value} (e : s.env f = .func (.func g) fst cap) (hd : s.df = false) (h : WO k r ((s.dfr g (fst ++ args.map s.env ++ cap)).nx s.H d undef) Q) : WO k (⟨d, .defer f args, none⟩ :: r) s Q :=
  WO.deferd (by simp only [evOp, e]) hd h
theorem WS.branch {x : Operand} {a c : ACode} {t : Bool} (e : s.env x = .bool t) (h1 : t = true → WS k a s Q) (h2 : t = false → WS k c s Q) : WS k (.cond x a c) s Q := by
  cases t with
  | true => exact WS.ct e rfl (h1 rfl)
  | false => exact WS.cf e rfl (h2 rfl)
attribute [irreducible] WS St.rcv St.dfr
end Go.Proofs.YtehbekgmemebjaaDoorEv
