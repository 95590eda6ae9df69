import Derived.Test.YtehbekgmemebjaaDoorPvD
namespace Go.Proofs.YtehbekgmemebjaaDoorEv
open Go
set_option linter.unusedVariables false
set_option linter.unusedSimpArgs false
section
variable {H0 : Hp} {Z0 Z : Nat → Prop} {A : AState} {e : Pe A.ts} {s : St} {hv hv' : Nat → Value} {d : Option Nat} {H' : Hp}
theorem SemD.step (h : SemD H0 Z0 A e s Z hv) {ts' : List Ty} {e' : Pe ts'} (hx : Ex e e') {ob' : List Ob} (T : Nat → Prop) (hsz : s.H.size ≤ H'.size) (hT : ∀ b, b < s.H.size → ¬ T b → H'.get b = s.H.get b)
    (hTz : ∀ b, T b → ¬ Z b ∧ (b < s.H.size → H0.size ≤ b)) (hhv : ∀ j, j < A.ob.length → hv' j = hv j) (hn : A.ob.length ≤ ob'.length) (J : Nat)
    (hJ : ∀ o', ob'[J]? = some o' → o'.live = true → ObOK ⟨H', Z, hv'⟩ e' ob'.length H0.size (hv' J) o' ∧ ∀ b, blk (hv' J) = some b → s.H.size ≤ b ∨ T b)
    (hob : ∀ j o', j ≠ J → ob'[j]? = some o' → o'.live = true → A.ob[j]? = some o' ∧ ∀ b, blk (hv j) = some b → ¬ T b) {a : AV} {v : Value} (ha : d.isSome = true → AVOK ⟨H', Z, hv'⟩ e' ob'.length a v) :
    SemD H0 Z0 ⟨ts', setS A.sl d a, ob'⟩ e' (s.nx H' d v) Z hv' := by
  have hz : ∀ b, Z b → H'.get b = s.H.get b := fun b hb => hT b (h.zs b hb) fun t => (hTz b t).1 hb
  have g : Grow ⟨s.H, Z, hv⟩ ⟨H', Z, hv'⟩ e e' A.ob.length ob'.length := ⟨fun _ h => h, hz, hhv, hn, hx⟩
  have keep : Kept H0 H' := ⟨Nat.le_trans h.keep.1 hsz, fun b hb => (hT b (Nat.lt_of_lt_of_le hb h.keep.1) fun t => by
    have := (hTz b t).2 (Nat.lt_of_lt_of_le hb h.keep.1); omega).trans (h.keep.2 b hb)⟩
  have old : ∀ j o', j ≠ J → ob'[j]? = some o' → o'.live = true → ∀ b, blk (hv' j) = some b → blk (hv j) = some b ∧ b < s.H.size ∧ ¬ T b ∧ A.ob[j]? = some o' := by
    intro j o' hj ho hl b hb
    obtain ⟨h1, h2⟩ := hob j o' hj ho hl
    have hlt : j < A.ob.length := (List.getElem?_eq_some_iff.1 h1).1
    rw [hhv j hlt] at hb
    exact ⟨hb, (h.old h1 hl hb).2.1, h2 b hb, h1⟩
  refine ⟨by rw [nx_ds]; exact h.ds, by rw [nx_df]; exact h.df, by rw [nx_H]; exact keep, h.z0, by rw [nx_H]; exact fun b hb => Nat.lt_of_lt_of_le (h.zs b hb) hsz, h.zf, ?_, ?_, ?_⟩
  · intro j o' hj
    rw [nx_H]
    by_cases hl : o'.live = true
    · by_cases e1 : j = J
      · subst e1; exact (hJ o' hj hl).1
      · obtain ⟨h1, h2⟩ := hob j o' e1 hj hl
        have hlt : j < A.ob.length := (List.getElem?_eq_some_iff.1 h1).1
        rw [hhv j hlt]
        refine (h.ob j o' h1).mono g hsz fun _ b hb => ⟨hT b (h.old h1 hl hb).2.1 (h2 b hb), (h.old h1 hl hb).2.2⟩
    · cases o' with
      | dead => trivial
      | _ => exact absurd rfl hl
  · intro j j' o o' b hne hj hj' hl hl' hb hb'
    by_cases e1 : j = J
    · subst e1
      have e2 : j' ≠ j := Ne.symm hne
      obtain ⟨a1, a2, a3, _⟩ := old j' o' e2 hj' hl' b hb'
      rcases (hJ o hj hl).2 b hb with h3 | h3
      · omega
      · exact a3 h3
    · obtain ⟨a1, a2, a3, a4⟩ := old j o e1 hj hl b hb
      by_cases e2 : j' = J
      · subst e2
        rcases (hJ o' hj' hl').2 b hb' with h3 | h3
        · omega
        · exact a3 h3
      · obtain ⟨b1, b2, b3, b4⟩ := old j' o' e2 hj' hl' b hb'
        exact h.dj j j' o o' b hne a4 b4 hl hl' a1 b1
  · intro k a' ha'
    rw [nx_H]
    cases d with
    | none =>
      rw [nx_getn]
      exact (h.sl k a' ha').mono g
    | some d =>
      rw [look_setS] at ha'
      rw [nx_get]
      split at ha'
      · rename_i hd
        cases ha'
        rw [if_pos hd]; exact ha rfl
      · rename_i hd
        rw [if_neg hd]
        exact (h.sl k a' ha').mono g
def upH (hv : Nat → Value) (n : Nat) (v : Value) (j : Nat) : Value := if j = n then v else hv j
theorem upH_at (n : Nat) (v : Value) : upH hv n v n = v := if_pos rfl
theorem upH_lt {n j : Nat} (v : Value) (h : j < n) : upH hv n v j = hv j := if_neg (by omega)
theorem SemD.grow (h : SemD H0 Z0 A e s Z hv) {ts' : List Ty} {e' : Pe ts'} (hx : Ex e e') (hk : Kept s.H H') {o : Ob} {v0 : Value} (ho : ObOK ⟨H', Z, upH hv A.ob.length v0⟩ e' (A.ob.length + 1) H0.size v0 o) (hb : ∀ b, blk v0 = some b → s.H.size ≤ b)
    {a : AV} {v : Value} (ha : d.isSome = true → AVOK ⟨H', Z, upH hv A.ob.length v0⟩ e' (A.ob.length + 1) a v) :
    SemD H0 Z0 ⟨ts', setS A.sl d a, A.ob ++ [o]⟩ e' (s.nx H' d v) Z (upH hv A.ob.length v0) := by
  have hl : (A.ob ++ [o]).length = A.ob.length + 1 := by simp
  refine h.step hx (fun _ => False) hk.1 (fun b hb _ => hk.2 b hb) (fun b hb => hb.elim) (fun j hj => upH_lt v0 hj) (by omega) A.ob.length ?_ ?_ ?_
  · intro o' ho' _
    rw [List.getElem?_append_right (Nat.le_refl _)] at ho'
    simp at ho'
    subst ho'
    rw [upH_at, hl]
    exact ⟨ho, fun b hb' => .inl (hb b hb')⟩
  · intro j o' hj ho' _
    rw [List.getElem?_append] at ho'
    split at ho'
    · exact ⟨ho', fun _ _ h => h⟩
    · have := (List.getElem?_eq_some_iff.1 ho').1
      simp at this; omega
  · rw [hl]; exact ha
theorem SemD.upd (h : SemD H0 Z0 A e s Z hv) {ts' : List Ty} {e' : Pe ts'} (hx : Ex e e') {j b : Nat} {o o' : Ob} {obj : AObj} (hj : A.ob[j]? = some o) (hl : o.live = true) (hb : blk (hv j) = some b)
    (ho : ObOK ⟨s.H.put b obj, Z, hv⟩ e' A.ob.length H0.size (hv j) o') {a : AV} {v : Value} (ha : d.isSome = true → AVOK ⟨s.H.put b obj, Z, hv⟩ e' A.ob.length a v) :
    SemD H0 Z0 ⟨ts', setS A.sl d a, A.ob.set j o'⟩ e' (s.nx (s.H.put b obj) d v) Z hv := by
  obtain ⟨p1, p2, p3⟩ := h.old hj hl hb
  have hlt : j < A.ob.length := (List.getElem?_eq_some_iff.1 hj).1
  refine h.step (H' := s.H.put b obj) (ob' := A.ob.set j o') hx (fun c => c = b) (Nat.le_refl _) (fun c _ hc => by rw [Hp.get_put, if_neg (Ne.symm hc)]) (fun c hc => by subst hc; exact ⟨p3, fun _ => p1⟩) (fun _ _ => rfl) (by simp) j ?_ ?_ ?_
  · intro o'' ho'' _
    rw [List.getElem?_set_self hlt] at ho''
    cases ho''
    exact ⟨by simpa using ho, fun c hc => .inr (by rw [hb] at hc; cases hc; rfl)⟩
  · intro j' o'' hne ho'' hl''
    rw [List.getElem?_set_ne (Ne.symm hne)] at ho''
    exact ⟨ho'', fun c hc e1 => by subst e1; exact h.dj j' j o'' o c hne ho'' hj hl'' hl hc hb⟩
  · simpa using ha
theorem SemD.move (h : SemD H0 Z0 A e s Z hv) {ts' : List Ty} {e' : Pe ts'} (hx : Ex e e') {j : Nat} {o o' : Ob} {v0 : Value} (hj : A.ob[j]? = some o) (hl : o.live = true) (hsz : s.H.size ≤ H'.size)
    (hT : ∀ c, c < s.H.size → blk (hv j) ≠ some c → H'.get c = s.H.get c) (ho : ObOK ⟨H', Z, upH hv A.ob.length v0⟩ e' (A.ob.length + 1) H0.size v0 o') (hb0 : ∀ c, blk v0 = some c → s.H.size ≤ c ∨ blk (hv j) = some c)
    {a : AV} {v : Value} (ha : d.isSome = true → AVOK ⟨H', Z, upH hv A.ob.length v0⟩ e' (A.ob.length + 1) a v) :
    SemD H0 Z0 ⟨ts', setS A.sl d a, A.ob.set j .dead ++ [o']⟩ e' (s.nx H' d v) Z (upH hv A.ob.length v0) := by
  have hlt : j < A.ob.length := (List.getElem?_eq_some_iff.1 hj).1
  have hln : (A.ob.set j .dead ++ [o']).length = A.ob.length + 1 := by simp
  refine h.step hx (fun c => blk (hv j) = some c) hsz hT (fun c hc => ⟨(h.old hj hl hc).2.2, fun _ => (h.old hj hl hc).1⟩) (fun j hj => upH_lt v0 hj) (by omega) A.ob.length ?_ ?_ ?_
  · intro o'' ho'' _
    rw [List.getElem?_append_right (by simp)] at ho''
    simp at ho''
    subst ho''
    rw [upH_at, hln]
    exact ⟨ho, hb0⟩
  · intro j' o'' hne ho'' hl''
    rw [List.getElem?_append] at ho''
    split at ho''
    · by_cases e1 : j' = j
      · subst e1
        rw [List.getElem?_set_self hlt] at ho''
        cases ho''
        cases hl''
      · rw [List.getElem?_set_ne (Ne.symm e1)] at ho''
        exact ⟨ho'', fun c hc e2 => h.dj j' j o'' o c e1 ho'' hj hl'' hl hc e2⟩
    · have h3 := (List.getElem?_eq_some_iff.1 ho'').1
      simp at h3
      rename_i hh
      simp at hh
      omega
  · rw [hln]; exact ha
end
def frAt (j i : Nat) : At → At
  | .hd k => if k = j then .pu i else .hd k
  | a => a
def frV1 (j i : Nat) : AV1 → AV1
  | .a x => .a (frAt j i x)
  | .g l => .g (l.map (frAt j i))
def frV (j i : Nat) : AV → AV
  | .v x => .v (frV1 j i x)
  | .tp l => .tp (l.map (frV1 j i))
  | .un => .un
def frOb (j i : Nat) : Ob → Ob
  | .bx l => .bx (l.map (frAt j i))
  | o => o
def frS (j i : Nat) : List (Nat × AV) → List (Nat × AV)
  | [] => []
  | (k, v) :: r => (k, frV j i v) :: frS j i r
def frA (A : AState) (j i : Nat) : AState := ⟨A.ts, frS j i A.sl, (A.ob.set j .dead).map (frOb j i)⟩
def frz1 (j : Nat) (sl : List (Nat × AV)) (ob : List Ob) : List (Nat × AV) × List Ob := match ob[j]? with
  | some (.sl _ _ i) => (frS j i sl, (ob.set j .dead).map (frOb j i))
  | _ => (sl, ob)
def frzP : List Nat → List (Nat × AV) × List Ob → List (Nat × AV) × List Ob
  | [], p => p
  | j :: r, p => frzP r (frz1 j p.1 p.2)
def frz (A : AState) (js : List Nat) : AState := ⟨A.ts, (frzP js (A.sl, A.ob)).1, (frzP js (A.sl, A.ob)).2⟩
section
variable {H0 : Hp} {Z0 Z : Nat → Prop} {A : AState} {e : Pe A.ts} {s : St} {hv : Nat → Value}
theorem look_frS (j i : Nat) (l : List (Nat × AV)) (d : Nat) : look (frS j i l) d = (look l d).map (frV j i) := by
  induction l with
  | nil => rfl
  | cons p r ih =>
    obtain ⟨k, v⟩ := p
    simp only [frS, look]
    split
    · rfl
    · exact ih
theorem All2.map_left {α β γ : Type} {R : α → β → Prop} {R' : γ → β → Prop} {f : α → γ} (h : ∀ a b, R a b → R' (f a) b) : ∀ {l : List α} {m : List β}, All2 R l m → All2 R' (l.map f) m
  | [], [], _ => trivial
  | _ :: _, _ :: _, ⟨a, b⟩ => ⟨h _ _ a, map_left h b⟩
  | [], _ :: _, h => h.elim
  | _ :: _, [], h => h.elim
theorem SemD.frz (h : SemD H0 Z0 A e s Z hv) {j i : Nat} {t : Ty} {ty : Nat} (hj : A.ob[j]? = some (.sl t ty i)) : SemD H0 Z0 (frA A j i) e s (fun b => Z b ∨ blk (hv j) = some b) hv := by
  obtain ⟨l, h1, h2⟩ := h.ob j _ hj
  have hlt : j < A.ob.length := (List.getElem?_eq_some_iff.1 hj).1
  have g : Grow ⟨s.H, Z, hv⟩ ⟨s.H, fun b => Z b ∨ blk (hv j) = some b, hv⟩ e e A.ob.length A.ob.length := ⟨fun _ h => .inl h, fun _ _ => rfl, fun _ _ => rfl, Nat.le_refl _, Ex.refl e⟩
  have gat : ∀ (a : At) (cs : List Value), AtOK ⟨s.H, Z, hv⟩ e A.ob.length a cs → AtOK ⟨s.H, fun b => Z b ∨ blk (hv j) = some b, hv⟩ e A.ob.length (frAt j i a) cs := by
    intro a cs ha
    cases a with
    | hd k =>
      simp only [frAt]
      split
      · rename_i hk
        subst hk
        obtain ⟨_, _, rfl⟩ := ha
        exact ⟨.sl t, l, h1, h2.rep (fun _ h => .inl h) fun b hb => .inr hb⟩
      · exact ha.mono g
    | _ => exact ha.mono g
  have gv1 : ∀ (a : AV1) (v : Value), AV1OK ⟨s.H, Z, hv⟩ e A.ob.length a v → AV1OK ⟨s.H, fun b => Z b ∨ blk (hv j) = some b, hv⟩ e A.ob.length (frV1 j i a) v := by
    intro a v ha
    cases a with
    | a x => exact gat _ _ ha
    | g l =>
      obtain ⟨cs, rfl, ps, e1, e2⟩ := ha
      exact ⟨cs, rfl, ps, e1, e2.map_left gat⟩
  have hlen : (frA A j i).ob.length = A.ob.length := by simp [frA]
  have hob : ∀ k o, (frA A j i).ob[k]? = some o → o.live = true → k ≠ j ∧ ∃ o0, A.ob[k]? = some o0 ∧ o0.live = true ∧ o = frOb j i o0 := by
    intro k o hk hl
    simp only [frA, List.getElem?_map] at hk
    by_cases e1 : k = j
    · subst e1
      rw [List.getElem?_set_self hlt] at hk
      simp at hk
      subst hk
      cases hl
    · rw [List.getElem?_set_ne (Ne.symm e1)] at hk
      simp only [Option.map_eq_some_iff] at hk
      obtain ⟨o0, a1, rfl⟩ := hk
      refine ⟨e1, o0, a1, ?_, rfl⟩
      cases o0 <;> exact hl
  have hblk : ∀ b, blk (hv j) = some b → H0.size ≤ b ∧ b < s.H.size ∧ ¬ Z b := fun b hb => h.old hj rfl hb
  refine ⟨h.ds, h.df, h.keep, fun b hb => .inl (h.z0 b hb), ?_, ?_, ?_, ?_, ?_⟩
  · rintro b (hb | hb)
    · exact h.zs b hb
    · exact (hblk b hb).2.1
  · rintro b (hb | hb) hlt
    · exact h.zf b hb hlt
    · have := (hblk b hb).1; omega
  · intro k o hk
    rw [hlen]
    by_cases hl : o.live = true
    · obtain ⟨e1, o0, a1, a2, rfl⟩ := hob k o hk hl
      have h3 := (h.ob k o0 a1).mono g (Nat.le_refl _) (fun _ b hb => ⟨rfl, by
        rintro (h4 | h4)
        · exact (h.old a1 a2 hb).2.2 h4
        · exact h.dj k j o0 _ b e1 a1 hj a2 rfl hb h4⟩)
      cases o0 with
      | sl t' ty' i' => exact h3
      | bx l' =>
        obtain ⟨b, bc, u, q1, q2, q3, q4, q5, q6⟩ := h3
        refine ⟨b, bc, u, q1, q2, q3, q4, q5, ?_⟩
        obtain ⟨b', bc', u', r1, r2, r3, r4, r5, ps, r6, r7⟩ := h.ob k _ a1
        rw [q1] at r1
        cases r1
        have : bc' = bc := by
          have : s.H.get b = some (.cells bc u false) := q5
          have r5' : s.H.get b = some (.cells bc' u' false) := r5
          rw [this] at r5'; cases r5'; rfl
        subst this
        exact ⟨ps, r6, r7.map_left gat⟩
      | dead => cases a2
    · cases o with
      | dead => trivial
      | _ => exact absurd rfl hl
  · intro k k' o o' b hne hk hk' hl hl' hb hb'
    obtain ⟨e1, o0, a1, a2, rfl⟩ := hob k o hk hl
    obtain ⟨e2, o1, b1, b2, rfl⟩ := hob k' o' hk' hl'
    exact h.dj k k' o0 o1 b hne a1 b1 a2 b2 hb hb'
  · intro d a ha
    rw [hlen]
    simp only [frA, look_frS, Option.map_eq_some_iff] at ha
    obtain ⟨a0, h3, rfl⟩ := ha
    have h4 := h.sl d a0 h3
    cases a0 with
    | v x => exact gv1 _ _ h4
    | tp l =>
      obtain ⟨vs, e1, e2⟩ := h4
      exact ⟨vs, e1, e2.map_left gv1⟩
    | un => exact h4
theorem SemD.frzs : ∀ (js : List Nat) {sl : List (Nat × AV)} {ob : List Ob} {ts : List Ty} {e : Pe ts} {Z : Nat → Prop}, SemD H0 Z0 ⟨ts, sl, ob⟩ e s Z hv → ∃ Z', SemD H0 Z0 ⟨ts, (frzP js (sl, ob)).1, (frzP js (sl, ob)).2⟩ e s Z' hv
  | [], sl, ob, ts, e, Z, h => ⟨Z, h⟩
  | j :: r, sl, ob, ts, e, Z, h => by
    have h1 : ∃ Z', SemD H0 Z0 ⟨ts, (frz1 j sl ob).1, (frz1 j sl ob).2⟩ e s Z' hv := by
      unfold frz1
      cases hj : ob[j]? with
      | none => exact ⟨Z, h⟩
      | some o =>
        cases o with
        | sl t ty i => exact ⟨_, h.frz (j := j) (i := i) hj⟩
        | bx l => exact ⟨Z, h⟩
        | dead => exact ⟨Z, h⟩
    obtain ⟨Z', h1⟩ := h1
    exact SemD.frzs r h1
end
end Go.Proofs.YtehbekgmemebjaaDoorEv
