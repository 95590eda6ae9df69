import Derived.Test.YtbjdbpkdkfkpeaaDoorEvX
namespace Go.Proofs.YtbjdbpkdkfkpeaaDoorEv
open Go
set_option linter.unusedVariables false
set_option linter.unusedSimpArgs false
inductive Ty where
  | int (k : IntKind)
  | bool
  | str
  | sl (t : Ty)
  | unit
  | pair (a b : Ty)
  | arr (n : Nat) (t : Ty)
deriving DecidableEq
@[reducible] def Ty.den : Ty → Type
  | .int _ => Int
  | .bool => Bool
  | .str => ByteArray
  | .sl t => List t.den
  | .unit => Unit
  | .pair a b => a.den × b.den
  | .arr _ t => List t.den
def Ty.w : Ty → Nat
  | .unit => 0
  | .pair a b => a.w + b.w
  | .arr n t => n * t.w
  | _ => 1
def Ty.isAgg : Ty → Bool
  | .unit | .pair _ _ | .arr _ _ => true
  | _ => false
def All2 {α β : Type} (R : α → β → Prop) : List α → List β → Prop
  | [], [] => True
  | a :: l, b :: m => R a b ∧ All2 R l m
  | _, _ => False
namespace All2
variable {α β : Type} {R R' : α → β → Prop}
theorem mono (h : ∀ a b, R a b → R' a b) : ∀ {l : List α} {m : List β}, All2 R l m → All2 R' l m
  | [], [], _ => trivial
  | _ :: _, _ :: _, ⟨a, b⟩ => ⟨h _ _ a, mono h b⟩
  | [], _ :: _, h => h.elim
  | _ :: _, [], h => h.elim
theorem length : ∀ {l : List α} {m : List β}, All2 R l m → l.length = m.length
  | [], [], _ => rfl
  | _ :: _, _ :: _, ⟨_, b⟩ => by simp [length b]
  | [], _ :: _, h => h.elim
  | _ :: _, [], h => h.elim
theorem append : ∀ {l l' : List α} {m m' : List β}, All2 R l m → All2 R l' m' → All2 R (l ++ l') (m ++ m')
  | [], _, [], _, _, h => h
  | _ :: _, _, _ :: _, _, ⟨a, b⟩, h => ⟨a, append b h⟩
  | [], _, _ :: _, _, h, _ => h.elim
  | _ :: _, _, [], _, h, _ => h.elim
theorem get : ∀ {l : List α} {m : List β} (i : Nat) {a : α}, All2 R l m → l[i]? = some a → ∃ b, m[i]? = some b ∧ R a b
  | a :: _, b :: _, 0, x, ⟨h, _⟩, e => by
    simp at e; subst e; exact ⟨b, rfl, h⟩
  | _ :: _, _ :: _, i + 1, x, ⟨_, h⟩, e => by
    simp only [List.getElem?_cons_succ] at e ⊢; exact get i h e
  | [], [], _, _, _, e => by simp at e
  | [], _ :: _, _, _, h, _ => h.elim
  | _ :: _, [], _, _, h, _ => h.elim
theorem set : ∀ {l : List α} {m : List β} (i : Nat) {a : α} {b : β}, All2 R l m → R a b → All2 R (l.set i a) (m.set i b)
  | _ :: _, _ :: _, 0, _, _, ⟨_, h⟩, r => ⟨r, h⟩
  | _ :: _, _ :: _, i + 1, _, _, ⟨a, h⟩, r => ⟨a, set i h r⟩
  | [], [], _, _, _, _, _ => trivial
  | [], _ :: _, _, _, _, h, _ => h.elim
  | _ :: _, [], _, _, _, h, _ => h.elim
theorem take : ∀ {l : List α} {m : List β} (i : Nat), All2 R l m → All2 R (l.take i) (m.take i)
  | _ :: _, _ :: _, 0, _ => trivial
  | _ :: _, _ :: _, i + 1, ⟨a, h⟩ => ⟨a, take i h⟩
  | [], [], i, _ => by cases i <;> trivial
  | [], _ :: _, _, h => h.elim
  | _ :: _, [], _, h => h.elim
theorem drop : ∀ {l : List α} {m : List β} (i : Nat), All2 R l m → All2 R (l.drop i) (m.drop i)
  | _ :: _, _ :: _, 0, h => h
  | _ :: _, _ :: _, i + 1, ⟨_, h⟩ => drop i h
  | [], [], i, _ => by cases i <;> trivial
  | [], _ :: _, _, h => h.elim
  | _ :: _, [], _, h => h.elim
theorem replicate {a : α} {b : β} (h : R a b) : ∀ n, All2 R (List.replicate n a) (List.replicate n b)
  | 0 => trivial
  | n + 1 => ⟨h, replicate h n⟩
end All2
def Rep (H : Hp) (Z : Nat → Prop) : (t : Ty) → t.den → List Value → Prop
  | .int k, n, cs => cs = [.int k n]
  | .bool, b, cs => cs = [.bool b]
  | .str, s, cs => cs = [.string s]
  | .unit, _, cs => cs = []
  | .pair a b, x, cs => ∃ c d, cs = c ++ d ∧ Rep H Z a x.1 c ∧ Rep H Z b x.2 d
  | .arr n t, l, cs => ∃ ps : List (List Value), l.length = n ∧ cs = ps.flatten ∧ All2 (Rep H Z t) l ps
  | .sl t, l, cs => ∃ base k, cs = [.slice base l.length k] ∧ (l = [] ∧ (base = none → k = 0) ∨ ∃ b o sp bc u ro, ∃ ps : List (List Value), ∃ rest, base = some ⟨b, o, sp⟩ ∧ Z b ∧ H.get b = some (.cells bc u ro) ∧ bc.drop o = ps.flatten ++ rest ∧ All2 (Rep H Z t) l ps ∧ (sp = some 2 ∨ u.u = 0 ∨ u.u = t.w) ∧ 0 < t.w ∧ l.length ≤ k)
section
variable {H H' : Hp} {Z Z' : Nat → Prop}
theorem Rep.mono (hz : ∀ b, Z b → Z' b) (hh : ∀ b, Z b → H'.get b = H.get b) : ∀ (t : Ty) (x : t.den) (cs : List Value), Rep H Z t x cs → Rep H' Z' t x cs := by
  intro t
  induction t with
  | int k => intro x cs h; exact h
  | bool => intro x cs h; exact h
  | str => intro x cs h; exact h
  | unit => intro x cs h; exact h
  | pair a b iha ihb =>
    rintro x cs ⟨c, d, rfl, h1, h2⟩
    exact ⟨c, d, rfl, iha _ _ h1, ihb _ _ h2⟩
  | arr n t ih =>
    rintro l cs ⟨ps, h1, rfl, h2⟩
    exact ⟨ps, h1, rfl, h2.mono ih⟩
  | sl t ih =>
    rintro l cs ⟨base, k, rfl, h⟩
    refine ⟨base, k, rfl, ?_⟩
    rcases h with h | ⟨b, o, sp, bc, u, ro, ps, rest, rfl, zb, hg, hd, h2, hu⟩
    · exact .inl h
    · exact .inr ⟨b, o, sp, bc, u, ro, ps, rest, rfl, hz b zb, (hh b zb).trans hg, hd, h2.mono ih, hu⟩
theorem Rep.len : ∀ (t : Ty) (x : t.den) (cs : List Value), Rep H Z t x cs → cs.length = t.w := by
  intro t
  induction t with
  | int k => intro x cs h; cases h; rfl
  | bool => intro x cs h; cases h; rfl
  | str => intro x cs h; cases h; rfl
  | unit => intro x cs h; cases h; rfl
  | pair a b iha ihb =>
    rintro x cs ⟨c, d, rfl, h1, h2⟩
    rw [List.length_append, iha _ _ h1, ihb _ _ h2]; rfl
  | arr n t ih =>
    rintro l cs ⟨ps, h1, rfl, h2⟩
    have : ∀ (l : List t.den) (ps : List (List Value)), All2 (Rep H Z t) l ps → ps.flatten.length = l.length * t.w := by
      intro l
      induction l with
      | nil => intro ps h; cases ps with
        | nil => simp
        | cons _ _ => exact h.elim
      | cons a l ihl => intro ps h; cases ps with
        | nil => exact h.elim
        | cons p ps =>
          rw [List.flatten_cons, List.length_append, ih _ _ h.1, ihl _ h.2, List.length_cons, Nat.add_mul]; omega
    rw [this _ _ h2, h1]; rfl
  | sl t ih =>
    rintro l cs ⟨base, k, rfl, h⟩
    rfl
theorem reps_len {t : Ty} : ∀ {l : List t.den} {ps : List (List Value)}, All2 (Rep H Z t) l ps → ps.flatten.length = l.length * t.w
  | [], [], _ => by simp
  | _ :: _, _ :: _, ⟨a, b⟩ => by rw [List.flatten_cons, List.length_append, Rep.len _ _ _ a, reps_len b, List.length_cons, Nat.add_mul]; omega
  | [], _ :: _, h => h.elim
  | _ :: _, [], h => h.elim
theorem reps_at {t : Ty} : ∀ {l : List t.den} {ps : List (List Value)} (i : Nat) {x : t.den}, All2 (Rep H Z t) l ps → l[i]? = some x → ∃ rest, Rep H Z t x ((ps.flatten.drop (i * t.w)).take t.w) ∧ ps.flatten.drop (i * t.w) = (ps.flatten.drop (i * t.w)).take t.w ++ rest
  | a :: l, p :: ps, 0, x, ⟨h, _⟩, e => by
    simp at e; subst e
    have := Rep.len _ _ _ h
    rw [Nat.zero_mul, List.drop_zero, List.flatten_cons, ← this, List.take_left]
    exact ⟨ps.flatten, h, rfl⟩
  | a :: l, p :: ps, i + 1, x, ⟨h, h'⟩, e => by
    have := Rep.len _ _ _ h
    have e2 : (p :: ps).flatten.drop ((i + 1) * t.w) = ps.flatten.drop (i * t.w) := by
      rw [List.flatten_cons, Nat.add_mul, Nat.one_mul, Nat.add_comm, ← this, ← List.drop_drop, List.drop_left]
    rw [e2]
    exact reps_at i h' (by simpa using e)
  | [], [], _, _, _, e => by simp at e
  | [], _ :: _, _, _, h, _ => h.elim
  | _ :: _, [], _, _, h, _ => h.elim
def RepV (H : Hp) (Z : Nat → Prop) (t : Ty) (x : t.den) (v : Value) : Prop := if t.isAgg then ∃ cs : List Value, v = .agg cs.toArray ∧ Rep H Z t x cs else Rep H Z t x [v]
theorem RepV.mono (hz : ∀ b, Z b → Z' b) (hh : ∀ b, Z b → H'.get b = H.get b) {t : Ty} {x : t.den} {v : Value} (h : RepV H Z t x v) : RepV H' Z' t x v := by
  unfold RepV at *
  split
  · rename_i ha
    rw [if_pos ha] at h
    obtain ⟨cs, e, r⟩ := h
    exact ⟨cs, e, r.mono hz hh⟩
  · rename_i ha
    rw [if_neg ha] at h
    exact Rep.mono hz hh _ _ _ h
theorem RepV.cells {t : Ty} {x : t.den} {v : Value} (h : RepV H Z t x v) : Rep H Z t x v.cells.toList := by
  unfold RepV at h
  split at h
  · obtain ⟨cs, rfl, r⟩ := h
    exact r
  · rename_i ha
    cases t with
    | int k => cases h; exact rfl
    | bool => cases h; exact rfl
    | str => cases h; exact rfl
    | sl t =>
      obtain ⟨base, k, e, r⟩ := h
      cases e
      exact ⟨base, k, rfl, r⟩
    | unit => exact absurd rfl ha
    | pair a b => exact absurd rfl ha
    | arr n t => exact absurd rfl ha
theorem Rep.isCell : ∀ (t : Ty) (x : t.den) (cs : List Value), Rep H Z t x cs → cs.all isCell = true := by
  intro t
  induction t with
  | int k => intro x cs h; cases h; rfl
  | bool => intro x cs h; cases h; rfl
  | str => intro x cs h; cases h; rfl
  | unit => intro x cs h; cases h; rfl
  | pair a b iha ihb =>
    rintro x cs ⟨c, d, rfl, h1, h2⟩
    rw [List.all_append, iha _ _ h1, ihb _ _ h2]; rfl
  | arr n t ih =>
    rintro l cs ⟨ps, h1, rfl, h2⟩
    have : ∀ (l : List t.den) (ps : List (List Value)), All2 (Rep H Z t) l ps → ps.flatten.all _root_.Go.Proofs.YtbjdbpkdkfkpeaaDoorEv.isCell = true := by
      intro l
      induction l with
      | nil => intro ps h; cases ps with
        | nil => rfl
        | cons _ _ => exact h.elim
      | cons a l ihl => intro ps h; cases ps with
        | nil => exact h.elim
        | cons p ps => rw [List.flatten_cons, List.all_append, ih _ _ h.1, ihl _ h.2]; rfl
    exact this _ _ h2
  | sl t ih =>
    rintro l cs ⟨base, k, rfl, h⟩
    rfl
theorem reps_isCell {t : Ty} : ∀ {l : List t.den} {ps : List (List Value)}, All2 (Rep H Z t) l ps → ps.flatten.all _root_.Go.Proofs.YtbjdbpkdkfkpeaaDoorEv.isCell = true
  | [], [], _ => rfl
  | _ :: _, _ :: _, ⟨a, b⟩ => by rw [List.flatten_cons, List.all_append, Rep.isCell _ _ _ a, reps_isCell b]; rfl
  | [], _ :: _, h => h.elim
  | _ :: _, [], h => h.elim
end
end Go.Proofs.YtbjdbpkdkfkpeaaDoorEv
