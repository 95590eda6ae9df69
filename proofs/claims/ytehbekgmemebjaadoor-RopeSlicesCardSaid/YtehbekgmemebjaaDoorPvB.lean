import Derived.Test.YtehbekgmemebjaaDoorEvX
namespace Go.Proofs.YtehbekgmemebjaaDoorEv
open Go
set_option linter.unusedVariables false
set_option linter.unusedSimpArgs false
inductive Ty where
  | int (k : IntKind)
  | bool
  | str
  | sl (t : Ty)
  | unit
  | pair (a b : Ty)
  | arr (n : Nat) (t : Ty)
deriving DecidableEq
@[reducible] def Ty.den : Ty → Type
  | .int _ => Int
  | .bool => Bool
  | .str => ByteArray
  | .sl t => List t.den
  | .unit => Unit
  | .pair a b => a.den × b.den
  | .arr _ t => List t.den
def Ty.w : Ty → Nat
  | .unit => 0
  | .pair a b => a.w + b.w
  | .arr n t => n * t.w
  | _ => 1
def Ty.isAgg : Ty → Bool
  | .unit | .pair _ _ | .arr _ _ => true
  | _ => false
def All2 {α β : Type} (R : α → β → Prop) : List α → List β → Prop
  | [], [] => True
  | a :: l, b :: m => R a b ∧ All2 R l m
  | _, _ => False
namespace All2
variable {α β : Type} {R R' : α → β → Prop}
theorem mono (h : ∀ a b, R a b → R' a b) : ∀ {l : List α} {m : List β}, All2 R l m → All2 R' l m
  | [], [], _ => trivial
  | _ :: _, _ :: _, ⟨a, b⟩ => ⟨h _ _ a, mono h b⟩
  | [], _ :: _, h => h.elim
  | _ :: _, [], h => h.elim
theorem length : ∀ {l : List α} {m : List β}, All2 R l m → l.length = m.length
  | [], [], _ => rfl
  | _ :: _, _ :: _, ⟨_, b⟩ => by simp [length b]
  | [], _ :: _, h => h.elim
  | _ :: _, [], h => h.elim
theorem append : ∀ {l l' : List α} {m m' : List β}, All2 R l m → All2 R l' m' → All2 R (l ++ l') (m ++ m')
  | [], _, [], _, _, h => h
  | _ :: _, _, _ :: _, _, ⟨a, b⟩, h => ⟨a, append b h⟩
  | [], _, _ :: _, _, h, _ => h.elim
  | _ :: _, _, [], _, h, _ => h.elim
theorem get : ∀ {l : List α} {m : List β} (i : Nat) {a : α}, All2 R l m → l[i]? = some a → ∃ b, m[i]? = some b ∧ R a b
  | a :: _, b :: _, 0, x, ⟨h, _⟩, e => by
    simp at e; subst e; exact ⟨b, rfl, h⟩
  | _ :: _, _ :: _, i + 1, x, ⟨_, h⟩, e => by
    simp only [List.getElem?_cons_succ] at e ⊢; exact get i h e
  | [], [], _, _, _, e => by simp at e
  | [], _ :: _, _, _, h, _ => h.elim
  | _ :: _, [], _, _, h, _ => h.elim
theorem set : ∀ {l : List α} {m : List β} (i : Nat) {a : α} {b : β}, All2 R l m → R a b → All2 R (l.set i a) (m.set i b)
  | _ :: _, _ :: _, 0, _, _, ⟨_, h⟩, r => ⟨r, h⟩
  | _ :: _, _ :: _, i + 1, _, _, ⟨a, h⟩, r => ⟨a, set i h r⟩
  | [], [], _, _, _, _, _ => trivial
  | [], _ :: _, _, _, _, h, _ => h.elim
  | _ :: _, [], _, _, _, h, _ => h.elim
theorem take : ∀ {l : List α} {m : List β} (i : Nat), All2 R l m → All2 R (l.take i) (m.take i)
  | _ :: _, _ :: _, 0, _ => trivial
  | _ :: _, _ :: _, i + 1, ⟨a, h⟩ => ⟨a, take i h⟩
  | [], [], i, _ => by cases i <;> trivial
  | [], _ :: _, _, h => h.elim
  | _ :: _, [], _, h => h.elim
theorem drop : ∀ {l : List α} {m : List β} (i : Nat), All2 R l m → All2 R (l.drop i) (m.drop i)
  | _ :: _, _ :: _, 0, h => h
  | _ :: _, _ :: _, i + 1, ⟨_, h⟩ => drop i h
  | [], [], i, _ => by cases i <;> trivial
  | [], _ :: _, _, h => h.elim
  | _ :: _, [], _, h => h.elim
theorem replicate {a : α} {b : β} (h : R a b) : ∀ n, All2 R (List.replicate n a) (List.replicate n b)
  | 0 => trivial
  | n + 1 => ⟨h, replicate h n⟩
end All2
def Rep (H : Hp) (Z : Nat → Prop) : (t : Ty) → t.den → List Value → Prop
  | .int k, n, cs => cs = [.int k n]
  | .bool, b, cs => cs = [.bool b]
  | .str, s, cs => cs = [.string s]
  | .unit, _, cs => cs = []
  | .pair a b, x, cs => ∃ c d, cs = c ++ d ∧ Rep H Z a x.1 c ∧ Rep H Z b x.2 d
  | .arr n t, l, cs => ∃ ps : List (List Value), l.length = n ∧ cs = ps.flatten ∧ All2 (Rep H Z t) l ps
  | .sl t, l, cs => ∃ base k, cs = [.slice base l.length k] ∧ (l = [] ∧ (base = none → k = 0) ∨ ∃ b o sp bc u ro, ∃ ps : List (List Value), ∃ rest, base = some ⟨b, o, sp⟩ ∧ Z b ∧ H.get b = some (.cells bc u ro) ∧ bc.drop o = ps.flatten ++ rest ∧ All2 (Rep H Z t) l ps ∧ (sp = some 2 ∨ u.u = 0 ∨ u.u = t.w) ∧ 0 < t.w ∧ l.length ≤ k)
section
variable {H H' : Hp} {Z Z' : Nat → Prop}
theorem Rep.mono (hz : ∀ b, Z b → Z' b) (hh : ∀ b, Z b → H'.get b = H.get b) : ∀ (t : Ty) (x : t.den) (cs : List Value), Rep H Z t x cs → Rep H' Z' t x cs := by
  intro t
  induction t with
  | int k => intro x cs h; exact h
  | bool => intro x cs h; exact h
  | str => intro x cs h; exact h
  | unit => intro x cs h; exact h
  | pair a b iha ihb =>
    rintro x cs ⟨c, d, rfl, h1, h2⟩
    exact ⟨c, d, rfl, iha _ _ h1, ihb _ _ h2⟩
  | arr n t ih =>
    rintro l cs ⟨ps, h1, rfl, h2⟩
    exact ⟨ps, h1, rfl, h2.mono ih⟩
  | sl t ih =>
    rintro l cs ⟨base, k, rfl, h⟩
    refine ⟨base, k, rfl, ?_⟩
    rcases h with h | ⟨b, o, sp, bc, u, ro, ps, rest, rfl, zb, hg, hd, h2, hu⟩
    · exact .inl h
    · exact .inr ⟨b, o, sp, bc, u, ro, ps, rest, rfl, hz b zb, (hh b zb).trans hg, hd, h2.mono ih, hu⟩
theorem Rep.len : ∀ (t : Ty) (x : t.den) (cs : List Value), Rep H Z t x cs → cs.length = t.w := by
  intro t
  induction t with
  | int k => intro x cs h; cases h; rfl
  | bool => intro x cs h; cases h; rfl
  | str => intro x cs h; cases h; rfl
  | unit => intro x cs h; cases h; rfl
  | pair a b iha ihb =>
    rintro x cs ⟨c, d, rfl, h1, h2⟩
    rw [List.length_append, iha _ _ h1, ihb _ _ h2]; rfl
  | arr n t ih =>
    rintro l cs ⟨ps, h1, rfl, h2⟩
    have : ∀ (l : List t.den) (ps : List (List Value)), All2 (Rep H Z t) l ps → ps.flatten.length = l.length * t.w := by
      intro l
      induction l with
      | nil => intro ps h; cases ps with
        | nil => simp
        | cons _ _ => exact h.elim
      | cons a l ihl => intro ps h; cases ps with
        | nil => exact h.elim
        | cons p ps =>
          rw [List.flatten_cons, List.length_append, ih _ _ h.1, ihl _ h.2, List.length_cons, Nat.add_mul]; omega
    rw [this _ _ h2, h1]; rfl
  | sl t ih =>
    rintro l cs ⟨base, k, rfl, h⟩
    rfl
theorem reps_len {t : Ty} : ∀ {l : List t.den} {ps : List (List Value)}, All2 (Rep H Z t) l ps → ps.flatten.length = l.length * t.w
  | [], [], _ => by simp
  | _ :: _, _ :: _, ⟨a, b⟩ => by rw [List.flatten_cons, List.length_append, Rep.len _ _ _ a, reps_len b, List.length_cons, Nat.add_mul]; omega
  | [], _ :: _, h => h.elim
  | _ :: _, [], h => h.elim
theorem reps_at {t : Ty} : ∀ {l : List t.den} {ps : List (List Value)} (i : Nat) {x : t.den}, All2 (Rep H Z t) l ps → l[i]? = some x → ∃ rest, Rep H Z t x ((ps.flatten.drop (i * t.w)).take t.w) ∧ ps.flatten.drop (i * t.w) = (ps.flatten.drop (i * t.w)).take t.w ++ rest
  | a :: l, p :: ps, 0, x, ⟨h, _⟩, e => by
    simp at e; subst e
    have := Rep.len _ _ _ h
    rw [Nat.zero_mul, List.drop_zero, List.flatten_cons, ← this, List.take_left]
    exact ⟨ps.flatten, h, rfl⟩
  | a :: l, p :: ps, i + 1, x, ⟨h, h'⟩, e => by
    have := Rep.len _ _ _ h
    have e2 : (p :: ps).flatten.drop ((i + 1) * t.w) = ps.flatten.drop (i * t.w) := by
      rw [List.flatten_cons, Nat.add_mul, Nat.one_mul, Nat.add_comm, ← this, ← List.drop_drop, List.drop_left]
    rw [e2]
    exact reps_at i h' (by simpa using e)
  | [], [], _, _, _, e => by simp at e
  | [], _ :: _, _, _, h, _ => h.elim
  | _ :: _, [], _, _, h, _ => h.elim
def RepV (H : Hp) (Z : Nat → Prop) (t : Ty) (x : t.den) (v : Value) : Prop := if t.isAgg then ∃ cs : List Value, v = .agg cs.toArray ∧ Rep H Z t x cs else Rep H Z t x [v]
theorem RepV.mono (hz : ∀ b, Z b → Z' b) (hh : ∀ b, Z b → H'.get b = H.get b) {t : Ty} {x : t.den} {v : Value} (h : RepV H Z t x v) : RepV H' Z' t x v := by
  unfold RepV at *
  split
  · rename_i ha
    rw [if_pos ha] at h
    obtain ⟨cs, e, r⟩ := h
    exact ⟨cs, e, r.mono hz hh⟩
  · rename_i ha
    rw [if_neg ha] at h
    exact Rep.mono hz hh _ _ _ h
theorem RepV.cells {t : Ty} {x : t.den} {v : Value} (h : RepV H Z t x v) : Rep H Z t x v.cells.toList := by
  unfold RepV at h
  split at h
  · obtain ⟨cs, rfl, r⟩ := h
    exact r
  · rename_i ha
    cases t with
    | int k => cases h; exact rfl
    | bool => cases h; exact rfl
    | str => cases h; exact rfl
    | sl t =>
      obtain ⟨base, k, e, r⟩ := h
      cases e
      exact ⟨base, k, rfl, r⟩
    | unit => exact absurd rfl ha
    | pair a b => exact absurd rfl ha
    | arr n t => exact absurd rfl ha
theorem Rep.isCell : ∀ (t : Ty) (x : t.den) (cs : List Value), Rep H Z t x cs → cs.all isCell = true := by
  intro t
  induction t with
  | int k => intro x cs h; cases h; rfl
  | bool => intro x cs h; cases h; rfl
  | str => intro x cs h; cases h; rfl
  | unit => intro x cs h; cases h; rfl
  | pair a b iha ihb =>
    rintro x cs ⟨c, d, rfl, h1, h2⟩
    rw [List.all_append, iha _ _ h1, ihb _ _ h2]; rfl
  | arr n t ih =>
    rintro l cs ⟨ps, h1, rfl, h2⟩
    have : ∀ (l : List t.den) (ps : List (List Value)), All2 (Rep H Z t) l ps → ps.flatten.all _root_.Go.Proofs.YtehbekgmemebjaaDoorEv.isCell = true := by
      intro l
      induction l with
      | nil => intro ps h; cases ps with
        | nil => rfl
        | cons _ _ => exact h.elim
      | cons a l ihl => intro ps h; cases ps with
        | nil => exact h.elim
        | cons p ps => rw [List.flatten_cons, List.all_append, ih _ _ h.1, ihl _ h.2]; rfl
    exact this _ _ h2
  | sl t ih =>
    rintro l cs ⟨base, k, rfl, h⟩
    rfl
theorem reps_isCell {t : Ty} : ∀ {l : List t.den} {ps : List (List Value)}, All2 (Rep H Z t) l ps → ps.flatten.all _root_.Go.Proofs.YtehbekgmemebjaaDoorEv.isCell = true
  | [], [], _ => rfl
  | _ :: _, _ :: _, ⟨a, b⟩ => by rw [List.flatten_cons, List.all_append, Rep.isCell _ _ _ a, reps_isCell b]; rfl
  | [], _ :: _, h => h.elim
  | _ :: _, [], h => h.elim
end
end Go.Proofs.YtehbekgmemebjaaDoorEv
namespace Go.Proofs.YtehbekgmemebjaaDoorEv
open Go
set_option linter.unusedVariables false
set_option linter.unusedSimpArgs false
def Kept (H H' : Hp) : Prop := H.size ≤ H'.size ∧ ∀ b, b < H.size → H'.get b = H.get b
theorem Kept.refl (H : Hp) : Kept H H := ⟨Nat.le_refl _, fun _ _ => rfl⟩
theorem Kept.trans {a b c : Hp} (h : Kept a b) (k : Kept b c) : Kept a c := ⟨Nat.le_trans h.1 k.1, fun x hx => (k.2 x (by have := h.1; omega)).trans (h.2 x hx)⟩
theorem Kept.new (H : Hp) (o : AObj) : Kept H (H.new o) := ⟨by rw [Hp.size_new]; omega, fun b hb => by rw [Hp.get_new, if_neg (by omega)]⟩
theorem Kept.put {H H' : Hp} (h : Kept H H') {b : Nat} (hb : H.size ≤ b) (o : AObj) : Kept H (H'.put b o) := ⟨h.1, fun x hx => by rw [Hp.get_put, if_neg (by omega)]; exact h.2 x hx⟩
@[reducible] def Pe : List Ty → Type
  | [] => Unit
  | t :: r => t.den × Pe r
def lk : (ts : List Ty) → Pe ts → Nat → Option ((t : Ty) × t.den)
  | [], _, _ => none
  | t :: r, e, i => if i = r.length then some ⟨t, e.1⟩ else lk r e.2 i
def lv : (ts : List Ty) → Nat → Option ((t : Ty) × (Pe ts → t.den))
  | [], _ => none
  | t :: r, i => if i = r.length then some ⟨t, fun e => e.1⟩ else match lv r i with
    | some ⟨u, f⟩ => some ⟨u, fun e => f e.2⟩
    | none => none
theorem lv_lk : ∀ {ts : List Ty} {i : Nat} {t : Ty} {f : Pe ts → t.den} (e : Pe ts), lv ts i = some ⟨t, f⟩ → lk ts e i = some ⟨t, f e⟩
  | [], _, _, _, _, h => by cases h
  | t :: r, i, u, f, e, h => by
    simp only [lv, lk] at h ⊢
    split at h
    · rename_i hi
      rw [if_pos hi]; cases h; rfl
    · rename_i hi
      rw [if_neg hi]
      split at h
      · rename_i u' f' h'
        cases h
        exact lv_lk e.2 h'
      · cases h
theorem lk_lt : ∀ {ts : List Ty} {i : Nat} {e : Pe ts} {p : (t : Ty) × t.den}, lk ts e i = some p → i < ts.length
  | [], _, _, _, h => by cases h
  | t :: r, i, e, p, h => by
    simp only [lk] at h
    split at h
    · rename_i hi; subst hi; simp
    · have := lk_lt h; simp; omega
theorem lk_lv : ∀ {ts : List Ty} {i : Nat} {e : Pe ts} {t : Ty} {x : t.den}, lk ts e i = some ⟨t, x⟩ → ∃ f, lv ts i = some ⟨t, f⟩ ∧ f e = x
  | [], _, _, _, _, h => by cases h
  | t :: r, i, e, u, x, h => by
    simp only [lv, lk] at h ⊢
    split at h
    · rename_i hi
      rw [if_pos hi]; cases h; exact ⟨_, rfl, rfl⟩
    · rename_i hi
      rw [if_neg hi]
      obtain ⟨f, h1, h2⟩ := lk_lv h
      rw [h1]
      exact ⟨_, rfl, h2⟩
def Ex {ts ts' : List Ty} (e : Pe ts) (e' : Pe ts') : Prop := ∀ i p, lk ts e i = some p → lk ts' e' i = some p
theorem Ex.refl {ts : List Ty} (e : Pe ts) : Ex e e := fun _ _ h => h
theorem Ex.trans {ts ts' ts'' : List Ty} {e : Pe ts} {e' : Pe ts'} {e'' : Pe ts''} (h : Ex e e') (k : Ex e' e'') : Ex e e'' := fun i p h' => k i p (h i p h')
theorem Ex.push {ts : List Ty} {t : Ty} (e : Pe ts) (x : t.den) : Ex (ts' := t :: ts) e (x, e) := fun i p h => by
  have := lk_lt h
  simp only [lk]
  rw [if_neg (by omega)]
  exact h
theorem lk_top {ts : List Ty} {t : Ty} (e : Pe ts) (x : t.den) : lk (t :: ts) (x, e) ts.length = some ⟨t, x⟩ := by simp only [lk, if_true]
def castF {ts : List Ty} {u t : Ty} (h : u = t) (f : Pe ts → u.den) : Pe ts → t.den := h ▸ f
def lvT (ts : List Ty) (i : Nat) (t : Ty) : Option (Pe ts → t.den) := match lv ts i with
  | some ⟨u, f⟩ => if h : u = t then some (castF h f) else none
  | none => none
theorem lvT_lk {ts : List Ty} {i : Nat} {t : Ty} {f : Pe ts → t.den} (e : Pe ts) (h : lvT ts i t = some f) : lk ts e i = some ⟨t, f e⟩ := by
  unfold lvT at h
  split at h
  · rename_i u g hg
    split at h
    · rename_i hu
      subst hu
      cases h
      exact lv_lk e hg
    · cases h
  · cases h
inductive Lt where
  | int (k : IntKind) (n : Int)
  | bool (b : Bool)
  | str (s : ByteArray)
deriving DecidableEq
def Lt.val : Lt → Value
  | .int k n => .int k n
  | .bool b => .bool b
  | .str s => .string s
def Lt.ty : Lt → Ty
  | .int k _ => .int k
  | .bool _ => .bool
  | .str _ => .str
def Lt.den : (l : Lt) → l.ty.den
  | .int _ n => n
  | .bool b => b
  | .str s => s
inductive At where
  | pu (i : Nat)
  | cst (l : Lt)
  | nil
  | hd (j : Nat)
  | bp (j off : Nat)
  | ep (j i off w : Nat)
  | sp (i off : Nat)
  | fn (f : Nat)
  | ifc (t : Nat)
  | ap (j off i n w o2 : Nat)
deriving DecidableEq
inductive AV1 where
  | a (x : At)
  | g (l : List At)
deriving DecidableEq
inductive AV where
  | v (x : AV1)
  | tp (l : List AV1)
  | un
deriving DecidableEq
inductive Ob where
  | sl (t : Ty) (ty : Nat) (i : Nat)
  | bx (l : List At)
  | dead
deriving DecidableEq
structure AState where
  ts : List Ty
  sl : List (Nat × AV)
  ob : List Ob
deriving DecidableEq
def look : List (Nat × AV) → Nat → Option AV
  | [], _ => none
  | (k, v) :: r, d => if k = d then some v else look r d
def drop1 : List (Nat × AV) → Nat → List (Nat × AV)
  | [], _ => []
  | (k, v) :: r, d => if k = d then drop1 r d else (k, v) :: drop1 r d
theorem look_drop1 (l : List (Nat × AV)) (d j : Nat) : look (drop1 l d) j = if d = j then none else look l j := by
  induction l with
  | nil => simp [drop1, look]
  | cons p r ih =>
    obtain ⟨k, v⟩ := p
    simp only [drop1]
    by_cases h : k = d
    · rw [if_pos h, ih]
      subst h
      by_cases hj : k = j
      · simp [hj]
      · simp [look, hj]
    · rw [if_neg h]
      simp only [look, ih]
      by_cases hj : k = j
      · subst hj
        rw [if_pos rfl, if_neg (Ne.symm h), if_pos rfl]
      · rw [if_neg hj, if_neg hj]
def setS (l : List (Nat × AV)) : Option Nat → AV → List (Nat × AV)
  | some d, v => (d, v) :: drop1 l d
  | none, _ => l
theorem look_setS (l : List (Nat × AV)) (d : Nat) (v : AV) (j : Nat) : look (setS l (some d) v) j = if d = j then some v else look l j := by
  simp only [setS, look, look_drop1]
  by_cases h : d = j
  · simp [h]
  · simp [h]
structure Cx where
  H : Hp
  Z : Nat → Prop
  hv : Nat → Value
def AtOK (c : Cx) {ts : List Ty} (e : Pe ts) (n : Nat) : At → List Value → Prop
  | .pu i, cs => ∃ t x, lk ts e i = some ⟨t, x⟩ ∧ Rep c.H c.Z t x cs
  | .cst l, cs => cs = [l.val]
  | .nil, cs => cs = [.slice none 0 0]
  | .hd j, cs => j < n ∧ (∃ base len k, c.hv j = .slice base len k) ∧ cs = [c.hv j]
  | .bp j off, cs => j < n ∧ ∃ b, c.hv j = .pointer (some ⟨b, 0, none⟩) ∧ cs = [.pointer (some ⟨b, off, none⟩)]
  | .ep j i off w, cs => j < n ∧ ∃ (x : Int) (b o : Nat) (sp : Option Nat) (len k : Nat), lk ts e i = some ⟨.int .i64, x⟩ ∧ c.hv j = .slice (some ⟨b, o, sp⟩) len k ∧ 0 ≤ x ∧ x < len ∧ cs = [.pointer (some ⟨b, o + x.toNat * w + off, none⟩)]
  | .sp i off, cs => ∃ t x b o bc u ro cs0 rest, lk ts e i = some ⟨t, x⟩ ∧ cs = [.pointer (some ⟨b, o + off, none⟩)] ∧ c.Z b ∧ c.H.get b = some (.cells bc u ro) ∧ bc.drop o = cs0 ++ rest ∧ Rep c.H c.Z t x cs0
  | .fn f, cs => cs = [.func (.func f) #[] #[]]
  | .ifc t, cs => cs = [.iface t (.agg #[])]
  | .ap j off i m w o2, cs => j < n ∧ ∃ (x : Int) (b : Nat), lk ts e i = some ⟨.int .i64, x⟩ ∧ c.hv j = .pointer (some ⟨b, 0, none⟩) ∧ 0 ≤ x ∧ x < m ∧ cs = [.pointer (some ⟨b, off + x.toNat * w + o2, none⟩)]
def AtsOK (c : Cx) {ts : List Ty} (e : Pe ts) (n : Nat) (l : List At) (cs : List Value) : Prop := ∃ ps : List (List Value), cs = ps.flatten ∧ All2 (AtOK c e n) l ps
def AV1OK (c : Cx) {ts : List Ty} (e : Pe ts) (n : Nat) : AV1 → Value → Prop
  | .a x, v => AtOK c e n x [v]
  | .g l, v => ∃ cs : List Value, v = .agg cs.toArray ∧ AtsOK c e n l cs
def AVOK (c : Cx) {ts : List Ty} (e : Pe ts) (n : Nat) : AV → Value → Prop
  | .v x, v => AV1OK c e n x v
  | .tp l, v => ∃ vs : List Value, v = .tuple vs.toArray ∧ All2 (AV1OK c e n) l vs
  | .un, v => v = undef
def OwnSl (H : Hp) (Z : Nat → Prop) (N : Nat) (t : Ty) (ty : Nat) (v : Value) (l : List t.den) : Prop :=
  v = .slice none 0 0 ∧ l = [] ∨ ∃ b o sp k bc u, ∃ ps : List (List Value), ∃ rest, v = .slice (some ⟨b, o, sp⟩) l.length k ∧ sp ≠ some 2 ∧ N ≤ b ∧ b < H.size ∧ ¬ Z b ∧ H.get b = some (.cells bc u false) ∧ bc.drop o = ps.flatten ++ rest ∧
    All2 (Rep H Z t) l ps ∧ o + k * t.w ≤ bc.length ∧ l.length ≤ k ∧ (u.u = 0 ∨ u.u = t.w ∧ u.ty = ty) ∧ 0 < t.w
def ObOK (c : Cx) {ts : List Ty} (e : Pe ts) (n N : Nat) (v : Value) : Ob → Prop
  | .sl t ty i => ∃ l, lk ts e i = some ⟨.sl t, l⟩ ∧ OwnSl c.H c.Z N t ty v l
  | .bx l => ∃ b bc u, v = .pointer (some ⟨b, 0, none⟩) ∧ N ≤ b ∧ b < c.H.size ∧ ¬ c.Z b ∧ c.H.get b = some (.cells bc u false) ∧ AtsOK c e n l bc
  | .dead => True
def blk : Value → Option Nat
  | .slice (some ⟨b, _, _⟩) _ _ => some b
  | .pointer (some ⟨b, _, _⟩) => some b
  | _ => none
def Ob.live : Ob → Bool
  | .dead => false
  | _ => true
structure SemD (H0 : Hp) (Z0 : Nat → Prop) (A : AState) (e : Pe A.ts) (s : St) (Z : Nat → Prop) (hv : Nat → Value) : Prop where
  ds : s.ds = []
  df : s.df = false
  keep : Kept H0 s.H
  z0 : ∀ b, Z0 b → Z b
  zs : ∀ b, Z b → b < s.H.size
  zf : ∀ b, Z b → b < H0.size → Z0 b
  ob : ∀ j o, A.ob[j]? = some o → ObOK ⟨s.H, Z, hv⟩ e A.ob.length H0.size (hv j) o
  dj : ∀ j j' o o' b, j ≠ j' → A.ob[j]? = some o → A.ob[j']? = some o' → o.live = true → o'.live = true → blk (hv j) = some b → blk (hv j') = some b → False
  sl : ∀ d a, look A.sl d = some a → AVOK ⟨s.H, Z, hv⟩ e A.ob.length a (s.get d)
def Sem (H0 : Hp) (Z0 : Nat → Prop) (A : AState) (e : Pe A.ts) (s : St) : Prop := ∃ Z hv, SemD H0 Z0 A e s Z hv
structure Grow (c c' : Cx) {ts ts' : List Ty} (e : Pe ts) (e' : Pe ts') (n n' : Nat) : Prop where
  z : ∀ b, c.Z b → c'.Z b
  h : ∀ b, c.Z b → c'.H.get b = c.H.get b
  hv : ∀ j, j < n → c'.hv j = c.hv j
  n : n ≤ n'
  e : Ex e e'
section
variable {c c' : Cx} {ts ts' : List Ty} {e : Pe ts} {e' : Pe ts'} {n n' : Nat}
theorem AtOK.mono (g : Grow c c' e e' n n') {a : At} {cs : List Value} (h : AtOK c e n a cs) : AtOK c' e' n' a cs := by
  have gn := g.n
  cases a with
  | pu i =>
    obtain ⟨t, x, h1, h2⟩ := h
    exact ⟨t, x, g.e _ _ h1, h2.mono g.z g.h⟩
  | cst l => exact h
  | nil => exact h
  | hd j =>
    obtain ⟨h1, h3, h2⟩ := h
    exact ⟨by omega, by rw [g.hv j h1]; exact h3, by rw [g.hv j h1]; exact h2⟩
  | bp j off =>
    obtain ⟨h1, h2⟩ := h
    exact ⟨by omega, by rw [g.hv j h1]; exact h2⟩
  | ep j i off w =>
    obtain ⟨h1, x, b, o, sp, len, k, h2, h3⟩ := h
    exact ⟨by omega, x, b, o, sp, len, k, g.e _ _ h2, by rw [g.hv j h1]; exact h3⟩
  | sp i off =>
    obtain ⟨t, x, b, o, bc, u, ro, cs0, rest, h1, h2, h3, h4, h5, h6⟩ := h
    exact ⟨t, x, b, o, bc, u, ro, cs0, rest, g.e _ _ h1, h2, g.z _ h3, (g.h _ h3).trans h4, h5, h6.mono g.z g.h⟩
  | fn f => exact h
  | ifc t => exact h
  | ap j off i m w o2 =>
    obtain ⟨h1, x, b, h2, h3⟩ := h
    exact ⟨by omega, x, b, g.e _ _ h2, by rw [g.hv j h1]; exact h3⟩
theorem AtsOK.mono (g : Grow c c' e e' n n') {l : List At} {cs : List Value} (h : AtsOK c e n l cs) : AtsOK c' e' n' l cs := by
  obtain ⟨ps, h1, h2⟩ := h
  exact ⟨ps, h1, h2.mono fun _ _ => AtOK.mono g⟩
section
variable {ts : List Ty} {e : Pe ts}
theorem AtsOK.cons {c : Cx} {n : Nat} {a : At} {l : List At} {cs : List Value} (h : AtsOK c e n (a :: l) cs) : ∃ p r, cs = p ++ r ∧ AtOK c e n a p ∧ AtsOK c e n l r := by
  obtain ⟨ps, rfl, h2⟩ := h
  cases ps with
  | nil => exact h2.elim
  | cons p ps => exact ⟨p, ps.flatten, rfl, h2.1, ps, rfl, h2.2⟩
theorem AtsOK.mk {c : Cx} {n : Nat} {a : At} {l : List At} {p r : List Value} (h1 : AtOK c e n a p) (h2 : AtsOK c e n l r) : AtsOK c e n (a :: l) (p ++ r) := by
  obtain ⟨ps, rfl, h3⟩ := h2
  exact ⟨p :: ps, rfl, h1, h3⟩
theorem AtsOK.nil' {c : Cx} {n : Nat} {cs : List Value} (h : AtsOK c e n [] cs) : cs = [] := by
  obtain ⟨ps, rfl, h2⟩ := h
  cases ps with
  | nil => rfl
  | cons _ _ => exact h2.elim
theorem AtsOK.one {c : Cx} {n : Nat} {a : At} {cs : List Value} (h : AtsOK c e n [a] cs) : AtOK c e n a cs := by
  obtain ⟨p, r, rfl, h1, h2⟩ := h.cons
  rw [h2.nil', List.append_nil]; exact h1
theorem AtsOK.of1 {c : Cx} {n : Nat} {a : At} {cs : List Value} (h : AtOK c e n a cs) : AtsOK c e n [a] cs := ⟨[cs], by simp, h, trivial⟩
theorem AtsOK.append {c : Cx} {n : Nat} {l l' : List At} {p r : List Value} (h1 : AtsOK c e n l p) (h2 : AtsOK c e n l' r) : AtsOK c e n (l ++ l') (p ++ r) := by
  obtain ⟨ps, rfl, h3⟩ := h1
  obtain ⟨qs, rfl, h4⟩ := h2
  exact ⟨ps ++ qs, by simp, h3.append h4⟩
end
theorem AV1OK.mono (g : Grow c c' e e' n n') {a : AV1} {v : Value} (h : AV1OK c e n a v) : AV1OK c' e' n' a v := by
  cases a with
  | a x => exact AtOK.mono g h
  | g l =>
    obtain ⟨cs, h1, h2⟩ := h
    exact ⟨cs, h1, h2.mono g⟩
theorem AVOK.mono (g : Grow c c' e e' n n') {a : AV} {v : Value} (h : AVOK c e n a v) : AVOK c' e' n' a v := by
  cases a with
  | v x => exact AV1OK.mono g h
  | tp l =>
    obtain ⟨vs, h1, h2⟩ := h
    exact ⟨vs, h1, h2.mono fun _ _ => AV1OK.mono g⟩
  | un => exact h
theorem OwnSl.mono {H H' : Hp} {Z Z' : Nat → Prop} {N : Nat} {t : Ty} {ty : Nat} {v : Value} {l : List t.den} (hs : H.size ≤ H'.size) (hz : ∀ b, Z b → Z' b) (hh : ∀ b, Z b → H'.get b = H.get b)
    (hb : ∀ b, blk v = some b → H'.get b = H.get b ∧ ¬ Z' b) (h : OwnSl H Z N t ty v l) : OwnSl H' Z' N t ty v l := by
  rcases h with h | ⟨b, o, sp, k, bc, u, ps, rest, rfl, h1, h2, h3, h4, h5, h6, h7, h8⟩
  · exact .inl h
  · obtain ⟨e1, e2⟩ := hb b rfl
    exact .inr ⟨b, o, sp, k, bc, u, ps, rest, rfl, h1, h2, by omega, e2, e1.trans h5, h6, h7.mono fun _ _ => Rep.mono hz hh _ _ _, h8⟩
theorem ObOK.mono (g : Grow c c' e e' n n') (hs : c.H.size ≤ c'.H.size) {N : Nat} {v : Value} {o : Ob} (hb : o.live = true → ∀ b, blk v = some b → c'.H.get b = c.H.get b ∧ ¬ c'.Z b) (h : ObOK c e n N v o) : ObOK c' e' n' N v o := by
  cases o with
  | sl t ty i =>
    obtain ⟨l, h1, h2⟩ := h
    exact ⟨l, g.e _ _ h1, h2.mono hs g.z g.h (hb rfl)⟩
  | bx l =>
    obtain ⟨b, bc, u, rfl, h2, h3, h4, h5, h6⟩ := h
    obtain ⟨e1, e2⟩ := hb rfl b rfl
    exact ⟨b, bc, u, rfl, h2, by omega, e2, e1.trans h5, h6.mono g⟩
  | dead => trivial
end
section
variable {H0 : Hp} {Z0 Z : Nat → Prop} {A : AState} {e : Pe A.ts} {s : St} {hv : Nat → Value}
theorem SemD.old (h : SemD H0 Z0 A e s Z hv) {j : Nat} {o : Ob} {b : Nat} (hj : A.ob[j]? = some o) (hl : o.live = true) (hb : blk (hv j) = some b) : H0.size ≤ b ∧ b < s.H.size ∧ ¬ Z b := by
  have := h.ob j o hj
  cases o with
  | sl t ty i =>
    obtain ⟨l, _, h2⟩ := this
    rcases h2 with ⟨h2, _⟩ | ⟨b', o, sp, k, bc, u, ps, rest, h2, _, h3, h4, h5, _⟩
    · rw [h2] at hb; cases hb
    · rw [h2] at hb; cases hb; exact ⟨h3, h4, h5⟩
  | bx l =>
    obtain ⟨b', bc, u, h2, h3, h4, h5, _⟩ := this
    rw [h2] at hb; cases hb; exact ⟨h3, h4, h5⟩
  | dead => cases hl
theorem SemD.pure (h : SemD H0 Z0 A e s Z hv) {ts' : List Ty} {e' : Pe ts'} (hx : Ex e e') {d : Option Nat} {a : AV} {v : Value} (ha : d.isSome = true → AVOK ⟨s.H, Z, hv⟩ e' A.ob.length a v) :
    SemD H0 Z0 ⟨ts', setS A.sl d a, A.ob⟩ e' (s.nx s.H d v) Z hv := by
  have g : Grow ⟨s.H, Z, hv⟩ ⟨s.H, Z, hv⟩ e e' A.ob.length A.ob.length := ⟨fun _ h => h, fun _ _ => rfl, fun _ _ => rfl, Nat.le_refl _, hx⟩
  refine ⟨by rw [nx_ds]; exact h.ds, by rw [nx_df]; exact h.df, by rw [nx_H]; exact h.keep, h.z0, by rw [nx_H]; exact h.zs, h.zf, ?_, h.dj, ?_⟩
  · intro j o hj
    rw [nx_H]
    exact (h.ob j o hj).mono g (Nat.le_refl _) fun hl b hb => ⟨rfl, (h.old hj hl hb).2.2⟩
  · intro k a' ha'
    rw [nx_H]
    cases d with
    | none =>
      rw [nx_getn]
      exact (h.sl k a' ha').mono g
    | some d =>
      rw [look_setS] at ha'
      rw [nx_get]
      split at ha'
      · rename_i hd
        cases ha'
        rw [if_pos hd]; exact ha rfl
      · rename_i hd
        rw [if_neg hd]
        exact (h.sl k a' ha').mono g
end
end Go.Proofs.YtehbekgmemebjaaDoorEv
