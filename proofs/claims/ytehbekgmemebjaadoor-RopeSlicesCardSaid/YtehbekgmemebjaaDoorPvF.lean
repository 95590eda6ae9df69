import Derived.Test.YtehbekgmemebjaaDoorPvE
namespace Go.Proofs.YtehbekgmemebjaaDoorEv
open Go
set_option linter.unusedVariables false
set_option linter.unusedSimpArgs false
def atL {α : Type} (l : List α) (j : Int) : Option α := if 0 ≤ j then l[j.toNat]? else none
theorem atL_some {α : Type} {l : List α} {j : Int} {x : α} (h : atL l j = some x) : 0 ≤ j ∧ l[j.toNat]? = some x ∧ j < l.length := by
  unfold atL at h
  split at h
  · rename_i h0
    have := (List.getElem?_eq_some_iff.1 h).1
    exact ⟨h0, h, by omega⟩
  · cases h
theorem setL_eq : ∀ (vs cs : List Value) (o : Nat), o + vs.length ≤ cs.length → setL cs o vs = cs.take o ++ vs ++ cs.drop (o + vs.length)
  | [], cs, o, _ => by simp [setL]
  | v :: r, cs, o, h => by
    have hlt : o < cs.length := by simp at h; omega
    rw [setL, setL_eq r (cs.set o v) (o + 1) (by simp at h ⊢; omega)]
    have e1 : (cs.set o v).take (o + 1) = cs.take o ++ [v] := by
      rw [List.take_add_one, List.take_set_of_le (Nat.le_refl _)]
      simp [hlt]
    have e2 : (cs.set o v).drop (o + 1 + r.length) = cs.drop (o + (v :: r).length) := by
      rw [List.drop_set_of_lt (by omega)]
      simp only [List.length_cons]
      congr 1; omega
    rw [e1, e2]; simp
def prj : (t : Ty) → Nat → Option ((u : Ty) × (t.den → u.den))
  | .pair a b, o => if o < a.w then (match prj a o with
      | some ⟨u, f⟩ => some ⟨u, fun x => f x.1⟩
      | none => none) else (match prj b (o - a.w) with
      | some ⟨u, f⟩ => some ⟨u, fun x => f x.2⟩
      | none => none)
  | .unit, _ => none
  | .arr _ _, _ => none
  | .int k, o => if o = 0 then some ⟨.int k, fun x => x⟩ else none
  | .bool, o => if o = 0 then some ⟨.bool, fun x => x⟩ else none
  | .str, o => if o = 0 then some ⟨.str, fun x => x⟩ else none
  | .sl t, o => if o = 0 then some ⟨.sl t, fun x => x⟩ else none
def tkT : (t : Ty) → Nat → Option ((u : Ty) × (t.den → u.den))
  | .pair a b, n => if n = 0 then some ⟨.unit, fun _ => ()⟩ else if a.w ≤ n then (match tkT b (n - a.w) with
      | some ⟨u, f⟩ => some ⟨.pair a u, fun x => (x.1, f x.2)⟩
      | none => none) else none
  | .unit, n => if n = 0 then some ⟨.unit, fun _ => ()⟩ else none
  | _, _ => none
def prjS : (t : Ty) → Nat → Nat → Option ((u : Ty) × (t.den → u.den))
  | t, 0, n => if n = t.w then some ⟨t, fun x => x⟩ else tkT t n
  | .pair a b, o + 1, n => if a.w ≤ o + 1 then (match prjS b (o + 1 - a.w) n with
      | some ⟨u, f⟩ => some ⟨u, fun x => f x.2⟩
      | none => none) else none
  | _, _, _ => none
def stT (ag : Bool) : (t : Ty) → Nat → Nat → Option ((u : Ty) × (t.den → u.den → t.den))
  | .pair a b, o, n => if ag = true ∧ o = 0 ∧ n = (Ty.pair a b).w then some ⟨.pair a b, fun _ y => y⟩ else if a.w ≤ o then (match stT ag b (o - a.w) n with
      | some ⟨u, f⟩ => some ⟨u, fun x y => (x.1, f x.2 y)⟩
      | none => none) else if o + n ≤ a.w then (match stT ag a o n with
      | some ⟨u, f⟩ => some ⟨u, fun x y => (f x.1 y, x.2)⟩
      | none => none) else none
  | t, o, n => if o = 0 ∧ n = t.w then some ⟨t, fun _ y => y⟩ else none
def expT : Ty → List Ty → List Ty
  | .pair a b, ts => expT b (a :: ts)
  | .unit, ts => ts
  | t, ts => t :: ts
def expF : (t : Ty) → (ts : List Ty) → t.den → Pe ts → Pe (expT t ts)
  | .pair a b, ts, x, e => expF b (a :: ts) x.2 (x.1, e)
  | .unit, _, _, e => e
  | .int _, _, x, e => (x, e)
  | .bool, _, x, e => (x, e)
  | .str, _, x, e => (x, e)
  | .sl _, _, x, e => (x, e)
  | .arr _ _, _, x, e => (x, e)
def expL : Ty → Nat → List At
  | .pair a b, n => .pu n :: expL b (n + 1)
  | .unit, _ => []
  | _, n => [.pu n]
section
variable {H : Hp} {Z : Nat → Prop}
theorem prj_ok : ∀ {t : Ty} {o : Nat} {u : Ty} {f : t.den → u.den} {x : t.den} {cs : List Value}, prj t o = some ⟨u, f⟩ → Rep H Z t x cs → ∃ v, cs[o]? = some v ∧ Rep H Z u (f x) [v] ∧ u.isAgg = false := by
  intro t
  induction t with
  | pair a b iha ihb =>
    intro o u f x cs h hr
    obtain ⟨c, d, rfl, h1, h2⟩ := hr
    have hl := h1.len
    simp only [prj] at h
    split at h
    · rename_i ho
      split at h
      · rename_i u' f' h'
        cases h
        obtain ⟨v, e1, e2⟩ := iha h' h1
        exact ⟨v, by rw [List.getElem?_append_left (by omega)]; exact e1, e2⟩
      · cases h
    · rename_i ho
      split at h
      · rename_i u' f' h'
        cases h
        obtain ⟨v, e1, e2⟩ := ihb h' h2
        exact ⟨v, by rw [List.getElem?_append_right (by omega), hl]; exact e1, e2⟩
      · cases h
  | unit => intro o u f x cs h; simp [prj] at h
  | arr n t _ => intro o u f x cs h; simp [prj] at h
  | int k =>
    intro o u f x cs h hr
    simp only [prj] at h
    split at h
    · rename_i ho; subst ho; cases h; cases hr; exact ⟨_, rfl, rfl, rfl⟩
    · cases h
  | bool =>
    intro o u f x cs h hr
    simp only [prj] at h
    split at h
    · rename_i ho; subst ho; cases h; cases hr; exact ⟨_, rfl, rfl, rfl⟩
    · cases h
  | str =>
    intro o u f x cs h hr
    simp only [prj] at h
    split at h
    · rename_i ho; subst ho; cases h; cases hr; exact ⟨_, rfl, rfl, rfl⟩
    · cases h
  | sl t _ =>
    intro o u f x cs h hr
    simp only [prj] at h
    split at h
    · rename_i ho; subst ho; cases h
      obtain ⟨base, k, rfl, h3⟩ := hr
      exact ⟨_, rfl, ⟨base, k, rfl, h3⟩, rfl⟩
    · cases h
theorem tkT_ok : ∀ {t : Ty} {n : Nat} {u : Ty} {f : t.den → u.den} {x : t.den} {cs : List Value}, tkT t n = some ⟨u, f⟩ → Rep H Z t x cs → n ≤ cs.length ∧ Rep H Z u (f x) (cs.take n) := by
  intro t
  induction t with
  | pair a b iha ihb =>
    intro n u f x cs h hr
    obtain ⟨c, d, rfl, h1, h2⟩ := hr
    have hl := h1.len
    simp only [tkT] at h
    split at h
    · rename_i h0
      subst h0; cases h
      exact ⟨Nat.zero_le _, by rw [List.take_zero]; rfl⟩
    · split at h
      · rename_i ho
        split at h
        · rename_i u' f' h'
          cases h
          obtain ⟨e1, e2⟩ := ihb h' h2
          refine ⟨by rw [List.length_append]; omega, c, d.take (n - a.w), ?_, h1, e2⟩
          rw [List.take_append, List.take_of_length_le (by omega), hl]
        · cases h
      · cases h
  | unit =>
    intro n u f x cs h hr
    simp only [tkT] at h
    split at h
    · rename_i h0
      subst h0; cases h; cases hr
      exact ⟨Nat.le_refl _, rfl⟩
    · cases h
  | _ => intro n u f x cs h; simp [tkT] at h
theorem prjS_ok : ∀ {t : Ty} {o n : Nat} {u : Ty} {f : t.den → u.den} {x : t.den} {cs : List Value}, prjS t o n = some ⟨u, f⟩ → Rep H Z t x cs → o + n ≤ cs.length ∧ Rep H Z u (f x) ((cs.drop o).take n) := by
  have zero : ∀ {t : Ty} {n : Nat} {u : Ty} {f : t.den → u.den} {x : t.den} {cs : List Value}, (if n = t.w then some (⟨t, fun x => x⟩ : (u : Ty) × (t.den → u.den)) else tkT t n) = some ⟨u, f⟩ → Rep H Z t x cs → 0 + n ≤ cs.length ∧ Rep H Z u (f x) ((cs.drop 0).take n) := by
    intro t n u f x cs h hr
    rw [List.drop_zero, Nat.zero_add]
    split at h
    · rename_i hn
      cases h
      have := hr.len
      rw [List.take_of_length_le (by omega)]
      exact ⟨by omega, hr⟩
    · exact tkT_ok h hr
  intro t
  induction t with
  | pair a b iha ihb =>
    intro o n u f x cs h hr
    cases o with
    | zero => exact zero (by simpa only [prjS] using h) hr
    | succ o =>
      obtain ⟨c, d, rfl, h1, h2⟩ := hr
      have hl := h1.len
      simp only [prjS] at h
      split at h
      · rename_i ho
        split at h
        · rename_i u' f' h'
          cases h
          obtain ⟨e1, e2⟩ := ihb h' h2
          refine ⟨by rw [List.length_append]; omega, ?_⟩
          rw [List.drop_append, List.drop_of_length_le (by omega), List.nil_append, hl]
          exact e2
        · cases h
      · cases h
  | int k => intro o n u f x cs h hr; cases o with
    | zero => exact zero (by simpa only [prjS] using h) hr
    | succ o => simp [prjS] at h
  | bool => intro o n u f x cs h hr; cases o with
    | zero => exact zero (by simpa only [prjS] using h) hr
    | succ o => simp [prjS] at h
  | str => intro o n u f x cs h hr; cases o with
    | zero => exact zero (by simpa only [prjS] using h) hr
    | succ o => simp [prjS] at h
  | sl t _ => intro o n u f x cs h hr; cases o with
    | zero => exact zero (by simpa only [prjS] using h) hr
    | succ o => simp [prjS] at h
  | unit => intro o n u f x cs h hr; cases o with
    | zero => exact zero (by simpa only [prjS] using h) hr
    | succ o => simp [prjS] at h
  | arr m t _ => intro o n u f x cs h hr; cases o with
    | zero => exact zero (by simpa only [prjS] using h) hr
    | succ o => simp [prjS] at h
theorem stT_ok {ag : Bool} : ∀ {t : Ty} {o n : Nat} {u : Ty} {f : t.den → u.den → t.den} {x : t.den} {y : u.den} {cs vs : List Value}, stT ag t o n = some ⟨u, f⟩ → Rep H Z t x cs → Rep H Z u y vs → vs.length = n ∧ o + n ≤ cs.length ∧ Rep H Z t (f x y) (cs.take o ++ vs ++ cs.drop (o + n)) := by
  have whole : ∀ {t : Ty} {o n : Nat} {u : Ty} {f : t.den → u.den → t.den} {x : t.den} {y : u.den} {cs vs : List Value}, (o = 0 ∧ n = t.w) → some (⟨t, fun _ y => y⟩ : (u : Ty) × (t.den → u.den → t.den)) = some ⟨u, f⟩ → Rep H Z t x cs → Rep H Z u y vs → vs.length = n ∧ o + n ≤ cs.length ∧ Rep H Z t (f x y) (cs.take o ++ vs ++ cs.drop (o + n)) := by
    rintro t o n u f x y cs vs ⟨rfl, rfl⟩ h hr hv
    cases h
    have h1 := hr.len
    have h2 := hv.len
    refine ⟨h2, by omega, ?_⟩
    rw [List.take_zero, List.nil_append, List.drop_of_length_le (by omega), List.append_nil]
    exact hv
  intro t
  induction t with
  | pair a b iha ihb =>
    intro o n u f x y cs vs h hr hv
    simp only [stT] at h
    split at h
    · rename_i hw
      exact whole hw.2 h hr hv
    · obtain ⟨c, d, rfl, h1, h2⟩ := hr
      have hl := h1.len
      split at h
      · rename_i ho
        split at h
        · rename_i u' f' h'
          cases h
          obtain ⟨e1, e2, e3⟩ := ihb h' h2 hv
          refine ⟨e1, by rw [List.length_append]; omega, c, _, ?_, h1, e3⟩
          rw [List.take_append, List.take_of_length_le (by omega), List.drop_append, List.drop_of_length_le (by omega), List.nil_append, hl, List.append_assoc, List.append_assoc, List.append_assoc]
          congr 4
          omega
        · cases h
      · rename_i ho
        split at h
        · rename_i hn
          split at h
          · rename_i u' f' h'
            cases h
            obtain ⟨e1, e2, e3⟩ := iha h' h1 hv
            refine ⟨e1, by rw [List.length_append]; omega, _, d, ?_, e3, h2⟩
            rw [List.take_append_of_le_length (by omega), List.drop_append_of_le_length (by omega)]
            simp only [List.append_assoc]
          · cases h
        · cases h
  | _ =>
    intro o n u f x y cs vs h hr hv
    simp only [stT] at h
    split at h
    · rename_i hw
      exact whole hw h hr hv
    · cases h
theorem exp_ok : ∀ {t : Ty} {ts : List Ty} {x : t.den} {e : Pe ts} {cs : List Value} {hv : Nat → Value} {n : Nat}, Rep H Z t x cs → AtsOK ⟨H, Z, hv⟩ (expF t ts x e) n (expL t ts.length) cs ∧ Ex e (expF t ts x e) := by
  intro t
  induction t with
  | pair a b iha ihb =>
    intro ts x e cs hv n hr
    obtain ⟨c, d, rfl, h1, h2⟩ := hr
    obtain ⟨e1, e2⟩ := ihb (ts := a :: ts) (x := x.2) (e := (x.1, e)) (hv := hv) (n := n) h2
    exact ⟨.mk ⟨a, x.1, e2 _ _ (lk_top e x.1), h1⟩ e1, (Ex.push e x.1).trans e2⟩
  | unit =>
    intro ts x e cs hv n hr
    cases hr
    exact ⟨⟨[], rfl, trivial⟩, Ex.refl e⟩
  | int k => intro ts x e cs hv n hr; exact ⟨.of1 ⟨_, _, lk_top e x, hr⟩, Ex.push e x⟩
  | bool => intro ts x e cs hv n hr; exact ⟨.of1 ⟨_, _, lk_top e x, hr⟩, Ex.push e x⟩
  | str => intro ts x e cs hv n hr; exact ⟨.of1 ⟨_, _, lk_top e x, hr⟩, Ex.push e x⟩
  | sl t _ => intro ts x e cs hv n hr; exact ⟨.of1 ⟨_, _, lk_top e x, hr⟩, Ex.push e x⟩
  | arr m t _ => intro ts x e cs hv n hr; exact ⟨.of1 ⟨_, _, lk_top e x, hr⟩, Ex.push e x⟩
theorem elem_at {t : Ty} {l : List t.den} {ps : List (List Value)} {bc rest : List Value} {o i : Nat} {x : t.den} (hd : bc.drop o = ps.flatten ++ rest) (h2 : All2 (Rep H Z t) l ps) (hx : l[i]? = some x) :
    ∃ cs0 rest', bc.drop (o + i * t.w) = cs0 ++ rest' ∧ Rep H Z t x cs0 := by
  obtain ⟨r, h3, h4⟩ := reps_at i h2 hx
  have hlen := reps_len h2
  have hlt := (List.getElem?_eq_some_iff.1 hx).1
  have hle : i * t.w ≤ ps.flatten.length := by rw [hlen]; exact Nat.mul_le_mul_right _ (by omega)
  refine ⟨_, r ++ rest, ?_, h3⟩
  rw [← List.drop_drop, hd, List.drop_append_of_le_length hle, ← List.append_assoc, ← h4]
theorem reps_set {t : Ty} {vs : List Value} {off : Nat} : ∀ {l : List t.den} {ps : List (List Value)} (i : Nat) {x y : t.den} {rest : List Value}, All2 (Rep H Z t) l ps → l[i]? = some x →
    (∀ c, Rep H Z t x c → off + vs.length ≤ c.length ∧ Rep H Z t y (c.take off ++ vs ++ c.drop (off + vs.length))) →
    ∃ ps', All2 (Rep H Z t) (l.set i y) ps' ∧ (ps.flatten ++ rest).take (i * t.w + off) ++ vs ++ (ps.flatten ++ rest).drop (i * t.w + off + vs.length) = ps'.flatten ++ rest
  | a :: l, p :: ps, 0, x, y, rest, ⟨h, h'⟩, e, hy => by
    simp at e; subst e
    obtain ⟨h1, h2⟩ := hy p h
    refine ⟨(p.take off ++ vs ++ p.drop (off + vs.length)) :: ps, ⟨h2, h'⟩, ?_⟩
    have t1 : (p ++ ps.flatten ++ rest).take off = p.take off := by rw [List.append_assoc, List.take_append_of_le_length (by omega)]
    have t2 : (p ++ ps.flatten ++ rest).drop (off + vs.length) = p.drop (off + vs.length) ++ (ps.flatten ++ rest) := by rw [List.append_assoc, List.drop_append_of_le_length (by omega)]
    rw [Nat.zero_mul, Nat.zero_add, List.flatten_cons, List.flatten_cons, t1, t2]
    simp only [List.append_assoc]
  | a :: l, p :: ps, i + 1, x, y, rest, ⟨h, h'⟩, e, hy => by
    have hl := h.len
    obtain ⟨ps', h1, h2⟩ := reps_set i (rest := rest) h' (by simpa using e) hy
    refine ⟨p :: ps', ⟨h, h1⟩, ?_⟩
    have e1 : (i + 1) * t.w + off = p.length + (i * t.w + off) := by rw [hl, Nat.add_mul]; omega
    have e2 : (i + 1) * t.w + off + vs.length = p.length + (i * t.w + off + vs.length) := by rw [e1]; omega
    rw [List.flatten_cons, List.flatten_cons, e1, Nat.add_assoc p.length, List.append_assoc p, List.append_assoc p, List.take_append, List.drop_append]
    rw [List.take_of_length_le (by omega), List.drop_of_length_le (by omega)]
    simp only [Nat.add_sub_cancel_left, List.nil_append, List.append_assoc] at h2 ⊢
    rw [← h2]
  | [], [], _, _, _, _, _, e, _ => by simp at e
  | [], _ :: _, _, _, _, _, h, _, _ => h.elim
  | _ :: _, [], _, _, _, _, h, _, _ => h.elim
end
def At.isV : At → Bool
  | .fn _ => false
  | .ifc _ => false
  | _ => true
def trIxS (A : AState) (d : Option Nat) (size : Nat) (x i : Operand) : Option (Nx A) := match opA A x, exI A i with
  | some (.a (.hd j)), some g => match A.ob[j]? with
    | some (.sl t _ l) => match lvT A.ts l (.sl t) with
      | some f => if t.w = size then some (nxP ⟨.int .i64 :: A.ts, setS A.sl d (.v (.a (.ep j A.ts.length 0 size))), A.ob⟩ (fun e => (0 : Int) ≤ g e ∧ (g e : Int) < (f e).length) fun e => (g e, e)) else none
      | none => none
    | _ => none
  | some (.a a), some g => match tyA A a with
    | some (.sl t) => match exA A a (.sl t) with
      | some f => if t.w = size then some (nxB ⟨t :: A.ts, setS A.sl d (.v (.a (.sp A.ts.length 0))), A.ob⟩ (fun e => atL (f e) (g e)) fun e x => (x, e)) else none
      | none => none
    | _ => none
  | _, _ => none
def trLoad (A : AState) (d : Option Nat) (x : Operand) : Option (Nx A) := match opA A x with
  | some (.a (.bp j off)) => match A.ob[j]? with
    | some (.bx l) => match subA A l off 1 with
      | some [a] => if a.isV then some (stA A d (.v (.a a))) else none
      | _ => none
    | _ => none
  | some (.a (.sp i off)) => match lv A.ts i with
    | some ⟨t, f⟩ => match prj t off with
      | some ⟨u, p⟩ => some (puE A d u fun e => p (f e))
      | none => none
    | none => none
  | some (.a (.ep j i off w)) => match A.ob[j]? with
    | some (.sl t _ l) => match lvT A.ts l (.sl t), lvT A.ts i (.int .i64), prj t off with
      | some f, some g, some ⟨u, p⟩ => if t.w = w then some (puT A d u fun e => (atL (f e) (g e)).bind fun y => some (p y)) else none
      | _, _, _ => none
    | _ => none
  | some (.a (.ap j off i n w o2)) => match A.ob[j]? with
    | some (.bx l) => match subA A l off (n * w) with
      | some [.pu q] => match lv A.ts q, lvT A.ts i (.int .i64) with
        | some ⟨.arr m t, f⟩, some g => match prj t o2 with
          | some ⟨u, p⟩ => if t.w = w then some (puT A d u fun e => (atL (f e) (g e)).bind fun y => some (p y)) else none
          | none => none
        | _, _ => none
      | _ => none
    | _ => none
  | _ => none
def exN (A : AState) (d : Option Nat) (t : Ty) (f : Pe A.ts → Option t.den) : Nx A := nxB ⟨expT t A.ts, setS A.sl d (.v (.g (expL t A.ts.length))), A.ob⟩ f fun e x => expF t A.ts x e
def trLoadA (A : AState) (d : Option Nat) (n' : Nat) (x : Operand) : Option (Nx A) := match opA A x with
  | some (.a (.bp j off)) => match A.ob[j]? with
    | some (.bx l) => match subA A l off n' with
      | some r => if r.all At.isV then some (stA A d (.v (.g r))) else none
      | none => none
    | _ => none
  | some (.a (.sp i off)) => match lv A.ts i with
    | some ⟨t, f⟩ => match prjS t off n' with
      | some ⟨u, p⟩ => if 0 < n' then some (exN A d u fun e => some (p (f e))) else none
      | none => none
    | none => none
  | some (.a (.ep j i off w)) => match A.ob[j]? with
    | some (.sl t _ l) => match lvT A.ts l (.sl t), lvT A.ts i (.int .i64), prjS t off n' with
      | some f, some g, some ⟨u, p⟩ => if t.w = w ∧ 0 < n' then some (exN A d u fun e => (atL (f e) (g e)).bind fun y => some (p y)) else none
      | _, _, _ => none
    | _ => none
  | some (.a (.ap j off i n w o2)) => match A.ob[j]? with
    | some (.bx l) => match subA A l off (n * w) with
      | some [.pu q] => match lv A.ts q, lvT A.ts i (.int .i64) with
        | some ⟨.arr m t, f⟩, some g => match prjS t o2 n' with
          | some ⟨u, p⟩ => if t.w = w ∧ 0 < n' then some (exN A d u fun e => (atL (f e) (g e)).bind fun y => some (p y)) else none
          | none => none
        | _, _ => none
      | _ => none
    | _ => none
  | _ => none
def isG : AV1 → Bool
  | .g _ => true
  | _ => false
def trStore (A : AState) (n : Nat) (a x : Operand) : Option (Nx A) := match opA A a, opA A x with
  | some (.a (.bp j off)), some v => match A.ob[j]? with
    | some (.bx l) => match repA A l off (atsV v), widA A (atsV v) with
      | some r, some m => if m = n then some (nxT ⟨A.ts, A.sl, A.ob.set j (.bx r)⟩ fun e => e) else none
      | _, _ => none
    | _ => none
  | some (.a (.ep j i off w)), some v => match A.ob[j]? with
    | some (.sl t ty l) => match lvT A.ts l (.sl t), lvT A.ts i (.int .i64), stT (isG v) t off n with
      | some f, some g, some ⟨u, p⟩ => match exV A v u with
        | some y => if t.w = w ∧ u.w = n ∧ 0 < n then some (nxB ⟨.sl t :: A.ts, A.sl, A.ob.set j (.sl t ty A.ts.length)⟩ (fun e => atL (f e) (g e)) fun e z => ((f e).set (g e).toNat (p z (y e)), e)) else none
        | none => none
      | _, _, _ => none
    | _ => none
  | some (.a (.ap j off i n1 w o2)), some v => match A.ob[j]? with
    | some (.bx l) => match subA A l off (n1 * w) with
      | some [.pu q] => match lv A.ts q, lvT A.ts i (.int .i64) with
        | some ⟨.arr m t, f⟩, some g => match stT (isG v) t o2 n with
          | some ⟨u, p⟩ => match exV A v u, repA ⟨.arr m t :: A.ts, A.sl, A.ob⟩ l off [.pu A.ts.length] with
            | some y, some l' => if t.w = w ∧ u.w = n ∧ 0 < n ∧ m = n1 then some (nxB ⟨.arr m t :: A.ts, A.sl, A.ob.set j (.bx l')⟩ (fun e => atL (f e) (g e)) fun e z => ((f e).set (g e).toNat (p z (y e)), e)) else none
            | _, _ => none
          | none => none
        | _, _ => none
      | _ => none
    | _ => none
  | _, _ => none
def trNew (A : AState) (d : Option Nat) (zero : List Value) : Option (Nx A) := match cAs zero with
  | some l => some (nxT ⟨A.ts, setS A.sl d (.v (.a (.bp A.ob.length 0))), A.ob ++ [.bx l]⟩ fun e => e)
  | none => none
def trBox (A : AState) (d : Option Nat) (x : Operand) : Option (Nx A) := match opA A x with
  | some v => some (nxT ⟨A.ts, setS A.sl d (.v (.a (.bp A.ob.length 0))), A.ob ++ [.bx (atsV v)]⟩ fun e => e)
  | none => none
def trIxA (A : AState) (d : Option Nat) (n size : Nat) (x i : Operand) : Option (Nx A) := match opA A x, exI A i with
  | some (.a (.bp j off)), some g => some (nxP ⟨.int .i64 :: A.ts, setS A.sl d (.v (.a (.ap j off A.ts.length n size 0))), A.ob⟩ (fun e => (0 : Int) ≤ g e ∧ (g e : Int) < n) fun e => (g e, e))
  | _, _ => none
def chunk (w : Nat) : Nat → List Value → List (List Value)
  | 0, _ => []
  | n + 1, cs => cs.take w :: chunk w n (cs.drop w)
def allD {α : Type} (f : List Value → Option α) : List (List Value) → Option (List α)
  | [] => some []
  | p :: r => match f p, allD f r with
    | some x, some l => some (x :: l)
    | _, _ => none
def cDI (k : IntKind) : List Value → Option Int
  | [.int k' n] => if k = k' then some n else none
  | _ => none
def cDB : List Value → Option Bool
  | [.bool b] => some b
  | _ => none
def cDS : List Value → Option ByteArray
  | [.string s] => some s
  | _ => none
def cDN : List Value → Bool
  | [.slice none 0 0] => true
  | _ => false
def cD : (t : Ty) → List Value → Option t.den
  | .int k, cs => cDI k cs
  | .bool, cs => cDB cs
  | .str, cs => cDS cs
  | .sl _, cs => if cDN cs = true then some [] else none
  | .unit, cs => if cs.isEmpty = true then some () else none
  | .pair a b, cs => match cD a (cs.take a.w), cD b (cs.drop a.w) with
    | some x, some y => some (x, y)
    | _, _ => none
  | .arr n t, cs => if cs.length = n * t.w then allD (cD t) (chunk t.w n cs) else none
def zN : Ty → (ts : List Ty) → List Value → Option ((us : List Ty) × (Pe ts → Pe us) × List At)
  | .pair a b, ts, cs => match a with
    | .arr n t => match cD (.arr n t) (cs.take (n * t.w)) with
      | some x => match zN b (.arr n t :: ts) (cs.drop (n * t.w)) with
        | some ⟨us, g, l⟩ => some ⟨us, fun e => g (x, e), .pu ts.length :: l⟩
        | none => none
      | none => none
    | _ => match cs with
      | v :: r => match cA v, zN b ts r with
        | some y, some ⟨us, g, l⟩ => some ⟨us, g, y :: l⟩
        | _, _ => none
      | [] => none
  | .unit, ts, [] => some ⟨ts, fun e => e, []⟩
  | .arr n t, ts, cs => match cD (.arr n t) cs with
    | some x => some ⟨.arr n t :: ts, fun e => (x, e), [.pu ts.length]⟩
    | none => none
  | _, _, _ => none
def trNewT (A : AState) (d : Option Nat) (t : Ty) (zero : List Value) : Option (Nx A) := match zN t A.ts zero with
  | some ⟨us, g, l⟩ => some (nxT ⟨us, setS A.sl d (.v (.a (.bp A.ob.length 0))), A.ob ++ [.bx l]⟩ g)
  | none => none
theorem eqV_rep {H : Hp} {Z : Nat → Prop} {t : Ty} {x : t.den} {v : Value} (h : Rep H Z t x [v]) (ht : t.isAgg = false) (f : Nat) : eqV f v v = true := by
  cases t with
  | int k => cases h; cases f <;> simp [eqV]
  | bool => cases h; cases f <;> simp [eqV]
  | str => cases h; cases f <;> simp [eqV]
  | sl t =>
    obtain ⟨base, k, e, _⟩ := h
    cases e
    cases f <;> simp [eqV]
  | unit => cases ht
  | pair a b => cases ht
  | arr n t => cases ht
end Go.Proofs.YtehbekgmemebjaaDoorEv
