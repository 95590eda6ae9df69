import Derived.Test.YtmmichdlgjcmoaaPAllx0
import Derived.Test.YtmmichdlgjcmoaaPureD
namespace Go.Proofs.Ytmmichdlgjcmoaa.PAll
open Go.RowKit Go.Proofs.YtmmichdlgjcmoaaW.PrintWords Go.Proofs.YtmmichdlgjcmoaaW.PrintLast Go.Proofs.YtmmichdlgjcmoaaW.PrintMore H
set_option linter.unusedVariables false
set_option linter.unusedSimpArgs false
namespace H
def act (out xs : List Int) : List Int := xs.foldl (pushW canc) out
def red (xs : List Int) : List Int := act [] xs
theorem act_append (out xs ys : List Int) : act out (xs ++ ys) = act (act out xs) ys := by simp [act]
theorem act_nil (out : List Int) : act out [] = out := rfl
theorem act_cons (out : List Int) (x : Int) (xs : List Int) : act out (x :: xs) = act (pushW canc out x) xs := rfl
theorem act_one (out : List Int) (x : Int) : act out [x] = pushW canc out x := rfl
theorem push_snoc (o : List Int) (y x : Int) : pushW canc (o ++ [y]) x = if canc y x = true then o else o ++ [y] ++ [x] := by
  unfold pushW
  rw [List.getLast?_concat]
  simp only [List.dropLast_concat]
theorem push_nil (x : Int) : pushW canc [] x = [x] := rfl
def Redu (o : List Int) : Prop := allL o ∧ ∀ p a b q, o = p ++ a :: b :: q → canc a b = false
theorem Redu.nil : Redu [] := ⟨fun x hx => (by cases hx), fun p a b q e => (by simp at e)⟩
theorem Redu.one (x : Int) (hx : H.isL x) : Redu [x] := ⟨fun y hy => (by simp at hy; rw [hy]; exact hx), fun p a b q e => (by have := congrArg List.length e; simp at this; omega)⟩
theorem Redu.isL {o : List Int} (h : Redu o) : allL o := h.1
theorem Redu.init {o : List Int} {x : Int} (h : Redu (o ++ [x])) : Redu o := ⟨fun y hy => h.1 y (by simp [hy]), fun p a b q e => h.2 p a b (q ++ [x]) (by rw [e]; simp)⟩
theorem Redu.pair {o : List Int} {y x : Int} (h : Redu (o ++ [y] ++ [x])) : canc y x = false := h.2 o y x [] (by simp)
theorem Redu.snoc (o : List Int) (y x : Int) (h : Redu (o ++ [y])) (hx : H.isL x) (hc : canc y x = false) : Redu (o ++ [y] ++ [x]) := by
  refine ⟨fun z hz => ?_, fun p a b q e => ?_⟩
  · rcases List.mem_append.1 hz with hz | hz
    · exact h.1 z hz
    · simp at hz; rw [hz]; exact hx
  · rcases snoc_split q with rfl | ⟨q', c, rfl⟩
    · have e1 : o ++ [y] ++ [x] = p ++ [a] ++ [b] := by rw [e]; simp
      have h4 := List.append_inj' e1 rfl
      have h5 := List.append_inj' h4.1 rfl
      have h6 := h4.2; have h7 := h5.2
      simp at h6 h7
      rw [← h6, ← h7]; exact hc
    · have e1 : o ++ [y] ++ [x] = (p ++ a :: b :: q') ++ [c] := by rw [e]; simp
      exact h.2 p a b q' (List.append_inj' e1 rfl).1
theorem Redu.push {o : List Int} (h : Redu o) {x : Int} (hx : H.isL x) : Redu (pushW canc o x) := by
  rcases snoc_split o with rfl | ⟨p, c, rfl⟩
  · exact .one x hx
  · rw [push_snoc]
    split
    · exact h.init
    · rename_i hc; exact .snoc p c x h hx (by simpa using hc)
theorem Redu.act {xs : List Int} (hx : allL xs) : ∀ {o : List Int}, Redu o → Redu (act o xs) := by
  induction xs with
  | nil => intro o h; exact h
  | cons x xs ih => intro o h; exact ih (fun y hy => hx y (by simp [hy])) (h.push (hx x (by simp)))
theorem red_redu {xs : List Int} (hx : allL xs) : Redu (red xs) := Redu.act hx .nil
theorem canc_iff {a b : Int} : canc a b = true ↔ a = otherB b := by simp [canc]
theorem push_push {o : List Int} (h : Redu o) {x : Int} (hx : H.isL x) : pushW canc (pushW canc o (otherB x)) x = o := by
  rcases snoc_split o with rfl | ⟨p, z, rfl⟩
  · rw [push_nil]
    have := push_snoc [] (otherB x) x
    rw [List.nil_append] at this
    rw [this, if_pos (by rw [canc_iff])]
  · rw [push_snoc]
    split
    · rename_i hc
      rw [canc_iff, other_other hx] at hc
      subst hc
      rcases snoc_split p with rfl | ⟨q, y, rfl⟩
      · rfl
      · rw [push_snoc, if_neg (by rw [h.pair]; simp)]
    · rw [push_snoc, if_pos (by rw [canc_iff])]
def Eqv (xs ys : List Int) : Prop := ∀ o, Redu o → act o xs = act o ys
theorem Eqv.refl (xs : List Int) : Eqv xs xs := fun _ _ => rfl
theorem Eqv.symm {xs ys : List Int} (h : Eqv xs ys) : Eqv ys xs := fun o ho => (h o ho).symm
theorem Eqv.trans {xs ys zs : List Int} (h : Eqv xs ys) (k : Eqv ys zs) : Eqv xs zs := fun o ho => (h o ho).trans (k o ho)
theorem Eqv.app {xs ys us vs : List Int} (h : Eqv xs ys) (k : Eqv us vs) (hx : allL xs) : Eqv (xs ++ us) (ys ++ vs) := fun o ho => by
  rw [act_append, act_append, ← h o ho]
  exact k _ (ho.act hx)
theorem Eqv.red {xs ys : List Int} (h : Eqv xs ys) : red xs = red ys := h [] .nil
theorem allL_app {xs ys : List Int} (h : allL xs) (k : allL ys) : allL (xs ++ ys) := fun x hx => by
  rcases List.mem_append.1 hx with hx | hx
  · exact h x hx
  · exact k x hx
theorem allL_one {x : Int} (h : H.isL x) : allL [x] := fun y hy => by simp at hy; rw [hy]; exact h
theorem allL_left {xs ys : List Int} (h : allL (xs ++ ys)) : allL xs := fun x hx => h x (by simp [hx])
theorem allL_right {xs ys : List Int} (h : allL (xs ++ ys)) : allL ys := fun x hx => h x (by simp [hx])
theorem act_push {r : List Int} (hr : Redu r) {x : Int} (hx : H.isL x) {o : List Int} (ho : Redu o) : act o (pushW canc r x) = pushW canc (act o r) x := by
  rcases snoc_split r with rfl | ⟨p, z, rfl⟩
  · rfl
  · rw [push_snoc]
    split
    · rename_i hc
      rw [canc_iff] at hc
      subst hc
      rw [act_append, act_one]
      exact (push_push (ho.act hr.init.isL) hx).symm
    · rw [act_append, act_one]
theorem eqv_red {xs : List Int} (hx : allL xs) : Eqv (H.red xs) xs := by
  suffices h : ∀ (n : Nat) (xs : List Int), xs.length = n → allL xs → Eqv (H.red xs) xs from h _ xs rfl hx
  intro n
  induction n with
  | zero => intro xs hn _; rw [List.length_eq_zero_iff.1 hn]; exact Eqv.refl _
  | succ n ih =>
    intro xs hn hx
    rcases snoc_split xs with rfl | ⟨p, x, rfl⟩
    · simp at hn
    · have h1 := ih p (by simpa using hn) (allL_left hx)
      intro o ho
      have hx' : H.isL x := hx x (by simp)
      show act o (act [] (p ++ [x])) = _
      rw [act_append, act_one]
      show act o (pushW canc (H.red p) x) = _
      rw [act_push (red_redu (allL_left hx)) hx' ho, act_append, act_one]
      congr 1
      exact h1 o ho
theorem invL_app (xs ys : List Int) : invL (xs ++ ys) = invL ys ++ invL xs := by simp [invL]
theorem invL_inv {xs : List Int} (h : allL xs) : invL (invL xs) = xs := by
  unfold invL
  rw [List.map_reverse, List.reverse_reverse, List.map_map]
  conv => rhs; rw [← List.map_id xs]
  exact List.map_congr_left (fun x hx => other_other (h x hx))
theorem eqv_inv_right {xs : List Int} (hx : allL xs) : Eqv (invL xs ++ xs) [] := by
  induction xs with
  | nil => exact Eqv.refl _
  | cons x xs ih =>
    have hx' : H.isL x := hx x (by simp)
    have h1 := ih (fun y hy => hx y (by simp [hy]))
    have h0 : allL (invL xs) := allL_inv (fun y hy => hx y (by simp [hy]))
    have e : invL (x :: xs) ++ x :: xs = invL xs ++ ([otherB x, x] ++ xs) := by simp [invL]
    rw [e]
    have h2 : Eqv ([otherB x, x] ++ xs) xs := fun o ho => by
      rw [act_append, act_cons, act_one, push_push ho hx']
    exact ((Eqv.refl (invL xs)).app h2 h0).trans h1
theorem eqv_inv_left {xs : List Int} (hx : allL xs) : Eqv (xs ++ invL xs) [] := by
  have := eqv_inv_right (allL_inv hx)
  rw [invL_inv hx] at this
  exact this
theorem eqv_inv {xs ys : List Int} (hx : allL xs) (hy : allL ys) (h : Eqv xs ys) : Eqv (invL xs) (invL ys) := by
  have h1 : Eqv (invL xs ++ (ys ++ invL ys)) (invL xs ++ []) := (Eqv.refl _).app (eqv_inv_left hy) (allL_inv hx)
  have h2 : Eqv (invL xs ++ ys ++ invL ys) (invL xs ++ xs ++ invL ys) := ((Eqv.refl (invL xs)).app h.symm (allL_inv hx)).app (Eqv.refl _) (allL_app (allL_inv hx) hy)
  have h3 : Eqv (invL xs ++ xs ++ invL ys) ([] ++ invL ys) := (eqv_inv_right hx).app (Eqv.refl _) (allL_app (allL_inv hx) hx)
  rw [List.append_nil, ← List.append_assoc] at h1
  exact h1.symm.trans (h2.trans h3)
end H
end Go.Proofs.Ytmmichdlgjcmoaa.PAll
