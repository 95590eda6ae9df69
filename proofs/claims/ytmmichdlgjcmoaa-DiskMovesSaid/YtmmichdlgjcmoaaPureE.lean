import Derived.Test.YtmmichdlgjcmoaaPAllx0
import Derived.Test.YtmmichdlgjcmoaaPureD
namespace Go.Proofs.Ytmmichdlgjcmoaa.PAll
open Go.RowKit Go.Proofs.YtmmichdlgjcmoaaW.PrintWords Go.Proofs.YtmmichdlgjcmoaaW.PrintLast Go.Proofs.YtmmichdlgjcmoaaW.PrintMore H
set_option linter.unusedVariables false
set_option linter.unusedSimpArgs false
namespace H
def act (out xs : List Int) : List Int := xs.foldl (pushW canc) out
def red (xs : List Int) : List Int := act [] xs
theorem act_append (out xs ys : List Int) : act out (xs ++ ys) = act (act out xs) ys := by simp [act]
theorem push_snoc (o : List Int) (y x : Int) : pushW canc (o ++ [y]) x = if canc y x = true then o else o ++ [y] ++ [x] := by
  unfold pushW
  rw [List.getLast?_concat]
  simp only [List.dropLast_concat]
def Redu (o : List Int) : Prop := allL o ∧ ∀ p a b q, o = p ++ a :: b :: q → canc a b = false
theorem Redu.nil : Redu [] := ⟨fun x hx => (by cases hx), fun p a b q e => (by simp at e)⟩
theorem Redu.one (x : Int) (hx : H.isL x) : Redu [x] := ⟨fun y hy => (by simp at hy; rw [hy]; exact hx), fun p a b q e => (by have := congrArg List.length e; simp at this; omega)⟩
theorem Redu.isL {o : List Int} (h : Redu o) : allL o := h.1
theorem Redu.init {o : List Int} {x : Int} (h : Redu (o ++ [x])) : Redu o := ⟨fun y hy => h.1 y (by simp [hy]), fun p a b q e => h.2 p a b (q ++ [x]) (by rw [e]; simp)⟩
theorem Redu.snoc (o : List Int) (y x : Int) (h : Redu (o ++ [y])) (hx : H.isL x) (hc : canc y x = false) : Redu (o ++ [y] ++ [x]) := by
  refine ⟨fun z hz => ?_, fun p a b q e => ?_⟩
  · rcases List.mem_append.1 hz with hz | hz
    · exact h.1 z hz
    · simp at hz; rw [hz]; exact hx
  · rcases snoc_split q with rfl | ⟨q', c, rfl⟩
    · have e1 : o ++ [y] ++ [x] = p ++ [a] ++ [b] := by rw [e]; simp
      have h4 := List.append_inj' e1 rfl
      have h5 := List.append_inj' h4.1 rfl
      have h6 := h4.2; have h7 := h5.2
      simp at h6 h7
      rw [← h6, ← h7]; exact hc
    · have e1 : o ++ [y] ++ [x] = (p ++ a :: b :: q') ++ [c] := by rw [e]; simp
      exact h.2 p a b q' (List.append_inj' e1 rfl).1
theorem Redu.push {o : List Int} (h : Redu o) {x : Int} (hx : H.isL x) : Redu (pushW canc o x) := by
  rcases snoc_split o with rfl | ⟨p, c, rfl⟩
  · exact .one x hx
  · rw [push_snoc]
    split
    · exact h.init
    · rename_i hc; exact .snoc p c x h hx (by simpa using hc)
theorem Redu.act {xs : List Int} (hx : allL xs) : ∀ {o : List Int}, Redu o → Redu (act o xs) := by
  induction xs with
  | nil => intro o h; exact h
  | cons x xs ih => intro o h; exact ih (fun y hy => hx y (by simp [hy])) (h.push (hx x (by simp)))
theorem red_redu {xs : List Int} (hx : allL xs) : Redu (red xs) := Redu.act hx .nil
def Eqv (xs ys : List Int) : Prop := ∀ o, Redu o → act o xs = act o ys
theorem Eqv.red {xs ys : List Int} (h : Eqv xs ys) : red xs = red ys := h [] .nil
end H
end Go.Proofs.Ytmmichdlgjcmoaa.PAll
