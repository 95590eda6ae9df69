import Derived.Test.YtmmichdlgjcmoaaPAllx0
import Derived.Test.YtmmichdlgjcmoaaPAllx13
import Derived.Test.YtmmichdlgjcmoaaPAllx17
import Derived.Test.YtmmichdlgjcmoaaPAllx18
import Derived.Test.YtmmichdlgjcmoaaPAllx19
import Derived.Test.YtmmichdlgjcmoaaPureI
import Derived.Test.YtmmichdlgjcmoaaPureD
namespace Go.Proofs.Ytmmichdlgjcmoaa.PAll
open Go.RowKit Go.Proofs.YtmmichdlgjcmoaaW.PrintWords Go.Proofs.YtmmichdlgjcmoaaW.PrintLast Go.Proofs.YtmmichdlgjcmoaaW.PrintMore H
set_option linter.unusedVariables false
set_option linter.unusedSimpArgs false
namespace H
def plainR (g : Int) (rels : List ByteArray) (s : ByteArray) (m : S52) : ByteArray × Bool :=
  match moveS g rels s m with
  | none => (⟨#[]⟩, false)
  | some x => (x.1, true)
theorem plainR_none {g : Int} {rels : List ByteArray} {s : ByteArray} {m : S52} (h : moveS g rels s m = none) : plainR g rels s m = (⟨#[]⟩, false) := by unfold plainR; rw [h]
theorem plainR_some {g : Int} {rels : List ByteArray} {s : ByteArray} {m : S52} {x : ByteArray × List S59} (h : moveS g rels s m = some x) : plainR g rels s m = (x.1, true) := by unfold plainR; rw [h]
theorem moveS_three {g : Int} {rels : List ByteArray} {s : ByteArray} {m : S52} (k3 : m.f0 = 3) : moveS g rels s m = if relOkM rels m = true ∧ 0 ≤ m.f1 ∧ m.f1 ≤ s.size then some (repl s m.f1.toNat 0 (rotM rels m), [cellM rels s m (!m.f5)]) else none := by
  unfold moveS
  rw [if_neg (by omega), if_neg (by omega), if_pos k3]
theorem moveS_four {g : Int} {rels : List ByteArray} {s : ByteArray} {m : S52} (k4 : m.f0 = 4) : moveS g rels s m = if relOkM rels m = true ∧ 0 ≤ m.f1 ∧ m.f1 ≤ s.size ∧ prefB (s.extract m.f1.toNat s.size) (rotM rels m) = true then some (repl s m.f1.toNat (relM rels m).size ⟨#[]⟩, [cellM rels s m m.f5]) else none := by
  unfold moveS
  rw [if_neg (by omega), if_neg (by omega), if_neg (by omega), if_pos k4]
theorem pref_iff {s t : ByteArray} {a : Int} (h0 : 0 ≤ a) (h1 : a ≤ s.size) : prefB (s.extract a.toNat s.size) t = true ↔ ¬ (s.size : Int) - a < t.size ∧ (s.extract a.toNat (a + (t.size : Int)).toNat).toList = t.toList := by
  unfold prefB
  rw [ByteArray.size_extract, ByteArray.extract_extract, Bool.and_eq_true, decide_eq_true_eq, beq_iff_eq]
  refine ⟨fun h => ⟨by omega, ?_⟩, fun h => ⟨by omega, ?_⟩⟩
  · rw [← h.2]; congr 2; omega
  · rw [← h.2]; congr 2; omega
theorem plain_j1_true (s t : ByteArray) (m0 m1 m2 m3 m4 : Int) (m5 : Bool) : Ev (fun k => cayleyref04_plain.j1 k s t true m0 m1 m2 m3 m4 m5) (⟨#[]⟩, false) :=
  Ev.step (fun k => by rw [cayleyref04_plain.j1, if_pos rfl]) (Ev.now _)
theorem plain_rel (g : Int) (rels : List ByteArray) (hr : relsL rels) (s : ByteArray) (m : S52) (hs : s.size ≤ 100000) (hk : m.f0 = 3 ∨ m.f0 = 4) : Ev (fun k => cayleyref04_plain.j0 k s false g rels m.f0 m.f1 m.f2 m.f3 m.f4 m.f5) (plainR g rels s m) := by
  refine Ev.step (f := fun k => _) (fun k => by rw [cayleyref04_plain.j0, if_neg (by decide)]) ?_
  refine Ev.bind (ref_turned_ev g rels hr m) ?_
  cases hok : relOkM rels m with
  | false =>
    rw [plainR_none (by
      rcases hk with k | k
      · rw [moveS_three k]; exact if_neg (fun h => by rw [hok] at h; cases h.1)
      · rw [moveS_four k]; exact if_neg (fun h => by rw [hok] at h; cases h.1))]
    rw [show turnedS rels m = (⟨#[]⟩, ⟨#[]⟩, false) by unfold turnedS; rw [hok]; rfl]
    simp only [Bool.false_eq_true, if_false]
    exact plain_j1_true _ _ _ _ _ _ _ _
  | true =>
    rw [show turnedS rels m = (rotM rels m, beforeM rels m, true) by unfold turnedS; rw [hok]; rfl]
    simp only [if_true]
    by_cases h1 : m.f1 < 0
    · simp only [if_pos h1]
      rw [plainR_none (by
        rcases hk with k | k
        · rw [moveS_three k]; exact if_neg (fun h => by omega)
        · rw [moveS_four k]; exact if_neg (fun h => by omega))]
      exact plain_j1_true _ _ _ _ _ _ _ _
    simp only [if_neg h1]
    by_cases h2 : m.f1 > s.size
    · rw [show decide (m.f1 > (s.size : Int)) = true from decide_eq_true h2]
      rw [plainR_none (by
        rcases hk with k | k
        · rw [moveS_three k]; exact if_neg (fun h => by omega)
        · rw [moveS_four k]; exact if_neg (fun h => by omega))]
      exact plain_j1_true _ _ _ _ _ _ _ _
    rw [show decide (m.f1 > (s.size : Int)) = false from decide_eq_false h2]
    have hz := (relM_L hr hok).1
    have hrz := rotM_len hok
    refine Ev.step (f := fun k => _) (fun k => by rw [cayleyref04_plain.j1, if_neg (by decide)]) ?_
    rcases hk with k | k
    · simp only [if_pos k]
      rw [plainR_some (by rw [moveS_three k]; exact if_pos ⟨hok, by omega, by omega⟩)]
      rw [if_pos (by omega), if_pos (by omega), if_pos (by rw [ByteArray.size_extract]; omega), if_pos (by rw [ByteArray.size_append, ByteArray.size_extract, ByteArray.size_extract]; omega)]
      exact Ev.now _
    · simp only [if_neg (show ¬ m.f0 = 3 by omega)]
      rw [w64 (by omega) (by omega), w64 (by omega) (by omega)]
      by_cases h3 : (s.size : Int) - m.f1 < (rotM rels m).size
      · rw [if_pos h3, plainR_none (by rw [moveS_four k]; exact if_neg (fun h => ((pref_iff (by omega) (by omega)).1 h.2.2.2).1 h3))]
        exact Ev.now _
      rw [if_neg h3, if_pos (by omega), if_pos (by omega), if_pos (by omega)]
      by_cases h4 : (s.extract m.f1.toNat (m.f1 + ((rotM rels m).size : Int)).toNat).toList = (rotM rels m).toList
      · rw [if_pos h4, if_pos (by omega), if_pos (by omega), if_pos (by rw [ByteArray.size_extract, ByteArray.size_extract]; omega)]
        rw [plainR_some (by rw [moveS_four k]; exact if_pos ⟨hok, by omega, by omega, (pref_iff (by omega) (by omega)).2 ⟨h3, h4⟩⟩)]
        rw [← hrz, ← repl_del, show (m.f1 + ((rotM rels m).size : Int)).toNat = m.f1.toNat + (rotM rels m).size by omega]
        exact Ev.now _
      · rw [if_neg h4, plainR_none (by rw [moveS_four k]; exact if_neg (fun h => h4 ((pref_iff (by omega) (by omega)).1 h.2.2.2).2))]
        exact Ev.now _
theorem ref_plain_ev (g : Int) (rels : List ByteArray) (hr : relsL rels) (hg : 1 ≤ g ∧ g ≤ 8) (s : ByteArray) (m : S52) (hs : s.size ≤ 100000) (hL : allL (bytesOf s)) : Ev (fun k => cayleyref04_plain.f k g rels s m.f0 m.f1 m.f2 m.f3 m.f4 m.f5) (plainR g rels s m) := by
  unfold cayleyref04_plain.f
  by_cases k3 : m.f0 = 3
  · simp only [if_pos k3]
    exact plain_rel g rels hr s m hs (.inl k3)
  simp only [if_neg k3]
  by_cases k4 : m.f0 = 4
  · rw [show (m.f0 != 4) = false by simp [k4]]
    exact plain_rel g rels hr s m hs (.inr k4)
  rw [show (m.f0 != 4) = true by simp [k4]]
  refine Ev.step (f := fun k => some (plainR g rels s m)) (fun k => ?_) (Ev.now _)
  rw [cayleyref04_plain.j0, if_pos rfl, cayleyref04_move.f, if_pos (moveB_iff.2 ⟨hg, hr, by omega, hL⟩)]
  rw [Option.bind_some]
  unfold moveR plainR
  cases moveS g rels s m with
  | none => rfl
  | some x => rfl
theorem rd52_at (pre : List S52) (c : S52) (rest : List S52) : rd_T52 (pre ++ c :: rest) (pre.length : Int) = c := getD_at pre c rest _
def wordR (o : Option (ByteArray × List S59)) : ByteArray × Int :=
  match o with
  | none => (⟨#[]⟩, 43)
  | some x => (x.1, 0)
def carryR (o : Option (ByteArray × List S59)) : ByteArray × List S59 × Int :=
  match o with
  | none => (⟨#[]⟩, [], 43)
  | some x => (x.1, x.2, 0)
theorem walkS_cons (g : Int) (rels : List ByteArray) (x : ByteArray × List S59) (m : S52) (ms : List S52) : walkS g rels x (m :: ms) = (stepS g rels x m).bind fun y => walkS g rels y ms := rfl
theorem ref_Apply_l0 (g : Int) (rels : List ByteArray) (hr : relsL rels) (hg : 1 ≤ g ∧ g ≤ 8) (ms : List S52) (hn : ms.length ≤ 100000) : ∀ (rest pre : List S52) (s : ByteArray) (cs : List S59), ms = pre ++ rest → s.size ≤ 100000 → allL (bytesOf s) →
    Ev (fun k => cayleyref04_Apply.l0 k s ms (ms.length : Int) (pre.length : Int) g rels) (wordR (walkS g rels (s, cs) rest)) := by
  intro rest
  induction rest with
  | nil =>
    intro pre s cs hp hs hL
    refine Ev.step (f := fun _ => some (s, 0)) (fun k => ?_) (Ev.now _)
    simp only [cayleyref04_Apply.l0]
    rw [if_neg (by rw [hp]; simp)]
  | cons m rest ih =>
    intro pre s cs hp hs hL
    have hlen : pre.length < ms.length := by rw [hp]; simp
    have hi : wrap64 ((pre.length : Int) + 1) = ((pre ++ [m]).length : Int) := by rw [w64 (by omega) (by omega)]; simp
    have hrd : rd_T52 ms (pre.length : Int) = m := by rw [hp]; exact rd52_at pre m rest
    refine Ev.step (f := fun k => _) (fun k => by
      simp only [cayleyref04_Apply.l0]
      rw [if_pos (by omega), if_pos (by omega), if_pos (by omega), hrd, hi]) ?_
    refine Ev.bind (ref_plain_ev g rels hr hg s m hs hL) ?_
    rw [walkS_cons, step_move g rels s cs m hs]
    cases hm : moveS g rels s m with
    | none =>
      rw [plainR_none hm]
      simp only [Bool.false_eq_true, if_false]
      exact Ev.now _
    | some x =>
      obtain ⟨v, l⟩ := x
      rw [plainR_some hm, Option.bind_some]
      simp only [if_true]
      by_cases hv : v.size ≤ 100000
      · rw [if_pos hv, Option.bind_some]
        simp only [if_neg (show ¬ (v.size : Int) > 100000 by omega)]
        exact ih (pre ++ [m]) v (cs ++ l) (by rw [hp]; simp) hv (moveS_L hr hg hs hL hm).1
      · rw [if_neg hv]
        simp only [if_pos (show (v.size : Int) > 100000 by omega)]
        exact Ev.now _
theorem ref_carry_l0 (g : Int) (rels : List ByteArray) (hr : relsL rels) (hg : 1 ≤ g ∧ g ≤ 8) (ms : List S52) (hn : ms.length ≤ 100000) : ∀ (rest pre : List S52) (s : ByteArray) (cs : List S59), ms = pre ++ rest → s.size ≤ 100000 → allL (bytesOf s) → cs.length ≤ pre.length →
    Ev (fun k => cayleyref04_carry.l0 k s cs ms (ms.length : Int) (pre.length : Int) g rels) (carryR (walkS g rels (s, cs) rest)) := by
  intro rest
  induction rest with
  | nil =>
    intro pre s cs hp hs hL hc
    refine Ev.step (f := fun _ => some (s, cs, 0)) (fun k => ?_) (Ev.now _)
    simp only [cayleyref04_carry.l0]
    rw [if_neg (by rw [hp]; simp)]
  | cons m rest ih =>
    intro pre s cs hp hs hL hc
    have hlen : pre.length < ms.length := by rw [hp]; simp
    have hi : wrap64 ((pre.length : Int) + 1) = ((pre ++ [m]).length : Int) := by rw [w64 (by omega) (by omega)]; simp
    have hrd : rd_T52 ms (pre.length : Int) = m := by rw [hp]; exact rd52_at pre m rest
    refine Ev.step (f := fun k => _) (fun k => by
      simp only [cayleyref04_carry.l0]
      rw [if_pos (by omega), if_pos (by omega), if_pos (by omega), hrd, hi]) ?_
    rw [cayleyref04_move.f, if_pos (moveB_iff.2 ⟨hg, hr, by omega, hL⟩)]
    simp only [Option.bind_some]
    rw [walkS_cons, step_move g rels s cs m hs]
    unfold moveR
    cases hm : moveS g rels s m with
    | none =>
      simp only [Bool.false_eq_true, if_false]
      exact Ev.now _
    | some x =>
      obtain ⟨v, l⟩ := x
      have hl := (moveS_L hr hg hs hL hm).2.1
      rw [Option.bind_some]
      simp only [if_true]
      by_cases hv : v.size ≤ 100000
      · rw [if_pos hv, Option.bind_some]
        simp only [if_neg (show ¬ (v.size : Int) > 100000 by omega), if_pos (show cs.length + l.length < 4398046511104 by omega)]
        exact ih (pre ++ [m]) v (cs ++ l) (by rw [hp]; simp) hv (moveS_L hr hg hs hL hm).1 (by simp; omega)
      · rw [if_neg hv]
        simp only [if_pos (show (v.size : Int) > 100000 by omega)]
        exact Ev.now _
theorem walk_inv {g : Int} {rels : List ByteArray} (hr : relsL rels) (hg : 1 ≤ g ∧ g ≤ 8) : ∀ (ms : List S52) (s : ByteArray) (cs : List S59) (x : ByteArray × List S59), s.size ≤ 100000 → allL (bytesOf s) → (∀ c ∈ cs, CellL rels c ∧ c.f0.size ≤ 200000) → walkS g rels (s, cs) ms = some x →
    x.1.size ≤ 100000 ∧ allL (bytesOf x.1) ∧ (∀ c ∈ x.2, CellL rels c ∧ c.f0.size ≤ 200000) ∧ x.2.length ≤ cs.length + ms.length := by
  intro ms
  induction ms with
  | nil =>
    intro s cs x hs hL hc h
    cases h
    exact ⟨hs, hL, hc, Nat.le_refl _⟩
  | cons m ms ih =>
    intro s cs x hs hL hc h
    rw [walkS_cons, step_move g rels s cs m hs] at h
    cases hm : moveS g rels s m with
    | none => rw [hm] at h; cases h
    | some y =>
      obtain ⟨v, l⟩ := y
      rw [hm, Option.bind_some] at h
      dsimp only at h
      by_cases hv : v.size ≤ 100000
      · rw [if_pos hv, Option.bind_some] at h
        have hl := moveS_L hr hg hs hL hm
        obtain ⟨h1, h2, h3, h4⟩ := ih v (cs ++ l) x hv hl.1 (fun c hc' => by
          rcases List.mem_append.1 hc' with h' | h'
          · exact hc c h'
          · exact hl.2.2 c h') h
        refine ⟨h1, h2, h3, ?_⟩
        have := hl.2.1
        rw [List.length_append] at h4
        rw [List.length_cons]
        omega
      · rw [if_neg hv] at h; cases h
end H
end Go.Proofs.Ytmmichdlgjcmoaa.PAll
