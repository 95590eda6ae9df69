import Derived.Test.YtmmichdlgjcmoaaPAllx0
import Derived.Test.YtmmichdlgjcmoaaPAllx19
import Derived.Test.YtmmichdlgjcmoaaPureK
namespace Go.Proofs.Ytmmichdlgjcmoaa.PAll
open Go.RowKit Go.Proofs.YtmmichdlgjcmoaaW.PrintWords Go.Proofs.YtmmichdlgjcmoaaW.PrintLast Go.Proofs.YtmmichdlgjcmoaaW.PrintMore H
set_option linter.unusedVariables false
set_option linter.unusedSimpArgs false
namespace H
theorem diskL_cat (rels : List ByteArray) (d e : List S59) : diskL rels (d ++ e) = diskL rels d ++ diskL rels e := by simp [diskL]
def relK (m : S52) : Nat := if m.f0 = 3 ∨ m.f0 = 4 then 1 else 0
def relC (ms : List S52) : Nat := (ms.map relK).sum
theorem relC_cons (m : S52) (ms : List S52) : relC (m :: ms) = relK m + relC ms := by simp [relC]
theorem moveS_count {g : Int} {rels : List ByteArray} {s v : ByteArray} {m : S52} {l : List S59} (h : moveS g rels s m = some (v, l)) : l.length = relK m := by
  unfold moveS at h
  unfold relK
  split at h
  · rename_i k
    rw [if_neg (by omega)]
    split at h
    · obtain ⟨rfl, rfl⟩ := Prod.mk.inj (Option.some.inj h); rfl
    · cases h
  · split at h
    · rename_i k
      rw [if_neg (by omega)]
      split at h
      · obtain ⟨rfl, rfl⟩ := Prod.mk.inj (Option.some.inj h); rfl
      · cases h
    · split at h
      · rename_i k
        rw [if_pos (by omega)]
        split at h
        · obtain ⟨rfl, rfl⟩ := Prod.mk.inj (Option.some.inj h); rfl
        · cases h
      · split at h
        · rename_i k
          rw [if_pos (by omega)]
          split at h
          · obtain ⟨rfl, rfl⟩ := Prod.mk.inj (Option.some.inj h); rfl
          · cases h
        · cases h
theorem walk_all {g : Int} {rels : List ByteArray} (hr : relsL rels) (hg : 1 ≤ g ∧ g ≤ 8) : ∀ (ms : List S52) (s : ByteArray) (cs : List S59) (x : ByteArray × List S59), s.size ≤ 100000 → allL (bytesOf s) → (∀ c ∈ cs, CellL rels c) → walkS g rels (s, cs) ms = some x →
    x.2.length = cs.length + relC ms ∧ Eqv (diskL rels x.2 ++ bytesOf x.1) (diskL rels cs ++ bytesOf s) := by
  intro ms
  induction ms with
  | nil =>
    intro s cs x hs hL hc h
    cases h
    exact ⟨rfl, Eqv.refl _⟩
  | cons m ms ih =>
    intro s cs x hs hL hc h
    rw [walkS_cons, step_move g rels s cs m hs] at h
    cases hm : moveS g rels s m with
    | none => rw [hm] at h; cases h
    | some y =>
      obtain ⟨v, l⟩ := y
      rw [hm, Option.bind_some] at h
      dsimp only at h
      by_cases hv : v.size ≤ 100000
      · rw [if_pos hv, Option.bind_some] at h
        have hl := moveS_L hr hg hs hL hm
        obtain ⟨h1, h2⟩ := ih v (cs ++ l) x hv hl.1 (fun c hc' => by
          rcases List.mem_append.1 hc' with h' | h'
          · exact hc c h'
          · exact (hl.2.2 c h').1) h
        refine ⟨?_, h2.trans ?_⟩
        · rw [h1, List.length_append, moveS_count hm, relC_cons]; omega
        · rw [diskL_cat, List.append_assoc]
          exact Eqv.left (move_eqv hr hg hs hL hm) (diskL_L hr hc)
      · rw [if_neg hv] at h; cases h
theorem ref_Relators_l0 (ms : List S52) (hn : ms.length ≤ 100000) : ∀ (rest pre : List S52) (n : Nat), ms = pre ++ rest → n ≤ pre.length →
    Ev (fun k => cayleyref04_Relators.l0 k (n : Int) ms (ms.length : Int) (pre.length : Int)) ((n + relC rest : Nat) : Int) := by
  intro rest
  induction rest with
  | nil =>
    intro pre n hp hle
    refine Ev.step (f := fun _ => some (n : Int)) (fun k => ?_) (Ev.now _)
    simp only [cayleyref04_Relators.l0]
    rw [if_neg (by rw [hp]; simp)]
  | cons m rest ih =>
    intro pre n hp hle
    have hlen : pre.length < ms.length := by rw [hp]; simp
    have hi : wrap64 ((pre.length : Int) + 1) = ((pre ++ [m]).length : Int) := by rw [w64 (by omega) (by omega)]; simp
    have hj : wrap64 ((n : Int) + 1) = ((n + 1 : Nat) : Int) := by rw [w64 (by omega) (by omega)]; simp
    have hrd : rd_T52 ms (pre.length : Int) = m := by rw [hp]; exact rd52_at pre m rest
    refine Ev.step (f := fun k => _) (fun k => by
      simp only [cayleyref04_Relators.l0]
      rw [if_pos (by omega), if_pos (by omega), if_pos (by omega), hrd, hi, hj]) ?_
    rw [relC_cons]
    by_cases h3 : m.f0 = 3
    · simp only [if_pos h3]
      have := ih (pre ++ [m]) (n + 1) (by rw [hp]; simp) (by simp; omega)
      rw [show relK m = 1 from if_pos (.inl h3), ← Nat.add_assoc]
      exact this
    simp only [if_neg h3]
    by_cases h4 : m.f0 = 4
    · simp only [if_pos h4]
      have := ih (pre ++ [m]) (n + 1) (by rw [hp]; simp) (by simp; omega)
      rw [show relK m = 1 from if_pos (.inr h4), ← Nat.add_assoc]
      exact this
    simp only [if_neg h4]
    have := ih (pre ++ [m]) n (by rw [hp]; simp) (by simp; omega)
    rw [show relK m = 0 from if_neg (by omega), Nat.zero_add]
    exact this
theorem ref_Relators_ev (ms : List S52) (hn : ms.length ≤ 100000) : Ev (fun k => cayleyref04_Relators.f k ms) (relC ms : Int) := by
  unfold cayleyref04_Relators.f
  have := ref_Relators_l0 ms hn ms [] 0 rfl (Nat.le_refl _)
  rw [Nat.zero_add] at this
  exact this
theorem DiskFromMoves_ev (g : Int) (rels : List ByteArray) (s : ByteArray) (ms : List S52) : Ev (fun k => cayleylaw04_DiskFromMoves.f k g rels s ms) true := by
  unfold cayleylaw04_DiskFromMoves.f
  simp only [disk_Apply.f, disk_FromMoves.f, Option.bind_some]
  unfold ApplyS FromMovesS
  cases hm : movesS g rels s ms with
  | error e =>
    have he := movesS_err hm
    simp only [if_neg he]
    refine Ev.step (f := fun k => _) (fun k => by rw [cayleylaw04_DiskFromMoves.j0, if_pos rfl]) ?_
    refine Ev.bind sane_ev ?_
    simp only [if_true]
    exact Ev.now _
  | ok x =>
    simp only [if_true]
    cases hd : isDiskS g rels.length x.2 with
    | false =>
      simp only [Bool.false_eq_true, if_false]
      refine Ev.step (f := fun k => _) (fun k => by rw [cayleylaw04_DiskFromMoves.j0, if_pos (by decide)]) ?_
      refine Ev.bind sane_ev ?_
      simp only [if_true]
      rw [if_neg (by decide)]
      exact Ev.now _
    | true =>
      simp only [if_true]
      obtain ⟨hp, hw, hml, hx⟩ := movesS_ok hm
      obtain ⟨i1, i2, i3, i4⟩ := movesS_inv hm
      have hr := relsL_of hp
      have hg := isPresS_g hp
      have hsz := isWordL_len hw
      have hL := allL_of hw
      have hok := diskOk_of hp hd
      obtain ⟨c1, c2⟩ := walk_all hr hg ms s [] x hsz hL (fun c hc => by cases hc) hx
      refine Ev.step (f := fun k => _) (fun k => by rw [cayleylaw04_DiskFromMoves.j0, if_neg (by decide)]) ?_
      refine Ev.bind (disk_Boundary_ev g rels x.2) ?_
      rw [Boundary_disk hp hd]
      refine Ev.bind sane_ev ?_
      simp only [if_true]
      refine Ev.bind (ref_Relators_ev ms hml) ?_
      simp only [if_pos (show (x.2.length : Int) = (relC ms : Int) by rw [c1]; simp)]
      refine Ev.bind (ref_Invert_ev x.1 (by omega) i2) ?_
      have hall : allL (bytesOf (s ++ invS x.1)) := by rw [bytesOf_cat, bytesOf_invS i2]; exact allL_app hL (allL_inv i2)
      simp only [if_pos (show s.size + (invS x.1).size ≤ 9223372036854775807 by rw [invS_size]; omega)]
      refine Ev.bind (ref_Reduce_ev (s ++ invS x.1) (by rw [ByteArray.size_append, invS_size]; omega) hall) ?_
      have hdl := diskL_L hr hok.L
      have e : boundL rels x.2 = redL [s ++ invS x.1] := by
        rw [boundL_red, redL_one, bytesOf_cat, bytesOf_invS i2]
        refine Eqv.red (Eqv.trans (ys := diskL rels x.2 ++ (bytesOf x.1 ++ invL (bytesOf x.1))) ?_ ?_)
        · have := Eqv.left (xs := diskL rels x.2) (eqv_inv_left i2).symm hdl
          rw [List.append_nil] at this
          exact this
        · rw [← List.append_assoc]
          exact Eqv.app c2 (Eqv.refl _) (allL_app hdl i2)
      refine Ev.congr (fun k => ?_) (Ev.now true)
      rw [e]
      simp
end H
end Go.Proofs.Ytmmichdlgjcmoaa.PAll
