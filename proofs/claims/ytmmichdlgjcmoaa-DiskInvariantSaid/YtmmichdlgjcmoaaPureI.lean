import Derived.Test.YtmmichdlgjcmoaaPAllx0
import Derived.Test.YtmmichdlgjcmoaaPAllx2
import Derived.OpenShut
import Derived.Test.YtmmichdlgjcmoaaPAllx3
import Derived.Test.YtmmichdlgjcmoaaExtE
import Derived.Test.YtmmichdlgjcmoaaPAllx8
import Derived.Test.YtmmichdlgjcmoaaExtM
import Derived.Test.YtmmichdlgjcmoaaPureH
import Derived.Test.YtmmichdlgjcmoaaPureF
namespace Go.Proofs.Ytmmichdlgjcmoaa.PAll
open Go.RowKit Go.Proofs.YtmmichdlgjcmoaaW.PrintWords Go.Proofs.YtmmichdlgjcmoaaW.PrintLast Go.Proofs.YtmmichdlgjcmoaaW.PrintMore H
set_option linter.unusedVariables false
set_option linter.unusedSimpArgs false
namespace H
theorem bytesOf_repl (s u : ByteArray) (a n : Nat) : bytesOf (repl s a n u) = (bytesOf s).take a ++ bytesOf u ++ (bytesOf s).drop (a + n) := by
  unfold repl
  rw [bytesOf_cat, bytesOf_cat, bytesOf_extract, bytesOf_extract, List.drop_zero]
  congr 2
  rw [List.take_of_length_le (by rw [bytesOf_length]; exact Nat.le_refl _)]
theorem step_move (g : Int) (rels : List ByteArray) (s : ByteArray) (cs : List S59) (m : S52) (hs : s.size ≤ 100000) : stepS g rels (s, cs) m = (moveS g rels s m).bind fun x => if x.1.size ≤ 100000 then some (x.1, cs ++ x.2) else none := by
  unfold stepS moveS
  dsimp only
  by_cases k1 : m.f0 = 1
  · rw [if_pos k1, if_pos k1]
    by_cases h : 0 ≤ m.f1 ∧ m.f1 ≤ s.size ∧ 0 ≤ m.f2 ∧ m.f2 < 2 * g
    · rw [if_pos h]
      have hz : (repl s m.f1.toNat 0 (pairS m.f2)).size = s.size + 2 := by
        rw [repl_size (by omega)]
        have : (pairS m.f2).size = 2 := by rw [pairS, strOfNums_size]; rfl
        omega
      rw [Option.bind_some]
      dsimp only
      rw [hz, List.append_nil]
      by_cases hc : s.size + 2 ≤ 100000
      · rw [if_pos hc]; exact if_pos ⟨h.1, h.2.1, h.2.2.1, h.2.2.2, hc⟩
      · rw [if_neg hc]; exact if_neg (fun h' => hc h'.2.2.2.2)
    · rw [if_neg h]; exact if_neg (fun h' => h ⟨h'.1, h'.2.1, h'.2.2.1, h'.2.2.2.1⟩)
  rw [if_neg k1, if_neg k1]
  by_cases k2 : m.f0 = 2
  · rw [if_pos k2, if_pos k2]
    by_cases h : 0 ≤ m.f1 ∧ m.f1 ≤ (s.size : Int) - 2 ∧ canc (bt s m.f1) (bt s (m.f1 + 1)) = true
    · rw [if_pos h, if_pos h]
      rw [Option.bind_some]
      dsimp only
      rw [if_pos (by rw [repl_size (by omega)]; show s.size - 2 + 0 ≤ _; omega), List.append_nil]
    · rw [if_neg h, if_neg h]; rfl
  rw [if_neg k2, if_neg k2]
  by_cases k3 : m.f0 = 3
  · rw [if_pos k3, if_pos k3]
    by_cases h : relOkM rels m = true ∧ 0 ≤ m.f1 ∧ m.f1 ≤ s.size
    · rw [if_pos h]
      have hz : (repl s m.f1.toNat 0 (rotM rels m)).size = s.size + (relM rels m).size := by
        rw [repl_size (by omega), rotM_len h.1]; omega
      rw [Option.bind_some]
      dsimp only
      rw [hz]
      by_cases hc : s.size + (relM rels m).size ≤ 100000
      · rw [if_pos hc]; exact if_pos ⟨h.1, h.2.1, h.2.2, hc⟩
      · rw [if_neg hc]; exact if_neg (fun h' => hc h'.2.2.2)
    · rw [if_neg h]; exact if_neg (fun h' => h ⟨h'.1, h'.2.1, h'.2.2.1⟩)
  rw [if_neg k3, if_neg k3]
  by_cases k4 : m.f0 = 4
  · rw [if_pos k4, if_pos k4]
    by_cases h : relOkM rels m = true ∧ 0 ≤ m.f1 ∧ m.f1 ≤ s.size ∧ prefB (s.extract m.f1.toNat s.size) (rotM rels m) = true
    · rw [if_pos h, if_pos h]
      rw [Option.bind_some]
      dsimp only
      rw [if_pos]
      have hp := prefB_size h.2.2.2
      rw [rotM_len h.1, ByteArray.size_extract] at hp
      rw [repl_size (by omega)]
      show s.size - _ + 0 ≤ _
      omega
    · rw [if_neg h, if_neg h]; rfl
  · rw [if_neg k4, if_neg k4]; rfl
theorem letterB_isL {i : Int} (h0 : 0 ≤ i) (h1 : i < 16) : isL (letterB i) := by
  have : i = 0 ∨ i = 1 ∨ i = 2 ∨ i = 3 ∨ i = 4 ∨ i = 5 ∨ i = 6 ∨ i = 7 ∨ i = 8 ∨ i = 9 ∨ i = 10 ∨ i = 11 ∨ i = 12 ∨ i = 13 ∨ i = 14 ∨ i = 15 := by omega
  unfold isL
  rcases this with h | h | h | h | h | h | h | h | h | h | h | h | h | h | h | h
  · subst h; rw [show letterB 0 = 97 from by rfl]; decide
  · subst h; rw [show letterB 1 = 65 from by rfl]; decide
  · subst h; rw [show letterB 2 = 98 from by rfl]; decide
  · subst h; rw [show letterB 3 = 66 from by rfl]; decide
  · subst h; rw [show letterB 4 = 99 from by rfl]; decide
  · subst h; rw [show letterB 5 = 67 from by rfl]; decide
  · subst h; rw [show letterB 6 = 100 from by rfl]; decide
  · subst h; rw [show letterB 7 = 68 from by rfl]; decide
  · subst h; rw [show letterB 8 = 101 from by rfl]; decide
  · subst h; rw [show letterB 9 = 69 from by rfl]; decide
  · subst h; rw [show letterB 10 = 102 from by rfl]; decide
  · subst h; rw [show letterB 11 = 70 from by rfl]; decide
  · subst h; rw [show letterB 12 = 103 from by rfl]; decide
  · subst h; rw [show letterB 13 = 71 from by rfl]; decide
  · subst h; rw [show letterB 14 = 104 from by rfl]; decide
  · subst h; rw [show letterB 15 = 72 from by rfl]; decide
theorem bytesOf_pair {i : Int} (h0 : 0 ≤ i) (h1 : i < 16) : bytesOf (pairS i) = [letterB i, otherB (letterB i)] := by
  have hl := letterB_isL h0 h1
  have ho := isL_other hl
  unfold pairS
  exact bytesOf_strOf (allL_range (fun x hx => by simp at hx; rcases hx with rfl | rfl <;> assumption))
theorem bytesOf_nil : bytesOf (⟨#[]⟩ : ByteArray) = [] := rfl
theorem allL_rot {rels : List ByteArray} {m : S52} (hr : relsL rels) (h : relOkM rels m = true) : allL (bytesOf (rotM rels m)) := by
  have hl := (relM_L hr h).2
  unfold rotM beforeM
  rw [bytesOf_cat, bytesOf_extract, bytesOf_extract]
  exact allL_cat (fun x hx => hl x (List.mem_of_mem_take (List.mem_of_mem_drop hx))) (fun x hx => hl x (List.mem_of_mem_take (List.mem_of_mem_drop hx)))
theorem cellM_L {rels : List ByteArray} {s : ByteArray} {m : S52} (hr : relsL rels) (h : relOkM rels m = true) (hL : allL (bytesOf s)) (hs : s.size ≤ 100000) (b : Bool) : CellL rels (cellM rels s m b) ∧ (cellM rels s m b).f0.size ≤ 200000 := by
  obtain ⟨h1, h2, _, _⟩ := relOkM_iff.1 h
  have hb := before_L hr h
  have hw : allL (bytesOf (s.extract 0 m.f1.toNat) ++ bytesOf (invS (beforeM rels m))) := allL_cat (allL_take hL _) (by rw [bytesOf_invS hb.2]; exact allL_inv hb.2)
  have hred : allL (redL [s.extract 0 m.f1.toNat, invS (beforeM rels m)]) := by rw [redL_two]; exact (red_redu hw).isL
  refine ⟨⟨h1, h2, ?_⟩, ?_⟩
  · show allL (bytesOf (strOfNums _))
    rw [bytesOf_strOf (allL_range hred)]; exact hred
  · show (strOfNums _).size ≤ _
    rw [strOfNums_size]
    have := redL_len [s.extract 0 m.f1.toNat, invS (beforeM rels m)]
    have hz : sizes [s.extract 0 m.f1.toNat, invS (beforeM rels m)] = (s.extract 0 m.f1.toNat).size + (invS (beforeM rels m)).size := by simp [sizes]
    rw [hz, invS_size, ByteArray.size_extract] at this
    omega
theorem moveS_L {g : Int} {rels : List ByteArray} {s v : ByteArray} {m : S52} {l : List S59} (hr : relsL rels) (hg : 1 ≤ g ∧ g ≤ 8) (hs : s.size ≤ 100000) (hL : allL (bytesOf s)) (h : moveS g rels s m = some (v, l)) :
    allL (bytesOf v) ∧ l.length ≤ 1 ∧ ∀ c ∈ l, CellL rels c ∧ c.f0.size ≤ 200000 := by
  have ht : ∀ n, allL ((bytesOf s).take n) := fun n x hx => hL x (List.mem_of_mem_take hx)
  have hd : ∀ n, allL ((bytesOf s).drop n) := fun n x hx => hL x (List.mem_of_mem_drop hx)
  unfold moveS at h
  split at h
  · split at h
    · rename_i hc
      obtain ⟨rfl, rfl⟩ := Prod.mk.inj (Option.some.inj h)
      refine ⟨?_, by simp, by simp⟩
      rw [bytesOf_repl, bytesOf_pair hc.2.2.1 (by omega)]
      have hl := letterB_isL hc.2.2.1 (by omega)
      exact allL_cat (allL_cat (ht _) (fun x hx => by simp at hx; rcases hx with rfl | rfl; exact hl; exact isL_other hl)) (hd _)
    · cases h
  · split at h
    · split at h
      · obtain ⟨rfl, rfl⟩ := Prod.mk.inj (Option.some.inj h)
        refine ⟨?_, by simp, by simp⟩
        rw [bytesOf_repl, bytesOf_nil, List.append_nil]
        exact allL_cat (ht _) (hd _)
      · cases h
    · split at h
      · split at h
        · rename_i hc
          obtain ⟨rfl, rfl⟩ := Prod.mk.inj (Option.some.inj h)
          refine ⟨?_, by simp, fun c hc' => ?_⟩
          · rw [bytesOf_repl]
            exact allL_cat (allL_cat (ht _) (allL_rot hr hc.1)) (hd _)
          · rw [List.mem_singleton] at hc'
            rw [hc']
            exact cellM_L hr hc.1 hL hs _
        · cases h
      · split at h
        · split at h
          · rename_i hc
            obtain ⟨rfl, rfl⟩ := Prod.mk.inj (Option.some.inj h)
            refine ⟨?_, by simp, fun c hc' => ?_⟩
            · rw [bytesOf_repl, bytesOf_nil, List.append_nil]
              exact allL_cat (ht _) (hd _)
            · rw [List.mem_singleton] at hc'
              rw [hc']
              exact cellM_L hr hc.1 hL hs _
          · cases h
        · cases h
end H
end Go.Proofs.Ytmmichdlgjcmoaa.PAll
