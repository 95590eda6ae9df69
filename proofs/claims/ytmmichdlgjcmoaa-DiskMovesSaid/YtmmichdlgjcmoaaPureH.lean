import Derived.Test.YtmmichdlgjcmoaaPAllx0
import Derived.Test.YtmmichdlgjcmoaaPAllx16
import Derived.Test.YtmmichdlgjcmoaaPureB
import Derived.Test.YtmmichdlgjcmoaaExtK
namespace Go.Proofs.Ytmmichdlgjcmoaa.PAll
open Go.RowKit Go.Proofs.YtmmichdlgjcmoaaW.PrintWords Go.Proofs.YtmmichdlgjcmoaaW.PrintLast Go.Proofs.YtmmichdlgjcmoaaW.PrintMore H
set_option linter.unusedVariables false
set_option linter.unusedSimpArgs false
namespace H
theorem ref_Letter_eq (i : Int) (h0 : 0 ≤ i) (h1 : i < 16) : cayleyref04_Letter.f i = some (strOfNums [letterB i]) := by
  have : i = 0 ∨ i = 1 ∨ i = 2 ∨ i = 3 ∨ i = 4 ∨ i = 5 ∨ i = 6 ∨ i = 7 ∨ i = 8 ∨ i = 9 ∨ i = 10 ∨ i = 11 ∨ i = 12 ∨ i = 13 ∨ i = 14 ∨ i = 15 := by omega
  rcases this with h | h | h | h | h | h | h | h | h | h | h | h | h | h | h | h
  · subst h; unfold cayleyref04_Letter.f; rw [if_pos (by decide)]; exact congrArg (fun x => some (strOfNums [x])) ((by simp [wrap64] : wrap64 (97 + wrap64 (Int.tdiv 0 2)) % 256 = 97).trans (by rfl : (97 : Int) = letterB 0))
  · subst h; unfold cayleyref04_Letter.f; rw [if_neg (by decide)]; exact congrArg (fun x => some (strOfNums [x])) ((by simp [wrap64] : wrap64 (65 + wrap64 (Int.tdiv 1 2)) % 256 = 65).trans (by rfl : (65 : Int) = letterB 1))
  · subst h; unfold cayleyref04_Letter.f; rw [if_pos (by decide)]; exact congrArg (fun x => some (strOfNums [x])) ((by simp [wrap64] : wrap64 (97 + wrap64 (Int.tdiv 2 2)) % 256 = 98).trans (by rfl : (98 : Int) = letterB 2))
  · subst h; unfold cayleyref04_Letter.f; rw [if_neg (by decide)]; exact congrArg (fun x => some (strOfNums [x])) ((by simp [wrap64] : wrap64 (65 + wrap64 (Int.tdiv 3 2)) % 256 = 66).trans (by rfl : (66 : Int) = letterB 3))
  · subst h; unfold cayleyref04_Letter.f; rw [if_pos (by decide)]; exact congrArg (fun x => some (strOfNums [x])) ((by simp [wrap64] : wrap64 (97 + wrap64 (Int.tdiv 4 2)) % 256 = 99).trans (by rfl : (99 : Int) = letterB 4))
  · subst h; unfold cayleyref04_Letter.f; rw [if_neg (by decide)]; exact congrArg (fun x => some (strOfNums [x])) ((by simp [wrap64] : wrap64 (65 + wrap64 (Int.tdiv 5 2)) % 256 = 67).trans (by rfl : (67 : Int) = letterB 5))
  · subst h; unfold cayleyref04_Letter.f; rw [if_pos (by decide)]; exact congrArg (fun x => some (strOfNums [x])) ((by simp [wrap64] : wrap64 (97 + wrap64 (Int.tdiv 6 2)) % 256 = 100).trans (by rfl : (100 : Int) = letterB 6))
  · subst h; unfold cayleyref04_Letter.f; rw [if_neg (by decide)]; exact congrArg (fun x => some (strOfNums [x])) ((by simp [wrap64] : wrap64 (65 + wrap64 (Int.tdiv 7 2)) % 256 = 68).trans (by rfl : (68 : Int) = letterB 7))
  · subst h; unfold cayleyref04_Letter.f; rw [if_pos (by decide)]; exact congrArg (fun x => some (strOfNums [x])) ((by simp [wrap64] : wrap64 (97 + wrap64 (Int.tdiv 8 2)) % 256 = 101).trans (by rfl : (101 : Int) = letterB 8))
  · subst h; unfold cayleyref04_Letter.f; rw [if_neg (by decide)]; exact congrArg (fun x => some (strOfNums [x])) ((by simp [wrap64] : wrap64 (65 + wrap64 (Int.tdiv 9 2)) % 256 = 69).trans (by rfl : (69 : Int) = letterB 9))
  · subst h; unfold cayleyref04_Letter.f; rw [if_pos (by decide)]; exact congrArg (fun x => some (strOfNums [x])) ((by simp [wrap64] : wrap64 (97 + wrap64 (Int.tdiv 10 2)) % 256 = 102).trans (by rfl : (102 : Int) = letterB 10))
  · subst h; unfold cayleyref04_Letter.f; rw [if_neg (by decide)]; exact congrArg (fun x => some (strOfNums [x])) ((by simp [wrap64] : wrap64 (65 + wrap64 (Int.tdiv 11 2)) % 256 = 70).trans (by rfl : (70 : Int) = letterB 11))
  · subst h; unfold cayleyref04_Letter.f; rw [if_pos (by decide)]; exact congrArg (fun x => some (strOfNums [x])) ((by simp [wrap64] : wrap64 (97 + wrap64 (Int.tdiv 12 2)) % 256 = 103).trans (by rfl : (103 : Int) = letterB 12))
  · subst h; unfold cayleyref04_Letter.f; rw [if_neg (by decide)]; exact congrArg (fun x => some (strOfNums [x])) ((by simp [wrap64] : wrap64 (65 + wrap64 (Int.tdiv 13 2)) % 256 = 71).trans (by rfl : (71 : Int) = letterB 13))
  · subst h; unfold cayleyref04_Letter.f; rw [if_pos (by decide)]; exact congrArg (fun x => some (strOfNums [x])) ((by simp [wrap64] : wrap64 (97 + wrap64 (Int.tdiv 14 2)) % 256 = 104).trans (by rfl : (104 : Int) = letterB 14))
  · subst h; unfold cayleyref04_Letter.f; rw [if_neg (by decide)]; exact congrArg (fun x => some (strOfNums [x])) ((by simp [wrap64] : wrap64 (65 + wrap64 (Int.tdiv 15 2)) % 256 = 72).trans (by rfl : (72 : Int) = letterB 15))
theorem letter_xor (i : Int) (h0 : 0 ≤ i) (h1 : i < 16) : 0 ≤ Go.bits .xor .i64 i 1 ∧ Go.bits .xor .i64 i 1 < 16 ∧ letterB (Go.bits .xor .i64 i 1) = otherB (letterB i) := by
  have : i = 0 ∨ i = 1 ∨ i = 2 ∨ i = 3 ∨ i = 4 ∨ i = 5 ∨ i = 6 ∨ i = 7 ∨ i = 8 ∨ i = 9 ∨ i = 10 ∨ i = 11 ∨ i = 12 ∨ i = 13 ∨ i = 14 ∨ i = 15 := by omega
  rcases this with h | h | h | h | h | h | h | h | h | h | h | h | h | h | h | h
  · subst h; rw [show Go.bits .xor .i64 0 1 = 1 from by rfl]; exact ⟨by decide, by decide, by rfl⟩
  · subst h; rw [show Go.bits .xor .i64 1 1 = 0 from by rfl]; exact ⟨by decide, by decide, by rfl⟩
  · subst h; rw [show Go.bits .xor .i64 2 1 = 3 from by rfl]; exact ⟨by decide, by decide, by rfl⟩
  · subst h; rw [show Go.bits .xor .i64 3 1 = 2 from by rfl]; exact ⟨by decide, by decide, by rfl⟩
  · subst h; rw [show Go.bits .xor .i64 4 1 = 5 from by rfl]; exact ⟨by decide, by decide, by rfl⟩
  · subst h; rw [show Go.bits .xor .i64 5 1 = 4 from by rfl]; exact ⟨by decide, by decide, by rfl⟩
  · subst h; rw [show Go.bits .xor .i64 6 1 = 7 from by rfl]; exact ⟨by decide, by decide, by rfl⟩
  · subst h; rw [show Go.bits .xor .i64 7 1 = 6 from by rfl]; exact ⟨by decide, by decide, by rfl⟩
  · subst h; rw [show Go.bits .xor .i64 8 1 = 9 from by rfl]; exact ⟨by decide, by decide, by rfl⟩
  · subst h; rw [show Go.bits .xor .i64 9 1 = 8 from by rfl]; exact ⟨by decide, by decide, by rfl⟩
  · subst h; rw [show Go.bits .xor .i64 10 1 = 11 from by rfl]; exact ⟨by decide, by decide, by rfl⟩
  · subst h; rw [show Go.bits .xor .i64 11 1 = 10 from by rfl]; exact ⟨by decide, by decide, by rfl⟩
  · subst h; rw [show Go.bits .xor .i64 12 1 = 13 from by rfl]; exact ⟨by decide, by decide, by rfl⟩
  · subst h; rw [show Go.bits .xor .i64 13 1 = 12 from by rfl]; exact ⟨by decide, by decide, by rfl⟩
  · subst h; rw [show Go.bits .xor .i64 14 1 = 15 from by rfl]; exact ⟨by decide, by decide, by rfl⟩
  · subst h; rw [show Go.bits .xor .i64 15 1 = 14 from by rfl]; exact ⟨by decide, by decide, by rfl⟩
theorem relOkM_iff {rels : List ByteArray} {m : S52} : relOkM rels m = true ↔ 0 ≤ m.f3 ∧ m.f3 < rels.length ∧ 0 ≤ m.f4 ∧ m.f4 < (relM rels m).size := by
  unfold relOkM
  simp only [Bool.and_eq_true, decide_eq_true_eq, and_assoc]
def turnedS (rels : List ByteArray) (m : S52) : ByteArray × ByteArray × Bool := if relOkM rels m = true then (rotM rels m, beforeM rels m, true) else (⟨#[]⟩, ⟨#[]⟩, false)
theorem ref_turned_ev (g : Int) (rels : List ByteArray) (hr : relsL rels) (m : S52) : Ev (fun k => cayleyref04_turned.f k g rels m.f0 m.f1 m.f2 m.f3 m.f4 m.f5) (turnedS rels m) := by
  unfold cayleyref04_turned.f turnedS
  by_cases h3 : m.f3 < 0
  · simp only [if_pos h3]
    rw [if_neg (fun h => by have := (relOkM_iff.1 h).1; omega)]
    exact Ev.step (fun k => by rw [cayleyref04_turned.j0, if_pos rfl]) (Ev.now _)
  · simp only [if_neg h3]
    by_cases h3' : m.f3 ≥ (rels.length : Int)
    · rw [if_neg (fun h => by have := (relOkM_iff.1 h).2.1; omega)]
      exact Ev.step (fun k => by rw [cayleyref04_turned.j0, if_pos (decide_eq_true h3')]) (Ev.now _)
    · refine Ev.step (fun k => by rw [cayleyref04_turned.j0, if_neg (by simp; omega)]) ?_
      refine Ev.bind (ref_relator_ev g rels hr m.f3 m.f5 (by omega) (by omega)) ?_
      show Ev (fun n => (if m.f4 < 0 then _ else _)) _
      have hz := (sideS_L hr m.f5 (rel := m.f3) (by omega) (by omega)).1
      by_cases h4 : m.f4 < 0
      · simp only [if_pos h4]
        rw [if_neg (fun h => by have := (relOkM_iff.1 h).2.2.1; omega)]
        exact Ev.now _
      · simp only [if_neg h4]
        by_cases h5 : m.f4 ≥ ((sideS rels m.f3 m.f5).size : Int)
        · simp only [if_pos h5]
          rw [if_neg (fun h => by have := (relOkM_iff.1 h).2.2.2; unfold relM at this; omega)]
          exact Ev.now _
        · simp only [if_neg h5]
          rw [if_pos (relOkM_iff.2 ⟨by omega, by omega, by omega, by unfold relM; omega⟩)]
          rw [if_pos (by omega), if_pos (by omega), if_pos (by simp only [ByteArray.size_extract]; omega)]
          exact Ev.now _
theorem str_app (a b : List Int) : strOfNums a ++ strOfNums b = strOfNums (a ++ b) := by
  apply ByteArray.ext
  simp [strOfNums]
theorem repl_pair (s : ByteArray) (a : Nat) (i : Int) : s.extract 0 a ++ strOfNums [letterB i] ++ strOfNums [otherB (letterB i)] ++ s.extract a s.size = repl s a 0 (pairS i) := by
  unfold repl pairS
  rw [ByteArray.append_assoc (a := s.extract 0 a), str_app]
  rfl
theorem repl_del (s : ByteArray) (a n : Nat) : s.extract 0 a ++ s.extract (a + n) s.size = repl s a n ⟨#[]⟩ := by
  unfold repl
  rw [show (⟨#[]⟩ : ByteArray) = ByteArray.empty from rfl, ByteArray.append_empty]
theorem bytesOf_cat (a b : ByteArray) : bytesOf (a ++ b) = bytesOf a ++ bytesOf b := by
  simp [bytesOf]
theorem redL_cat (a b : ByteArray) : redL [a ++ b] = redL [a, b] := by simp [redL, bytesOf_cat, List.foldl_append]
theorem bytesOf_extract (s : ByteArray) (a b : Nat) : bytesOf (s.extract a b) = ((bytesOf s).take b).drop a := by
  simp [bytesOf, List.map_take, List.map_drop, List.extract_eq_take_drop, List.drop_take]
theorem allL_take {s : ByteArray} (h : allL (bytesOf s)) (n : Nat) : allL (bytesOf (s.extract 0 n)) := by
  rw [bytesOf_extract]
  exact fun x hx => h x (List.mem_of_mem_take (List.mem_of_mem_drop hx))
theorem allL_cat {xs ys : List Int} (h : allL xs) (k : allL ys) : allL (xs ++ ys) := fun x hx => by
  rcases List.mem_append.1 hx with h' | h'
  · exact h x h'
  · exact k x h'
theorem relM_L {rels : List ByteArray} {m : S52} (hr : relsL rels) (h : relOkM rels m = true) : (relM rels m).size ≤ 200 ∧ allL (bytesOf (relM rels m)) := by
  obtain ⟨h1, h2, _, _⟩ := relOkM_iff.1 h
  exact sideS_L hr m.f5 h1 h2
theorem before_L {rels : List ByteArray} {m : S52} (hr : relsL rels) (h : relOkM rels m = true) : (beforeM rels m).size ≤ 200 ∧ allL (bytesOf (beforeM rels m)) := by
  obtain ⟨h1, h2⟩ := relM_L hr h
  refine ⟨?_, allL_take h2 _⟩
  unfold beforeM
  rw [ByteArray.size_extract]; omega
theorem rotM_len {rels : List ByteArray} {m : S52} (h : relOkM rels m = true) : (rotM rels m).size = (relM rels m).size := by
  have := relOkM_iff.1 h
  unfold rotM beforeM
  simp only [ByteArray.size_append, ByteArray.size_extract]
  omega
theorem bt_isL {s : ByteArray} (h : allL (bytesOf s)) {i : Int} (h0 : 0 ≤ i) (h1 : i < s.size) : isL (bt s i) := by
  have hk : i.toNat < s.size := by omega
  rw [← bt_at s i hk]
  apply h
  unfold bytesOf
  refine List.mem_map.2 ⟨s[i.toNat]'hk, ?_, rfl⟩
  exact Array.mem_toList_iff.2 (Array.getElem_mem (xs := s.data) hk)
end H
end Go.Proofs.Ytmmichdlgjcmoaa.PAll
