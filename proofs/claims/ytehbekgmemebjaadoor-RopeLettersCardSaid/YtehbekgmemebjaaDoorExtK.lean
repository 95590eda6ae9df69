import Derived.Test.YtehbekgmemebjaaDoorWLast
import Derived.Test.YtehbekgmemebjaaDoorWMore
import Derived.Lib.DecodeN
import Derived.Lib.TrimU
namespace Go.Proofs.YtehbekgmemebjaaDoor.PAll
open Go.RowKit Go.Proofs.YtehbekgmemebjaaDoorW.PrintWords Go.Proofs.YtehbekgmemebjaaDoorW.PrintLast Go.Proofs.YtehbekgmemebjaaDoorW.PrintMore
set_option linter.unusedVariables false
set_option linter.unusedSimpArgs false
namespace H
def Glob (w : World) : Prop := ∃ t fr, w.heap[0]? = some (.cells #[.int .u8 97, .int .u8 65, .int .u8 98, .int .u8 66, .int .u8 99, .int .u8 67, .int .u8 100, .int .u8 68, .int .u8 101, .int .u8 69, .int .u8 102, .int .u8 70, .int .u8 103, .int .u8 71, .int .u8 104, .int .u8 72] t fr)
theorem Glob.lt {w : World} (h : Glob w) : 0 < w.heap.size := by
  obtain ⟨t, fr, h⟩ := h
  exact (Array.getElem?_eq_some_iff.1 h).1
def index (c : Int) : Int := if 97 ≤ c ∧ c < 105 then 2 * (c - 97) else if 65 ≤ c ∧ c < 73 then 2 * (c - 65) + 1 else -1
def lettersI : List Int := [97, 65, 98, 66, 99, 67, 100, 68, 101, 69, 102, 70, 103, 71, 104, 72]
theorem index_none {c : Int} (h : ∀ j : Nat, j < 16 → lettersI.getD j 0 ≠ c) : index c = -1 := by
  have h0 : (97 : Int) ≠ c := h 0 (by omega)
  have h1 : (65 : Int) ≠ c := h 1 (by omega)
  have h2 : (98 : Int) ≠ c := h 2 (by omega)
  have h3 : (66 : Int) ≠ c := h 3 (by omega)
  have h4 : (99 : Int) ≠ c := h 4 (by omega)
  have h5 : (67 : Int) ≠ c := h 5 (by omega)
  have h6 : (100 : Int) ≠ c := h 6 (by omega)
  have h7 : (68 : Int) ≠ c := h 7 (by omega)
  have h8 : (101 : Int) ≠ c := h 8 (by omega)
  have h9 : (69 : Int) ≠ c := h 9 (by omega)
  have h10 : (102 : Int) ≠ c := h 10 (by omega)
  have h11 : (70 : Int) ≠ c := h 11 (by omega)
  have h12 : (103 : Int) ≠ c := h 12 (by omega)
  have h13 : (71 : Int) ≠ c := h 13 (by omega)
  have h14 : (104 : Int) ≠ c := h 14 (by omega)
  have h15 : (72 : Int) ≠ c := h 15 (by omega)
  unfold index
  rw [if_neg (by omega), if_neg (by omega)]
def isLB (c : Int) : Bool := decide (0 ≤ index c)
def allLB (s : ByteArray) : Bool := (bytesOf s).all isLB
theorem index_range (c : Int) : -1 ≤ index c ∧ index c < 16 := by unfold index; split <;> (try split) <;> omega
def badR (R : Nat) : Bool := decide (127 < R) || decide (index (R : Int) < 0)
theorem decode_high (s : ByteArray) (pos : Nat) (h : pos < s.size) (ha : ¬ (s[pos]'h).toNat < 128) : 127 < (Utf8.decode s pos).1 := by
  have e : s.get! pos = s[pos]'h := by
    simp [ByteArray.get!, getElem!_pos, h]
    rfl
  rw [Lib.decode_at, e]
  unfold Lib.decodeN
  rw [if_neg ha]
  repeat' split
  all_goals omega
theorem rune_bad (s : ByteArray) (pos : Nat) (h : pos < s.size) : badR (Utf8.decode s pos).1 = !isLB (bt s (pos : Int)) ∧ (isLB (bt s (pos : Int)) = true → (Utf8.decode s pos).2 = 1) := by
  have hb : ((s[pos]'h).toNat : Int) = bt s (pos : Int) := bt_at s (pos : Int) h
  by_cases ha : (s[pos]'h).toNat < 128
  · rw [decode_ascii s pos h ha]
    refine ⟨?_, fun _ => rfl⟩
    show badR (s[pos]'h).toNat = _
    unfold badR isLB
    rw [hb, decide_eq_false (by omega), Bool.false_or]
    by_cases hi : index (bt s (pos : Int)) < 0
    · rw [decide_eq_true hi, decide_eq_false (by omega)]; rfl
    · rw [decide_eq_false hi, decide_eq_true (by omega)]; rfl
  · have hh := decode_high s pos h ha
    have hn : isLB (bt s (pos : Int)) = false := by
      unfold isLB index
      rw [if_neg (by omega), if_neg (by omega)]
      decide
    rw [hn]
    refine ⟨?_, fun hc => by cases hc⟩
    unfold badR
    rw [decide_eq_true hh]; rfl
theorem allLB_no {s : ByteArray} {pos : Nat} (h : pos < s.size) (hb : isLB (bt s (pos : Int)) = false) : allLB s = false := by
  unfold allLB
  rw [List.all_eq_false]
  refine ⟨bt s (pos : Int), ?_, by rw [hb]; decide⟩
  rw [← bt_at s (pos : Int) h]
  unfold bytesOf
  exact List.mem_map.2 ⟨s[pos]'h, Array.mem_toList_iff.2 (Array.getElem_mem (xs := s.data) h), rfl⟩
theorem allLB_yes {s : ByteArray} (h : ∀ j : Nat, j < s.size → isLB (bt s (j : Int)) = true) : allLB s = true := by
  unfold allLB
  rw [List.all_eq_true]
  intro x hx
  obtain ⟨j, hj, rfl⟩ := List.getElem_of_mem hx
  rw [bytesOf_length] at hj
  have := h j hj
  rw [← rd_bytesOf] at this
  simpa [rd, bytesOf_length, hj] using this
def checkS (s : ByteArray) : Int := if s.size ≤ 100000 then if allLB s = true then 0 else 4 else 2
end H
end Go.Proofs.YtehbekgmemebjaaDoor.PAll
