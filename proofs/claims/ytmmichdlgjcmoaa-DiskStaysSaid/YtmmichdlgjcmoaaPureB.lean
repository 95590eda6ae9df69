import Derived.Test.YtmmichdlgjcmoaaPAllx0
import Derived.OpenShut
import Derived.Test.YtmmichdlgjcmoaaExtB
namespace Go.Proofs.Ytmmichdlgjcmoaa.PAll
open Go.RowKit Go.Proofs.YtmmichdlgjcmoaaW.PrintWords Go.Proofs.YtmmichdlgjcmoaaW.PrintLast Go.Proofs.YtmmichdlgjcmoaaW.PrintMore H
set_option linter.unusedVariables false
set_option linter.unusedSimpArgs false
namespace H
def isL (c : Int) : Prop := (97 ≤ c ∧ c < 105) ∨ (65 ≤ c ∧ c < 73)
theorem isL_of {g c : Int} (h : letterOk g c = true) : isL c := by
  unfold letterOk index at h
  unfold isL
  by_cases h1 : 97 ≤ c ∧ c < 105
  · exact .inl h1
  · by_cases h2 : 65 ≤ c ∧ c < 73
    · exact .inr h2
    · simp [h1, h2] at h
theorem isL_cases {c : Int} (h : isL c) : c = 97 ∨ c = 98 ∨ c = 99 ∨ c = 100 ∨ c = 101 ∨ c = 102 ∨ c = 103 ∨ c = 104 ∨ c = 65 ∨ c = 66 ∨ c = 67 ∨ c = 68 ∨ c = 69 ∨ c = 70 ∨ c = 71 ∨ c = 72 := by unfold isL at h; omega
theorem otherB_isL {c : Int} (h : isL c) : otherB c = if 97 ≤ c then c - 32 else c + 32 := by
  rcases isL_cases h with h | h | h | h | h | h | h | h | h | h | h | h | h | h | h | h <;> (subst h; rfl)
theorem isL_other {c : Int} (h : isL c) : isL (otherB c) := by
  rw [otherB_isL h]; unfold isL at *; split <;> omega
def allL (xs : List Int) : Prop := ∀ c ∈ xs, isL c
theorem allL_of {g : Int} {xs : List Int} (h : isWordL g xs = true) : allL xs := by
  unfold isWordL at h
  simp only [Bool.and_eq_true, List.all_eq_true] at h
  exact fun c hc => isL_of (h.2 c hc)
def fits (l : List ByteArray) : Prop := ∀ s ∈ l, s.size ≤ 9223372036854775807
def relsL (rels : List ByteArray) : Prop := ∀ s ∈ rels, s.size ≤ 200 ∧ allL (bytesOf s)
theorem relsL_of {g : Int} {rels : List ByteArray} (h : isPresS g rels = true) : relsL rels := by
  unfold isPresS at h
  simp only [Bool.and_eq_true, List.all_eq_true] at h
  intro s hs
  have := h.2 s hs
  unfold relOk at this
  simp only [Bool.and_eq_true, decide_eq_true_eq] at this
  exact ⟨this.1.1.2, allL_of this.1.2⟩
theorem rdOf_mem {rels : List ByteArray} {i : Int} (h0 : 0 ≤ i) (h1 : i < rels.length) : rdOf ByteArray.empty rels i ∈ rels := by
  unfold rdOf
  rw [List.getD_eq_getElem?_getD, List.getElem?_eq_getElem (by omega)]
  exact List.getElem_mem _
theorem bytesOf_strOf {xs : List Int} (h : ∀ x ∈ xs, 0 ≤ x ∧ x ≤ 255) : bytesOf (strOfNums xs) = xs := by
  unfold bytesOf
  rw [strOfNums_data, List.map_map]
  conv => rhs; rw [← List.map_id xs]
  refine List.map_congr_left (fun x hx => ?_)
  have := h x hx
  simp only [Function.comp, id]
  rw [UInt8.toNat_ofNat']
  omega
theorem allL_range {xs : List Int} (h : allL xs) : ∀ x ∈ xs, 0 ≤ x ∧ x ≤ 255 := fun x hx => by have := h x hx; unfold isL at this; omega
theorem allL_inv {xs : List Int} (h : allL xs) : allL (invL xs) := fun x hx => by
  simp only [invL, List.mem_reverse, List.mem_map] at hx
  obtain ⟨y, hy, rfl⟩ := hx
  exact isL_other (h y hy)
theorem bytesOf_invS {s : ByteArray} (h : allL (bytesOf s)) : bytesOf (invS s) = invL (bytesOf s) := bytesOf_strOf (allL_range (allL_inv h))
theorem invS_size (s : ByteArray) : (invS s).size = s.size := by rw [invS, strOfNums_size]; simp [invL, bytesOf_length]
theorem sideS_L {rels : List ByteArray} (hr : relsL rels) {rel : Int} (inv : Bool) (h0 : 0 ≤ rel) (h1 : rel < rels.length) : (sideS rels rel inv).size ≤ 200 ∧ allL (bytesOf (sideS rels rel inv)) := by
  have hm := hr _ (rdOf_mem h0 h1)
  unfold sideS
  cases inv with
  | true => simp only [if_true]; rw [invS_size, bytesOf_invS hm.2]; exact ⟨hm.1, allL_inv hm.2⟩
  | false => simp only [Bool.false_eq_true, if_false]; exact hm
structure DiskOk (rels : List ByteArray) (d : List S59) : Prop where
  rl : relsL rels
  cell : ∀ c ∈ d, 0 ≤ c.f1 ∧ c.f1 < rels.length ∧ c.f0.size ≤ 100000 ∧ allL (bytesOf c.f0)
  num : d.length ≤ 100000
  all : conjs d ≤ 1000000
theorem diskOk_of {g : Int} {rels : List ByteArray} {d : List S59} (hp : isPresS g rels = true) (hd : isDiskS g rels.length d = true) : DiskOk rels d := by
  unfold isDiskS at hd
  simp only [Bool.and_eq_true, List.all_eq_true, decide_eq_true_eq] at hd
  refine ⟨relsL_of hp, fun c hc => ?_, hd.1.1, hd.2⟩
  have := hd.1.2 c hc
  unfold cellOk at this
  simp only [Bool.and_eq_true, decide_eq_true_eq] at this
  exact ⟨this.1.1, this.1.2, isWordL_len this.2, allL_of this.2⟩
theorem cellW_size {rels : List ByteArray} (hr : relsL rels) {c : S59} (h : 0 ≤ c.f1 ∧ c.f1 < rels.length) : sizes (cellW rels c) ≤ 2 * c.f0.size + 200 := by
  have := (sideS_L hr c.f2 h.1 h.2).1
  unfold cellW
  rw [sizes_cons, sizes_cons, sizes_cons, invS_size]
  simp only [sizes, List.foldl_nil]
  omega
theorem flat_size {rels : List ByteArray} (hr : relsL rels) : ∀ (d : List S59), (∀ c ∈ d, 0 ≤ c.f1 ∧ c.f1 < rels.length) → sizes (d.flatMap (cellW rels)) ≤ 2 * conjs d + 200 * d.length := by
  intro d
  induction d with
  | nil => intro _; simp [sizes]
  | cons c d ih =>
    intro h
    have h1 := cellW_size hr (h c (by simp))
    have h2 := ih (fun x hx => h x (by simp [hx]))
    rw [List.flatMap_cons, sizes_append, conjs_cons, List.length_cons]
    omega
theorem diskOk_bound {rels : List ByteArray} {d : List S59} (h : DiskOk rels d) : boundB rels d = true := by
  rw [boundB_ok]
  refine ⟨fun c hc => ?_, ?_⟩
  · obtain ⟨h0, h1, h2, _⟩ := h.cell c hc
    have := (h.rl _ (rdOf_mem h0 h1)).1
    exact ⟨h0, h1, by omega, by omega⟩
  · have := flat_size h.rl d (fun c hc => ⟨(h.cell c hc).1, (h.cell c hc).2.1⟩)
    have := h.all
    have := h.num
    omega
theorem examine_zero {g : Int} {rels ws : List ByteArray} {ds : List (List S59)} (h : examineS g rels ws ds = 0) : isPresS g rels = true ∧ (∀ s ∈ ws, isWordL g (bytesOf s) = true) ∧ ∀ d ∈ ds, isDiskS g rels.length d = true := by
  unfold examineS at h
  by_cases h1 : isPresS g rels = true
  · by_cases h2 : ws.all (fun s => isWordL g (bytesOf s)) = true
    · by_cases h3 : ds.all (isDiskS g rels.length) = true
      · exact ⟨h1, by simpa using h2, by simpa using h3⟩
      · simp [h1, h2, h3] at h
    · simp [h1, h2] at h
  · simp [h1] at h
structure Came (d : List S59) : Prop where
  num : d.length ≤ 9223372036854775807
  conj : fits (d.map (·.f0))
end H
end Go.Proofs.Ytmmichdlgjcmoaa.PAll
