import Derived.Test.YtmmichdlgjcmoaaPAllx0
import Derived.Test.YtmmichdlgjcmoaaPAllx6
import Derived.Test.YtmmichdlgjcmoaaPAllx7
import Derived.Test.YtmmichdlgjcmoaaExtA
namespace Go.Proofs.Ytmmichdlgjcmoaa.PAll
open Go.RowKit Go.Proofs.YtmmichdlgjcmoaaW.PrintWords Go.Proofs.YtmmichdlgjcmoaaW.PrintLast Go.Proofs.YtmmichdlgjcmoaaW.PrintMore H
set_option linter.unusedVariables false
set_option linter.unusedSimpArgs false
namespace H
theorem w64 {x : Int} (h : -9223372036854775808 ≤ x) (h' : x ≤ 9223372036854775807) : wrap64 x = x := by unfold wrap64; omega
theorem getD_at {α : Type} (pre : List α) (c : α) (rest : List α) (z : α) : (pre ++ c :: rest).getD (pre.length : Int).toNat z = c := by
  rw [Int.toNat_natCast, List.getD_eq_getElem?_getD, List.getElem?_append_right (Nat.le_refl _)]
  simp
theorem rdOf_at {α : Type} (pre : List α) (c : α) (rest : List α) (z : α) : rdOf z (pre ++ c :: rest) (pre.length : Int) = c := getD_at pre c rest z
theorem rd59_at (pre : List S59) (c : S59) (rest : List S59) : rd_T59 (pre ++ c :: rest) (pre.length : Int) = c := getD_at pre c rest _
theorem rdL_at (pre : List (List S59)) (c : List S59) (rest : List (List S59)) : rd_L5 (pre ++ c :: rest) (pre.length : Int) = c := getD_at pre c rest _
def cellOk (g : Int) (n : Nat) (c : S59) : Bool := decide (0 ≤ c.f1) && decide (c.f1 < n) && isWordL g (bytesOf c.f0)
def conjs (d : List S59) : Nat := sizes (d.map (·.f0))
def isDiskS (g : Int) (n : Nat) (d : List S59) : Bool := decide (d.length ≤ 100000) && d.all (cellOk g n) && decide (conjs d ≤ 1000000)
theorem conjs_cons (c : S59) (d : List S59) : conjs (c :: d) = c.f0.size + conjs d := by simp [conjs, sizes_cons]
theorem isWordL_len {g : Int} {s : ByteArray} (h : isWordL g (bytesOf s) = true) : s.size ≤ 100000 := by
  unfold isWordL at h; rw [bytesOf_length] at h; simp at h; exact h.1
theorem disk_isDisk_l0 (g : Int) (rels : List ByteArray) (hg : 1 ≤ g ∧ g ≤ 8) (d : List S59) (hd : d.length ≤ 100000) : ∀ (rest pre : List S59) (acc : Nat), d = pre ++ rest → acc ≤ 100000 * pre.length →
    Ev (fun k => disk_isDisk.l0 k acc d (d.length : Int) (pre.length : Int) g rels) (rest.all (cellOk g rels.length) && decide (acc + conjs rest ≤ 1000000)) := by
  intro rest
  induction rest with
  | nil =>
    intro pre acc hp ha
    refine Ev.step (f := fun _ => some (decide ((acc : Int) ≤ 1000000))) (fun k => ?_) ?_
    · simp only [disk_isDisk.l0]
      rw [if_neg (by rw [hp]; simp)]
    · have : decide ((acc : Int) ≤ 1000000) = (([] : List S59).all (cellOk g rels.length) && decide (acc + conjs [] ≤ 1000000)) := by
        simp [conjs, sizes]; omega
      rw [← this]; exact Ev.now _
  | cons c rest ih =>
    intro pre acc hp ha
    have hlen : pre.length < d.length := by rw [hp]; simp
    have hrd : rd_T59 d (pre.length : Int) = c := by rw [hp]; exact rd59_at pre c rest
    refine Ev.step (f := fun k => _) (fun k => by simp only [disk_isDisk.l0]; rw [if_pos (by omega), if_pos (by omega), if_pos (by omega), hrd]) ?_
    by_cases h1 : c.f1 < 0
    · simp only [if_pos h1]
      have : ((c :: rest).all (cellOk g rels.length) && decide (acc + conjs (c :: rest) ≤ 1000000)) = false := by simp [cellOk]; omega
      rw [this]; exact Ev.now _
    · simp only [if_neg h1]
      by_cases h2 : c.f1 ≥ (rels.length : Int)
      · simp only [if_pos h2]
        have : ((c :: rest).all (cellOk g rels.length) && decide (acc + conjs (c :: rest) ≤ 1000000)) = false := by simp [cellOk]; omega
        rw [this]; exact Ev.now _
      · simp only [if_neg h2]
        rw [disk_isWord.f, if_pos hg]
        simp only [Option.bind_some]
        by_cases h3 : isWordL g (bytesOf c.f0) = true
        · simp only [if_pos h3]
          have hs := isWordL_len h3
          have hw : wrap64 ((acc : Int) + (c.f0.size : Int)) = ((acc + c.f0.size : Nat) : Int) := by rw [w64 (by omega) (by omega)]; omega
          have hi : wrap64 ((pre.length : Int) + 1) = ((pre ++ [c]).length : Int) := by rw [w64 (by omega) (by omega)]; simp
          simp only [hw, hi]
          have := ih (pre ++ [c]) (acc + c.f0.size) (by rw [hp]; simp) (by simp; omega)
          have e : ((c :: rest).all (cellOk g rels.length) && decide (acc + conjs (c :: rest) ≤ 1000000)) = (rest.all (cellOk g rels.length) && decide (acc + c.f0.size + conjs rest ≤ 1000000)) := by
            have hc : cellOk g rels.length c = true := by simp [cellOk, h3]; omega
            simp only [List.all_cons, hc, Bool.true_and, conjs_cons, Nat.add_assoc]
          rw [e]; exact this
        · simp only [if_neg h3]
          have : ((c :: rest).all (cellOk g rels.length) && decide (acc + conjs (c :: rest) ≤ 1000000)) = false := by simp [cellOk, h3]
          rw [this]; exact Ev.now _
theorem disk_isDisk_ev (g : Int) (rels : List ByteArray) (hg : 1 ≤ g ∧ g ≤ 8) (d : List S59) : Ev (fun k => disk_isDisk.f k g rels d) (isDiskS g rels.length d) := by
  unfold disk_isDisk.f isDiskS
  by_cases h : (d.length : Int) > 100000
  · simp only [if_pos h]
    have : decide (d.length ≤ 100000) = false := by simp; omega
    rw [this]; exact Ev.now _
  · simp only [if_neg h]
    have := disk_isDisk_l0 g rels hg d (by omega) d [] 0 rfl (by simp)
    have e : decide (d.length ≤ 100000) = true := by simp; omega
    rw [e]; simpa using this
def relOk (g : Int) (s : ByteArray) : Bool := decide (1 ≤ s.size) && decide (s.size ≤ 200) && isWordL g (bytesOf s) && decide ((strOfNums (redL [s])).toList = s.toList)
def isPresS (g : Int) (rels : List ByteArray) : Bool := decide (1 ≤ g) && decide (g ≤ 8) && decide (rels.length ≤ 60) && rels.all (relOk g)
theorem disk_isPres_l0 (g : Int) (rels : List ByteArray) (hg : 1 ≤ g ∧ g ≤ 8) (hn : rels.length ≤ 60) : ∀ (rest pre : List ByteArray), rels = pre ++ rest →
    Ev (fun k => disk_isPres.l0 k rels (rels.length : Int) (pre.length : Int) g rels) (rest.all (relOk g)) := by
  intro rest
  induction rest with
  | nil =>
    intro pre hp
    refine Ev.step (f := fun _ => some true) (fun k => ?_) (Ev.now _)
    simp only [disk_isPres.l0]
    rw [if_neg (by rw [hp]; simp)]
  | cons c rest ih =>
    intro pre hp
    have hlen : pre.length < rels.length := by rw [hp]; simp
    have hrd : rdOf ByteArray.empty rels (pre.length : Int) = c := by rw [hp]; exact rdOf_at pre c rest _
    refine Ev.step (f := fun k => _) (fun k => by simp only [disk_isPres.l0]; rw [if_pos (by omega), if_pos (by omega), if_pos (by omega), hrd]) ?_
    by_cases h1 : (c.size : Int) < 1
    · simp only [if_pos h1]
      have : (c :: rest).all (relOk g) = false := by simp [relOk]; omega
      rw [this]; exact Ev.now _
    · simp only [if_neg h1]
      by_cases h2 : (c.size : Int) > 200
      · simp only [if_pos h2]
        have : (c :: rest).all (relOk g) = false := by simp [relOk]; omega
        rw [this]; exact Ev.now _
      · simp only [if_neg h2]
        rw [disk_isWord.f, if_pos hg]
        simp only [Option.bind_some]
        by_cases h3 : isWordL g (bytesOf c) = true
        · simp only [if_pos h3]
          rw [disk_reduced.f, if_pos (by rw [sizes_cons]; simp [sizes]; omega)]
          simp only [Option.bind_some]
          by_cases h4 : (strOfNums (redL [c])).toList = c.toList
          · simp only [if_pos h4]
            have hi : wrap64 ((pre.length : Int) + 1) = ((pre ++ [c]).length : Int) := by rw [w64 (by omega) (by omega)]; simp
            simp only [hi]
            have e : (c :: rest).all (relOk g) = rest.all (relOk g) := by
              have hc : relOk g c = true := by simp [relOk, h3, h4]; omega
              simp only [List.all_cons, hc, Bool.true_and]
            rw [e]; exact ih (pre ++ [c]) (by rw [hp]; simp)
          · simp only [if_neg h4]
            have : (c :: rest).all (relOk g) = false := by simp [relOk, h4]
            rw [this]; exact Ev.now _
        · simp only [if_neg h3]
          have : (c :: rest).all (relOk g) = false := by simp [relOk, h3]
          rw [this]; exact Ev.now _
theorem disk_isPres_ev (g : Int) (rels : List ByteArray) : Ev (fun k => disk_isPres.f k g rels) (isPresS g rels) := by
  unfold disk_isPres.f isPresS
  by_cases h1 : g < 1
  · simp only [if_pos h1]
    have : decide (1 ≤ g) = false := by simp; omega
    rw [this]; exact Ev.step (f := fun _ => some false) (fun k => by simp [disk_isPres.j0]) (Ev.now _)
  · simp only [if_neg h1]
    by_cases h2 : g > 8
    · simp only [if_pos h2]
      have : decide (g ≤ 8) = false := by simp; omega
      rw [this, Bool.and_false, Bool.false_and, Bool.false_and]; exact Ev.step (f := fun _ => some false) (fun k => by simp [disk_isPres.j0]) (Ev.now _)
    · simp only [if_neg h2]
      by_cases h3 : (rels.length : Int) > 60
      · have : decide (rels.length ≤ 60) = false := by simp; omega
        rw [this, Bool.and_false, Bool.false_and]; exact Ev.step (f := fun _ => some false) (fun k => by simp [disk_isPres.j0, h3]) (Ev.now _)
      · have e1 : decide (1 ≤ g) = true := by simp; omega
        have e2 : decide (g ≤ 8) = true := by simp; omega
        have e3 : decide (rels.length ≤ 60) = true := by simp; omega
        rw [e1, e2, e3]
        refine Ev.step (f := fun k => disk_isPres.l0 k rels (rels.length : Int) 0 g rels) (fun k => by simp [disk_isPres.j0, h3]) ?_
        simpa using disk_isPres_l0 g rels ⟨by omega, by omega⟩ (by omega) rels [] rfl
def examineS (g : Int) (rels words : List ByteArray) (disks : List (List S59)) : Int :=
  if isPresS g rels = true then if words.all (fun s => isWordL g (bytesOf s)) = true then if disks.all (isDiskS g rels.length) = true then 0 else 42 else 41 else 40
theorem disk_examine_l1 (g : Int) (rels : List ByteArray) (hg : 1 ≤ g ∧ g ≤ 8) (ds : List (List S59)) (hn : ds.length ≤ 9223372036854775806) : ∀ (rest pre : List (List S59)), ds = pre ++ rest →
    Ev (fun k => disk_examine.l1 k ds (ds.length : Int) (pre.length : Int) g rels) (if rest.all (isDiskS g rels.length) = true then 0 else 42) := by
  intro rest
  induction rest with
  | nil =>
    intro pre hp
    refine Ev.step (f := fun _ => some 0) (fun k => ?_) (Ev.now _)
    simp only [disk_examine.l1]
    rw [if_neg (by rw [hp]; simp)]
  | cons c rest ih =>
    intro pre hp
    have hlen : pre.length < ds.length := by rw [hp]; simp
    have hrd : rd_L5 ds (pre.length : Int) = c := by rw [hp]; exact rdL_at pre c rest
    refine Ev.step (f := fun k => _) (fun k => by simp only [disk_examine.l1]; rw [if_pos (by omega), if_pos (by omega), if_pos (by omega), hrd]) ?_
    refine Ev.bind (disk_isDisk_ev g rels hg c) ?_
    by_cases h : isDiskS g rels.length c = true
    · simp only [if_pos h, List.all_cons, h, Bool.true_and]
      have hi : wrap64 ((pre.length : Int) + 1) = ((pre ++ [c]).length : Int) := by rw [w64 (by omega) (by omega)]; simp
      simp only [hi]
      exact ih (pre ++ [c]) (by rw [hp]; simp)
    · simp only [if_neg h, List.all_cons]
      have h' : isDiskS g rels.length c = false := by simpa using h
      simp only [h', Bool.false_and, Bool.false_eq_true, if_false]; exact Ev.now _
theorem disk_examine_l0 (g : Int) (rels : List ByteArray) (hg : 1 ≤ g ∧ g ≤ 8) (ws : List ByteArray) (hw : ws.length ≤ 9223372036854775806) (ds : List (List S59)) (hn : ds.length ≤ 9223372036854775806) : ∀ (rest pre : List ByteArray), ws = pre ++ rest →
    Ev (fun k => disk_examine.l0 k ds ws (ws.length : Int) (pre.length : Int) g rels) (if rest.all (fun s => isWordL g (bytesOf s)) = true then if ds.all (isDiskS g rels.length) = true then 0 else 42 else 41) := by
  intro rest
  induction rest with
  | nil =>
    intro pre hp
    refine Ev.step (f := fun k => disk_examine.l1 k ds (ds.length : Int) 0 g rels) (fun k => ?_) ?_
    · simp only [disk_examine.l0]
      rw [if_neg (by rw [hp]; simp)]
    · simpa using disk_examine_l1 g rels hg ds hn ds [] rfl
  | cons c rest ih =>
    intro pre hp
    have hlen : pre.length < ws.length := by rw [hp]; simp
    have hrd : rdOf ByteArray.empty ws (pre.length : Int) = c := by rw [hp]; exact rdOf_at pre c rest _
    refine Ev.step (f := fun k => _) (fun k => by simp only [disk_examine.l0]; rw [if_pos (by omega), if_pos (by omega), if_pos (by omega), hrd]) ?_
    rw [disk_isWord.f, if_pos hg]
    simp only [Option.bind_some]
    by_cases h : isWordL g (bytesOf c) = true
    · simp only [if_pos h, List.all_cons, h, Bool.true_and]
      have hi : wrap64 ((pre.length : Int) + 1) = ((pre ++ [c]).length : Int) := by rw [w64 (by omega) (by omega)]; simp
      simp only [hi]
      exact ih (pre ++ [c]) (by rw [hp]; simp)
    · simp only [if_neg h, List.all_cons]
      have h' : isWordL g (bytesOf c) = false := by simpa using h
      simp only [h', Bool.false_and, Bool.false_eq_true, if_false]; exact Ev.now _
theorem isPresS_g {g : Int} {rels : List ByteArray} (h : isPresS g rels = true) : 1 ≤ g ∧ g ≤ 8 := by
  simp [isPresS] at h; omega
theorem disk_examine_ev (g : Int) (rels ws : List ByteArray) (ds : List (List S59)) (hw : ws.length ≤ 9223372036854775806) (hn : ds.length ≤ 9223372036854775806) : Ev (fun k => disk_examine.f k g rels ws ds) (examineS g rels ws ds) := by
  unfold disk_examine.f examineS
  refine Ev.bind (disk_isPres_ev g rels) ?_
  by_cases h : isPresS g rels = true
  · simp only [if_pos h]
    simpa using disk_examine_l0 g rels (isPresS_g h) ws hw ds hn ws [] rfl
  · simp only [if_neg h]; exact Ev.now _
def invL (xs : List Int) : List Int := (xs.map otherB).reverse
def invS (s : ByteArray) : ByteArray := strOfNums (invL (bytesOf s))
theorem set_rep (m : Nat) (v : Int) (r : List Int) : (List.replicate (m + 1) 0 ++ r).set m v = List.replicate m 0 ++ v :: r := by
  rw [List.replicate_succ', List.append_assoc, List.set_append_right _ _ (by simp)]
  simp
theorem bytesOf_at (s : ByteArray) (pre : List Int) (c : Int) (rest : List Int) (h : bytesOf s = pre ++ c :: rest) : bt s (pre.length : Int) = c := by
  rw [← rd_bytesOf, h]; exact getD_at pre c rest _
theorem disk_inverse_l0 (s : ByteArray) (hs : s.size ≤ 1000000000) : ∀ (rest pre : List Int), bytesOf s = pre ++ rest →
    Ev (fun k => disk_inverse.l0 k s (List.replicate rest.length 0 ++ invL pre) (s.size : Int) (pre.length : Int)) (invS s) := by
  intro rest
  induction rest with
  | nil =>
    intro pre hp
    have hl : pre.length = s.size := by rw [← bytesOf_length, hp]; simp
    refine Ev.step (f := fun _ => some (invS s)) (fun k => ?_) (Ev.now _)
    simp only [disk_inverse.l0]
    rw [if_neg (by omega)]
    simp only [List.length_nil, List.replicate_zero, List.nil_append, invS]
    rw [show bytesOf s = pre by rw [hp]; simp]
  | cons c rest ih =>
    intro pre hp
    have hl : pre.length + (rest.length + 1) = s.size := by rw [← bytesOf_length, hp]; simp
    have hrd := bytesOf_at s pre c rest hp
    refine Ev.step (f := fun k => _) (fun k => by simp only [disk_inverse.l0, disk_other.f, Option.bind_some]; rw [if_pos (by omega), if_pos (by omega), if_pos (by omega), hrd]) ?_
    have hx : wrap64 (wrap64 ((s.size : Int) - 1) - (pre.length : Int)) = (rest.length : Int) := by rw [w64 (x := (s.size : Int) - 1) (by omega) (by omega), w64 (by omega) (by omega)]; omega
    have hi : wrap64 ((pre.length : Int) + 1) = ((pre ++ [c]).length : Int) := by rw [w64 (by omega) (by omega)]; simp
    simp only [hx, hi]
    simp only [if_pos (show (0 : Int) ≤ rest.length by omega)]
    simp only [if_pos (show (rest.length : Int) < ((List.replicate (c :: rest).length 0 ++ invL pre).length : Int) by simp; omega)]
    have e : (List.replicate (c :: rest).length 0 ++ invL pre).set ((rest.length : Int)).toNat (Go.bits .xor .u8 c 32) = List.replicate rest.length 0 ++ invL (pre ++ [c]) := by
      rw [Int.toNat_natCast, List.length_cons, set_rep]; simp [invL, otherB]
    rw [e]
    exact ih (pre ++ [c]) (by rw [hp]; simp)
theorem disk_inverse_ev (s : ByteArray) (hs : s.size ≤ 1000000000) : Ev (fun k => disk_inverse.f k s) (invS s) := by
  unfold disk_inverse.f
  simp only [if_pos (show (0 : Int) ≤ (s.size : Int) by omega), Int.toNat_natCast, if_pos (show s.size ≤ 281474976710656 by omega)]
  have := disk_inverse_l0 s hs (bytesOf s) [] rfl
  rw [bytesOf_length] at this
  simpa [invL] using this
def sideS (rels : List ByteArray) (rel : Int) (inv : Bool) : ByteArray := if inv = true then invS (rdOf ByteArray.empty rels rel) else rdOf ByteArray.empty rels rel
theorem disk_side_ev (g : Int) (rels : List ByteArray) (rel : Int) (inv : Bool) (h0 : 0 ≤ rel) (h1 : rel < rels.length) (hs : (rdOf ByteArray.empty rels rel).size ≤ 1000000000) : Ev (fun k => disk_side.f k g rels rel inv) (sideS rels rel inv) := by
  unfold disk_side.f sideS
  cases inv with
  | true =>
    simp only [if_true, if_pos h0, if_pos h1]
    exact Ev.bind (disk_inverse_ev _ hs) (Ev.now _)
  | false =>
    simp only [Bool.false_eq_true, if_false, if_pos h0, if_pos h1]
    exact Ev.now _
end H
end Go.Proofs.Ytmmichdlgjcmoaa.PAll
