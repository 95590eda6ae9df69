import Derived.Test.YtmmichdlgjcmoaaPAllx0
import Derived.Test.YtmmichdlgjcmoaaExtJ
namespace Go.Proofs.Ytmmichdlgjcmoaa.PAll
open Go.RowKit Go.Proofs.YtmmichdlgjcmoaaW.PrintWords Go.Proofs.YtmmichdlgjcmoaaW.PrintLast Go.Proofs.YtmmichdlgjcmoaaW.PrintMore H Go.Proofs.YtmmichdlgjcmoaaReg
set_option linter.unusedVariables false
set_option linter.unusedSimpArgs false
namespace H
def relM (rels : List ByteArray) (m : S52) : ByteArray := sideS rels m.f3 m.f5
def relOkM (rels : List ByteArray) (m : S52) : Bool := decide (0 ≤ m.f3) && decide (m.f3 < rels.length) && decide (0 ≤ m.f4) && decide (m.f4 < (relM rels m).size)
def beforeM (rels : List ByteArray) (m : S52) : ByteArray := (relM rels m).extract 0 m.f4.toNat
def rotM (rels : List ByteArray) (m : S52) : ByteArray := (relM rels m).extract m.f4.toNat (relM rels m).size ++ beforeM rels m
def cellM (rels : List ByteArray) (s : ByteArray) (m : S52) (inv : Bool) : S59 := ⟨strOfNums (redL [s.extract 0 m.f1.toNat, invS (beforeM rels m)]), m.f3, inv⟩
def stepS (g : Int) (rels : List ByteArray) (x : ByteArray × List S59) (m : S52) : Option (ByteArray × List S59) :=
  if m.f0 = 1 then
    if 0 ≤ m.f1 ∧ m.f1 ≤ x.1.size ∧ 0 ≤ m.f2 ∧ m.f2 < 2 * g ∧ x.1.size + 2 ≤ 100000 then some (repl x.1 m.f1.toNat 0 (pairS m.f2), x.2) else none
  else if m.f0 = 2 then
    if 0 ≤ m.f1 ∧ m.f1 ≤ (x.1.size : Int) - 2 ∧ canc (bt x.1 m.f1) (bt x.1 (m.f1 + 1)) = true then some (repl x.1 m.f1.toNat 2 ⟨#[]⟩, x.2) else none
  else if m.f0 = 3 then
    if relOkM rels m = true ∧ 0 ≤ m.f1 ∧ m.f1 ≤ x.1.size ∧ x.1.size + (relM rels m).size ≤ 100000 then some (repl x.1 m.f1.toNat 0 (rotM rels m), x.2 ++ [cellM rels x.1 m (!m.f5)]) else none
  else if m.f0 = 4 then
    if relOkM rels m = true ∧ 0 ≤ m.f1 ∧ m.f1 ≤ x.1.size ∧ prefB (x.1.extract m.f1.toNat x.1.size) (rotM rels m) = true then some (repl x.1 m.f1.toNat (relM rels m).size ⟨#[]⟩, x.2 ++ [cellM rels x.1 m m.f5]) else none
  else none
def kindF (k : Int) : Option Nat := if k = 1 then some 69 else if k = 2 then some 70 else if k = 3 then some 71 else if k = 4 then some 72 else none
theorem step_some (w0 : World) (tb : Nat) (TB : Option Obj) (g : Int) (A : Option Addr) (n c : Nat) (s : ByteArray) (cs : List S59) (m : S52) (w : World) (hw : Walk w0 tb TB g A n c w s cs) (rels : List ByteArray) (hn : n = rels.length) (hC : Kd.C Kd.string w0 A n rels) (hc : n ≤ c)
    (hg : 1 ≤ g ∧ g ≤ 8) (hr : relsL rels) (hs : s.size ≤ 100000) (hcs : cs.length < 1000000) (f : Nat) (hf : kindF m.f0 = some f) (s' : ByteArray) (cs' : List S59) (h : stepS g rels (s, cs) m = some (s', cs')) :
    Calls Try.prog f #[.pointer (some ⟨w0.heap.size, 0, none⟩), .agg #[.int .i64 m.f0, .int .i64 m.f1, .int .i64 m.f2, .int .i64 m.f3, .int .i64 m.f4, .bool m.f5]] w fun e w' => e = .returned (.tuple #[]) ∧ Walk w0 tb TB g A n c w' s' cs' := by
  unfold stepS at h
  unfold kindF at hf
  split at h
  · rename_i h0
    rw [if_pos h0] at hf
    obtain rfl := Option.some.inj hf
    split at h
    · rename_i h1
      obtain ⟨rfl, rfl⟩ := Prod.mk.inj (Option.some.inj h)
      exact insertPair_yes w0 tb TB g A n c s cs m w hw hg hs h1.1 h1.2.1 h1.2.2.1 h1.2.2.2.1 h1.2.2.2.2
    · cases h
  · rename_i n1
    rw [if_neg n1] at hf
    split at h
    · rename_i h0
      rw [if_pos h0] at hf
      obtain rfl := Option.some.inj hf
      split at h
      · rename_i h1
        obtain ⟨rfl, rfl⟩ := Prod.mk.inj (Option.some.inj h)
        exact deletePair_yes w0 tb TB g A n c s cs m w hw hs h1.1 h1.2.1 h1.2.2
      · cases h
    · rename_i n2
      rw [if_neg n2] at hf
      split at h
      · rename_i h0
        rw [if_pos h0] at hf
        obtain rfl := Option.some.inj hf
        split at h
        · rename_i h1
          obtain ⟨rfl, rfl⟩ := Prod.mk.inj (Option.some.inj h)
          obtain ⟨hrel, h5, h6, h7⟩ := h1
          unfold relOkM at hrel
          simp only [Bool.and_eq_true, decide_eq_true_eq] at hrel
          obtain ⟨⟨⟨k1, k2⟩, k3⟩, k4⟩ := hrel
          have hz := (hr _ (rdOf_mem k1 k2)).1
          have hz2 := (sideS_L hr m.f5 k1 k2).1
          exact insertRel_yes w0 tb TB g A n c s cs m w hw rels hn hC hc hs k1 (by omega) (by omega) (relM rels m) rfl k3 k4 (by unfold relM; omega) h5 h6 h7 hcs
        · cases h
      · rename_i n3
        rw [if_neg n3] at hf
        split at h
        · rename_i h0
          rw [if_pos h0] at hf
          obtain rfl := Option.some.inj hf
          split at h
          · rename_i h1
            obtain ⟨rfl, rfl⟩ := Prod.mk.inj (Option.some.inj h)
            obtain ⟨hrel, h5, h6, h7⟩ := h1
            unfold relOkM at hrel
            simp only [Bool.and_eq_true, decide_eq_true_eq] at hrel
            obtain ⟨⟨⟨k1, k2⟩, k3⟩, k4⟩ := hrel
            have hz := (hr _ (rdOf_mem k1 k2)).1
            have hz2 := (sideS_L hr m.f5 k1 k2).1
            exact deleteRel_yes w0 tb TB g A n c s cs m w hw rels hn hC hc hs k1 (by omega) (by omega) (relM rels m) rfl k3 k4 (by unfold relM; omega) h5 h6 h7 hcs
          · cases h
        · cases h
theorem rotated_none (w0 : World) (tb : Nat) (TB : Option Obj) (g : Int) (A : Option Addr) (n c : Nat) (s : ByteArray) (cs : List S59) (m : S52) (rels : List ByteArray) (hn : n = rels.length) (hC : Kd.C Kd.string w0 A n rels) (hc : n ≤ c) (hr : relsL rels) (hs : s.size ≤ 100000) (h : ¬ relOkM rels m = true) :
    ∀ w, Walk w0 tb TB g A n c w s cs → Calls Try.prog 76 #[.pointer (some ⟨w0.heap.size, 0, none⟩), .agg #[.int .i64 m.f0, .int .i64 m.f1, .int .i64 m.f2, .int .i64 m.f3, .int .i64 m.f4, .bool m.f5]] w fun e w' => e = .panicked unfit ∧ Below w0.heap.size w0 w' := by
  intro w hw
  unfold relOkM at h
  simp only [Bool.and_eq_true, decide_eq_true_eq] at h
  by_cases k1 : 0 ≤ m.f3
  · by_cases k2 : m.f3 < rels.length
    · have hz := (hr _ (rdOf_mem k1 k2)).1
      by_cases k3 : 0 ≤ m.f4
      · have k4 : ¬ m.f4 < (relM rels m).size := fun k4 => h ⟨⟨⟨k1, k2⟩, k3⟩, k4⟩
        exact rotated_no3 w0 tb TB g A n c s cs m w hw rels hn hC hc hs k1 (by omega) (by omega) (relM rels m) rfl k3 k4
      · exact rotated_no2 w0 tb TB g A n c s cs m w hw rels hn hC hc hs k1 (by omega) (by omega) (relM rels m) rfl k3
    · exact rotated_no1 w0 tb TB g A n c s cs m w hw hs k1 (by omega)
  · exact rotated_no0 w0 tb TB g A n c s cs m w hw hs k1
theorem step_none (w0 : World) (tb : Nat) (TB : Option Obj) (g : Int) (A : Option Addr) (n c : Nat) (s : ByteArray) (cs : List S59) (m : S52) (w : World) (hw : Walk w0 tb TB g A n c w s cs) (rels : List ByteArray) (hn : n = rels.length) (hC : Kd.C Kd.string w0 A n rels) (hc : n ≤ c)
    (hg : 1 ≤ g ∧ g ≤ 8) (hr : relsL rels) (hs : s.size ≤ 100000) (hcs : cs.length < 1000000) (f : Nat) (hf : kindF m.f0 = some f) (h : stepS g rels (s, cs) m = none) :
    Calls Try.prog f #[.pointer (some ⟨w0.heap.size, 0, none⟩), .agg #[.int .i64 m.f0, .int .i64 m.f1, .int .i64 m.f2, .int .i64 m.f3, .int .i64 m.f4, .bool m.f5]] w fun e w' => e = .panicked unfit ∧ Below w0.heap.size w0 w' := by
  unfold stepS at h
  unfold kindF at hf
  split at h
  · rename_i h0
    rw [if_pos h0] at hf
    obtain rfl := Option.some.inj hf
    split at h
    · cases h
    · rename_i h1
      by_cases k1 : 0 ≤ m.f1
      · by_cases k2 : m.f1 ≤ s.size
        · by_cases k3 : 0 ≤ m.f2
          · by_cases k4 : m.f2 < 2 * g
            · exact insertPair_long w0 tb TB g A n c s cs m w hw hg hs k1 k2 k3 k4 (fun k5 => h1 ⟨k1, k2, k3, k4, k5⟩)
            · exact insertPair_no3 w0 tb TB g A n c s cs m w hw hg hs k1 k2 k3 k4
          · exact insertPair_no2 w0 tb TB g A n c s cs m w hw hg hs k1 k2 k3
        · exact insertPair_no1 w0 tb TB g A n c s cs m w hw hg hs k1 k2
      · exact insertPair_no0 w0 tb TB g A n c s cs m w hw hg hs k1
  · rename_i n1
    rw [if_neg n1] at hf
    split at h
    · rename_i h0
      rw [if_pos h0] at hf
      obtain rfl := Option.some.inj hf
      split at h
      · cases h
      · rename_i h1
        by_cases k1 : 0 ≤ m.f1
        · by_cases k2 : m.f1 ≤ (s.size : Int) - 2
          · exact deletePair_no2 w0 tb TB g A n c s cs m w hw hs k1 k2 (by
              cases hcan : canc (bt s m.f1) (bt s (m.f1 + 1)) with
              | false => rfl
              | true => exact absurd ⟨k1, k2, hcan⟩ h1)
          · exact deletePair_no1 w0 tb TB g A n c s cs m w hw hs k1 k2
        · exact deletePair_no0 w0 tb TB g A n c s cs m w hw hs k1
    · rename_i n2
      rw [if_neg n2] at hf
      split at h
      · rename_i h0
        rw [if_pos h0] at hf
        obtain rfl := Option.some.inj hf
        split at h
        · cases h
        · rename_i h1
          by_cases hrel : relOkM rels m = true
          · have hrel' := hrel
            unfold relOkM at hrel'
            simp only [Bool.and_eq_true, decide_eq_true_eq] at hrel'
            obtain ⟨⟨⟨k1, k2⟩, k3⟩, k4⟩ := hrel'
            have hz := (hr _ (rdOf_mem k1 k2)).1
            have hz2 := (sideS_L hr m.f5 k1 k2).1
            by_cases k5 : 0 ≤ m.f1
            · by_cases k6 : m.f1 ≤ s.size
              · exact insertRel_long w0 tb TB g A n c s cs m w hw rels hn hC hc hs k1 (by omega) (by omega) (relM rels m) rfl k3 k4 (by unfold relM; omega) k5 k6 (fun k7 => h1 ⟨hrel, k5, k6, k7⟩) hcs
              · exact insertRel_at1 w0 tb TB g A n c s cs m w hw rels hn hC hc hs k1 (by omega) (by omega) (relM rels m) rfl k3 k4 (by unfold relM; omega) k5 k6 hcs
            · exact insertRel_at0 w0 tb TB g A n c s cs m w hw rels hn hC hc hs k1 (by omega) (by omega) (relM rels m) rfl k3 k4 (by unfold relM; omega) k5 hcs
          · exact insertRel_rot w0 tb TB g A n c s cs m w hw (rotated_none w0 tb TB g A n c s cs m rels hn hC hc hr hs hrel)
      · rename_i n3
        rw [if_neg n3] at hf
        split at h
        · rename_i h0
          rw [if_pos h0] at hf
          obtain rfl := Option.some.inj hf
          split at h
          · cases h
          · rename_i h1
            by_cases hrel : relOkM rels m = true
            · have hrel' := hrel
              unfold relOkM at hrel'
              simp only [Bool.and_eq_true, decide_eq_true_eq] at hrel'
              obtain ⟨⟨⟨k1, k2⟩, k3⟩, k4⟩ := hrel'
              have hz := (hr _ (rdOf_mem k1 k2)).1
              have hz2 := (sideS_L hr m.f5 k1 k2).1
              by_cases k5 : 0 ≤ m.f1
              · by_cases k6 : m.f1 ≤ s.size
                · exact deleteRel_pre w0 tb TB g A n c s cs m w hw rels hn hC hc hs k1 (by omega) (by omega) (relM rels m) rfl k3 k4 (by unfold relM; omega) k5 k6 (by
                    cases hp : prefB (s.extract m.f1.toNat s.size) (rotM rels m) with
                    | false => exact hp
                    | true => exact absurd ⟨hrel, k5, k6, hp⟩ h1) hcs
                · exact deleteRel_at1 w0 tb TB g A n c s cs m w hw rels hn hC hc hs k1 (by omega) (by omega) (relM rels m) rfl k3 k4 (by unfold relM; omega) k5 k6 hcs
              · exact deleteRel_at0 w0 tb TB g A n c s cs m w hw rels hn hC hc hs k1 (by omega) (by omega) (relM rels m) rfl k3 k4 (by unfold relM; omega) k5 hcs
            · exact deleteRel_rot w0 tb TB g A n c s cs m w hw (rotated_none w0 tb TB g A n c s cs m rels hn hC hc hr hs hrel)
        · rename_i n4
          rw [if_neg n4] at hf
          cases hf
end H
end Go.Proofs.Ytmmichdlgjcmoaa.PAll
