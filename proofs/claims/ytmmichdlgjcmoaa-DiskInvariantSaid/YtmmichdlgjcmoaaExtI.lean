import Derived.Test.YtmmichdlgjcmoaaPAllx0
import Derived.Test.YtmmichdlgjcmoaaPAllx6
import Derived.Test.YtmmichdlgjcmoaaPAllx7
import Derived.Test.YtmmichdlgjcmoaaExtC
import Derived.Test.YtmmichdlgjcmoaaExtH
import Derived.Test.YtmmichdlgjcmoaaExtB
namespace Go.Proofs.Ytmmichdlgjcmoaa.PAll
open Go.RowKit Go.Proofs.YtmmichdlgjcmoaaW.PrintWords Go.Proofs.YtmmichdlgjcmoaaW.PrintLast Go.Proofs.YtmmichdlgjcmoaaW.PrintMore H Go.Proofs.YtmmichdlgjcmoaaReg
set_option linter.unusedVariables false
set_option linter.unusedSimpArgs false
namespace H
set_option maxHeartbeats 1600000 in
theorem insertRel_yes (w0 : World) (tb : Nat) (TB : Option Obj) (g : Int) (A : Option Addr) (n c : Nat) (s : ByteArray) (cs : List S59) (m : S52) (w : World) (hw : Walk w0 tb TB g A n c w s cs) (rels : List ByteArray) (hn : n = rels.length) (hC : Kd.C Kd.string w0 A n rels) (hc : n ≤ c) (hs : s.size ≤ 100000) (h1 : 0 ≤ m.f3) (h2 : m.f3 < n) (hz : (rdOf ByteArray.empty rels m.f3).size ≤ 1000) (t : ByteArray) (ht : sideS rels m.f3 m.f5 = t) (h3 : 0 ≤ m.f4) (h4 : m.f4 < t.size) (htz : t.size ≤ 1000) (h5 : 0 ≤ m.f1) (h6 : m.f1 ≤ s.size) (h7 : s.size + t.size ≤ 100000) (hcs : cs.length < 1000000) :
    Calls Try.prog 71 #[.pointer (some ⟨w0.heap.size, 0, none⟩), .agg #[.int .i64 m.f0, .int .i64 m.f1, .int .i64 m.f2, .int .i64 m.f3, .int .i64 m.f4, .bool m.f5]] w fun e w' => e = .returned (.tuple #[]) ∧ Walk w0 tb TB g A n c w' (repl s m.f1.toNat 0 (t.extract m.f4.toNat t.size ++ t.extract 0 m.f4.toNat)) (cs ++ [⟨strOfNums (redL [s.extract 0 m.f1.toNat, invS (t.extract 0 m.f4.toNat)]), m.f3, !m.f5⟩]) := by
  have HC := Aside0.mk hC
  have HKC : Aside0 (∀ cv, w.heap[w0.heap.size]? = some (walkO g A n c s cv) → some w.heap.size ≠ cv.ownBlock) := ⟨fun cv h e => by
    obtain ⟨cv', h', hR⟩ := hw.row
    have e2 : walkO g A n c s cv' = walkO g A n c s cv := Option.some.inj (h'.symm.trans h)
    simp [walkO] at e2
    subst e2
    have := Kd.R_lt hR _ e.symm
    omega⟩
  obtain ⟨cv, hkc, hcR⟩ := hw.row
  have hklt := hw.klt
  obtain ⟨W1, hW1⟩ : ∃ W1, W1 = w.alloc (.cells #[.int .i64 m.f0, .int .i64 m.f1, .int .i64 m.f2, .int .i64 m.f3, .int .i64 m.f4, .bool m.f5] 52) := ⟨_, rfl⟩
  have HM : Aside0 (W1.heap[w.heap.size]? = some (.cells #[.int .i64 m.f0, .int .i64 m.f1, .int .i64 m.f2, .int .i64 m.f3, .int .i64 m.f4, .bool m.f5] 52 (0, 0))) := ⟨by rw [hW1]; exact Go.heap_alloc_new _ _⟩
  have HK1 : Aside0 (W1.heap[w0.heap.size]? = some (walkO g A n c s cv)) := ⟨by rw [hW1]; exact blk_alloc hkc _⟩
  have HB1 : Aside0 (Below w.heap.size w W1) := ⟨by rw [hW1]; exact below_alloc (Below.refl _ _) _⟩
  have HW1 : Aside0 (Walk w0 tb TB g A n c W1 s cs) := ⟨hw.grow HB1.out⟩
  have HLT : Aside0 (w.heap.size < W1.heap.size) := ⟨blk_lt HM.out⟩
  have HS : Aside0 (∀ W', Below W1.heap.size W1 W' → W'.cell? ⟨w.heap.size, 0, none⟩ = some (.int .i64 m.f0) ∧ W'.cell? ⟨w.heap.size, 1, none⟩ = some (.int .i64 m.f1) ∧ W'.cell? ⟨w.heap.size, 2, none⟩ = some (.int .i64 m.f2) ∧ W'.cell? ⟨w.heap.size, 3, none⟩ = some (.int .i64 m.f3) ∧ W'.cell? ⟨w.heap.size, 4, none⟩ = some (.int .i64 m.f4) ∧ W'.cell? ⟨w.heap.size, 5, none⟩ = some (.bool m.f5) ∧ W'.cell? ⟨w0.heap.size, 0, none⟩ = some (.int .i64 g) ∧ W'.cell? ⟨w0.heap.size, 1, none⟩ = some (.slice A n c) ∧ W'.cell? ⟨w0.heap.size, 2, none⟩ = some (.string s) ∧ W'.cell? ⟨w0.heap.size, 3, none⟩ = some (cv) ∧ Below W1.heap.size W1 W') :=
    ⟨fun W' hb => ⟨(blk_cell (blk_below HM.out hb) 0).trans rfl, (blk_cell (blk_below HM.out hb) 1).trans rfl, (blk_cell (blk_below HM.out hb) 2).trans rfl, (blk_cell (blk_below HM.out hb) 3).trans rfl, (blk_cell (blk_below HM.out hb) 4).trans rfl, (blk_cell (blk_below HM.out hb) 5).trans rfl, (blk_cell (blk_below HK1.out hb) 0).trans rfl, (blk_cell (blk_below HK1.out hb) 1).trans rfl, (blk_cell (blk_below HK1.out hb) 2).trans rfl, (blk_cell (blk_below HK1.out hb) 3).trans rfl, hb⟩⟩
  have HT : Aside0 (∀ W', KeepBut W1 W' w0.heap.size none → W'.cell? ⟨w.heap.size, 0, none⟩ = some (.int .i64 m.f0) ∧ W'.cell? ⟨w.heap.size, 1, none⟩ = some (.int .i64 m.f1) ∧ W'.cell? ⟨w.heap.size, 2, none⟩ = some (.int .i64 m.f2) ∧ W'.cell? ⟨w.heap.size, 3, none⟩ = some (.int .i64 m.f3) ∧ W'.cell? ⟨w.heap.size, 4, none⟩ = some (.int .i64 m.f4) ∧ W'.cell? ⟨w.heap.size, 5, none⟩ = some (.bool m.f5) ∧ KeepBut W1 W' w0.heap.size none) :=
    ⟨fun W' hb => ⟨keep_cell hb ((blk_cell HM.out 0).trans rfl) (by show w.heap.size ≠ w0.heap.size; omega), keep_cell hb ((blk_cell HM.out 1).trans rfl) (by show w.heap.size ≠ w0.heap.size; omega), keep_cell hb ((blk_cell HM.out 2).trans rfl) (by show w.heap.size ≠ w0.heap.size; omega), keep_cell hb ((blk_cell HM.out 3).trans rfl) (by show w.heap.size ≠ w0.heap.size; omega), keep_cell hb ((blk_cell HM.out 4).trans rfl) (by show w.heap.size ≠ w0.heap.size; omega), keep_cell hb ((blk_cell HM.out 5).trans rfl) (by show w.heap.size ≠ w0.heap.size; omega), hb⟩⟩
  clear hw hkc hcR
  go_enter Try.func71, Try.ntmps71
  go_wp2_with fail
  rw [← hW1]
  clear hW1
  have m0 := (HS.out W1 (Below.refl _ _)).1
  have m1 := (HS.out W1 (Below.refl _ _)).2.1
  have m2 := (HS.out W1 (Below.refl _ _)).2.2.1
  have m3 := (HS.out W1 (Below.refl _ _)).2.2.2.1
  have m4 := (HS.out W1 (Below.refl _ _)).2.2.2.2.1
  have m5 := (HS.out W1 (Below.refl _ _)).2.2.2.2.2.1
  go_wp2_with (go_at_call 76; go_must ((refine (rotated_yes w0 tb TB g A n c s cs m W1 HW1.out rels hn HC.out hc hs h1 h2 hz t ht h3 h4).mono ?_); rintro e w2 ⟨rfl, hB2⟩; have HB2 := Aside0.mk hB2; clear hB2))
  have HM2 : Aside0 (w2.heap[w.heap.size]? = some (.cells #[.int .i64 m.f0, .int .i64 m.f1, .int .i64 m.f2, .int .i64 m.f3, .int .i64 m.f4, .bool m.f5] 52 (0, 0))) := ⟨blk_below HM.out HB2.out⟩
  have HW2 : Aside0 (Walk w0 tb TB g A n c w2 s cs) := ⟨HW1.out.grow HB2.out⟩
  have HKD : Aside0 (∀ cv, w2.heap[w0.heap.size]? = some (walkO g A n c s cv) → some w.heap.size ≠ cv.ownBlock) := ⟨fun cv' h => HKC.out cv' (by rw [← h, ← HB1.out.block _ hklt]; exact (HB2.out.block _ (Nat.lt_trans hklt HLT.out)).symm)⟩
  clear m0 m1 m2 m3 m4 m5
  have m0 := (HS.out w2 HB2.out).1
  have m1 := (HS.out w2 HB2.out).2.1
  have m2 := (HS.out w2 HB2.out).2.2.1
  have m3 := (HS.out w2 HB2.out).2.2.2.1
  have m4 := (HS.out w2 HB2.out).2.2.2.2.1
  have m5 := (HS.out w2 HB2.out).2.2.2.2.2.1
  have q2 := (HS.out w2 HB2.out).2.2.2.2.2.2.2.2.1
  go_quiet (first | (go_at_call 65; exact Calls.quiet_of_same (ask_true' _)))
  have hbe : (t.extract 0 m.f4.toNat).size ≤ 1000 := by rw [ByteArray.size_extract]; omega
  have hbh : (t.extract m.f4.toNat t.size ++ t.extract 0 m.f4.toNat).size = t.size := by rw [ByteArray.size_append, ByteArray.size_extract, ByteArray.size_extract]; omega
  go_wp2_with (first | (go_at_call 77; go_must ((refine (cell_walk w0 tb TB g A n c s cs m (t.extract 0 m.f4.toNat) (!m.f5) _ (HW2.out.grow (by repeat (first | (with_reducible exact Below.refl _ _) | apply below_alloc | apply pw_below_drewN | apply below_drew1 | exact Below.refl _ _))) hs h5 h6 (by omega) hcs).mono ?_); rintro e w3 ⟨rfl, hW3, hk3⟩; have HW3 := Aside0.mk hW3; have hm3 := (hk3 w.heap.size (Nat.lt_of_lt_of_le HLT.out HB2.out.size) (Nat.ne_of_gt hklt) HKD.out).trans HM2.out; clear hk3 hW3; have p1 : w3.cell? ⟨w.heap.size, 1, none⟩ = some (.int .i64 m.f1) := (blk_cell hm3 1).trans rfl; clear hm3)) | (go_at_call 75; go_must ((refine (replace_walk w0 tb TB g A n c s _ m.f1 0 (t.extract m.f4.toNat t.size ++ t.extract 0 m.f4.toNat) _ HW3.out h5 (by omega) (by omega) (by omega) (by omega) (by omega)).mono ?_); rintro e w' ⟨rfl, hWn, hKc⟩; have HWn := Aside0.mk hWn; clear hWn)))
  go_end0
  exact ⟨rfl, HWn.out⟩
set_option maxHeartbeats 1600000 in
theorem insertRel_rot (w0 : World) (tb : Nat) (TB : Option Obj) (g : Int) (A : Option Addr) (n c : Nat) (s : ByteArray) (cs : List S59) (m : S52) (w : World) (hw : Walk w0 tb TB g A n c w s cs)
    (hR : ∀ w1, Walk w0 tb TB g A n c w1 s cs → Calls Try.prog 76 #[.pointer (some ⟨w0.heap.size, 0, none⟩), .agg #[.int .i64 m.f0, .int .i64 m.f1, .int .i64 m.f2, .int .i64 m.f3, .int .i64 m.f4, .bool m.f5]] w1 fun e w' => e = .panicked unfit ∧ Below w0.heap.size w0 w') :
    Calls Try.prog 71 #[.pointer (some ⟨w0.heap.size, 0, none⟩), .agg #[.int .i64 m.f0, .int .i64 m.f1, .int .i64 m.f2, .int .i64 m.f3, .int .i64 m.f4, .bool m.f5]] w fun e w' => e = .panicked unfit ∧ Below w0.heap.size w0 w' := by
  have HRo := Aside0.mk hR
  clear hR
  obtain ⟨cv, hkc, hcR⟩ := hw.row
  have hklt := hw.klt
  obtain ⟨W1, hW1⟩ : ∃ W1, W1 = w.alloc (.cells #[.int .i64 m.f0, .int .i64 m.f1, .int .i64 m.f2, .int .i64 m.f3, .int .i64 m.f4, .bool m.f5] 52) := ⟨_, rfl⟩
  have HM : Aside0 (W1.heap[w.heap.size]? = some (.cells #[.int .i64 m.f0, .int .i64 m.f1, .int .i64 m.f2, .int .i64 m.f3, .int .i64 m.f4, .bool m.f5] 52 (0, 0))) := ⟨by rw [hW1]; exact Go.heap_alloc_new _ _⟩
  have HK1 : Aside0 (W1.heap[w0.heap.size]? = some (walkO g A n c s cv)) := ⟨by rw [hW1]; exact blk_alloc hkc _⟩
  have HB1 : Aside0 (Below w.heap.size w W1) := ⟨by rw [hW1]; exact below_alloc (Below.refl _ _) _⟩
  have HW1 : Aside0 (Walk w0 tb TB g A n c W1 s cs) := ⟨hw.grow HB1.out⟩
  have HLT : Aside0 (w.heap.size < W1.heap.size) := ⟨blk_lt HM.out⟩
  have HS : Aside0 (∀ W', Below W1.heap.size W1 W' → W'.cell? ⟨w.heap.size, 0, none⟩ = some (.int .i64 m.f0) ∧ W'.cell? ⟨w.heap.size, 1, none⟩ = some (.int .i64 m.f1) ∧ W'.cell? ⟨w.heap.size, 2, none⟩ = some (.int .i64 m.f2) ∧ W'.cell? ⟨w.heap.size, 3, none⟩ = some (.int .i64 m.f3) ∧ W'.cell? ⟨w.heap.size, 4, none⟩ = some (.int .i64 m.f4) ∧ W'.cell? ⟨w.heap.size, 5, none⟩ = some (.bool m.f5) ∧ W'.cell? ⟨w0.heap.size, 0, none⟩ = some (.int .i64 g) ∧ W'.cell? ⟨w0.heap.size, 1, none⟩ = some (.slice A n c) ∧ W'.cell? ⟨w0.heap.size, 2, none⟩ = some (.string s) ∧ W'.cell? ⟨w0.heap.size, 3, none⟩ = some (cv) ∧ Below W1.heap.size W1 W') :=
    ⟨fun W' hb => ⟨(blk_cell (blk_below HM.out hb) 0).trans rfl, (blk_cell (blk_below HM.out hb) 1).trans rfl, (blk_cell (blk_below HM.out hb) 2).trans rfl, (blk_cell (blk_below HM.out hb) 3).trans rfl, (blk_cell (blk_below HM.out hb) 4).trans rfl, (blk_cell (blk_below HM.out hb) 5).trans rfl, (blk_cell (blk_below HK1.out hb) 0).trans rfl, (blk_cell (blk_below HK1.out hb) 1).trans rfl, (blk_cell (blk_below HK1.out hb) 2).trans rfl, (blk_cell (blk_below HK1.out hb) 3).trans rfl, hb⟩⟩
  have HT : Aside0 (∀ W', KeepBut W1 W' w0.heap.size none → W'.cell? ⟨w.heap.size, 0, none⟩ = some (.int .i64 m.f0) ∧ W'.cell? ⟨w.heap.size, 1, none⟩ = some (.int .i64 m.f1) ∧ W'.cell? ⟨w.heap.size, 2, none⟩ = some (.int .i64 m.f2) ∧ W'.cell? ⟨w.heap.size, 3, none⟩ = some (.int .i64 m.f3) ∧ W'.cell? ⟨w.heap.size, 4, none⟩ = some (.int .i64 m.f4) ∧ W'.cell? ⟨w.heap.size, 5, none⟩ = some (.bool m.f5) ∧ KeepBut W1 W' w0.heap.size none) :=
    ⟨fun W' hb => ⟨keep_cell hb ((blk_cell HM.out 0).trans rfl) (by show w.heap.size ≠ w0.heap.size; omega), keep_cell hb ((blk_cell HM.out 1).trans rfl) (by show w.heap.size ≠ w0.heap.size; omega), keep_cell hb ((blk_cell HM.out 2).trans rfl) (by show w.heap.size ≠ w0.heap.size; omega), keep_cell hb ((blk_cell HM.out 3).trans rfl) (by show w.heap.size ≠ w0.heap.size; omega), keep_cell hb ((blk_cell HM.out 4).trans rfl) (by show w.heap.size ≠ w0.heap.size; omega), keep_cell hb ((blk_cell HM.out 5).trans rfl) (by show w.heap.size ≠ w0.heap.size; omega), hb⟩⟩
  clear hw hkc hcR
  go_enter Try.func71, Try.ntmps71
  go_wp2_with fail
  rw [← hW1]
  clear hW1
  have m0 := (HS.out W1 (Below.refl _ _)).1
  have m1 := (HS.out W1 (Below.refl _ _)).2.1
  have m2 := (HS.out W1 (Below.refl _ _)).2.2.1
  have m3 := (HS.out W1 (Below.refl _ _)).2.2.2.1
  have m4 := (HS.out W1 (Below.refl _ _)).2.2.2.2.1
  have m5 := (HS.out W1 (Below.refl _ _)).2.2.2.2.2.1
  go_wp2_with (go_at_call 76; go_must ((refine (HRo.out W1 HW1.out).mono ?_); rintro e w2 ⟨rfl, hB2⟩))
  exact ⟨rfl, rfl, hB2⟩
set_option maxHeartbeats 1600000 in
theorem deleteRel_rot (w0 : World) (tb : Nat) (TB : Option Obj) (g : Int) (A : Option Addr) (n c : Nat) (s : ByteArray) (cs : List S59) (m : S52) (w : World) (hw : Walk w0 tb TB g A n c w s cs)
    (hR : ∀ w1, Walk w0 tb TB g A n c w1 s cs → Calls Try.prog 76 #[.pointer (some ⟨w0.heap.size, 0, none⟩), .agg #[.int .i64 m.f0, .int .i64 m.f1, .int .i64 m.f2, .int .i64 m.f3, .int .i64 m.f4, .bool m.f5]] w1 fun e w' => e = .panicked unfit ∧ Below w0.heap.size w0 w') :
    Calls Try.prog 72 #[.pointer (some ⟨w0.heap.size, 0, none⟩), .agg #[.int .i64 m.f0, .int .i64 m.f1, .int .i64 m.f2, .int .i64 m.f3, .int .i64 m.f4, .bool m.f5]] w fun e w' => e = .panicked unfit ∧ Below w0.heap.size w0 w' := by
  have HRo := Aside0.mk hR
  clear hR
  obtain ⟨cv, hkc, hcR⟩ := hw.row
  have hklt := hw.klt
  obtain ⟨W1, hW1⟩ : ∃ W1, W1 = w.alloc (.cells #[.int .i64 m.f0, .int .i64 m.f1, .int .i64 m.f2, .int .i64 m.f3, .int .i64 m.f4, .bool m.f5] 52) := ⟨_, rfl⟩
  have HM : Aside0 (W1.heap[w.heap.size]? = some (.cells #[.int .i64 m.f0, .int .i64 m.f1, .int .i64 m.f2, .int .i64 m.f3, .int .i64 m.f4, .bool m.f5] 52 (0, 0))) := ⟨by rw [hW1]; exact Go.heap_alloc_new _ _⟩
  have HK1 : Aside0 (W1.heap[w0.heap.size]? = some (walkO g A n c s cv)) := ⟨by rw [hW1]; exact blk_alloc hkc _⟩
  have HB1 : Aside0 (Below w.heap.size w W1) := ⟨by rw [hW1]; exact below_alloc (Below.refl _ _) _⟩
  have HW1 : Aside0 (Walk w0 tb TB g A n c W1 s cs) := ⟨hw.grow HB1.out⟩
  have HLT : Aside0 (w.heap.size < W1.heap.size) := ⟨blk_lt HM.out⟩
  have HS : Aside0 (∀ W', Below W1.heap.size W1 W' → W'.cell? ⟨w.heap.size, 0, none⟩ = some (.int .i64 m.f0) ∧ W'.cell? ⟨w.heap.size, 1, none⟩ = some (.int .i64 m.f1) ∧ W'.cell? ⟨w.heap.size, 2, none⟩ = some (.int .i64 m.f2) ∧ W'.cell? ⟨w.heap.size, 3, none⟩ = some (.int .i64 m.f3) ∧ W'.cell? ⟨w.heap.size, 4, none⟩ = some (.int .i64 m.f4) ∧ W'.cell? ⟨w.heap.size, 5, none⟩ = some (.bool m.f5) ∧ W'.cell? ⟨w0.heap.size, 0, none⟩ = some (.int .i64 g) ∧ W'.cell? ⟨w0.heap.size, 1, none⟩ = some (.slice A n c) ∧ W'.cell? ⟨w0.heap.size, 2, none⟩ = some (.string s) ∧ W'.cell? ⟨w0.heap.size, 3, none⟩ = some (cv) ∧ Below W1.heap.size W1 W') :=
    ⟨fun W' hb => ⟨(blk_cell (blk_below HM.out hb) 0).trans rfl, (blk_cell (blk_below HM.out hb) 1).trans rfl, (blk_cell (blk_below HM.out hb) 2).trans rfl, (blk_cell (blk_below HM.out hb) 3).trans rfl, (blk_cell (blk_below HM.out hb) 4).trans rfl, (blk_cell (blk_below HM.out hb) 5).trans rfl, (blk_cell (blk_below HK1.out hb) 0).trans rfl, (blk_cell (blk_below HK1.out hb) 1).trans rfl, (blk_cell (blk_below HK1.out hb) 2).trans rfl, (blk_cell (blk_below HK1.out hb) 3).trans rfl, hb⟩⟩
  have HT : Aside0 (∀ W', KeepBut W1 W' w0.heap.size none → W'.cell? ⟨w.heap.size, 0, none⟩ = some (.int .i64 m.f0) ∧ W'.cell? ⟨w.heap.size, 1, none⟩ = some (.int .i64 m.f1) ∧ W'.cell? ⟨w.heap.size, 2, none⟩ = some (.int .i64 m.f2) ∧ W'.cell? ⟨w.heap.size, 3, none⟩ = some (.int .i64 m.f3) ∧ W'.cell? ⟨w.heap.size, 4, none⟩ = some (.int .i64 m.f4) ∧ W'.cell? ⟨w.heap.size, 5, none⟩ = some (.bool m.f5) ∧ KeepBut W1 W' w0.heap.size none) :=
    ⟨fun W' hb => ⟨keep_cell hb ((blk_cell HM.out 0).trans rfl) (by show w.heap.size ≠ w0.heap.size; omega), keep_cell hb ((blk_cell HM.out 1).trans rfl) (by show w.heap.size ≠ w0.heap.size; omega), keep_cell hb ((blk_cell HM.out 2).trans rfl) (by show w.heap.size ≠ w0.heap.size; omega), keep_cell hb ((blk_cell HM.out 3).trans rfl) (by show w.heap.size ≠ w0.heap.size; omega), keep_cell hb ((blk_cell HM.out 4).trans rfl) (by show w.heap.size ≠ w0.heap.size; omega), keep_cell hb ((blk_cell HM.out 5).trans rfl) (by show w.heap.size ≠ w0.heap.size; omega), hb⟩⟩
  clear hw hkc hcR
  go_enter Try.func72, Try.ntmps72
  go_wp2_with fail
  rw [← hW1]
  clear hW1
  have m0 := (HS.out W1 (Below.refl _ _)).1
  have m1 := (HS.out W1 (Below.refl _ _)).2.1
  have m2 := (HS.out W1 (Below.refl _ _)).2.2.1
  have m3 := (HS.out W1 (Below.refl _ _)).2.2.2.1
  have m4 := (HS.out W1 (Below.refl _ _)).2.2.2.2.1
  have m5 := (HS.out W1 (Below.refl _ _)).2.2.2.2.2.1
  go_wp2_with (go_at_call 76; go_must ((refine (HRo.out W1 HW1.out).mono ?_); rintro e w2 ⟨rfl, hB2⟩))
  exact ⟨rfl, rfl, hB2⟩
set_option maxHeartbeats 1600000 in
theorem insertRel_at0 (w0 : World) (tb : Nat) (TB : Option Obj) (g : Int) (A : Option Addr) (n c : Nat) (s : ByteArray) (cs : List S59) (m : S52) (w : World) (hw : Walk w0 tb TB g A n c w s cs) (rels : List ByteArray) (hn : n = rels.length) (hC : Kd.C Kd.string w0 A n rels) (hc : n ≤ c) (hs : s.size ≤ 100000) (h1 : 0 ≤ m.f3) (h2 : m.f3 < n) (hz : (rdOf ByteArray.empty rels m.f3).size ≤ 1000) (t : ByteArray) (ht : sideS rels m.f3 m.f5 = t) (h3 : 0 ≤ m.f4) (h4 : m.f4 < t.size) (htz : t.size ≤ 1000) (h5 : ¬ 0 ≤ m.f1) (hcs : cs.length < 1000000) :
    Calls Try.prog 71 #[.pointer (some ⟨w0.heap.size, 0, none⟩), .agg #[.int .i64 m.f0, .int .i64 m.f1, .int .i64 m.f2, .int .i64 m.f3, .int .i64 m.f4, .bool m.f5]] w fun e w' => e = .panicked unfit ∧ Below w0.heap.size w0 w' := by
  have HC := Aside0.mk hC
  have HKC : Aside0 (∀ cv, w.heap[w0.heap.size]? = some (walkO g A n c s cv) → some w.heap.size ≠ cv.ownBlock) := ⟨fun cv h e => by
    obtain ⟨cv', h', hR⟩ := hw.row
    have e2 : walkO g A n c s cv' = walkO g A n c s cv := Option.some.inj (h'.symm.trans h)
    simp [walkO] at e2
    subst e2
    have := Kd.R_lt hR _ e.symm
    omega⟩
  obtain ⟨cv, hkc, hcR⟩ := hw.row
  have hklt := hw.klt
  obtain ⟨W1, hW1⟩ : ∃ W1, W1 = w.alloc (.cells #[.int .i64 m.f0, .int .i64 m.f1, .int .i64 m.f2, .int .i64 m.f3, .int .i64 m.f4, .bool m.f5] 52) := ⟨_, rfl⟩
  have HM : Aside0 (W1.heap[w.heap.size]? = some (.cells #[.int .i64 m.f0, .int .i64 m.f1, .int .i64 m.f2, .int .i64 m.f3, .int .i64 m.f4, .bool m.f5] 52 (0, 0))) := ⟨by rw [hW1]; exact Go.heap_alloc_new _ _⟩
  have HK1 : Aside0 (W1.heap[w0.heap.size]? = some (walkO g A n c s cv)) := ⟨by rw [hW1]; exact blk_alloc hkc _⟩
  have HB1 : Aside0 (Below w.heap.size w W1) := ⟨by rw [hW1]; exact below_alloc (Below.refl _ _) _⟩
  have HW1 : Aside0 (Walk w0 tb TB g A n c W1 s cs) := ⟨hw.grow HB1.out⟩
  have HLT : Aside0 (w.heap.size < W1.heap.size) := ⟨blk_lt HM.out⟩
  have HS : Aside0 (∀ W', Below W1.heap.size W1 W' → W'.cell? ⟨w.heap.size, 0, none⟩ = some (.int .i64 m.f0) ∧ W'.cell? ⟨w.heap.size, 1, none⟩ = some (.int .i64 m.f1) ∧ W'.cell? ⟨w.heap.size, 2, none⟩ = some (.int .i64 m.f2) ∧ W'.cell? ⟨w.heap.size, 3, none⟩ = some (.int .i64 m.f3) ∧ W'.cell? ⟨w.heap.size, 4, none⟩ = some (.int .i64 m.f4) ∧ W'.cell? ⟨w.heap.size, 5, none⟩ = some (.bool m.f5) ∧ W'.cell? ⟨w0.heap.size, 0, none⟩ = some (.int .i64 g) ∧ W'.cell? ⟨w0.heap.size, 1, none⟩ = some (.slice A n c) ∧ W'.cell? ⟨w0.heap.size, 2, none⟩ = some (.string s) ∧ W'.cell? ⟨w0.heap.size, 3, none⟩ = some (cv) ∧ Below W1.heap.size W1 W') :=
    ⟨fun W' hb => ⟨(blk_cell (blk_below HM.out hb) 0).trans rfl, (blk_cell (blk_below HM.out hb) 1).trans rfl, (blk_cell (blk_below HM.out hb) 2).trans rfl, (blk_cell (blk_below HM.out hb) 3).trans rfl, (blk_cell (blk_below HM.out hb) 4).trans rfl, (blk_cell (blk_below HM.out hb) 5).trans rfl, (blk_cell (blk_below HK1.out hb) 0).trans rfl, (blk_cell (blk_below HK1.out hb) 1).trans rfl, (blk_cell (blk_below HK1.out hb) 2).trans rfl, (blk_cell (blk_below HK1.out hb) 3).trans rfl, hb⟩⟩
  have HT : Aside0 (∀ W', KeepBut W1 W' w0.heap.size none → W'.cell? ⟨w.heap.size, 0, none⟩ = some (.int .i64 m.f0) ∧ W'.cell? ⟨w.heap.size, 1, none⟩ = some (.int .i64 m.f1) ∧ W'.cell? ⟨w.heap.size, 2, none⟩ = some (.int .i64 m.f2) ∧ W'.cell? ⟨w.heap.size, 3, none⟩ = some (.int .i64 m.f3) ∧ W'.cell? ⟨w.heap.size, 4, none⟩ = some (.int .i64 m.f4) ∧ W'.cell? ⟨w.heap.size, 5, none⟩ = some (.bool m.f5) ∧ KeepBut W1 W' w0.heap.size none) :=
    ⟨fun W' hb => ⟨keep_cell hb ((blk_cell HM.out 0).trans rfl) (by show w.heap.size ≠ w0.heap.size; omega), keep_cell hb ((blk_cell HM.out 1).trans rfl) (by show w.heap.size ≠ w0.heap.size; omega), keep_cell hb ((blk_cell HM.out 2).trans rfl) (by show w.heap.size ≠ w0.heap.size; omega), keep_cell hb ((blk_cell HM.out 3).trans rfl) (by show w.heap.size ≠ w0.heap.size; omega), keep_cell hb ((blk_cell HM.out 4).trans rfl) (by show w.heap.size ≠ w0.heap.size; omega), keep_cell hb ((blk_cell HM.out 5).trans rfl) (by show w.heap.size ≠ w0.heap.size; omega), hb⟩⟩
  clear hw hkc hcR
  go_enter Try.func71, Try.ntmps71
  go_wp2_with fail
  rw [← hW1]
  clear hW1
  have m0 := (HS.out W1 (Below.refl _ _)).1
  have m1 := (HS.out W1 (Below.refl _ _)).2.1
  have m2 := (HS.out W1 (Below.refl _ _)).2.2.1
  have m3 := (HS.out W1 (Below.refl _ _)).2.2.2.1
  have m4 := (HS.out W1 (Below.refl _ _)).2.2.2.2.1
  have m5 := (HS.out W1 (Below.refl _ _)).2.2.2.2.2.1
  go_wp2_with (go_at_call 76; go_must ((refine (rotated_yes w0 tb TB g A n c s cs m W1 HW1.out rels hn HC.out hc hs h1 h2 hz t ht h3 h4).mono ?_); rintro e w2 ⟨rfl, hB2⟩; have HB2 := Aside0.mk hB2; clear hB2))
  have HM2 : Aside0 (w2.heap[w.heap.size]? = some (.cells #[.int .i64 m.f0, .int .i64 m.f1, .int .i64 m.f2, .int .i64 m.f3, .int .i64 m.f4, .bool m.f5] 52 (0, 0))) := ⟨blk_below HM.out HB2.out⟩
  have HW2 : Aside0 (Walk w0 tb TB g A n c w2 s cs) := ⟨HW1.out.grow HB2.out⟩
  have HKD : Aside0 (∀ cv, w2.heap[w0.heap.size]? = some (walkO g A n c s cv) → some w.heap.size ≠ cv.ownBlock) := ⟨fun cv' h => HKC.out cv' (by rw [← h, ← HB1.out.block _ hklt]; exact (HB2.out.block _ (Nat.lt_trans hklt HLT.out)).symm)⟩
  clear m0 m1 m2 m3 m4 m5
  have m0 := (HS.out w2 HB2.out).1
  have m1 := (HS.out w2 HB2.out).2.1
  have m2 := (HS.out w2 HB2.out).2.2.1
  have m3 := (HS.out w2 HB2.out).2.2.2.1
  have m4 := (HS.out w2 HB2.out).2.2.2.2.1
  have m5 := (HS.out w2 HB2.out).2.2.2.2.2.1
  have q2 := (HS.out w2 HB2.out).2.2.2.2.2.2.2.2.1
  have hdh5 : decide (0 ≤ m.f1) = false := decide_eq_false (by omega)
  refine wp_region_last _ (by kernel_rfl) (by kernel_rfl) rfl ?_
  simp only [hushLast, hush]
  repeat (go_big_quiet_step (fail))
  refine wpQuiet_nil ?_
  intro w' hw'
  obtain ⟨nq, rfl⟩ := hw'
  refine ⟨by simp only [Region.wanted], ?_⟩
  go_wp2_with (go_at_call 65; refine (ask_false _).mono ?_; rintro e w' ⟨rfl, rfl⟩)
  exact ⟨rfl, rfl, below_step HW2.out.bel (by repeat (first | (with_reducible exact Below.refl _ _) | apply pw_below_drewN | apply below_drew1 | exact Below.refl _ _))⟩
set_option maxHeartbeats 1600000 in
theorem insertRel_at1 (w0 : World) (tb : Nat) (TB : Option Obj) (g : Int) (A : Option Addr) (n c : Nat) (s : ByteArray) (cs : List S59) (m : S52) (w : World) (hw : Walk w0 tb TB g A n c w s cs) (rels : List ByteArray) (hn : n = rels.length) (hC : Kd.C Kd.string w0 A n rels) (hc : n ≤ c) (hs : s.size ≤ 100000) (h1 : 0 ≤ m.f3) (h2 : m.f3 < n) (hz : (rdOf ByteArray.empty rels m.f3).size ≤ 1000) (t : ByteArray) (ht : sideS rels m.f3 m.f5 = t) (h3 : 0 ≤ m.f4) (h4 : m.f4 < t.size) (htz : t.size ≤ 1000) (h5 : 0 ≤ m.f1) (h6 : ¬ m.f1 ≤ s.size) (hcs : cs.length < 1000000) :
    Calls Try.prog 71 #[.pointer (some ⟨w0.heap.size, 0, none⟩), .agg #[.int .i64 m.f0, .int .i64 m.f1, .int .i64 m.f2, .int .i64 m.f3, .int .i64 m.f4, .bool m.f5]] w fun e w' => e = .panicked unfit ∧ Below w0.heap.size w0 w' := by
  have HC := Aside0.mk hC
  have HKC : Aside0 (∀ cv, w.heap[w0.heap.size]? = some (walkO g A n c s cv) → some w.heap.size ≠ cv.ownBlock) := ⟨fun cv h e => by
    obtain ⟨cv', h', hR⟩ := hw.row
    have e2 : walkO g A n c s cv' = walkO g A n c s cv := Option.some.inj (h'.symm.trans h)
    simp [walkO] at e2
    subst e2
    have := Kd.R_lt hR _ e.symm
    omega⟩
  obtain ⟨cv, hkc, hcR⟩ := hw.row
  have hklt := hw.klt
  obtain ⟨W1, hW1⟩ : ∃ W1, W1 = w.alloc (.cells #[.int .i64 m.f0, .int .i64 m.f1, .int .i64 m.f2, .int .i64 m.f3, .int .i64 m.f4, .bool m.f5] 52) := ⟨_, rfl⟩
  have HM : Aside0 (W1.heap[w.heap.size]? = some (.cells #[.int .i64 m.f0, .int .i64 m.f1, .int .i64 m.f2, .int .i64 m.f3, .int .i64 m.f4, .bool m.f5] 52 (0, 0))) := ⟨by rw [hW1]; exact Go.heap_alloc_new _ _⟩
  have HK1 : Aside0 (W1.heap[w0.heap.size]? = some (walkO g A n c s cv)) := ⟨by rw [hW1]; exact blk_alloc hkc _⟩
  have HB1 : Aside0 (Below w.heap.size w W1) := ⟨by rw [hW1]; exact below_alloc (Below.refl _ _) _⟩
  have HW1 : Aside0 (Walk w0 tb TB g A n c W1 s cs) := ⟨hw.grow HB1.out⟩
  have HLT : Aside0 (w.heap.size < W1.heap.size) := ⟨blk_lt HM.out⟩
  have HS : Aside0 (∀ W', Below W1.heap.size W1 W' → W'.cell? ⟨w.heap.size, 0, none⟩ = some (.int .i64 m.f0) ∧ W'.cell? ⟨w.heap.size, 1, none⟩ = some (.int .i64 m.f1) ∧ W'.cell? ⟨w.heap.size, 2, none⟩ = some (.int .i64 m.f2) ∧ W'.cell? ⟨w.heap.size, 3, none⟩ = some (.int .i64 m.f3) ∧ W'.cell? ⟨w.heap.size, 4, none⟩ = some (.int .i64 m.f4) ∧ W'.cell? ⟨w.heap.size, 5, none⟩ = some (.bool m.f5) ∧ W'.cell? ⟨w0.heap.size, 0, none⟩ = some (.int .i64 g) ∧ W'.cell? ⟨w0.heap.size, 1, none⟩ = some (.slice A n c) ∧ W'.cell? ⟨w0.heap.size, 2, none⟩ = some (.string s) ∧ W'.cell? ⟨w0.heap.size, 3, none⟩ = some (cv) ∧ Below W1.heap.size W1 W') :=
    ⟨fun W' hb => ⟨(blk_cell (blk_below HM.out hb) 0).trans rfl, (blk_cell (blk_below HM.out hb) 1).trans rfl, (blk_cell (blk_below HM.out hb) 2).trans rfl, (blk_cell (blk_below HM.out hb) 3).trans rfl, (blk_cell (blk_below HM.out hb) 4).trans rfl, (blk_cell (blk_below HM.out hb) 5).trans rfl, (blk_cell (blk_below HK1.out hb) 0).trans rfl, (blk_cell (blk_below HK1.out hb) 1).trans rfl, (blk_cell (blk_below HK1.out hb) 2).trans rfl, (blk_cell (blk_below HK1.out hb) 3).trans rfl, hb⟩⟩
  have HT : Aside0 (∀ W', KeepBut W1 W' w0.heap.size none → W'.cell? ⟨w.heap.size, 0, none⟩ = some (.int .i64 m.f0) ∧ W'.cell? ⟨w.heap.size, 1, none⟩ = some (.int .i64 m.f1) ∧ W'.cell? ⟨w.heap.size, 2, none⟩ = some (.int .i64 m.f2) ∧ W'.cell? ⟨w.heap.size, 3, none⟩ = some (.int .i64 m.f3) ∧ W'.cell? ⟨w.heap.size, 4, none⟩ = some (.int .i64 m.f4) ∧ W'.cell? ⟨w.heap.size, 5, none⟩ = some (.bool m.f5) ∧ KeepBut W1 W' w0.heap.size none) :=
    ⟨fun W' hb => ⟨keep_cell hb ((blk_cell HM.out 0).trans rfl) (by show w.heap.size ≠ w0.heap.size; omega), keep_cell hb ((blk_cell HM.out 1).trans rfl) (by show w.heap.size ≠ w0.heap.size; omega), keep_cell hb ((blk_cell HM.out 2).trans rfl) (by show w.heap.size ≠ w0.heap.size; omega), keep_cell hb ((blk_cell HM.out 3).trans rfl) (by show w.heap.size ≠ w0.heap.size; omega), keep_cell hb ((blk_cell HM.out 4).trans rfl) (by show w.heap.size ≠ w0.heap.size; omega), keep_cell hb ((blk_cell HM.out 5).trans rfl) (by show w.heap.size ≠ w0.heap.size; omega), hb⟩⟩
  clear hw hkc hcR
  go_enter Try.func71, Try.ntmps71
  go_wp2_with fail
  rw [← hW1]
  clear hW1
  have m0 := (HS.out W1 (Below.refl _ _)).1
  have m1 := (HS.out W1 (Below.refl _ _)).2.1
  have m2 := (HS.out W1 (Below.refl _ _)).2.2.1
  have m3 := (HS.out W1 (Below.refl _ _)).2.2.2.1
  have m4 := (HS.out W1 (Below.refl _ _)).2.2.2.2.1
  have m5 := (HS.out W1 (Below.refl _ _)).2.2.2.2.2.1
  go_wp2_with (go_at_call 76; go_must ((refine (rotated_yes w0 tb TB g A n c s cs m W1 HW1.out rels hn HC.out hc hs h1 h2 hz t ht h3 h4).mono ?_); rintro e w2 ⟨rfl, hB2⟩; have HB2 := Aside0.mk hB2; clear hB2))
  have HM2 : Aside0 (w2.heap[w.heap.size]? = some (.cells #[.int .i64 m.f0, .int .i64 m.f1, .int .i64 m.f2, .int .i64 m.f3, .int .i64 m.f4, .bool m.f5] 52 (0, 0))) := ⟨blk_below HM.out HB2.out⟩
  have HW2 : Aside0 (Walk w0 tb TB g A n c w2 s cs) := ⟨HW1.out.grow HB2.out⟩
  have HKD : Aside0 (∀ cv, w2.heap[w0.heap.size]? = some (walkO g A n c s cv) → some w.heap.size ≠ cv.ownBlock) := ⟨fun cv' h => HKC.out cv' (by rw [← h, ← HB1.out.block _ hklt]; exact (HB2.out.block _ (Nat.lt_trans hklt HLT.out)).symm)⟩
  clear m0 m1 m2 m3 m4 m5
  have m0 := (HS.out w2 HB2.out).1
  have m1 := (HS.out w2 HB2.out).2.1
  have m2 := (HS.out w2 HB2.out).2.2.1
  have m3 := (HS.out w2 HB2.out).2.2.2.1
  have m4 := (HS.out w2 HB2.out).2.2.2.2.1
  have m5 := (HS.out w2 HB2.out).2.2.2.2.2.1
  have q2 := (HS.out w2 HB2.out).2.2.2.2.2.2.2.2.1
  have hdh6 : decide (m.f1 ≤ s.size) = false := decide_eq_false (by omega)
  refine wp_region_last _ (by kernel_rfl) (by kernel_rfl) rfl ?_
  simp only [hushLast, hush]
  repeat (go_big_quiet_step (fail))
  refine wpQuiet_nil ?_
  intro w' hw'
  obtain ⟨nq, rfl⟩ := hw'
  refine ⟨by simp only [Region.wanted], ?_⟩
  go_wp2_with (go_at_call 65; refine (ask_false _).mono ?_; rintro e w' ⟨rfl, rfl⟩)
  exact ⟨rfl, rfl, below_step HW2.out.bel (by repeat (first | (with_reducible exact Below.refl _ _) | apply pw_below_drewN | apply below_drew1 | exact Below.refl _ _))⟩
set_option maxHeartbeats 1600000 in
theorem insertRel_long (w0 : World) (tb : Nat) (TB : Option Obj) (g : Int) (A : Option Addr) (n c : Nat) (s : ByteArray) (cs : List S59) (m : S52) (w : World) (hw : Walk w0 tb TB g A n c w s cs) (rels : List ByteArray) (hn : n = rels.length) (hC : Kd.C Kd.string w0 A n rels) (hc : n ≤ c) (hs : s.size ≤ 100000) (h1 : 0 ≤ m.f3) (h2 : m.f3 < n) (hz : (rdOf ByteArray.empty rels m.f3).size ≤ 1000) (t : ByteArray) (ht : sideS rels m.f3 m.f5 = t) (h3 : 0 ≤ m.f4) (h4 : m.f4 < t.size) (htz : t.size ≤ 1000) (h5 : 0 ≤ m.f1) (h6 : m.f1 ≤ s.size) (h7 : ¬ s.size + t.size ≤ 100000) (hcs : cs.length < 1000000) :
    Calls Try.prog 71 #[.pointer (some ⟨w0.heap.size, 0, none⟩), .agg #[.int .i64 m.f0, .int .i64 m.f1, .int .i64 m.f2, .int .i64 m.f3, .int .i64 m.f4, .bool m.f5]] w fun e w' => e = .panicked unfit ∧ Below w0.heap.size w0 w' := by
  have HC := Aside0.mk hC
  have HKC : Aside0 (∀ cv, w.heap[w0.heap.size]? = some (walkO g A n c s cv) → some w.heap.size ≠ cv.ownBlock) := ⟨fun cv h e => by
    obtain ⟨cv', h', hR⟩ := hw.row
    have e2 : walkO g A n c s cv' = walkO g A n c s cv := Option.some.inj (h'.symm.trans h)
    simp [walkO] at e2
    subst e2
    have := Kd.R_lt hR _ e.symm
    omega⟩
  obtain ⟨cv, hkc, hcR⟩ := hw.row
  have hklt := hw.klt
  obtain ⟨W1, hW1⟩ : ∃ W1, W1 = w.alloc (.cells #[.int .i64 m.f0, .int .i64 m.f1, .int .i64 m.f2, .int .i64 m.f3, .int .i64 m.f4, .bool m.f5] 52) := ⟨_, rfl⟩
  have HM : Aside0 (W1.heap[w.heap.size]? = some (.cells #[.int .i64 m.f0, .int .i64 m.f1, .int .i64 m.f2, .int .i64 m.f3, .int .i64 m.f4, .bool m.f5] 52 (0, 0))) := ⟨by rw [hW1]; exact Go.heap_alloc_new _ _⟩
  have HK1 : Aside0 (W1.heap[w0.heap.size]? = some (walkO g A n c s cv)) := ⟨by rw [hW1]; exact blk_alloc hkc _⟩
  have HB1 : Aside0 (Below w.heap.size w W1) := ⟨by rw [hW1]; exact below_alloc (Below.refl _ _) _⟩
  have HW1 : Aside0 (Walk w0 tb TB g A n c W1 s cs) := ⟨hw.grow HB1.out⟩
  have HLT : Aside0 (w.heap.size < W1.heap.size) := ⟨blk_lt HM.out⟩
  have HS : Aside0 (∀ W', Below W1.heap.size W1 W' → W'.cell? ⟨w.heap.size, 0, none⟩ = some (.int .i64 m.f0) ∧ W'.cell? ⟨w.heap.size, 1, none⟩ = some (.int .i64 m.f1) ∧ W'.cell? ⟨w.heap.size, 2, none⟩ = some (.int .i64 m.f2) ∧ W'.cell? ⟨w.heap.size, 3, none⟩ = some (.int .i64 m.f3) ∧ W'.cell? ⟨w.heap.size, 4, none⟩ = some (.int .i64 m.f4) ∧ W'.cell? ⟨w.heap.size, 5, none⟩ = some (.bool m.f5) ∧ W'.cell? ⟨w0.heap.size, 0, none⟩ = some (.int .i64 g) ∧ W'.cell? ⟨w0.heap.size, 1, none⟩ = some (.slice A n c) ∧ W'.cell? ⟨w0.heap.size, 2, none⟩ = some (.string s) ∧ W'.cell? ⟨w0.heap.size, 3, none⟩ = some (cv) ∧ Below W1.heap.size W1 W') :=
    ⟨fun W' hb => ⟨(blk_cell (blk_below HM.out hb) 0).trans rfl, (blk_cell (blk_below HM.out hb) 1).trans rfl, (blk_cell (blk_below HM.out hb) 2).trans rfl, (blk_cell (blk_below HM.out hb) 3).trans rfl, (blk_cell (blk_below HM.out hb) 4).trans rfl, (blk_cell (blk_below HM.out hb) 5).trans rfl, (blk_cell (blk_below HK1.out hb) 0).trans rfl, (blk_cell (blk_below HK1.out hb) 1).trans rfl, (blk_cell (blk_below HK1.out hb) 2).trans rfl, (blk_cell (blk_below HK1.out hb) 3).trans rfl, hb⟩⟩
  have HT : Aside0 (∀ W', KeepBut W1 W' w0.heap.size none → W'.cell? ⟨w.heap.size, 0, none⟩ = some (.int .i64 m.f0) ∧ W'.cell? ⟨w.heap.size, 1, none⟩ = some (.int .i64 m.f1) ∧ W'.cell? ⟨w.heap.size, 2, none⟩ = some (.int .i64 m.f2) ∧ W'.cell? ⟨w.heap.size, 3, none⟩ = some (.int .i64 m.f3) ∧ W'.cell? ⟨w.heap.size, 4, none⟩ = some (.int .i64 m.f4) ∧ W'.cell? ⟨w.heap.size, 5, none⟩ = some (.bool m.f5) ∧ KeepBut W1 W' w0.heap.size none) :=
    ⟨fun W' hb => ⟨keep_cell hb ((blk_cell HM.out 0).trans rfl) (by show w.heap.size ≠ w0.heap.size; omega), keep_cell hb ((blk_cell HM.out 1).trans rfl) (by show w.heap.size ≠ w0.heap.size; omega), keep_cell hb ((blk_cell HM.out 2).trans rfl) (by show w.heap.size ≠ w0.heap.size; omega), keep_cell hb ((blk_cell HM.out 3).trans rfl) (by show w.heap.size ≠ w0.heap.size; omega), keep_cell hb ((blk_cell HM.out 4).trans rfl) (by show w.heap.size ≠ w0.heap.size; omega), keep_cell hb ((blk_cell HM.out 5).trans rfl) (by show w.heap.size ≠ w0.heap.size; omega), hb⟩⟩
  clear hw hkc hcR
  go_enter Try.func71, Try.ntmps71
  go_wp2_with fail
  rw [← hW1]
  clear hW1
  have m0 := (HS.out W1 (Below.refl _ _)).1
  have m1 := (HS.out W1 (Below.refl _ _)).2.1
  have m2 := (HS.out W1 (Below.refl _ _)).2.2.1
  have m3 := (HS.out W1 (Below.refl _ _)).2.2.2.1
  have m4 := (HS.out W1 (Below.refl _ _)).2.2.2.2.1
  have m5 := (HS.out W1 (Below.refl _ _)).2.2.2.2.2.1
  go_wp2_with (go_at_call 76; go_must ((refine (rotated_yes w0 tb TB g A n c s cs m W1 HW1.out rels hn HC.out hc hs h1 h2 hz t ht h3 h4).mono ?_); rintro e w2 ⟨rfl, hB2⟩; have HB2 := Aside0.mk hB2; clear hB2))
  have HM2 : Aside0 (w2.heap[w.heap.size]? = some (.cells #[.int .i64 m.f0, .int .i64 m.f1, .int .i64 m.f2, .int .i64 m.f3, .int .i64 m.f4, .bool m.f5] 52 (0, 0))) := ⟨blk_below HM.out HB2.out⟩
  have HW2 : Aside0 (Walk w0 tb TB g A n c w2 s cs) := ⟨HW1.out.grow HB2.out⟩
  have HKD : Aside0 (∀ cv, w2.heap[w0.heap.size]? = some (walkO g A n c s cv) → some w.heap.size ≠ cv.ownBlock) := ⟨fun cv' h => HKC.out cv' (by rw [← h, ← HB1.out.block _ hklt]; exact (HB2.out.block _ (Nat.lt_trans hklt HLT.out)).symm)⟩
  clear m0 m1 m2 m3 m4 m5
  have m0 := (HS.out w2 HB2.out).1
  have m1 := (HS.out w2 HB2.out).2.1
  have m2 := (HS.out w2 HB2.out).2.2.1
  have m3 := (HS.out w2 HB2.out).2.2.2.1
  have m4 := (HS.out w2 HB2.out).2.2.2.2.1
  have m5 := (HS.out w2 HB2.out).2.2.2.2.2.1
  have q2 := (HS.out w2 HB2.out).2.2.2.2.2.2.2.2.1
  go_quiet (first | (go_at_call 65; exact Calls.quiet_of_same (ask_true' _)))
  have hbe : (t.extract 0 m.f4.toNat).size ≤ 1000 := by rw [ByteArray.size_extract]; omega
  have hbh : (t.extract m.f4.toNat t.size ++ t.extract 0 m.f4.toNat).size = t.size := by rw [ByteArray.size_append, ByteArray.size_extract, ByteArray.size_extract]; omega
  go_wp2_with (first | (go_at_call 77; go_must ((refine (cell_walk w0 tb TB g A n c s cs m (t.extract 0 m.f4.toNat) (!m.f5) _ (HW2.out.grow (by repeat (first | (with_reducible exact Below.refl _ _) | apply below_alloc | apply pw_below_drewN | apply below_drew1 | exact Below.refl _ _))) hs h5 h6 (by omega) hcs).mono ?_); rintro e w3 ⟨rfl, hW3, hk3⟩; have HW3 := Aside0.mk hW3; have hm3 := (hk3 w.heap.size (Nat.lt_of_lt_of_le HLT.out HB2.out.size) (Nat.ne_of_gt hklt) HKD.out).trans HM2.out; clear hk3 hW3; have p1 : w3.cell? ⟨w.heap.size, 1, none⟩ = some (.int .i64 m.f1) := (blk_cell hm3 1).trans rfl; clear hm3)) | (go_at_call 75; go_must ((refine (replace_walk_no w0 tb TB g A n c s _ m.f1 0 (t.extract m.f4.toNat t.size ++ t.extract 0 m.f4.toNat) _ HW3.out h5 (by omega) (by omega) (by omega) (by omega) (by omega)).mono ?_); rintro e w' ⟨rfl, rfl⟩)))
  exact ⟨rfl, rfl, HW3.out.bel⟩
def prefB (s p : ByteArray) : Bool := decide (p.size ≤ s.size) && ((s.extract 0 p.size).toList == p.toList)
theorem hasPrefix79 (s p : ByteArray) (w : World) : Calls Try.prog 79 #[.string s, .string p] w fun e w' => e = .returned (.bool (prefB s p)) ∧ w = w' := by
  by_cases h : (p.size : Int) ≤ s.size
  · have h' : p.size ≤ s.size := by omega
    have e : prefB s p = ((s.extract 0 p.size).toList == p.toList) := by simp [prefB, h']
    rw [e]
    clear e
    go_enter Try.func79, Try.ntmps79
    go_wp2
    go_ret
    exact ⟨rfl, rfl⟩
  · have h' : ¬ p.size ≤ s.size := by omega
    have e : prefB s p = false := by simp [prefB, h']
    rw [e]
    clear e
    have hd : decide ((p.size : Int) ≤ s.size) = false := decide_eq_false h
    go_enter Try.func79, Try.ntmps79
    go_wp2
    go_ret
    exact ⟨rfl, rfl⟩
theorem hasPrefix_to (s p : ByteArray) (r : Bool) (hr : prefB s p = r) (w : World) : Calls Try.prog 78 #[.string s, .string p] w fun e w' => e = .returned (.bool r) ∧ w' = w := by
  go_enter Try.func78, Try.ntmps78
  go_wp2_with (go_at_call 79; refine (hasPrefix79 _ _ _).mono ?_; rintro e w' ⟨rfl, rfl⟩)
  go_ret
  exact ⟨rfl, rfl⟩
set_option maxHeartbeats 1600000 in
theorem deleteRel_yes (w0 : World) (tb : Nat) (TB : Option Obj) (g : Int) (A : Option Addr) (n c : Nat) (s : ByteArray) (cs : List S59) (m : S52) (w : World) (hw : Walk w0 tb TB g A n c w s cs) (rels : List ByteArray) (hn : n = rels.length) (hC : Kd.C Kd.string w0 A n rels) (hc : n ≤ c) (hs : s.size ≤ 100000) (h1 : 0 ≤ m.f3) (h2 : m.f3 < n) (hz : (rdOf ByteArray.empty rels m.f3).size ≤ 1000) (t : ByteArray) (ht : sideS rels m.f3 m.f5 = t) (h3 : 0 ≤ m.f4) (h4 : m.f4 < t.size) (htz : t.size ≤ 1000) (h5 : 0 ≤ m.f1) (h6 : m.f1 ≤ s.size) (h7 : prefB (s.extract m.f1.toNat s.size) (t.extract m.f4.toNat t.size ++ t.extract 0 m.f4.toNat) = true) (hcs : cs.length < 1000000) :
    Calls Try.prog 72 #[.pointer (some ⟨w0.heap.size, 0, none⟩), .agg #[.int .i64 m.f0, .int .i64 m.f1, .int .i64 m.f2, .int .i64 m.f3, .int .i64 m.f4, .bool m.f5]] w fun e w' => e = .returned (.tuple #[]) ∧ Walk w0 tb TB g A n c w' (repl s m.f1.toNat t.size ⟨#[]⟩) (cs ++ [⟨strOfNums (redL [s.extract 0 m.f1.toNat, invS (t.extract 0 m.f4.toNat)]), m.f3, m.f5⟩]) := by
  have HC := Aside0.mk hC
  have h7s : m.f1 + t.size ≤ s.size := by
    have h7' := h7
    unfold prefB at h7'
    simp only [Bool.and_eq_true, decide_eq_true_eq, ByteArray.size_append, ByteArray.size_extract] at h7'
    omega
  have HKC : Aside0 (∀ cv, w.heap[w0.heap.size]? = some (walkO g A n c s cv) → some w.heap.size ≠ cv.ownBlock) := ⟨fun cv h e => by
    obtain ⟨cv', h', hR⟩ := hw.row
    have e2 : walkO g A n c s cv' = walkO g A n c s cv := Option.some.inj (h'.symm.trans h)
    simp [walkO] at e2
    subst e2
    have := Kd.R_lt hR _ e.symm
    omega⟩
  obtain ⟨cv, hkc, hcR⟩ := hw.row
  have hklt := hw.klt
  obtain ⟨W1, hW1⟩ : ∃ W1, W1 = w.alloc (.cells #[.int .i64 m.f0, .int .i64 m.f1, .int .i64 m.f2, .int .i64 m.f3, .int .i64 m.f4, .bool m.f5] 52) := ⟨_, rfl⟩
  have HM : Aside0 (W1.heap[w.heap.size]? = some (.cells #[.int .i64 m.f0, .int .i64 m.f1, .int .i64 m.f2, .int .i64 m.f3, .int .i64 m.f4, .bool m.f5] 52 (0, 0))) := ⟨by rw [hW1]; exact Go.heap_alloc_new _ _⟩
  have HK1 : Aside0 (W1.heap[w0.heap.size]? = some (walkO g A n c s cv)) := ⟨by rw [hW1]; exact blk_alloc hkc _⟩
  have HB1 : Aside0 (Below w.heap.size w W1) := ⟨by rw [hW1]; exact below_alloc (Below.refl _ _) _⟩
  have HW1 : Aside0 (Walk w0 tb TB g A n c W1 s cs) := ⟨hw.grow HB1.out⟩
  have HLT : Aside0 (w.heap.size < W1.heap.size) := ⟨blk_lt HM.out⟩
  have HS : Aside0 (∀ W', Below W1.heap.size W1 W' → W'.cell? ⟨w.heap.size, 0, none⟩ = some (.int .i64 m.f0) ∧ W'.cell? ⟨w.heap.size, 1, none⟩ = some (.int .i64 m.f1) ∧ W'.cell? ⟨w.heap.size, 2, none⟩ = some (.int .i64 m.f2) ∧ W'.cell? ⟨w.heap.size, 3, none⟩ = some (.int .i64 m.f3) ∧ W'.cell? ⟨w.heap.size, 4, none⟩ = some (.int .i64 m.f4) ∧ W'.cell? ⟨w.heap.size, 5, none⟩ = some (.bool m.f5) ∧ W'.cell? ⟨w0.heap.size, 0, none⟩ = some (.int .i64 g) ∧ W'.cell? ⟨w0.heap.size, 1, none⟩ = some (.slice A n c) ∧ W'.cell? ⟨w0.heap.size, 2, none⟩ = some (.string s) ∧ W'.cell? ⟨w0.heap.size, 3, none⟩ = some (cv) ∧ Below W1.heap.size W1 W') :=
    ⟨fun W' hb => ⟨(blk_cell (blk_below HM.out hb) 0).trans rfl, (blk_cell (blk_below HM.out hb) 1).trans rfl, (blk_cell (blk_below HM.out hb) 2).trans rfl, (blk_cell (blk_below HM.out hb) 3).trans rfl, (blk_cell (blk_below HM.out hb) 4).trans rfl, (blk_cell (blk_below HM.out hb) 5).trans rfl, (blk_cell (blk_below HK1.out hb) 0).trans rfl, (blk_cell (blk_below HK1.out hb) 1).trans rfl, (blk_cell (blk_below HK1.out hb) 2).trans rfl, (blk_cell (blk_below HK1.out hb) 3).trans rfl, hb⟩⟩
  have HT : Aside0 (∀ W', KeepBut W1 W' w0.heap.size none → W'.cell? ⟨w.heap.size, 0, none⟩ = some (.int .i64 m.f0) ∧ W'.cell? ⟨w.heap.size, 1, none⟩ = some (.int .i64 m.f1) ∧ W'.cell? ⟨w.heap.size, 2, none⟩ = some (.int .i64 m.f2) ∧ W'.cell? ⟨w.heap.size, 3, none⟩ = some (.int .i64 m.f3) ∧ W'.cell? ⟨w.heap.size, 4, none⟩ = some (.int .i64 m.f4) ∧ W'.cell? ⟨w.heap.size, 5, none⟩ = some (.bool m.f5) ∧ KeepBut W1 W' w0.heap.size none) :=
    ⟨fun W' hb => ⟨keep_cell hb ((blk_cell HM.out 0).trans rfl) (by show w.heap.size ≠ w0.heap.size; omega), keep_cell hb ((blk_cell HM.out 1).trans rfl) (by show w.heap.size ≠ w0.heap.size; omega), keep_cell hb ((blk_cell HM.out 2).trans rfl) (by show w.heap.size ≠ w0.heap.size; omega), keep_cell hb ((blk_cell HM.out 3).trans rfl) (by show w.heap.size ≠ w0.heap.size; omega), keep_cell hb ((blk_cell HM.out 4).trans rfl) (by show w.heap.size ≠ w0.heap.size; omega), keep_cell hb ((blk_cell HM.out 5).trans rfl) (by show w.heap.size ≠ w0.heap.size; omega), hb⟩⟩
  clear hw hkc hcR
  go_enter Try.func72, Try.ntmps72
  go_wp2_with fail
  rw [← hW1]
  clear hW1
  have m0 := (HS.out W1 (Below.refl _ _)).1
  have m1 := (HS.out W1 (Below.refl _ _)).2.1
  have m2 := (HS.out W1 (Below.refl _ _)).2.2.1
  have m3 := (HS.out W1 (Below.refl _ _)).2.2.2.1
  have m4 := (HS.out W1 (Below.refl _ _)).2.2.2.2.1
  have m5 := (HS.out W1 (Below.refl _ _)).2.2.2.2.2.1
  go_wp2_with (go_at_call 76; go_must ((refine (rotated_yes w0 tb TB g A n c s cs m W1 HW1.out rels hn HC.out hc hs h1 h2 hz t ht h3 h4).mono ?_); rintro e w2 ⟨rfl, hB2⟩; have HB2 := Aside0.mk hB2; clear hB2))
  have HM2 : Aside0 (w2.heap[w.heap.size]? = some (.cells #[.int .i64 m.f0, .int .i64 m.f1, .int .i64 m.f2, .int .i64 m.f3, .int .i64 m.f4, .bool m.f5] 52 (0, 0))) := ⟨blk_below HM.out HB2.out⟩
  have HW2 : Aside0 (Walk w0 tb TB g A n c w2 s cs) := ⟨HW1.out.grow HB2.out⟩
  have HKD : Aside0 (∀ cv, w2.heap[w0.heap.size]? = some (walkO g A n c s cv) → some w.heap.size ≠ cv.ownBlock) := ⟨fun cv' h => HKC.out cv' (by rw [← h, ← HB1.out.block _ hklt]; exact (HB2.out.block _ (Nat.lt_trans hklt HLT.out)).symm)⟩
  clear m0 m1 m2 m3 m4 m5
  have m0 := (HS.out w2 HB2.out).1
  have m1 := (HS.out w2 HB2.out).2.1
  have m2 := (HS.out w2 HB2.out).2.2.1
  have m3 := (HS.out w2 HB2.out).2.2.2.1
  have m4 := (HS.out w2 HB2.out).2.2.2.2.1
  have m5 := (HS.out w2 HB2.out).2.2.2.2.2.1
  have q2 := (HS.out w2 HB2.out).2.2.2.2.2.2.2.2.1
  have hbe : (t.extract 0 m.f4.toNat).size ≤ 1000 := by rw [ByteArray.size_extract]; omega
  have hbh : (t.extract m.f4.toNat t.size ++ t.extract 0 m.f4.toNat).size = t.size := by rw [ByteArray.size_append, ByteArray.size_extract, ByteArray.size_extract]; omega
  go_wp2_with fail
  go_quiet (first | (go_at_call 65; exact Calls.quiet_of_same (ask_true' _)) | (go_at_call 78; exact Calls.quiet_of_same (hasPrefix_to _ _ _ h7 _)))
  go_wp2_with (first | (go_at_call 77; go_must ((refine (cell_walk w0 tb TB g A n c s cs m (t.extract 0 m.f4.toNat) m.f5 _ (HW2.out.grow (by repeat (first | (with_reducible exact Below.refl _ _) | apply below_alloc | apply pw_below_drewN | apply below_drew1 | exact Below.refl _ _))) hs h5 h6 (by omega) hcs).mono ?_); rintro e w3 ⟨rfl, hW3, hk3⟩; have HW3 := Aside0.mk hW3; have hm3 := (hk3 w.heap.size (Nat.lt_of_lt_of_le HLT.out HB2.out.size) (Nat.ne_of_gt hklt) HKD.out).trans HM2.out; clear hk3 hW3; have p1 : w3.cell? ⟨w.heap.size, 1, none⟩ = some (.int .i64 m.f1) := (blk_cell hm3 1).trans rfl; clear hm3)) | (go_at_call 75; go_must ((refine (replace_walk w0 tb TB g A n c s _ m.f1 t.size (⟨#[]⟩ : ByteArray) _ HW3.out h5 (by omega) (by have := h7s; omega) (by omega) (by decide) (by have : (⟨#[]⟩ : ByteArray).size = 0 := rfl; omega)).mono ?_); rintro e w' ⟨rfl, hWn, hKc⟩; have HWn := Aside0.mk hWn; clear hWn)))
  go_end0
  exact ⟨rfl, HWn.out⟩
set_option maxHeartbeats 1600000 in
theorem deleteRel_at0 (w0 : World) (tb : Nat) (TB : Option Obj) (g : Int) (A : Option Addr) (n c : Nat) (s : ByteArray) (cs : List S59) (m : S52) (w : World) (hw : Walk w0 tb TB g A n c w s cs) (rels : List ByteArray) (hn : n = rels.length) (hC : Kd.C Kd.string w0 A n rels) (hc : n ≤ c) (hs : s.size ≤ 100000) (h1 : 0 ≤ m.f3) (h2 : m.f3 < n) (hz : (rdOf ByteArray.empty rels m.f3).size ≤ 1000) (t : ByteArray) (ht : sideS rels m.f3 m.f5 = t) (h3 : 0 ≤ m.f4) (h4 : m.f4 < t.size) (htz : t.size ≤ 1000) (h5 : ¬ 0 ≤ m.f1) (hcs : cs.length < 1000000) :
    Calls Try.prog 72 #[.pointer (some ⟨w0.heap.size, 0, none⟩), .agg #[.int .i64 m.f0, .int .i64 m.f1, .int .i64 m.f2, .int .i64 m.f3, .int .i64 m.f4, .bool m.f5]] w fun e w' => e = .panicked unfit ∧ Below w0.heap.size w0 w' := by
  have HC := Aside0.mk hC
  have HKC : Aside0 (∀ cv, w.heap[w0.heap.size]? = some (walkO g A n c s cv) → some w.heap.size ≠ cv.ownBlock) := ⟨fun cv h e => by
    obtain ⟨cv', h', hR⟩ := hw.row
    have e2 : walkO g A n c s cv' = walkO g A n c s cv := Option.some.inj (h'.symm.trans h)
    simp [walkO] at e2
    subst e2
    have := Kd.R_lt hR _ e.symm
    omega⟩
  obtain ⟨cv, hkc, hcR⟩ := hw.row
  have hklt := hw.klt
  obtain ⟨W1, hW1⟩ : ∃ W1, W1 = w.alloc (.cells #[.int .i64 m.f0, .int .i64 m.f1, .int .i64 m.f2, .int .i64 m.f3, .int .i64 m.f4, .bool m.f5] 52) := ⟨_, rfl⟩
  have HM : Aside0 (W1.heap[w.heap.size]? = some (.cells #[.int .i64 m.f0, .int .i64 m.f1, .int .i64 m.f2, .int .i64 m.f3, .int .i64 m.f4, .bool m.f5] 52 (0, 0))) := ⟨by rw [hW1]; exact Go.heap_alloc_new _ _⟩
  have HK1 : Aside0 (W1.heap[w0.heap.size]? = some (walkO g A n c s cv)) := ⟨by rw [hW1]; exact blk_alloc hkc _⟩
  have HB1 : Aside0 (Below w.heap.size w W1) := ⟨by rw [hW1]; exact below_alloc (Below.refl _ _) _⟩
  have HW1 : Aside0 (Walk w0 tb TB g A n c W1 s cs) := ⟨hw.grow HB1.out⟩
  have HLT : Aside0 (w.heap.size < W1.heap.size) := ⟨blk_lt HM.out⟩
  have HS : Aside0 (∀ W', Below W1.heap.size W1 W' → W'.cell? ⟨w.heap.size, 0, none⟩ = some (.int .i64 m.f0) ∧ W'.cell? ⟨w.heap.size, 1, none⟩ = some (.int .i64 m.f1) ∧ W'.cell? ⟨w.heap.size, 2, none⟩ = some (.int .i64 m.f2) ∧ W'.cell? ⟨w.heap.size, 3, none⟩ = some (.int .i64 m.f3) ∧ W'.cell? ⟨w.heap.size, 4, none⟩ = some (.int .i64 m.f4) ∧ W'.cell? ⟨w.heap.size, 5, none⟩ = some (.bool m.f5) ∧ W'.cell? ⟨w0.heap.size, 0, none⟩ = some (.int .i64 g) ∧ W'.cell? ⟨w0.heap.size, 1, none⟩ = some (.slice A n c) ∧ W'.cell? ⟨w0.heap.size, 2, none⟩ = some (.string s) ∧ W'.cell? ⟨w0.heap.size, 3, none⟩ = some (cv) ∧ Below W1.heap.size W1 W') :=
    ⟨fun W' hb => ⟨(blk_cell (blk_below HM.out hb) 0).trans rfl, (blk_cell (blk_below HM.out hb) 1).trans rfl, (blk_cell (blk_below HM.out hb) 2).trans rfl, (blk_cell (blk_below HM.out hb) 3).trans rfl, (blk_cell (blk_below HM.out hb) 4).trans rfl, (blk_cell (blk_below HM.out hb) 5).trans rfl, (blk_cell (blk_below HK1.out hb) 0).trans rfl, (blk_cell (blk_below HK1.out hb) 1).trans rfl, (blk_cell (blk_below HK1.out hb) 2).trans rfl, (blk_cell (blk_below HK1.out hb) 3).trans rfl, hb⟩⟩
  have HT : Aside0 (∀ W', KeepBut W1 W' w0.heap.size none → W'.cell? ⟨w.heap.size, 0, none⟩ = some (.int .i64 m.f0) ∧ W'.cell? ⟨w.heap.size, 1, none⟩ = some (.int .i64 m.f1) ∧ W'.cell? ⟨w.heap.size, 2, none⟩ = some (.int .i64 m.f2) ∧ W'.cell? ⟨w.heap.size, 3, none⟩ = some (.int .i64 m.f3) ∧ W'.cell? ⟨w.heap.size, 4, none⟩ = some (.int .i64 m.f4) ∧ W'.cell? ⟨w.heap.size, 5, none⟩ = some (.bool m.f5) ∧ KeepBut W1 W' w0.heap.size none) :=
    ⟨fun W' hb => ⟨keep_cell hb ((blk_cell HM.out 0).trans rfl) (by show w.heap.size ≠ w0.heap.size; omega), keep_cell hb ((blk_cell HM.out 1).trans rfl) (by show w.heap.size ≠ w0.heap.size; omega), keep_cell hb ((blk_cell HM.out 2).trans rfl) (by show w.heap.size ≠ w0.heap.size; omega), keep_cell hb ((blk_cell HM.out 3).trans rfl) (by show w.heap.size ≠ w0.heap.size; omega), keep_cell hb ((blk_cell HM.out 4).trans rfl) (by show w.heap.size ≠ w0.heap.size; omega), keep_cell hb ((blk_cell HM.out 5).trans rfl) (by show w.heap.size ≠ w0.heap.size; omega), hb⟩⟩
  clear hw hkc hcR
  go_enter Try.func72, Try.ntmps72
  go_wp2_with fail
  rw [← hW1]
  clear hW1
  have m0 := (HS.out W1 (Below.refl _ _)).1
  have m1 := (HS.out W1 (Below.refl _ _)).2.1
  have m2 := (HS.out W1 (Below.refl _ _)).2.2.1
  have m3 := (HS.out W1 (Below.refl _ _)).2.2.2.1
  have m4 := (HS.out W1 (Below.refl _ _)).2.2.2.2.1
  have m5 := (HS.out W1 (Below.refl _ _)).2.2.2.2.2.1
  go_wp2_with (go_at_call 76; go_must ((refine (rotated_yes w0 tb TB g A n c s cs m W1 HW1.out rels hn HC.out hc hs h1 h2 hz t ht h3 h4).mono ?_); rintro e w2 ⟨rfl, hB2⟩; have HB2 := Aside0.mk hB2; clear hB2))
  have HM2 : Aside0 (w2.heap[w.heap.size]? = some (.cells #[.int .i64 m.f0, .int .i64 m.f1, .int .i64 m.f2, .int .i64 m.f3, .int .i64 m.f4, .bool m.f5] 52 (0, 0))) := ⟨blk_below HM.out HB2.out⟩
  have HW2 : Aside0 (Walk w0 tb TB g A n c w2 s cs) := ⟨HW1.out.grow HB2.out⟩
  have HKD : Aside0 (∀ cv, w2.heap[w0.heap.size]? = some (walkO g A n c s cv) → some w.heap.size ≠ cv.ownBlock) := ⟨fun cv' h => HKC.out cv' (by rw [← h, ← HB1.out.block _ hklt]; exact (HB2.out.block _ (Nat.lt_trans hklt HLT.out)).symm)⟩
  clear m0 m1 m2 m3 m4 m5
  have m0 := (HS.out w2 HB2.out).1
  have m1 := (HS.out w2 HB2.out).2.1
  have m2 := (HS.out w2 HB2.out).2.2.1
  have m3 := (HS.out w2 HB2.out).2.2.2.1
  have m4 := (HS.out w2 HB2.out).2.2.2.2.1
  have m5 := (HS.out w2 HB2.out).2.2.2.2.2.1
  have q2 := (HS.out w2 HB2.out).2.2.2.2.2.2.2.2.1
  have hbe : (t.extract 0 m.f4.toNat).size ≤ 1000 := by rw [ByteArray.size_extract]; omega
  have hbh : (t.extract m.f4.toNat t.size ++ t.extract 0 m.f4.toNat).size = t.size := by rw [ByteArray.size_append, ByteArray.size_extract, ByteArray.size_extract]; omega
  go_wp2_with fail
  have hdh5 : decide (0 ≤ m.f1) = false := decide_eq_false (by omega)
  refine wp_region_last _ (by kernel_rfl) (by kernel_rfl) rfl ?_
  simp only [hushLast, hush]
  repeat (go_big_quiet_step (fail))
  refine wpQuiet_nil ?_
  intro w' hw'
  obtain ⟨nq, rfl⟩ := hw'
  refine ⟨by simp only [Region.wanted], ?_⟩
  go_wp2_with (go_at_call 65; refine (ask_false _).mono ?_; rintro e w' ⟨rfl, rfl⟩)
  exact ⟨rfl, rfl, below_step HW2.out.bel (by repeat (first | (with_reducible exact Below.refl _ _) | apply pw_below_drewN | apply below_drew1 | exact Below.refl _ _))⟩
set_option maxHeartbeats 1600000 in
theorem deleteRel_at1 (w0 : World) (tb : Nat) (TB : Option Obj) (g : Int) (A : Option Addr) (n c : Nat) (s : ByteArray) (cs : List S59) (m : S52) (w : World) (hw : Walk w0 tb TB g A n c w s cs) (rels : List ByteArray) (hn : n = rels.length) (hC : Kd.C Kd.string w0 A n rels) (hc : n ≤ c) (hs : s.size ≤ 100000) (h1 : 0 ≤ m.f3) (h2 : m.f3 < n) (hz : (rdOf ByteArray.empty rels m.f3).size ≤ 1000) (t : ByteArray) (ht : sideS rels m.f3 m.f5 = t) (h3 : 0 ≤ m.f4) (h4 : m.f4 < t.size) (htz : t.size ≤ 1000) (h5 : 0 ≤ m.f1) (h6 : ¬ m.f1 ≤ s.size) (hcs : cs.length < 1000000) :
    Calls Try.prog 72 #[.pointer (some ⟨w0.heap.size, 0, none⟩), .agg #[.int .i64 m.f0, .int .i64 m.f1, .int .i64 m.f2, .int .i64 m.f3, .int .i64 m.f4, .bool m.f5]] w fun e w' => e = .panicked unfit ∧ Below w0.heap.size w0 w' := by
  have HC := Aside0.mk hC
  have HKC : Aside0 (∀ cv, w.heap[w0.heap.size]? = some (walkO g A n c s cv) → some w.heap.size ≠ cv.ownBlock) := ⟨fun cv h e => by
    obtain ⟨cv', h', hR⟩ := hw.row
    have e2 : walkO g A n c s cv' = walkO g A n c s cv := Option.some.inj (h'.symm.trans h)
    simp [walkO] at e2
    subst e2
    have := Kd.R_lt hR _ e.symm
    omega⟩
  obtain ⟨cv, hkc, hcR⟩ := hw.row
  have hklt := hw.klt
  obtain ⟨W1, hW1⟩ : ∃ W1, W1 = w.alloc (.cells #[.int .i64 m.f0, .int .i64 m.f1, .int .i64 m.f2, .int .i64 m.f3, .int .i64 m.f4, .bool m.f5] 52) := ⟨_, rfl⟩
  have HM : Aside0 (W1.heap[w.heap.size]? = some (.cells #[.int .i64 m.f0, .int .i64 m.f1, .int .i64 m.f2, .int .i64 m.f3, .int .i64 m.f4, .bool m.f5] 52 (0, 0))) := ⟨by rw [hW1]; exact Go.heap_alloc_new _ _⟩
  have HK1 : Aside0 (W1.heap[w0.heap.size]? = some (walkO g A n c s cv)) := ⟨by rw [hW1]; exact blk_alloc hkc _⟩
  have HB1 : Aside0 (Below w.heap.size w W1) := ⟨by rw [hW1]; exact below_alloc (Below.refl _ _) _⟩
  have HW1 : Aside0 (Walk w0 tb TB g A n c W1 s cs) := ⟨hw.grow HB1.out⟩
  have HLT : Aside0 (w.heap.size < W1.heap.size) := ⟨blk_lt HM.out⟩
  have HS : Aside0 (∀ W', Below W1.heap.size W1 W' → W'.cell? ⟨w.heap.size, 0, none⟩ = some (.int .i64 m.f0) ∧ W'.cell? ⟨w.heap.size, 1, none⟩ = some (.int .i64 m.f1) ∧ W'.cell? ⟨w.heap.size, 2, none⟩ = some (.int .i64 m.f2) ∧ W'.cell? ⟨w.heap.size, 3, none⟩ = some (.int .i64 m.f3) ∧ W'.cell? ⟨w.heap.size, 4, none⟩ = some (.int .i64 m.f4) ∧ W'.cell? ⟨w.heap.size, 5, none⟩ = some (.bool m.f5) ∧ W'.cell? ⟨w0.heap.size, 0, none⟩ = some (.int .i64 g) ∧ W'.cell? ⟨w0.heap.size, 1, none⟩ = some (.slice A n c) ∧ W'.cell? ⟨w0.heap.size, 2, none⟩ = some (.string s) ∧ W'.cell? ⟨w0.heap.size, 3, none⟩ = some (cv) ∧ Below W1.heap.size W1 W') :=
    ⟨fun W' hb => ⟨(blk_cell (blk_below HM.out hb) 0).trans rfl, (blk_cell (blk_below HM.out hb) 1).trans rfl, (blk_cell (blk_below HM.out hb) 2).trans rfl, (blk_cell (blk_below HM.out hb) 3).trans rfl, (blk_cell (blk_below HM.out hb) 4).trans rfl, (blk_cell (blk_below HM.out hb) 5).trans rfl, (blk_cell (blk_below HK1.out hb) 0).trans rfl, (blk_cell (blk_below HK1.out hb) 1).trans rfl, (blk_cell (blk_below HK1.out hb) 2).trans rfl, (blk_cell (blk_below HK1.out hb) 3).trans rfl, hb⟩⟩
  have HT : Aside0 (∀ W', KeepBut W1 W' w0.heap.size none → W'.cell? ⟨w.heap.size, 0, none⟩ = some (.int .i64 m.f0) ∧ W'.cell? ⟨w.heap.size, 1, none⟩ = some (.int .i64 m.f1) ∧ W'.cell? ⟨w.heap.size, 2, none⟩ = some (.int .i64 m.f2) ∧ W'.cell? ⟨w.heap.size, 3, none⟩ = some (.int .i64 m.f3) ∧ W'.cell? ⟨w.heap.size, 4, none⟩ = some (.int .i64 m.f4) ∧ W'.cell? ⟨w.heap.size, 5, none⟩ = some (.bool m.f5) ∧ KeepBut W1 W' w0.heap.size none) :=
    ⟨fun W' hb => ⟨keep_cell hb ((blk_cell HM.out 0).trans rfl) (by show w.heap.size ≠ w0.heap.size; omega), keep_cell hb ((blk_cell HM.out 1).trans rfl) (by show w.heap.size ≠ w0.heap.size; omega), keep_cell hb ((blk_cell HM.out 2).trans rfl) (by show w.heap.size ≠ w0.heap.size; omega), keep_cell hb ((blk_cell HM.out 3).trans rfl) (by show w.heap.size ≠ w0.heap.size; omega), keep_cell hb ((blk_cell HM.out 4).trans rfl) (by show w.heap.size ≠ w0.heap.size; omega), keep_cell hb ((blk_cell HM.out 5).trans rfl) (by show w.heap.size ≠ w0.heap.size; omega), hb⟩⟩
  clear hw hkc hcR
  go_enter Try.func72, Try.ntmps72
  go_wp2_with fail
  rw [← hW1]
  clear hW1
  have m0 := (HS.out W1 (Below.refl _ _)).1
  have m1 := (HS.out W1 (Below.refl _ _)).2.1
  have m2 := (HS.out W1 (Below.refl _ _)).2.2.1
  have m3 := (HS.out W1 (Below.refl _ _)).2.2.2.1
  have m4 := (HS.out W1 (Below.refl _ _)).2.2.2.2.1
  have m5 := (HS.out W1 (Below.refl _ _)).2.2.2.2.2.1
  go_wp2_with (go_at_call 76; go_must ((refine (rotated_yes w0 tb TB g A n c s cs m W1 HW1.out rels hn HC.out hc hs h1 h2 hz t ht h3 h4).mono ?_); rintro e w2 ⟨rfl, hB2⟩; have HB2 := Aside0.mk hB2; clear hB2))
  have HM2 : Aside0 (w2.heap[w.heap.size]? = some (.cells #[.int .i64 m.f0, .int .i64 m.f1, .int .i64 m.f2, .int .i64 m.f3, .int .i64 m.f4, .bool m.f5] 52 (0, 0))) := ⟨blk_below HM.out HB2.out⟩
  have HW2 : Aside0 (Walk w0 tb TB g A n c w2 s cs) := ⟨HW1.out.grow HB2.out⟩
  have HKD : Aside0 (∀ cv, w2.heap[w0.heap.size]? = some (walkO g A n c s cv) → some w.heap.size ≠ cv.ownBlock) := ⟨fun cv' h => HKC.out cv' (by rw [← h, ← HB1.out.block _ hklt]; exact (HB2.out.block _ (Nat.lt_trans hklt HLT.out)).symm)⟩
  clear m0 m1 m2 m3 m4 m5
  have m0 := (HS.out w2 HB2.out).1
  have m1 := (HS.out w2 HB2.out).2.1
  have m2 := (HS.out w2 HB2.out).2.2.1
  have m3 := (HS.out w2 HB2.out).2.2.2.1
  have m4 := (HS.out w2 HB2.out).2.2.2.2.1
  have m5 := (HS.out w2 HB2.out).2.2.2.2.2.1
  have q2 := (HS.out w2 HB2.out).2.2.2.2.2.2.2.2.1
  have hbe : (t.extract 0 m.f4.toNat).size ≤ 1000 := by rw [ByteArray.size_extract]; omega
  have hbh : (t.extract m.f4.toNat t.size ++ t.extract 0 m.f4.toNat).size = t.size := by rw [ByteArray.size_append, ByteArray.size_extract, ByteArray.size_extract]; omega
  go_wp2_with fail
  have hdh6 : decide (m.f1 ≤ s.size) = false := decide_eq_false (by omega)
  refine wp_region_last _ (by kernel_rfl) (by kernel_rfl) rfl ?_
  simp only [hushLast, hush]
  repeat (go_big_quiet_step (fail))
  refine wpQuiet_nil ?_
  intro w' hw'
  obtain ⟨nq, rfl⟩ := hw'
  refine ⟨by simp only [Region.wanted], ?_⟩
  go_wp2_with (go_at_call 65; refine (ask_false _).mono ?_; rintro e w' ⟨rfl, rfl⟩)
  exact ⟨rfl, rfl, below_step HW2.out.bel (by repeat (first | (with_reducible exact Below.refl _ _) | apply pw_below_drewN | apply below_drew1 | exact Below.refl _ _))⟩
set_option maxHeartbeats 1600000 in
theorem deleteRel_pre (w0 : World) (tb : Nat) (TB : Option Obj) (g : Int) (A : Option Addr) (n c : Nat) (s : ByteArray) (cs : List S59) (m : S52) (w : World) (hw : Walk w0 tb TB g A n c w s cs) (rels : List ByteArray) (hn : n = rels.length) (hC : Kd.C Kd.string w0 A n rels) (hc : n ≤ c) (hs : s.size ≤ 100000) (h1 : 0 ≤ m.f3) (h2 : m.f3 < n) (hz : (rdOf ByteArray.empty rels m.f3).size ≤ 1000) (t : ByteArray) (ht : sideS rels m.f3 m.f5 = t) (h3 : 0 ≤ m.f4) (h4 : m.f4 < t.size) (htz : t.size ≤ 1000) (h5 : 0 ≤ m.f1) (h6 : m.f1 ≤ s.size) (h7 : prefB (s.extract m.f1.toNat s.size) (t.extract m.f4.toNat t.size ++ t.extract 0 m.f4.toNat) = false) (hcs : cs.length < 1000000) :
    Calls Try.prog 72 #[.pointer (some ⟨w0.heap.size, 0, none⟩), .agg #[.int .i64 m.f0, .int .i64 m.f1, .int .i64 m.f2, .int .i64 m.f3, .int .i64 m.f4, .bool m.f5]] w fun e w' => e = .panicked unfit ∧ Below w0.heap.size w0 w' := by
  have HC := Aside0.mk hC
  have HKC : Aside0 (∀ cv, w.heap[w0.heap.size]? = some (walkO g A n c s cv) → some w.heap.size ≠ cv.ownBlock) := ⟨fun cv h e => by
    obtain ⟨cv', h', hR⟩ := hw.row
    have e2 : walkO g A n c s cv' = walkO g A n c s cv := Option.some.inj (h'.symm.trans h)
    simp [walkO] at e2
    subst e2
    have := Kd.R_lt hR _ e.symm
    omega⟩
  obtain ⟨cv, hkc, hcR⟩ := hw.row
  have hklt := hw.klt
  obtain ⟨W1, hW1⟩ : ∃ W1, W1 = w.alloc (.cells #[.int .i64 m.f0, .int .i64 m.f1, .int .i64 m.f2, .int .i64 m.f3, .int .i64 m.f4, .bool m.f5] 52) := ⟨_, rfl⟩
  have HM : Aside0 (W1.heap[w.heap.size]? = some (.cells #[.int .i64 m.f0, .int .i64 m.f1, .int .i64 m.f2, .int .i64 m.f3, .int .i64 m.f4, .bool m.f5] 52 (0, 0))) := ⟨by rw [hW1]; exact Go.heap_alloc_new _ _⟩
  have HK1 : Aside0 (W1.heap[w0.heap.size]? = some (walkO g A n c s cv)) := ⟨by rw [hW1]; exact blk_alloc hkc _⟩
  have HB1 : Aside0 (Below w.heap.size w W1) := ⟨by rw [hW1]; exact below_alloc (Below.refl _ _) _⟩
  have HW1 : Aside0 (Walk w0 tb TB g A n c W1 s cs) := ⟨hw.grow HB1.out⟩
  have HLT : Aside0 (w.heap.size < W1.heap.size) := ⟨blk_lt HM.out⟩
  have HS : Aside0 (∀ W', Below W1.heap.size W1 W' → W'.cell? ⟨w.heap.size, 0, none⟩ = some (.int .i64 m.f0) ∧ W'.cell? ⟨w.heap.size, 1, none⟩ = some (.int .i64 m.f1) ∧ W'.cell? ⟨w.heap.size, 2, none⟩ = some (.int .i64 m.f2) ∧ W'.cell? ⟨w.heap.size, 3, none⟩ = some (.int .i64 m.f3) ∧ W'.cell? ⟨w.heap.size, 4, none⟩ = some (.int .i64 m.f4) ∧ W'.cell? ⟨w.heap.size, 5, none⟩ = some (.bool m.f5) ∧ W'.cell? ⟨w0.heap.size, 0, none⟩ = some (.int .i64 g) ∧ W'.cell? ⟨w0.heap.size, 1, none⟩ = some (.slice A n c) ∧ W'.cell? ⟨w0.heap.size, 2, none⟩ = some (.string s) ∧ W'.cell? ⟨w0.heap.size, 3, none⟩ = some (cv) ∧ Below W1.heap.size W1 W') :=
    ⟨fun W' hb => ⟨(blk_cell (blk_below HM.out hb) 0).trans rfl, (blk_cell (blk_below HM.out hb) 1).trans rfl, (blk_cell (blk_below HM.out hb) 2).trans rfl, (blk_cell (blk_below HM.out hb) 3).trans rfl, (blk_cell (blk_below HM.out hb) 4).trans rfl, (blk_cell (blk_below HM.out hb) 5).trans rfl, (blk_cell (blk_below HK1.out hb) 0).trans rfl, (blk_cell (blk_below HK1.out hb) 1).trans rfl, (blk_cell (blk_below HK1.out hb) 2).trans rfl, (blk_cell (blk_below HK1.out hb) 3).trans rfl, hb⟩⟩
  have HT : Aside0 (∀ W', KeepBut W1 W' w0.heap.size none → W'.cell? ⟨w.heap.size, 0, none⟩ = some (.int .i64 m.f0) ∧ W'.cell? ⟨w.heap.size, 1, none⟩ = some (.int .i64 m.f1) ∧ W'.cell? ⟨w.heap.size, 2, none⟩ = some (.int .i64 m.f2) ∧ W'.cell? ⟨w.heap.size, 3, none⟩ = some (.int .i64 m.f3) ∧ W'.cell? ⟨w.heap.size, 4, none⟩ = some (.int .i64 m.f4) ∧ W'.cell? ⟨w.heap.size, 5, none⟩ = some (.bool m.f5) ∧ KeepBut W1 W' w0.heap.size none) :=
    ⟨fun W' hb => ⟨keep_cell hb ((blk_cell HM.out 0).trans rfl) (by show w.heap.size ≠ w0.heap.size; omega), keep_cell hb ((blk_cell HM.out 1).trans rfl) (by show w.heap.size ≠ w0.heap.size; omega), keep_cell hb ((blk_cell HM.out 2).trans rfl) (by show w.heap.size ≠ w0.heap.size; omega), keep_cell hb ((blk_cell HM.out 3).trans rfl) (by show w.heap.size ≠ w0.heap.size; omega), keep_cell hb ((blk_cell HM.out 4).trans rfl) (by show w.heap.size ≠ w0.heap.size; omega), keep_cell hb ((blk_cell HM.out 5).trans rfl) (by show w.heap.size ≠ w0.heap.size; omega), hb⟩⟩
  clear hw hkc hcR
  go_enter Try.func72, Try.ntmps72
  go_wp2_with fail
  rw [← hW1]
  clear hW1
  have m0 := (HS.out W1 (Below.refl _ _)).1
  have m1 := (HS.out W1 (Below.refl _ _)).2.1
  have m2 := (HS.out W1 (Below.refl _ _)).2.2.1
  have m3 := (HS.out W1 (Below.refl _ _)).2.2.2.1
  have m4 := (HS.out W1 (Below.refl _ _)).2.2.2.2.1
  have m5 := (HS.out W1 (Below.refl _ _)).2.2.2.2.2.1
  go_wp2_with (go_at_call 76; go_must ((refine (rotated_yes w0 tb TB g A n c s cs m W1 HW1.out rels hn HC.out hc hs h1 h2 hz t ht h3 h4).mono ?_); rintro e w2 ⟨rfl, hB2⟩; have HB2 := Aside0.mk hB2; clear hB2))
  have HM2 : Aside0 (w2.heap[w.heap.size]? = some (.cells #[.int .i64 m.f0, .int .i64 m.f1, .int .i64 m.f2, .int .i64 m.f3, .int .i64 m.f4, .bool m.f5] 52 (0, 0))) := ⟨blk_below HM.out HB2.out⟩
  have HW2 : Aside0 (Walk w0 tb TB g A n c w2 s cs) := ⟨HW1.out.grow HB2.out⟩
  have HKD : Aside0 (∀ cv, w2.heap[w0.heap.size]? = some (walkO g A n c s cv) → some w.heap.size ≠ cv.ownBlock) := ⟨fun cv' h => HKC.out cv' (by rw [← h, ← HB1.out.block _ hklt]; exact (HB2.out.block _ (Nat.lt_trans hklt HLT.out)).symm)⟩
  clear m0 m1 m2 m3 m4 m5
  have m0 := (HS.out w2 HB2.out).1
  have m1 := (HS.out w2 HB2.out).2.1
  have m2 := (HS.out w2 HB2.out).2.2.1
  have m3 := (HS.out w2 HB2.out).2.2.2.1
  have m4 := (HS.out w2 HB2.out).2.2.2.2.1
  have m5 := (HS.out w2 HB2.out).2.2.2.2.2.1
  have q2 := (HS.out w2 HB2.out).2.2.2.2.2.2.2.2.1
  have hbe : (t.extract 0 m.f4.toNat).size ≤ 1000 := by rw [ByteArray.size_extract]; omega
  have hbh : (t.extract m.f4.toNat t.size ++ t.extract 0 m.f4.toNat).size = t.size := by rw [ByteArray.size_append, ByteArray.size_extract, ByteArray.size_extract]; omega
  go_wp2_with fail
  refine wp_region_last _ (by kernel_rfl) (by kernel_rfl) rfl ?_
  simp only [hushLast, hush]
  repeat (go_big_quiet_step ((go_at_call 78; exact Calls.quiet_of_same (hasPrefix_to _ _ _ h7 _))))
  refine wpQuiet_nil ?_
  intro w' hw'
  obtain ⟨nq, rfl⟩ := hw'
  refine ⟨by simp only [Region.wanted], ?_⟩
  go_wp2_with (go_at_call 65; refine (ask_false _).mono ?_; rintro e w' ⟨rfl, rfl⟩)
  exact ⟨rfl, rfl, below_step HW2.out.bel (by repeat (first | (with_reducible exact Below.refl _ _) | apply pw_below_drewN | apply below_drew1 | exact Below.refl _ _))⟩
end H
end Go.Proofs.Ytmmichdlgjcmoaa.PAll
