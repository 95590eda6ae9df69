import Derived.Test.YtmmichdlgjcmoaaPAllx0
import Derived.Test.YtmmichdlgjcmoaaPAllx6
import Derived.Test.YtmmichdlgjcmoaaPAllx7
import Derived.Test.YtmmichdlgjcmoaaExtC
import Derived.Test.YtmmichdlgjcmoaaExtB
namespace Go.Proofs.Ytmmichdlgjcmoaa.PAll
open Go.RowKit Go.Proofs.YtmmichdlgjcmoaaW.PrintWords Go.Proofs.YtmmichdlgjcmoaaW.PrintLast Go.Proofs.YtmmichdlgjcmoaaW.PrintMore H Go.Proofs.YtmmichdlgjcmoaaReg
set_option linter.unusedVariables false
set_option linter.unusedSimpArgs false
namespace H
theorem pair_conv (W : World) (a b : Int) : (convert 67 9 (.slice (some ⟨W.heap.size, 0, none⟩) 2 2)).run Try.prog (W.alloc (.cells #[.int .u8 a, .int .u8 b] 5)) = .ok (.string (strOfNums [a, b])) (W.alloc (.cells #[.int .u8 a, .int .u8 b] 5)) := by
  refine string_of_reads Try.underlying67 Try.underlying5 Try.underlying9 ⟨rfl, by omega, fun _ => ⟨_, rfl, fun j hj => ?_⟩⟩
  have h := Go.heap_alloc_new W (Obj.cells #[.int .u8 a, .int .u8 b] 5)
  rw [add_plain]
  have h0 := (blk_cell h j)
  rw [h0]
  have : j = 0 ∨ j = 1 := by omega
  rcases this with rfl | rfl <;> rfl
theorem replace_walk (w0 : World) (tb : Nat) (TB : Option Obj) (g : Int) (A : Option Addr) (n c : Nat) (s : ByteArray) (cs : List S59) (a m : Int) (u : ByteArray) (w : World) (hw : Walk w0 tb TB g A n c w s cs)
    (h0 : 0 ≤ a) (h1 : 0 ≤ m) (ha : a + m ≤ s.size) (hs : s.size ≤ 1000000) (hu : u.size ≤ 1000000) (hf : s.size + u.size ≤ 100000 + m) :
    Calls Try.prog 75 #[.pointer (some ⟨w0.heap.size, 0, none⟩), .int .i64 a, .int .i64 m, .string u] w fun e w' => e = .returned (.tuple #[]) ∧ Walk w0 tb TB g A n c w' (repl s a.toNat m.toNat u) cs ∧ KeepBut w w' w0.heap.size none := by
  obtain ⟨cv, hkc, hcR⟩ := hw.row
  obtain ⟨a, rfl⟩ : ∃ k : Nat, a = k := ⟨a.toNat, by omega⟩
  obtain ⟨m, rfl⟩ : ∃ k : Nat, m = k := ⟨m.toNat, by omega⟩
  refine (replace_yes _ g A n c s cv a m u w hkc (by omega) hs hu (by omega)).mono ?_
  rintro e w' ⟨rfl, rfl⟩
  refine ⟨rfl, (hw.set _).grow (below_drew (Below.refl _ _)), ?_, ?_⟩
  · show w.heap.size ≤ (w.setCell _ _).heap.size
    rw [World.size_setCell]; exact Nat.le_refl _
  · intro i hi hg _
    exact Below.heap_setCell w ⟨w0.heap.size, 2, none⟩ _ i hg
theorem replace_walk_no (w0 : World) (tb : Nat) (TB : Option Obj) (g : Int) (A : Option Addr) (n c : Nat) (s : ByteArray) (cs : List S59) (a m : Int) (u : ByteArray) (w : World) (hw : Walk w0 tb TB g A n c w s cs)
    (h0 : 0 ≤ a) (h1 : 0 ≤ m) (ha : a + m ≤ s.size) (hs : s.size ≤ 1000000) (hu : u.size ≤ 1000000) (hf : ¬ s.size + u.size ≤ 100000 + m) :
    Calls Try.prog 75 #[.pointer (some ⟨w0.heap.size, 0, none⟩), .int .i64 a, .int .i64 m, .string u] w fun e w' => e = .panicked unfit ∧ w' = w := by
  obtain ⟨cv, hkc, hcR⟩ := hw.row
  obtain ⟨a, rfl⟩ : ∃ k : Nat, a = k := ⟨a.toNat, by omega⟩
  obtain ⟨m, rfl⟩ : ∃ k : Nat, m = k := ⟨m.toNat, by omega⟩
  exact replace_no _ g A n c s cv a m u w hkc (by omega) hs hu (by omega)
set_option maxHeartbeats 800000 in
theorem insertPair_yes (w0 : World) (tb : Nat) (TB : Option Obj) (g : Int) (A : Option Addr) (n c : Nat) (s : ByteArray) (cs : List S59) (m : S52) (w : World) (hw : Walk w0 tb TB g A n c w s cs) (hg : 1 ≤ g ∧ g ≤ 8) (hs : s.size ≤ 100000) (h1 : 0 ≤ m.f1) (h2 : m.f1 ≤ s.size) (h3 : 0 ≤ m.f2) (h4 : m.f2 < 2 * g) (h5 : s.size + 2 ≤ 100000) :
    Calls Try.prog 69 #[.pointer (some ⟨w0.heap.size, 0, none⟩), .agg #[.int .i64 m.f0, .int .i64 m.f1, .int .i64 m.f2, .int .i64 m.f3, .int .i64 m.f4, .bool m.f5]] w fun e w' => e = .returned (.tuple #[]) ∧ Walk w0 tb TB g A n c w' (repl s m.f1.toNat 0 (pairS m.f2)) cs := by
  obtain ⟨hg1, hg2⟩ := hg
  obtain ⟨cv, hkc, hcR⟩ := hw.row
  have hklt := hw.klt
  obtain ⟨W1, hW1⟩ : ∃ W1, W1 = w.alloc (.cells #[.int .i64 m.f0, .int .i64 m.f1, .int .i64 m.f2, .int .i64 m.f3, .int .i64 m.f4, .bool m.f5] 52) := ⟨_, rfl⟩
  have HM : Aside0 (W1.heap[w.heap.size]? = some (.cells #[.int .i64 m.f0, .int .i64 m.f1, .int .i64 m.f2, .int .i64 m.f3, .int .i64 m.f4, .bool m.f5] 52 (0, 0))) := ⟨by rw [hW1]; exact Go.heap_alloc_new _ _⟩
  have HK1 : Aside0 (W1.heap[w0.heap.size]? = some (walkO g A n c s cv)) := ⟨by rw [hW1]; exact blk_alloc hkc _⟩
  have HB1 : Aside0 (Below w.heap.size w W1) := ⟨by rw [hW1]; exact below_alloc (Below.refl _ _) _⟩
  have HW1 : Aside0 (Walk w0 tb TB g A n c W1 s cs) := ⟨hw.grow HB1.out⟩
  have HLT : Aside0 (w.heap.size < W1.heap.size) := ⟨blk_lt HM.out⟩
  have HS : Aside0 (∀ W', Below W1.heap.size W1 W' → W'.cell? ⟨w.heap.size, 0, none⟩ = some (.int .i64 m.f0) ∧ W'.cell? ⟨w.heap.size, 1, none⟩ = some (.int .i64 m.f1) ∧ W'.cell? ⟨w.heap.size, 2, none⟩ = some (.int .i64 m.f2) ∧ W'.cell? ⟨w.heap.size, 3, none⟩ = some (.int .i64 m.f3) ∧ W'.cell? ⟨w.heap.size, 4, none⟩ = some (.int .i64 m.f4) ∧ W'.cell? ⟨w.heap.size, 5, none⟩ = some (.bool m.f5) ∧ W'.cell? ⟨w0.heap.size, 0, none⟩ = some (.int .i64 g) ∧ W'.cell? ⟨w0.heap.size, 1, none⟩ = some (.slice A n c) ∧ W'.cell? ⟨w0.heap.size, 2, none⟩ = some (.string s) ∧ W'.cell? ⟨w0.heap.size, 3, none⟩ = some (cv) ∧ Below W1.heap.size W1 W') :=
    ⟨fun W' hb => ⟨(blk_cell (blk_below HM.out hb) 0).trans rfl, (blk_cell (blk_below HM.out hb) 1).trans rfl, (blk_cell (blk_below HM.out hb) 2).trans rfl, (blk_cell (blk_below HM.out hb) 3).trans rfl, (blk_cell (blk_below HM.out hb) 4).trans rfl, (blk_cell (blk_below HM.out hb) 5).trans rfl, (blk_cell (blk_below HK1.out hb) 0).trans rfl, (blk_cell (blk_below HK1.out hb) 1).trans rfl, (blk_cell (blk_below HK1.out hb) 2).trans rfl, (blk_cell (blk_below HK1.out hb) 3).trans rfl, hb⟩⟩
  have HT : Aside0 (∀ W', KeepBut W1 W' w0.heap.size none → W'.cell? ⟨w.heap.size, 0, none⟩ = some (.int .i64 m.f0) ∧ W'.cell? ⟨w.heap.size, 1, none⟩ = some (.int .i64 m.f1) ∧ W'.cell? ⟨w.heap.size, 2, none⟩ = some (.int .i64 m.f2) ∧ W'.cell? ⟨w.heap.size, 3, none⟩ = some (.int .i64 m.f3) ∧ W'.cell? ⟨w.heap.size, 4, none⟩ = some (.int .i64 m.f4) ∧ W'.cell? ⟨w.heap.size, 5, none⟩ = some (.bool m.f5) ∧ KeepBut W1 W' w0.heap.size none) :=
    ⟨fun W' hb => ⟨keep_cell hb ((blk_cell HM.out 0).trans rfl) (by show w.heap.size ≠ w0.heap.size; omega), keep_cell hb ((blk_cell HM.out 1).trans rfl) (by show w.heap.size ≠ w0.heap.size; omega), keep_cell hb ((blk_cell HM.out 2).trans rfl) (by show w.heap.size ≠ w0.heap.size; omega), keep_cell hb ((blk_cell HM.out 3).trans rfl) (by show w.heap.size ≠ w0.heap.size; omega), keep_cell hb ((blk_cell HM.out 4).trans rfl) (by show w.heap.size ≠ w0.heap.size; omega), keep_cell hb ((blk_cell HM.out 5).trans rfl) (by show w.heap.size ≠ w0.heap.size; omega), hb⟩⟩
  clear hw hkc hcR
  go_enter Try.func69, Try.ntmps69
  go_wp2_with fail
  rw [← hW1]
  clear hW1
  have m1 := (HS.out W1 (Below.refl _ _)).2.1
  have m2 := (HS.out W1 (Below.refl _ _)).2.2.1
  have q0 := (HS.out W1 (Below.refl _ _)).2.2.2.2.2.2.1
  have q2 := (HS.out W1 (Below.refl _ _)).2.2.2.2.2.2.2.2.1
  have kw : IntKind.i64.wrap (2 * g) = 2 * g := IntWalk.i64_in _ (by omega)
  go_quiet (first | (go_at_call 65; exact Calls.quiet_of_same (ask_true' _)))
  go_wp2_with (go_at_call 74; refine (letter_calls _ _ h3 (by omega)).mono ?_; rintro e w' ⟨rfl, rfl⟩)
  have hps : (pairS m.f2).size = 2 := rfl
  have hcv : ∀ k, (convert 67 9 (.slice (some ⟨W1.heap.size, 0, none⟩) 2 2)).run Try.prog ((W1.drewN k).alloc (.cells #[.int .u8 (letterB m.f2), .int .u8 (otherB (letterB m.f2))] 5)) = .ok (.string (pairS m.f2)) ((W1.drewN k).alloc (.cells #[.int .u8 (letterB m.f2), .int .u8 (otherB (letterB m.f2))] 5)) := fun k => pair_conv (W1.drewN k) _ _
  have m1a := fun k o => (HS.out ((W1.drewN k).alloc o) (below_alloc (pw_below_drewN (Below.refl _ _) _) _)).2.1
  go_region_with (first | (go_at_call 68; refine (other_calls _ _).mono ?_; rintro e w' ⟨rfl, rfl⟩) | (go_at_call 75; refine (replace_walk w0 tb TB g A n c s cs m.f1 0 (pairS m.f2) _ (HW1.out.grow (by repeat (first | (with_reducible exact Below.refl _ _) | apply below_alloc | apply pw_below_drewN | apply below_drew1 | exact Below.refl _ _))) h1 (by omega) (by omega) (by omega) (by omega) (by omega)).mono ?_; rintro e w' ⟨rfl, hWn, hKc⟩; have HWn := Aside0.mk hWn; clear hWn) )
  all_goals (go_end0; exact ⟨rfl, HWn.out⟩)
set_option maxHeartbeats 800000 in
theorem insertPair_long (w0 : World) (tb : Nat) (TB : Option Obj) (g : Int) (A : Option Addr) (n c : Nat) (s : ByteArray) (cs : List S59) (m : S52) (w : World) (hw : Walk w0 tb TB g A n c w s cs) (hg : 1 ≤ g ∧ g ≤ 8) (hs : s.size ≤ 100000) (h1 : 0 ≤ m.f1) (h2 : m.f1 ≤ s.size) (h3 : 0 ≤ m.f2) (h4 : m.f2 < 2 * g) (h5 : ¬ s.size + 2 ≤ 100000) :
    Calls Try.prog 69 #[.pointer (some ⟨w0.heap.size, 0, none⟩), .agg #[.int .i64 m.f0, .int .i64 m.f1, .int .i64 m.f2, .int .i64 m.f3, .int .i64 m.f4, .bool m.f5]] w fun e w' => e = .panicked unfit ∧ Below w0.heap.size w0 w' := by
  obtain ⟨hg1, hg2⟩ := hg
  have HB0 : Aside0 (Below w0.heap.size w0 w) := ⟨hw.bel⟩
  obtain ⟨cv, hkc, hcR⟩ := hw.row
  have hklt := hw.klt
  obtain ⟨W1, hW1⟩ : ∃ W1, W1 = w.alloc (.cells #[.int .i64 m.f0, .int .i64 m.f1, .int .i64 m.f2, .int .i64 m.f3, .int .i64 m.f4, .bool m.f5] 52) := ⟨_, rfl⟩
  have HM : Aside0 (W1.heap[w.heap.size]? = some (.cells #[.int .i64 m.f0, .int .i64 m.f1, .int .i64 m.f2, .int .i64 m.f3, .int .i64 m.f4, .bool m.f5] 52 (0, 0))) := ⟨by rw [hW1]; exact Go.heap_alloc_new _ _⟩
  have HK1 : Aside0 (W1.heap[w0.heap.size]? = some (walkO g A n c s cv)) := ⟨by rw [hW1]; exact blk_alloc hkc _⟩
  have HB1 : Aside0 (Below w.heap.size w W1) := ⟨by rw [hW1]; exact below_alloc (Below.refl _ _) _⟩
  have HW1 : Aside0 (Walk w0 tb TB g A n c W1 s cs) := ⟨hw.grow HB1.out⟩
  have HLT : Aside0 (w.heap.size < W1.heap.size) := ⟨blk_lt HM.out⟩
  have HS : Aside0 (∀ W', Below W1.heap.size W1 W' → W'.cell? ⟨w.heap.size, 0, none⟩ = some (.int .i64 m.f0) ∧ W'.cell? ⟨w.heap.size, 1, none⟩ = some (.int .i64 m.f1) ∧ W'.cell? ⟨w.heap.size, 2, none⟩ = some (.int .i64 m.f2) ∧ W'.cell? ⟨w.heap.size, 3, none⟩ = some (.int .i64 m.f3) ∧ W'.cell? ⟨w.heap.size, 4, none⟩ = some (.int .i64 m.f4) ∧ W'.cell? ⟨w.heap.size, 5, none⟩ = some (.bool m.f5) ∧ W'.cell? ⟨w0.heap.size, 0, none⟩ = some (.int .i64 g) ∧ W'.cell? ⟨w0.heap.size, 1, none⟩ = some (.slice A n c) ∧ W'.cell? ⟨w0.heap.size, 2, none⟩ = some (.string s) ∧ W'.cell? ⟨w0.heap.size, 3, none⟩ = some (cv) ∧ Below W1.heap.size W1 W') :=
    ⟨fun W' hb => ⟨(blk_cell (blk_below HM.out hb) 0).trans rfl, (blk_cell (blk_below HM.out hb) 1).trans rfl, (blk_cell (blk_below HM.out hb) 2).trans rfl, (blk_cell (blk_below HM.out hb) 3).trans rfl, (blk_cell (blk_below HM.out hb) 4).trans rfl, (blk_cell (blk_below HM.out hb) 5).trans rfl, (blk_cell (blk_below HK1.out hb) 0).trans rfl, (blk_cell (blk_below HK1.out hb) 1).trans rfl, (blk_cell (blk_below HK1.out hb) 2).trans rfl, (blk_cell (blk_below HK1.out hb) 3).trans rfl, hb⟩⟩
  have HT : Aside0 (∀ W', KeepBut W1 W' w0.heap.size none → W'.cell? ⟨w.heap.size, 0, none⟩ = some (.int .i64 m.f0) ∧ W'.cell? ⟨w.heap.size, 1, none⟩ = some (.int .i64 m.f1) ∧ W'.cell? ⟨w.heap.size, 2, none⟩ = some (.int .i64 m.f2) ∧ W'.cell? ⟨w.heap.size, 3, none⟩ = some (.int .i64 m.f3) ∧ W'.cell? ⟨w.heap.size, 4, none⟩ = some (.int .i64 m.f4) ∧ W'.cell? ⟨w.heap.size, 5, none⟩ = some (.bool m.f5) ∧ KeepBut W1 W' w0.heap.size none) :=
    ⟨fun W' hb => ⟨keep_cell hb ((blk_cell HM.out 0).trans rfl) (by show w.heap.size ≠ w0.heap.size; omega), keep_cell hb ((blk_cell HM.out 1).trans rfl) (by show w.heap.size ≠ w0.heap.size; omega), keep_cell hb ((blk_cell HM.out 2).trans rfl) (by show w.heap.size ≠ w0.heap.size; omega), keep_cell hb ((blk_cell HM.out 3).trans rfl) (by show w.heap.size ≠ w0.heap.size; omega), keep_cell hb ((blk_cell HM.out 4).trans rfl) (by show w.heap.size ≠ w0.heap.size; omega), keep_cell hb ((blk_cell HM.out 5).trans rfl) (by show w.heap.size ≠ w0.heap.size; omega), hb⟩⟩
  clear hw hkc hcR
  go_enter Try.func69, Try.ntmps69
  go_wp2_with fail
  rw [← hW1]
  clear hW1
  have m1 := (HS.out W1 (Below.refl _ _)).2.1
  have m2 := (HS.out W1 (Below.refl _ _)).2.2.1
  have q0 := (HS.out W1 (Below.refl _ _)).2.2.2.2.2.2.1
  have q2 := (HS.out W1 (Below.refl _ _)).2.2.2.2.2.2.2.2.1
  have kw : IntKind.i64.wrap (2 * g) = 2 * g := IntWalk.i64_in _ (by omega)
  go_quiet (first | (go_at_call 65; exact Calls.quiet_of_same (ask_true' _)))
  go_wp2_with (go_at_call 74; refine (letter_calls _ _ h3 (by omega)).mono ?_; rintro e w' ⟨rfl, rfl⟩)
  have hps : (pairS m.f2).size = 2 := rfl
  have hcv : ∀ k, (convert 67 9 (.slice (some ⟨W1.heap.size, 0, none⟩) 2 2)).run Try.prog ((W1.drewN k).alloc (.cells #[.int .u8 (letterB m.f2), .int .u8 (otherB (letterB m.f2))] 5)) = .ok (.string (pairS m.f2)) ((W1.drewN k).alloc (.cells #[.int .u8 (letterB m.f2), .int .u8 (otherB (letterB m.f2))] 5)) := fun k => pair_conv (W1.drewN k) _ _
  have m1a := fun k o => (HS.out ((W1.drewN k).alloc o) (below_alloc (pw_below_drewN (Below.refl _ _) _) _)).2.1
  refine wp_region_any (by kernel_rfl) ?_
  change wpAny _ _ _ _ _ _ _ (World.drew _)
  refine wpAny_take (i := 0) (v := _) rfl (by kernel_rfl) (by kernel_rfl) (by kernel_rfl) (fun _ _ _ h => h) (Or.inl ⟨by rfl, fun w => by go_simp; try with_reducible rfl⟩) ?_
  refine wpAny_take (i := 1) (v := _) rfl (by kernel_rfl) (by kernel_rfl) (by kernel_rfl) (fun _ _ _ h => h) (Or.inl ⟨by rfl, fun w => by go_simp; try with_reducible rfl⟩) ?_
  refine wpAny_take (i := 3) (v := _) rfl (by kernel_rfl) (by kernel_rfl) (by kernel_rfl) (fun _ _ _ h => h) (Or.inl ⟨by rfl, fun w => by go_simp; try with_reducible rfl⟩) ?_
  refine wpAny_take (i := 4) (v := _) rfl (by kernel_rfl) (by kernel_rfl) (by kernel_rfl) (fun _ _ _ h => h) (Or.inl ⟨by rfl, fun w => by go_simp; try with_reducible rfl⟩) ?_
  refine wpAny_ready (rs := [2, 5]) (by kernel_rfl) (by simp) ?_
  refine AllReady.cons rfl (fun K hK => ?_) ?_
  · go_simp
    refine hK _ _ ?_
    clear hK K
    refine wpAny_ready (rs := [5]) (by kernel_rfl) (by simp) ?_
    refine AllReady.cons rfl (fun K hK => ?_) ?_
    · go_simp
      go_wp2_with (go_at_call 68; refine (other_calls _ _).mono ?_; rintro e w' ⟨rfl, rfl⟩)
      try (refine hK _ _ ?_)
      try clear hK K
      refine wpAny_ready (rs := [6]) (by kernel_rfl) (by simp) ?_
      refine AllReady.cons rfl (fun K hK => ?_) ?_
      · go_simp
        refine hK _ _ ?_
        clear hK K
        refine wpAny_ready (rs := [7]) (by kernel_rfl) (by simp) ?_
        refine AllReady.cons rfl (fun K hK => ?_) ?_
        · go_simp
          refine hK _ _ ?_
          clear hK K
          refine wpAny_ready (rs := [8]) (by kernel_rfl) (by simp) ?_
          refine AllReady.cons rfl (fun K hK => ?_) ?_
          · go_simp
            go_at_call 75
            refine (replace_walk_no w0 tb TB g A n c s cs m.f1 0 (pairS m.f2) _ (HW1.out.grow (by repeat (first | (with_reducible exact Below.refl _ _) | apply below_alloc | apply pw_below_drewN | apply below_drew1 | exact Below.refl _ _))) h1 (by omega) (by omega) (by omega) (by omega) (by omega)).mono ?_
            rintro e w' ⟨rfl, rfl⟩
            exact ⟨rfl, rfl, below_step HB0.out (below_step HB1.out (by repeat (first | (with_reducible exact Below.refl _ _) | apply below_alloc | apply pw_below_drewN | apply below_drew1 | exact Below.refl _ _)))⟩
          exact AllReady.nil
        exact AllReady.nil
      exact AllReady.nil
    exact AllReady.nil
  refine AllReady.cons rfl (fun K hK => ?_) ?_
  · go_simp
    go_wp2_with (go_at_call 68; refine (other_calls _ _).mono ?_; rintro e w' ⟨rfl, rfl⟩)
    try (refine hK _ _ ?_)
    try clear hK K
    refine wpAny_ready (rs := [2, 6]) (by kernel_rfl) (by simp) ?_
    refine AllReady.cons rfl (fun K hK => ?_) ?_
    · go_simp
      refine hK _ _ ?_
      clear hK K
      refine wpAny_ready (rs := [6]) (by kernel_rfl) (by simp) ?_
      refine AllReady.cons rfl (fun K hK => ?_) ?_
      · go_simp
        refine hK _ _ ?_
        clear hK K
        refine wpAny_ready (rs := [7]) (by kernel_rfl) (by simp) ?_
        refine AllReady.cons rfl (fun K hK => ?_) ?_
        · go_simp
          refine hK _ _ ?_
          clear hK K
          refine wpAny_ready (rs := [8]) (by kernel_rfl) (by simp) ?_
          refine AllReady.cons rfl (fun K hK => ?_) ?_
          · go_simp
            go_at_call 75
            refine (replace_walk_no w0 tb TB g A n c s cs m.f1 0 (pairS m.f2) _ (HW1.out.grow (by repeat (first | (with_reducible exact Below.refl _ _) | apply below_alloc | apply pw_below_drewN | apply below_drew1 | exact Below.refl _ _))) h1 (by omega) (by omega) (by omega) (by omega) (by omega)).mono ?_
            rintro e w' ⟨rfl, rfl⟩
            exact ⟨rfl, rfl, below_step HB0.out (below_step HB1.out (by repeat (first | (with_reducible exact Below.refl _ _) | apply below_alloc | apply pw_below_drewN | apply below_drew1 | exact Below.refl _ _)))⟩
          exact AllReady.nil
        exact AllReady.nil
      exact AllReady.nil
    refine AllReady.cons rfl (fun K hK => ?_) ?_
    · go_simp
      refine hK _ _ ?_
      clear hK K
      refine wpAny_ready (rs := [2, 7]) (by kernel_rfl) (by simp) ?_
      refine AllReady.cons rfl (fun K hK => ?_) ?_
      · go_simp
        refine hK _ _ ?_
        clear hK K
        refine wpAny_ready (rs := [7]) (by kernel_rfl) (by simp) ?_
        refine AllReady.cons rfl (fun K hK => ?_) ?_
        · go_simp
          refine hK _ _ ?_
          clear hK K
          refine wpAny_ready (rs := [8]) (by kernel_rfl) (by simp) ?_
          refine AllReady.cons rfl (fun K hK => ?_) ?_
          · go_simp
            go_at_call 75
            refine (replace_walk_no w0 tb TB g A n c s cs m.f1 0 (pairS m.f2) _ (HW1.out.grow (by repeat (first | (with_reducible exact Below.refl _ _) | apply below_alloc | apply pw_below_drewN | apply below_drew1 | exact Below.refl _ _))) h1 (by omega) (by omega) (by omega) (by omega) (by omega)).mono ?_
            rintro e w' ⟨rfl, rfl⟩
            exact ⟨rfl, rfl, below_step HB0.out (below_step HB1.out (by repeat (first | (with_reducible exact Below.refl _ _) | apply below_alloc | apply pw_below_drewN | apply below_drew1 | exact Below.refl _ _)))⟩
          exact AllReady.nil
        exact AllReady.nil
      refine AllReady.cons rfl (fun K hK => ?_) ?_
      · go_simp
        refine hK _ _ ?_
        clear hK K
        refine wpAny_ready (rs := [2]) (by kernel_rfl) (by simp) ?_
        refine AllReady.cons rfl (fun K hK => ?_) ?_
        · go_simp
          refine hK _ _ ?_
          clear hK K
          refine wpAny_ready (rs := [8]) (by kernel_rfl) (by simp) ?_
          refine AllReady.cons rfl (fun K hK => ?_) ?_
          · go_simp
            go_at_call 75
            refine (replace_walk_no w0 tb TB g A n c s cs m.f1 0 (pairS m.f2) _ (HW1.out.grow (by repeat (first | (with_reducible exact Below.refl _ _) | apply below_alloc | apply pw_below_drewN | apply below_drew1 | exact Below.refl _ _))) h1 (by omega) (by omega) (by omega) (by omega) (by omega)).mono ?_
            rintro e w' ⟨rfl, rfl⟩
            exact ⟨rfl, rfl, below_step HB0.out (below_step HB1.out (by repeat (first | (with_reducible exact Below.refl _ _) | apply below_alloc | apply pw_below_drewN | apply below_drew1 | exact Below.refl _ _)))⟩
          exact AllReady.nil
        exact AllReady.nil
      exact AllReady.nil
    exact AllReady.nil
  exact AllReady.nil
set_option maxHeartbeats 800000 in
theorem insertPair_no0 (w0 : World) (tb : Nat) (TB : Option Obj) (g : Int) (A : Option Addr) (n c : Nat) (s : ByteArray) (cs : List S59) (m : S52) (w : World) (hw : Walk w0 tb TB g A n c w s cs) (hg : 1 ≤ g ∧ g ≤ 8) (hs : s.size ≤ 100000) (h1 : ¬ 0 ≤ m.f1) :
    Calls Try.prog 69 #[.pointer (some ⟨w0.heap.size, 0, none⟩), .agg #[.int .i64 m.f0, .int .i64 m.f1, .int .i64 m.f2, .int .i64 m.f3, .int .i64 m.f4, .bool m.f5]] w fun e w' => e = .panicked unfit ∧ Below w0.heap.size w0 w' := by
  obtain ⟨hg1, hg2⟩ := hg
  have HB0 : Aside0 (Below w0.heap.size w0 w) := ⟨hw.bel⟩
  obtain ⟨cv, hkc, hcR⟩ := hw.row
  have hklt := hw.klt
  obtain ⟨W1, hW1⟩ : ∃ W1, W1 = w.alloc (.cells #[.int .i64 m.f0, .int .i64 m.f1, .int .i64 m.f2, .int .i64 m.f3, .int .i64 m.f4, .bool m.f5] 52) := ⟨_, rfl⟩
  have HM : Aside0 (W1.heap[w.heap.size]? = some (.cells #[.int .i64 m.f0, .int .i64 m.f1, .int .i64 m.f2, .int .i64 m.f3, .int .i64 m.f4, .bool m.f5] 52 (0, 0))) := ⟨by rw [hW1]; exact Go.heap_alloc_new _ _⟩
  have HK1 : Aside0 (W1.heap[w0.heap.size]? = some (walkO g A n c s cv)) := ⟨by rw [hW1]; exact blk_alloc hkc _⟩
  have HB1 : Aside0 (Below w.heap.size w W1) := ⟨by rw [hW1]; exact below_alloc (Below.refl _ _) _⟩
  have HW1 : Aside0 (Walk w0 tb TB g A n c W1 s cs) := ⟨hw.grow HB1.out⟩
  have HLT : Aside0 (w.heap.size < W1.heap.size) := ⟨blk_lt HM.out⟩
  have HS : Aside0 (∀ W', Below W1.heap.size W1 W' → W'.cell? ⟨w.heap.size, 0, none⟩ = some (.int .i64 m.f0) ∧ W'.cell? ⟨w.heap.size, 1, none⟩ = some (.int .i64 m.f1) ∧ W'.cell? ⟨w.heap.size, 2, none⟩ = some (.int .i64 m.f2) ∧ W'.cell? ⟨w.heap.size, 3, none⟩ = some (.int .i64 m.f3) ∧ W'.cell? ⟨w.heap.size, 4, none⟩ = some (.int .i64 m.f4) ∧ W'.cell? ⟨w.heap.size, 5, none⟩ = some (.bool m.f5) ∧ W'.cell? ⟨w0.heap.size, 0, none⟩ = some (.int .i64 g) ∧ W'.cell? ⟨w0.heap.size, 1, none⟩ = some (.slice A n c) ∧ W'.cell? ⟨w0.heap.size, 2, none⟩ = some (.string s) ∧ W'.cell? ⟨w0.heap.size, 3, none⟩ = some (cv) ∧ Below W1.heap.size W1 W') :=
    ⟨fun W' hb => ⟨(blk_cell (blk_below HM.out hb) 0).trans rfl, (blk_cell (blk_below HM.out hb) 1).trans rfl, (blk_cell (blk_below HM.out hb) 2).trans rfl, (blk_cell (blk_below HM.out hb) 3).trans rfl, (blk_cell (blk_below HM.out hb) 4).trans rfl, (blk_cell (blk_below HM.out hb) 5).trans rfl, (blk_cell (blk_below HK1.out hb) 0).trans rfl, (blk_cell (blk_below HK1.out hb) 1).trans rfl, (blk_cell (blk_below HK1.out hb) 2).trans rfl, (blk_cell (blk_below HK1.out hb) 3).trans rfl, hb⟩⟩
  have HT : Aside0 (∀ W', KeepBut W1 W' w0.heap.size none → W'.cell? ⟨w.heap.size, 0, none⟩ = some (.int .i64 m.f0) ∧ W'.cell? ⟨w.heap.size, 1, none⟩ = some (.int .i64 m.f1) ∧ W'.cell? ⟨w.heap.size, 2, none⟩ = some (.int .i64 m.f2) ∧ W'.cell? ⟨w.heap.size, 3, none⟩ = some (.int .i64 m.f3) ∧ W'.cell? ⟨w.heap.size, 4, none⟩ = some (.int .i64 m.f4) ∧ W'.cell? ⟨w.heap.size, 5, none⟩ = some (.bool m.f5) ∧ KeepBut W1 W' w0.heap.size none) :=
    ⟨fun W' hb => ⟨keep_cell hb ((blk_cell HM.out 0).trans rfl) (by show w.heap.size ≠ w0.heap.size; omega), keep_cell hb ((blk_cell HM.out 1).trans rfl) (by show w.heap.size ≠ w0.heap.size; omega), keep_cell hb ((blk_cell HM.out 2).trans rfl) (by show w.heap.size ≠ w0.heap.size; omega), keep_cell hb ((blk_cell HM.out 3).trans rfl) (by show w.heap.size ≠ w0.heap.size; omega), keep_cell hb ((blk_cell HM.out 4).trans rfl) (by show w.heap.size ≠ w0.heap.size; omega), keep_cell hb ((blk_cell HM.out 5).trans rfl) (by show w.heap.size ≠ w0.heap.size; omega), hb⟩⟩
  clear hw hkc hcR
  go_enter Try.func69, Try.ntmps69
  go_wp2_with fail
  rw [← hW1]
  clear hW1
  have m1 := (HS.out W1 (Below.refl _ _)).2.1
  have m2 := (HS.out W1 (Below.refl _ _)).2.2.1
  have q0 := (HS.out W1 (Below.refl _ _)).2.2.2.2.2.2.1
  have q2 := (HS.out W1 (Below.refl _ _)).2.2.2.2.2.2.2.2.1
  have kw : IntKind.i64.wrap (2 * g) = 2 * g := IntWalk.i64_in _ (by omega)
  have hdh1 : decide (0 ≤ m.f1) = false := decide_eq_false (by omega)
  refine wp_region_last _ (by kernel_rfl) (by kernel_rfl) rfl ?_
  simp only [hushLast, hush]
  repeat (go_big_quiet_step (fail))
  refine wpQuiet_nil ?_
  intro w' hw'
  obtain ⟨nq, rfl⟩ := hw'
  refine ⟨by simp only [Region.wanted], ?_⟩
  go_wp2_with (go_at_call 65; refine (ask_false _).mono ?_; rintro e w' ⟨rfl, rfl⟩)
  exact ⟨rfl, rfl, below_step HB0.out (below_step HB1.out (by repeat (first | (with_reducible exact Below.refl _ _) | apply below_alloc | apply pw_below_drewN | apply below_drew1 | exact Below.refl _ _)))⟩
set_option maxHeartbeats 800000 in
theorem insertPair_no1 (w0 : World) (tb : Nat) (TB : Option Obj) (g : Int) (A : Option Addr) (n c : Nat) (s : ByteArray) (cs : List S59) (m : S52) (w : World) (hw : Walk w0 tb TB g A n c w s cs) (hg : 1 ≤ g ∧ g ≤ 8) (hs : s.size ≤ 100000) (h1 : 0 ≤ m.f1) (h2 : ¬ m.f1 ≤ s.size) :
    Calls Try.prog 69 #[.pointer (some ⟨w0.heap.size, 0, none⟩), .agg #[.int .i64 m.f0, .int .i64 m.f1, .int .i64 m.f2, .int .i64 m.f3, .int .i64 m.f4, .bool m.f5]] w fun e w' => e = .panicked unfit ∧ Below w0.heap.size w0 w' := by
  obtain ⟨hg1, hg2⟩ := hg
  have HB0 : Aside0 (Below w0.heap.size w0 w) := ⟨hw.bel⟩
  obtain ⟨cv, hkc, hcR⟩ := hw.row
  have hklt := hw.klt
  obtain ⟨W1, hW1⟩ : ∃ W1, W1 = w.alloc (.cells #[.int .i64 m.f0, .int .i64 m.f1, .int .i64 m.f2, .int .i64 m.f3, .int .i64 m.f4, .bool m.f5] 52) := ⟨_, rfl⟩
  have HM : Aside0 (W1.heap[w.heap.size]? = some (.cells #[.int .i64 m.f0, .int .i64 m.f1, .int .i64 m.f2, .int .i64 m.f3, .int .i64 m.f4, .bool m.f5] 52 (0, 0))) := ⟨by rw [hW1]; exact Go.heap_alloc_new _ _⟩
  have HK1 : Aside0 (W1.heap[w0.heap.size]? = some (walkO g A n c s cv)) := ⟨by rw [hW1]; exact blk_alloc hkc _⟩
  have HB1 : Aside0 (Below w.heap.size w W1) := ⟨by rw [hW1]; exact below_alloc (Below.refl _ _) _⟩
  have HW1 : Aside0 (Walk w0 tb TB g A n c W1 s cs) := ⟨hw.grow HB1.out⟩
  have HLT : Aside0 (w.heap.size < W1.heap.size) := ⟨blk_lt HM.out⟩
  have HS : Aside0 (∀ W', Below W1.heap.size W1 W' → W'.cell? ⟨w.heap.size, 0, none⟩ = some (.int .i64 m.f0) ∧ W'.cell? ⟨w.heap.size, 1, none⟩ = some (.int .i64 m.f1) ∧ W'.cell? ⟨w.heap.size, 2, none⟩ = some (.int .i64 m.f2) ∧ W'.cell? ⟨w.heap.size, 3, none⟩ = some (.int .i64 m.f3) ∧ W'.cell? ⟨w.heap.size, 4, none⟩ = some (.int .i64 m.f4) ∧ W'.cell? ⟨w.heap.size, 5, none⟩ = some (.bool m.f5) ∧ W'.cell? ⟨w0.heap.size, 0, none⟩ = some (.int .i64 g) ∧ W'.cell? ⟨w0.heap.size, 1, none⟩ = some (.slice A n c) ∧ W'.cell? ⟨w0.heap.size, 2, none⟩ = some (.string s) ∧ W'.cell? ⟨w0.heap.size, 3, none⟩ = some (cv) ∧ Below W1.heap.size W1 W') :=
    ⟨fun W' hb => ⟨(blk_cell (blk_below HM.out hb) 0).trans rfl, (blk_cell (blk_below HM.out hb) 1).trans rfl, (blk_cell (blk_below HM.out hb) 2).trans rfl, (blk_cell (blk_below HM.out hb) 3).trans rfl, (blk_cell (blk_below HM.out hb) 4).trans rfl, (blk_cell (blk_below HM.out hb) 5).trans rfl, (blk_cell (blk_below HK1.out hb) 0).trans rfl, (blk_cell (blk_below HK1.out hb) 1).trans rfl, (blk_cell (blk_below HK1.out hb) 2).trans rfl, (blk_cell (blk_below HK1.out hb) 3).trans rfl, hb⟩⟩
  have HT : Aside0 (∀ W', KeepBut W1 W' w0.heap.size none → W'.cell? ⟨w.heap.size, 0, none⟩ = some (.int .i64 m.f0) ∧ W'.cell? ⟨w.heap.size, 1, none⟩ = some (.int .i64 m.f1) ∧ W'.cell? ⟨w.heap.size, 2, none⟩ = some (.int .i64 m.f2) ∧ W'.cell? ⟨w.heap.size, 3, none⟩ = some (.int .i64 m.f3) ∧ W'.cell? ⟨w.heap.size, 4, none⟩ = some (.int .i64 m.f4) ∧ W'.cell? ⟨w.heap.size, 5, none⟩ = some (.bool m.f5) ∧ KeepBut W1 W' w0.heap.size none) :=
    ⟨fun W' hb => ⟨keep_cell hb ((blk_cell HM.out 0).trans rfl) (by show w.heap.size ≠ w0.heap.size; omega), keep_cell hb ((blk_cell HM.out 1).trans rfl) (by show w.heap.size ≠ w0.heap.size; omega), keep_cell hb ((blk_cell HM.out 2).trans rfl) (by show w.heap.size ≠ w0.heap.size; omega), keep_cell hb ((blk_cell HM.out 3).trans rfl) (by show w.heap.size ≠ w0.heap.size; omega), keep_cell hb ((blk_cell HM.out 4).trans rfl) (by show w.heap.size ≠ w0.heap.size; omega), keep_cell hb ((blk_cell HM.out 5).trans rfl) (by show w.heap.size ≠ w0.heap.size; omega), hb⟩⟩
  clear hw hkc hcR
  go_enter Try.func69, Try.ntmps69
  go_wp2_with fail
  rw [← hW1]
  clear hW1
  have m1 := (HS.out W1 (Below.refl _ _)).2.1
  have m2 := (HS.out W1 (Below.refl _ _)).2.2.1
  have q0 := (HS.out W1 (Below.refl _ _)).2.2.2.2.2.2.1
  have q2 := (HS.out W1 (Below.refl _ _)).2.2.2.2.2.2.2.2.1
  have kw : IntKind.i64.wrap (2 * g) = 2 * g := IntWalk.i64_in _ (by omega)
  have hdh2 : decide (m.f1 ≤ s.size) = false := decide_eq_false (by omega)
  refine wp_region_last _ (by kernel_rfl) (by kernel_rfl) rfl ?_
  simp only [hushLast, hush]
  repeat (go_big_quiet_step (fail))
  refine wpQuiet_nil ?_
  intro w' hw'
  obtain ⟨nq, rfl⟩ := hw'
  refine ⟨by simp only [Region.wanted], ?_⟩
  go_wp2_with (go_at_call 65; refine (ask_false _).mono ?_; rintro e w' ⟨rfl, rfl⟩)
  exact ⟨rfl, rfl, below_step HB0.out (below_step HB1.out (by repeat (first | (with_reducible exact Below.refl _ _) | apply below_alloc | apply pw_below_drewN | apply below_drew1 | exact Below.refl _ _)))⟩
set_option maxHeartbeats 800000 in
theorem insertPair_no2 (w0 : World) (tb : Nat) (TB : Option Obj) (g : Int) (A : Option Addr) (n c : Nat) (s : ByteArray) (cs : List S59) (m : S52) (w : World) (hw : Walk w0 tb TB g A n c w s cs) (hg : 1 ≤ g ∧ g ≤ 8) (hs : s.size ≤ 100000) (h1 : 0 ≤ m.f1) (h2 : m.f1 ≤ s.size) (h3 : ¬ 0 ≤ m.f2) :
    Calls Try.prog 69 #[.pointer (some ⟨w0.heap.size, 0, none⟩), .agg #[.int .i64 m.f0, .int .i64 m.f1, .int .i64 m.f2, .int .i64 m.f3, .int .i64 m.f4, .bool m.f5]] w fun e w' => e = .panicked unfit ∧ Below w0.heap.size w0 w' := by
  obtain ⟨hg1, hg2⟩ := hg
  have HB0 : Aside0 (Below w0.heap.size w0 w) := ⟨hw.bel⟩
  obtain ⟨cv, hkc, hcR⟩ := hw.row
  have hklt := hw.klt
  obtain ⟨W1, hW1⟩ : ∃ W1, W1 = w.alloc (.cells #[.int .i64 m.f0, .int .i64 m.f1, .int .i64 m.f2, .int .i64 m.f3, .int .i64 m.f4, .bool m.f5] 52) := ⟨_, rfl⟩
  have HM : Aside0 (W1.heap[w.heap.size]? = some (.cells #[.int .i64 m.f0, .int .i64 m.f1, .int .i64 m.f2, .int .i64 m.f3, .int .i64 m.f4, .bool m.f5] 52 (0, 0))) := ⟨by rw [hW1]; exact Go.heap_alloc_new _ _⟩
  have HK1 : Aside0 (W1.heap[w0.heap.size]? = some (walkO g A n c s cv)) := ⟨by rw [hW1]; exact blk_alloc hkc _⟩
  have HB1 : Aside0 (Below w.heap.size w W1) := ⟨by rw [hW1]; exact below_alloc (Below.refl _ _) _⟩
  have HW1 : Aside0 (Walk w0 tb TB g A n c W1 s cs) := ⟨hw.grow HB1.out⟩
  have HLT : Aside0 (w.heap.size < W1.heap.size) := ⟨blk_lt HM.out⟩
  have HS : Aside0 (∀ W', Below W1.heap.size W1 W' → W'.cell? ⟨w.heap.size, 0, none⟩ = some (.int .i64 m.f0) ∧ W'.cell? ⟨w.heap.size, 1, none⟩ = some (.int .i64 m.f1) ∧ W'.cell? ⟨w.heap.size, 2, none⟩ = some (.int .i64 m.f2) ∧ W'.cell? ⟨w.heap.size, 3, none⟩ = some (.int .i64 m.f3) ∧ W'.cell? ⟨w.heap.size, 4, none⟩ = some (.int .i64 m.f4) ∧ W'.cell? ⟨w.heap.size, 5, none⟩ = some (.bool m.f5) ∧ W'.cell? ⟨w0.heap.size, 0, none⟩ = some (.int .i64 g) ∧ W'.cell? ⟨w0.heap.size, 1, none⟩ = some (.slice A n c) ∧ W'.cell? ⟨w0.heap.size, 2, none⟩ = some (.string s) ∧ W'.cell? ⟨w0.heap.size, 3, none⟩ = some (cv) ∧ Below W1.heap.size W1 W') :=
    ⟨fun W' hb => ⟨(blk_cell (blk_below HM.out hb) 0).trans rfl, (blk_cell (blk_below HM.out hb) 1).trans rfl, (blk_cell (blk_below HM.out hb) 2).trans rfl, (blk_cell (blk_below HM.out hb) 3).trans rfl, (blk_cell (blk_below HM.out hb) 4).trans rfl, (blk_cell (blk_below HM.out hb) 5).trans rfl, (blk_cell (blk_below HK1.out hb) 0).trans rfl, (blk_cell (blk_below HK1.out hb) 1).trans rfl, (blk_cell (blk_below HK1.out hb) 2).trans rfl, (blk_cell (blk_below HK1.out hb) 3).trans rfl, hb⟩⟩
  have HT : Aside0 (∀ W', KeepBut W1 W' w0.heap.size none → W'.cell? ⟨w.heap.size, 0, none⟩ = some (.int .i64 m.f0) ∧ W'.cell? ⟨w.heap.size, 1, none⟩ = some (.int .i64 m.f1) ∧ W'.cell? ⟨w.heap.size, 2, none⟩ = some (.int .i64 m.f2) ∧ W'.cell? ⟨w.heap.size, 3, none⟩ = some (.int .i64 m.f3) ∧ W'.cell? ⟨w.heap.size, 4, none⟩ = some (.int .i64 m.f4) ∧ W'.cell? ⟨w.heap.size, 5, none⟩ = some (.bool m.f5) ∧ KeepBut W1 W' w0.heap.size none) :=
    ⟨fun W' hb => ⟨keep_cell hb ((blk_cell HM.out 0).trans rfl) (by show w.heap.size ≠ w0.heap.size; omega), keep_cell hb ((blk_cell HM.out 1).trans rfl) (by show w.heap.size ≠ w0.heap.size; omega), keep_cell hb ((blk_cell HM.out 2).trans rfl) (by show w.heap.size ≠ w0.heap.size; omega), keep_cell hb ((blk_cell HM.out 3).trans rfl) (by show w.heap.size ≠ w0.heap.size; omega), keep_cell hb ((blk_cell HM.out 4).trans rfl) (by show w.heap.size ≠ w0.heap.size; omega), keep_cell hb ((blk_cell HM.out 5).trans rfl) (by show w.heap.size ≠ w0.heap.size; omega), hb⟩⟩
  clear hw hkc hcR
  go_enter Try.func69, Try.ntmps69
  go_wp2_with fail
  rw [← hW1]
  clear hW1
  have m1 := (HS.out W1 (Below.refl _ _)).2.1
  have m2 := (HS.out W1 (Below.refl _ _)).2.2.1
  have q0 := (HS.out W1 (Below.refl _ _)).2.2.2.2.2.2.1
  have q2 := (HS.out W1 (Below.refl _ _)).2.2.2.2.2.2.2.2.1
  have kw : IntKind.i64.wrap (2 * g) = 2 * g := IntWalk.i64_in _ (by omega)
  have hdh3 : decide (0 ≤ m.f2) = false := decide_eq_false (by omega)
  refine wp_region_last _ (by kernel_rfl) (by kernel_rfl) rfl ?_
  simp only [hushLast, hush]
  repeat (go_big_quiet_step (fail))
  refine wpQuiet_nil ?_
  intro w' hw'
  obtain ⟨nq, rfl⟩ := hw'
  refine ⟨by simp only [Region.wanted], ?_⟩
  go_wp2_with (go_at_call 65; refine (ask_false _).mono ?_; rintro e w' ⟨rfl, rfl⟩)
  exact ⟨rfl, rfl, below_step HB0.out (below_step HB1.out (by repeat (first | (with_reducible exact Below.refl _ _) | apply below_alloc | apply pw_below_drewN | apply below_drew1 | exact Below.refl _ _)))⟩
set_option maxHeartbeats 800000 in
theorem insertPair_no3 (w0 : World) (tb : Nat) (TB : Option Obj) (g : Int) (A : Option Addr) (n c : Nat) (s : ByteArray) (cs : List S59) (m : S52) (w : World) (hw : Walk w0 tb TB g A n c w s cs) (hg : 1 ≤ g ∧ g ≤ 8) (hs : s.size ≤ 100000) (h1 : 0 ≤ m.f1) (h2 : m.f1 ≤ s.size) (h3 : 0 ≤ m.f2) (h4 : ¬ m.f2 < 2 * g) :
    Calls Try.prog 69 #[.pointer (some ⟨w0.heap.size, 0, none⟩), .agg #[.int .i64 m.f0, .int .i64 m.f1, .int .i64 m.f2, .int .i64 m.f3, .int .i64 m.f4, .bool m.f5]] w fun e w' => e = .panicked unfit ∧ Below w0.heap.size w0 w' := by
  obtain ⟨hg1, hg2⟩ := hg
  have HB0 : Aside0 (Below w0.heap.size w0 w) := ⟨hw.bel⟩
  obtain ⟨cv, hkc, hcR⟩ := hw.row
  have hklt := hw.klt
  obtain ⟨W1, hW1⟩ : ∃ W1, W1 = w.alloc (.cells #[.int .i64 m.f0, .int .i64 m.f1, .int .i64 m.f2, .int .i64 m.f3, .int .i64 m.f4, .bool m.f5] 52) := ⟨_, rfl⟩
  have HM : Aside0 (W1.heap[w.heap.size]? = some (.cells #[.int .i64 m.f0, .int .i64 m.f1, .int .i64 m.f2, .int .i64 m.f3, .int .i64 m.f4, .bool m.f5] 52 (0, 0))) := ⟨by rw [hW1]; exact Go.heap_alloc_new _ _⟩
  have HK1 : Aside0 (W1.heap[w0.heap.size]? = some (walkO g A n c s cv)) := ⟨by rw [hW1]; exact blk_alloc hkc _⟩
  have HB1 : Aside0 (Below w.heap.size w W1) := ⟨by rw [hW1]; exact below_alloc (Below.refl _ _) _⟩
  have HW1 : Aside0 (Walk w0 tb TB g A n c W1 s cs) := ⟨hw.grow HB1.out⟩
  have HLT : Aside0 (w.heap.size < W1.heap.size) := ⟨blk_lt HM.out⟩
  have HS : Aside0 (∀ W', Below W1.heap.size W1 W' → W'.cell? ⟨w.heap.size, 0, none⟩ = some (.int .i64 m.f0) ∧ W'.cell? ⟨w.heap.size, 1, none⟩ = some (.int .i64 m.f1) ∧ W'.cell? ⟨w.heap.size, 2, none⟩ = some (.int .i64 m.f2) ∧ W'.cell? ⟨w.heap.size, 3, none⟩ = some (.int .i64 m.f3) ∧ W'.cell? ⟨w.heap.size, 4, none⟩ = some (.int .i64 m.f4) ∧ W'.cell? ⟨w.heap.size, 5, none⟩ = some (.bool m.f5) ∧ W'.cell? ⟨w0.heap.size, 0, none⟩ = some (.int .i64 g) ∧ W'.cell? ⟨w0.heap.size, 1, none⟩ = some (.slice A n c) ∧ W'.cell? ⟨w0.heap.size, 2, none⟩ = some (.string s) ∧ W'.cell? ⟨w0.heap.size, 3, none⟩ = some (cv) ∧ Below W1.heap.size W1 W') :=
    ⟨fun W' hb => ⟨(blk_cell (blk_below HM.out hb) 0).trans rfl, (blk_cell (blk_below HM.out hb) 1).trans rfl, (blk_cell (blk_below HM.out hb) 2).trans rfl, (blk_cell (blk_below HM.out hb) 3).trans rfl, (blk_cell (blk_below HM.out hb) 4).trans rfl, (blk_cell (blk_below HM.out hb) 5).trans rfl, (blk_cell (blk_below HK1.out hb) 0).trans rfl, (blk_cell (blk_below HK1.out hb) 1).trans rfl, (blk_cell (blk_below HK1.out hb) 2).trans rfl, (blk_cell (blk_below HK1.out hb) 3).trans rfl, hb⟩⟩
  have HT : Aside0 (∀ W', KeepBut W1 W' w0.heap.size none → W'.cell? ⟨w.heap.size, 0, none⟩ = some (.int .i64 m.f0) ∧ W'.cell? ⟨w.heap.size, 1, none⟩ = some (.int .i64 m.f1) ∧ W'.cell? ⟨w.heap.size, 2, none⟩ = some (.int .i64 m.f2) ∧ W'.cell? ⟨w.heap.size, 3, none⟩ = some (.int .i64 m.f3) ∧ W'.cell? ⟨w.heap.size, 4, none⟩ = some (.int .i64 m.f4) ∧ W'.cell? ⟨w.heap.size, 5, none⟩ = some (.bool m.f5) ∧ KeepBut W1 W' w0.heap.size none) :=
    ⟨fun W' hb => ⟨keep_cell hb ((blk_cell HM.out 0).trans rfl) (by show w.heap.size ≠ w0.heap.size; omega), keep_cell hb ((blk_cell HM.out 1).trans rfl) (by show w.heap.size ≠ w0.heap.size; omega), keep_cell hb ((blk_cell HM.out 2).trans rfl) (by show w.heap.size ≠ w0.heap.size; omega), keep_cell hb ((blk_cell HM.out 3).trans rfl) (by show w.heap.size ≠ w0.heap.size; omega), keep_cell hb ((blk_cell HM.out 4).trans rfl) (by show w.heap.size ≠ w0.heap.size; omega), keep_cell hb ((blk_cell HM.out 5).trans rfl) (by show w.heap.size ≠ w0.heap.size; omega), hb⟩⟩
  clear hw hkc hcR
  go_enter Try.func69, Try.ntmps69
  go_wp2_with fail
  rw [← hW1]
  clear hW1
  have m1 := (HS.out W1 (Below.refl _ _)).2.1
  have m2 := (HS.out W1 (Below.refl _ _)).2.2.1
  have q0 := (HS.out W1 (Below.refl _ _)).2.2.2.2.2.2.1
  have q2 := (HS.out W1 (Below.refl _ _)).2.2.2.2.2.2.2.2.1
  have kw : IntKind.i64.wrap (2 * g) = 2 * g := IntWalk.i64_in _ (by omega)
  have hdh4 : decide (m.f2 < 2 * g) = false := decide_eq_false (by omega)
  refine wp_region_last _ (by kernel_rfl) (by kernel_rfl) rfl ?_
  simp only [hushLast, hush]
  repeat (go_big_quiet_step (fail))
  refine wpQuiet_nil ?_
  intro w' hw'
  obtain ⟨nq, rfl⟩ := hw'
  refine ⟨by simp only [Region.wanted], ?_⟩
  go_wp2_with (go_at_call 65; refine (ask_false _).mono ?_; rintro e w' ⟨rfl, rfl⟩)
  exact ⟨rfl, rfl, below_step HB0.out (below_step HB1.out (by repeat (first | (with_reducible exact Below.refl _ _) | apply below_alloc | apply pw_below_drewN | apply below_drew1 | exact Below.refl _ _)))⟩
theorem inverted_to (a b : Int) (r : Bool) (h : canc a b = r) (w : World) : Calls Try.prog 58 #[.int .u8 a, .int .u8 b] w fun e w' => e = .returned (.bool r) ∧ w' = w := (inverted_calls a b w).mono fun _ _ h' => ⟨by rw [h'.1, h], h'.2.symm⟩
set_option maxHeartbeats 800000 in
theorem deletePair_yes (w0 : World) (tb : Nat) (TB : Option Obj) (g : Int) (A : Option Addr) (n c : Nat) (s : ByteArray) (cs : List S59) (m : S52) (w : World) (hw : Walk w0 tb TB g A n c w s cs) (hs : s.size ≤ 100000) (h1 : 0 ≤ m.f1) (h2 : m.f1 ≤ (s.size : Int) - 2) (hcan : canc (bt s m.f1) (bt s (m.f1 + 1)) = true) :
    Calls Try.prog 70 #[.pointer (some ⟨w0.heap.size, 0, none⟩), .agg #[.int .i64 m.f0, .int .i64 m.f1, .int .i64 m.f2, .int .i64 m.f3, .int .i64 m.f4, .bool m.f5]] w fun e w' => e = .returned (.tuple #[]) ∧ Walk w0 tb TB g A n c w' (repl s m.f1.toNat 2 ⟨#[]⟩) cs := by
  obtain ⟨cv, hkc, hcR⟩ := hw.row
  have hklt := hw.klt
  obtain ⟨W1, hW1⟩ : ∃ W1, W1 = w.alloc (.cells #[.int .i64 m.f0, .int .i64 m.f1, .int .i64 m.f2, .int .i64 m.f3, .int .i64 m.f4, .bool m.f5] 52) := ⟨_, rfl⟩
  have HM : Aside0 (W1.heap[w.heap.size]? = some (.cells #[.int .i64 m.f0, .int .i64 m.f1, .int .i64 m.f2, .int .i64 m.f3, .int .i64 m.f4, .bool m.f5] 52 (0, 0))) := ⟨by rw [hW1]; exact Go.heap_alloc_new _ _⟩
  have HK1 : Aside0 (W1.heap[w0.heap.size]? = some (walkO g A n c s cv)) := ⟨by rw [hW1]; exact blk_alloc hkc _⟩
  have HB1 : Aside0 (Below w.heap.size w W1) := ⟨by rw [hW1]; exact below_alloc (Below.refl _ _) _⟩
  have HW1 : Aside0 (Walk w0 tb TB g A n c W1 s cs) := ⟨hw.grow HB1.out⟩
  have HLT : Aside0 (w.heap.size < W1.heap.size) := ⟨blk_lt HM.out⟩
  have HS : Aside0 (∀ W', Below W1.heap.size W1 W' → W'.cell? ⟨w.heap.size, 0, none⟩ = some (.int .i64 m.f0) ∧ W'.cell? ⟨w.heap.size, 1, none⟩ = some (.int .i64 m.f1) ∧ W'.cell? ⟨w.heap.size, 2, none⟩ = some (.int .i64 m.f2) ∧ W'.cell? ⟨w.heap.size, 3, none⟩ = some (.int .i64 m.f3) ∧ W'.cell? ⟨w.heap.size, 4, none⟩ = some (.int .i64 m.f4) ∧ W'.cell? ⟨w.heap.size, 5, none⟩ = some (.bool m.f5) ∧ W'.cell? ⟨w0.heap.size, 0, none⟩ = some (.int .i64 g) ∧ W'.cell? ⟨w0.heap.size, 1, none⟩ = some (.slice A n c) ∧ W'.cell? ⟨w0.heap.size, 2, none⟩ = some (.string s) ∧ W'.cell? ⟨w0.heap.size, 3, none⟩ = some (cv) ∧ Below W1.heap.size W1 W') :=
    ⟨fun W' hb => ⟨(blk_cell (blk_below HM.out hb) 0).trans rfl, (blk_cell (blk_below HM.out hb) 1).trans rfl, (blk_cell (blk_below HM.out hb) 2).trans rfl, (blk_cell (blk_below HM.out hb) 3).trans rfl, (blk_cell (blk_below HM.out hb) 4).trans rfl, (blk_cell (blk_below HM.out hb) 5).trans rfl, (blk_cell (blk_below HK1.out hb) 0).trans rfl, (blk_cell (blk_below HK1.out hb) 1).trans rfl, (blk_cell (blk_below HK1.out hb) 2).trans rfl, (blk_cell (blk_below HK1.out hb) 3).trans rfl, hb⟩⟩
  have HT : Aside0 (∀ W', KeepBut W1 W' w0.heap.size none → W'.cell? ⟨w.heap.size, 0, none⟩ = some (.int .i64 m.f0) ∧ W'.cell? ⟨w.heap.size, 1, none⟩ = some (.int .i64 m.f1) ∧ W'.cell? ⟨w.heap.size, 2, none⟩ = some (.int .i64 m.f2) ∧ W'.cell? ⟨w.heap.size, 3, none⟩ = some (.int .i64 m.f3) ∧ W'.cell? ⟨w.heap.size, 4, none⟩ = some (.int .i64 m.f4) ∧ W'.cell? ⟨w.heap.size, 5, none⟩ = some (.bool m.f5) ∧ KeepBut W1 W' w0.heap.size none) :=
    ⟨fun W' hb => ⟨keep_cell hb ((blk_cell HM.out 0).trans rfl) (by show w.heap.size ≠ w0.heap.size; omega), keep_cell hb ((blk_cell HM.out 1).trans rfl) (by show w.heap.size ≠ w0.heap.size; omega), keep_cell hb ((blk_cell HM.out 2).trans rfl) (by show w.heap.size ≠ w0.heap.size; omega), keep_cell hb ((blk_cell HM.out 3).trans rfl) (by show w.heap.size ≠ w0.heap.size; omega), keep_cell hb ((blk_cell HM.out 4).trans rfl) (by show w.heap.size ≠ w0.heap.size; omega), keep_cell hb ((blk_cell HM.out 5).trans rfl) (by show w.heap.size ≠ w0.heap.size; omega), hb⟩⟩
  clear hw hkc hcR
  go_enter Try.func70, Try.ntmps70
  go_wp2_with fail
  rw [← hW1]
  clear hW1
  have m1 := (HS.out W1 (Below.refl _ _)).2.1
  have q2 := (HS.out W1 (Below.refl _ _)).2.2.2.2.2.2.2.2.1
  have kw : IntKind.i64.wrap ((s.size : Int) - 2) = (s.size : Int) - 2 := IntWalk.i64_in _ (by omega)
  have kw1 : IntKind.i64.wrap (m.f1 + 1) = m.f1 + 1 := IntWalk.i64_in _ (by omega)
  have i0 : m.f1 < s.size := by omega
  have i1 : m.f1 + 1 < s.size := by omega
  have i2 : 0 ≤ m.f1 + 1 := by omega
  have b1 := bt_at s m.f1
  have b2 := bt_at s (m.f1 + 1)
  go_quiet (first | (go_at_call 65; exact Calls.quiet_of_same (ask_true' _)) | (go_at_call 58; exact Calls.quiet_of_same (inverted_to _ _ _ hcan _)))
  go_wp2_with (go_at_call 75; refine (replace_walk w0 tb TB g A n c s cs m.f1 2 (⟨#[]⟩ : ByteArray) _ (HW1.out.grow (by repeat (first | (with_reducible exact Below.refl _ _) | apply below_alloc | apply pw_below_drewN | apply below_drew1 | exact Below.refl _ _))) h1 (by omega) (by omega) (by omega) (by decide) (by have : (⟨#[]⟩ : ByteArray).size = 0 := rfl; omega)).mono ?_; rintro e w' ⟨rfl, hWn, hKc⟩; have HWn := Aside0.mk hWn; clear hWn)
  go_end0
  exact ⟨rfl, HWn.out⟩
set_option maxHeartbeats 800000 in
theorem deletePair_no0 (w0 : World) (tb : Nat) (TB : Option Obj) (g : Int) (A : Option Addr) (n c : Nat) (s : ByteArray) (cs : List S59) (m : S52) (w : World) (hw : Walk w0 tb TB g A n c w s cs) (hs : s.size ≤ 100000) (h1 : ¬ 0 ≤ m.f1) :
    Calls Try.prog 70 #[.pointer (some ⟨w0.heap.size, 0, none⟩), .agg #[.int .i64 m.f0, .int .i64 m.f1, .int .i64 m.f2, .int .i64 m.f3, .int .i64 m.f4, .bool m.f5]] w fun e w' => e = .panicked unfit ∧ Below w0.heap.size w0 w' := by
  have HB0 : Aside0 (Below w0.heap.size w0 w) := ⟨hw.bel⟩
  obtain ⟨cv, hkc, hcR⟩ := hw.row
  have hklt := hw.klt
  obtain ⟨W1, hW1⟩ : ∃ W1, W1 = w.alloc (.cells #[.int .i64 m.f0, .int .i64 m.f1, .int .i64 m.f2, .int .i64 m.f3, .int .i64 m.f4, .bool m.f5] 52) := ⟨_, rfl⟩
  have HM : Aside0 (W1.heap[w.heap.size]? = some (.cells #[.int .i64 m.f0, .int .i64 m.f1, .int .i64 m.f2, .int .i64 m.f3, .int .i64 m.f4, .bool m.f5] 52 (0, 0))) := ⟨by rw [hW1]; exact Go.heap_alloc_new _ _⟩
  have HK1 : Aside0 (W1.heap[w0.heap.size]? = some (walkO g A n c s cv)) := ⟨by rw [hW1]; exact blk_alloc hkc _⟩
  have HB1 : Aside0 (Below w.heap.size w W1) := ⟨by rw [hW1]; exact below_alloc (Below.refl _ _) _⟩
  have HW1 : Aside0 (Walk w0 tb TB g A n c W1 s cs) := ⟨hw.grow HB1.out⟩
  have HLT : Aside0 (w.heap.size < W1.heap.size) := ⟨blk_lt HM.out⟩
  have HS : Aside0 (∀ W', Below W1.heap.size W1 W' → W'.cell? ⟨w.heap.size, 0, none⟩ = some (.int .i64 m.f0) ∧ W'.cell? ⟨w.heap.size, 1, none⟩ = some (.int .i64 m.f1) ∧ W'.cell? ⟨w.heap.size, 2, none⟩ = some (.int .i64 m.f2) ∧ W'.cell? ⟨w.heap.size, 3, none⟩ = some (.int .i64 m.f3) ∧ W'.cell? ⟨w.heap.size, 4, none⟩ = some (.int .i64 m.f4) ∧ W'.cell? ⟨w.heap.size, 5, none⟩ = some (.bool m.f5) ∧ W'.cell? ⟨w0.heap.size, 0, none⟩ = some (.int .i64 g) ∧ W'.cell? ⟨w0.heap.size, 1, none⟩ = some (.slice A n c) ∧ W'.cell? ⟨w0.heap.size, 2, none⟩ = some (.string s) ∧ W'.cell? ⟨w0.heap.size, 3, none⟩ = some (cv) ∧ Below W1.heap.size W1 W') :=
    ⟨fun W' hb => ⟨(blk_cell (blk_below HM.out hb) 0).trans rfl, (blk_cell (blk_below HM.out hb) 1).trans rfl, (blk_cell (blk_below HM.out hb) 2).trans rfl, (blk_cell (blk_below HM.out hb) 3).trans rfl, (blk_cell (blk_below HM.out hb) 4).trans rfl, (blk_cell (blk_below HM.out hb) 5).trans rfl, (blk_cell (blk_below HK1.out hb) 0).trans rfl, (blk_cell (blk_below HK1.out hb) 1).trans rfl, (blk_cell (blk_below HK1.out hb) 2).trans rfl, (blk_cell (blk_below HK1.out hb) 3).trans rfl, hb⟩⟩
  have HT : Aside0 (∀ W', KeepBut W1 W' w0.heap.size none → W'.cell? ⟨w.heap.size, 0, none⟩ = some (.int .i64 m.f0) ∧ W'.cell? ⟨w.heap.size, 1, none⟩ = some (.int .i64 m.f1) ∧ W'.cell? ⟨w.heap.size, 2, none⟩ = some (.int .i64 m.f2) ∧ W'.cell? ⟨w.heap.size, 3, none⟩ = some (.int .i64 m.f3) ∧ W'.cell? ⟨w.heap.size, 4, none⟩ = some (.int .i64 m.f4) ∧ W'.cell? ⟨w.heap.size, 5, none⟩ = some (.bool m.f5) ∧ KeepBut W1 W' w0.heap.size none) :=
    ⟨fun W' hb => ⟨keep_cell hb ((blk_cell HM.out 0).trans rfl) (by show w.heap.size ≠ w0.heap.size; omega), keep_cell hb ((blk_cell HM.out 1).trans rfl) (by show w.heap.size ≠ w0.heap.size; omega), keep_cell hb ((blk_cell HM.out 2).trans rfl) (by show w.heap.size ≠ w0.heap.size; omega), keep_cell hb ((blk_cell HM.out 3).trans rfl) (by show w.heap.size ≠ w0.heap.size; omega), keep_cell hb ((blk_cell HM.out 4).trans rfl) (by show w.heap.size ≠ w0.heap.size; omega), keep_cell hb ((blk_cell HM.out 5).trans rfl) (by show w.heap.size ≠ w0.heap.size; omega), hb⟩⟩
  clear hw hkc hcR
  go_enter Try.func70, Try.ntmps70
  go_wp2_with fail
  rw [← hW1]
  clear hW1
  have m1 := (HS.out W1 (Below.refl _ _)).2.1
  have q2 := (HS.out W1 (Below.refl _ _)).2.2.2.2.2.2.2.2.1
  have hdh1 : decide (0 ≤ m.f1) = false := decide_eq_false (by omega)
  refine wp_region_last _ (by kernel_rfl) (by kernel_rfl) rfl ?_
  simp only [hushLast, hush]
  repeat (go_big_quiet_step (fail))
  refine wpQuiet_nil ?_
  intro w' hw'
  obtain ⟨nq, rfl⟩ := hw'
  refine ⟨by simp only [Region.wanted], ?_⟩
  go_wp2_with (go_at_call 65; refine (ask_false _).mono ?_; rintro e w' ⟨rfl, rfl⟩)
  exact ⟨rfl, rfl, below_step HB0.out (below_step HB1.out (by repeat (first | (with_reducible exact Below.refl _ _) | apply below_alloc | apply pw_below_drewN | apply below_drew1 | exact Below.refl _ _)))⟩
set_option maxHeartbeats 800000 in
theorem deletePair_no1 (w0 : World) (tb : Nat) (TB : Option Obj) (g : Int) (A : Option Addr) (n c : Nat) (s : ByteArray) (cs : List S59) (m : S52) (w : World) (hw : Walk w0 tb TB g A n c w s cs) (hs : s.size ≤ 100000) (h1 : 0 ≤ m.f1) (h2 : ¬ m.f1 ≤ s.size - 2) :
    Calls Try.prog 70 #[.pointer (some ⟨w0.heap.size, 0, none⟩), .agg #[.int .i64 m.f0, .int .i64 m.f1, .int .i64 m.f2, .int .i64 m.f3, .int .i64 m.f4, .bool m.f5]] w fun e w' => e = .panicked unfit ∧ Below w0.heap.size w0 w' := by
  have HB0 : Aside0 (Below w0.heap.size w0 w) := ⟨hw.bel⟩
  obtain ⟨cv, hkc, hcR⟩ := hw.row
  have hklt := hw.klt
  obtain ⟨W1, hW1⟩ : ∃ W1, W1 = w.alloc (.cells #[.int .i64 m.f0, .int .i64 m.f1, .int .i64 m.f2, .int .i64 m.f3, .int .i64 m.f4, .bool m.f5] 52) := ⟨_, rfl⟩
  have HM : Aside0 (W1.heap[w.heap.size]? = some (.cells #[.int .i64 m.f0, .int .i64 m.f1, .int .i64 m.f2, .int .i64 m.f3, .int .i64 m.f4, .bool m.f5] 52 (0, 0))) := ⟨by rw [hW1]; exact Go.heap_alloc_new _ _⟩
  have HK1 : Aside0 (W1.heap[w0.heap.size]? = some (walkO g A n c s cv)) := ⟨by rw [hW1]; exact blk_alloc hkc _⟩
  have HB1 : Aside0 (Below w.heap.size w W1) := ⟨by rw [hW1]; exact below_alloc (Below.refl _ _) _⟩
  have HW1 : Aside0 (Walk w0 tb TB g A n c W1 s cs) := ⟨hw.grow HB1.out⟩
  have HLT : Aside0 (w.heap.size < W1.heap.size) := ⟨blk_lt HM.out⟩
  have HS : Aside0 (∀ W', Below W1.heap.size W1 W' → W'.cell? ⟨w.heap.size, 0, none⟩ = some (.int .i64 m.f0) ∧ W'.cell? ⟨w.heap.size, 1, none⟩ = some (.int .i64 m.f1) ∧ W'.cell? ⟨w.heap.size, 2, none⟩ = some (.int .i64 m.f2) ∧ W'.cell? ⟨w.heap.size, 3, none⟩ = some (.int .i64 m.f3) ∧ W'.cell? ⟨w.heap.size, 4, none⟩ = some (.int .i64 m.f4) ∧ W'.cell? ⟨w.heap.size, 5, none⟩ = some (.bool m.f5) ∧ W'.cell? ⟨w0.heap.size, 0, none⟩ = some (.int .i64 g) ∧ W'.cell? ⟨w0.heap.size, 1, none⟩ = some (.slice A n c) ∧ W'.cell? ⟨w0.heap.size, 2, none⟩ = some (.string s) ∧ W'.cell? ⟨w0.heap.size, 3, none⟩ = some (cv) ∧ Below W1.heap.size W1 W') :=
    ⟨fun W' hb => ⟨(blk_cell (blk_below HM.out hb) 0).trans rfl, (blk_cell (blk_below HM.out hb) 1).trans rfl, (blk_cell (blk_below HM.out hb) 2).trans rfl, (blk_cell (blk_below HM.out hb) 3).trans rfl, (blk_cell (blk_below HM.out hb) 4).trans rfl, (blk_cell (blk_below HM.out hb) 5).trans rfl, (blk_cell (blk_below HK1.out hb) 0).trans rfl, (blk_cell (blk_below HK1.out hb) 1).trans rfl, (blk_cell (blk_below HK1.out hb) 2).trans rfl, (blk_cell (blk_below HK1.out hb) 3).trans rfl, hb⟩⟩
  have HT : Aside0 (∀ W', KeepBut W1 W' w0.heap.size none → W'.cell? ⟨w.heap.size, 0, none⟩ = some (.int .i64 m.f0) ∧ W'.cell? ⟨w.heap.size, 1, none⟩ = some (.int .i64 m.f1) ∧ W'.cell? ⟨w.heap.size, 2, none⟩ = some (.int .i64 m.f2) ∧ W'.cell? ⟨w.heap.size, 3, none⟩ = some (.int .i64 m.f3) ∧ W'.cell? ⟨w.heap.size, 4, none⟩ = some (.int .i64 m.f4) ∧ W'.cell? ⟨w.heap.size, 5, none⟩ = some (.bool m.f5) ∧ KeepBut W1 W' w0.heap.size none) :=
    ⟨fun W' hb => ⟨keep_cell hb ((blk_cell HM.out 0).trans rfl) (by show w.heap.size ≠ w0.heap.size; omega), keep_cell hb ((blk_cell HM.out 1).trans rfl) (by show w.heap.size ≠ w0.heap.size; omega), keep_cell hb ((blk_cell HM.out 2).trans rfl) (by show w.heap.size ≠ w0.heap.size; omega), keep_cell hb ((blk_cell HM.out 3).trans rfl) (by show w.heap.size ≠ w0.heap.size; omega), keep_cell hb ((blk_cell HM.out 4).trans rfl) (by show w.heap.size ≠ w0.heap.size; omega), keep_cell hb ((blk_cell HM.out 5).trans rfl) (by show w.heap.size ≠ w0.heap.size; omega), hb⟩⟩
  clear hw hkc hcR
  go_enter Try.func70, Try.ntmps70
  go_wp2_with fail
  rw [← hW1]
  clear hW1
  have m1 := (HS.out W1 (Below.refl _ _)).2.1
  have q2 := (HS.out W1 (Below.refl _ _)).2.2.2.2.2.2.2.2.1
  have kw : IntKind.i64.wrap ((s.size : Int) - 2) = (s.size : Int) - 2 := IntWalk.i64_in _ (by omega)
  have hdh2 : decide (m.f1 ≤ s.size - 2) = false := decide_eq_false (by omega)
  refine wp_region_last _ (by kernel_rfl) (by kernel_rfl) rfl ?_
  simp only [hushLast, hush]
  repeat (go_big_quiet_step (fail))
  refine wpQuiet_nil ?_
  intro w' hw'
  obtain ⟨nq, rfl⟩ := hw'
  refine ⟨by simp only [Region.wanted], ?_⟩
  go_wp2_with (go_at_call 65; refine (ask_false _).mono ?_; rintro e w' ⟨rfl, rfl⟩)
  exact ⟨rfl, rfl, below_step HB0.out (below_step HB1.out (by repeat (first | (with_reducible exact Below.refl _ _) | apply below_alloc | apply pw_below_drewN | apply below_drew1 | exact Below.refl _ _)))⟩
set_option maxHeartbeats 800000 in
theorem deletePair_no2 (w0 : World) (tb : Nat) (TB : Option Obj) (g : Int) (A : Option Addr) (n c : Nat) (s : ByteArray) (cs : List S59) (m : S52) (w : World) (hw : Walk w0 tb TB g A n c w s cs) (hs : s.size ≤ 100000) (h1 : 0 ≤ m.f1) (h2 : m.f1 ≤ (s.size : Int) - 2) (hcan : canc (bt s m.f1) (bt s (m.f1 + 1)) = false) :
    Calls Try.prog 70 #[.pointer (some ⟨w0.heap.size, 0, none⟩), .agg #[.int .i64 m.f0, .int .i64 m.f1, .int .i64 m.f2, .int .i64 m.f3, .int .i64 m.f4, .bool m.f5]] w fun e w' => e = .panicked unfit ∧ Below w0.heap.size w0 w' := by
  have HB0 : Aside0 (Below w0.heap.size w0 w) := ⟨hw.bel⟩
  obtain ⟨cv, hkc, hcR⟩ := hw.row
  have hklt := hw.klt
  obtain ⟨W1, hW1⟩ : ∃ W1, W1 = w.alloc (.cells #[.int .i64 m.f0, .int .i64 m.f1, .int .i64 m.f2, .int .i64 m.f3, .int .i64 m.f4, .bool m.f5] 52) := ⟨_, rfl⟩
  have HM : Aside0 (W1.heap[w.heap.size]? = some (.cells #[.int .i64 m.f0, .int .i64 m.f1, .int .i64 m.f2, .int .i64 m.f3, .int .i64 m.f4, .bool m.f5] 52 (0, 0))) := ⟨by rw [hW1]; exact Go.heap_alloc_new _ _⟩
  have HK1 : Aside0 (W1.heap[w0.heap.size]? = some (walkO g A n c s cv)) := ⟨by rw [hW1]; exact blk_alloc hkc _⟩
  have HB1 : Aside0 (Below w.heap.size w W1) := ⟨by rw [hW1]; exact below_alloc (Below.refl _ _) _⟩
  have HW1 : Aside0 (Walk w0 tb TB g A n c W1 s cs) := ⟨hw.grow HB1.out⟩
  have HLT : Aside0 (w.heap.size < W1.heap.size) := ⟨blk_lt HM.out⟩
  have HS : Aside0 (∀ W', Below W1.heap.size W1 W' → W'.cell? ⟨w.heap.size, 0, none⟩ = some (.int .i64 m.f0) ∧ W'.cell? ⟨w.heap.size, 1, none⟩ = some (.int .i64 m.f1) ∧ W'.cell? ⟨w.heap.size, 2, none⟩ = some (.int .i64 m.f2) ∧ W'.cell? ⟨w.heap.size, 3, none⟩ = some (.int .i64 m.f3) ∧ W'.cell? ⟨w.heap.size, 4, none⟩ = some (.int .i64 m.f4) ∧ W'.cell? ⟨w.heap.size, 5, none⟩ = some (.bool m.f5) ∧ W'.cell? ⟨w0.heap.size, 0, none⟩ = some (.int .i64 g) ∧ W'.cell? ⟨w0.heap.size, 1, none⟩ = some (.slice A n c) ∧ W'.cell? ⟨w0.heap.size, 2, none⟩ = some (.string s) ∧ W'.cell? ⟨w0.heap.size, 3, none⟩ = some (cv) ∧ Below W1.heap.size W1 W') :=
    ⟨fun W' hb => ⟨(blk_cell (blk_below HM.out hb) 0).trans rfl, (blk_cell (blk_below HM.out hb) 1).trans rfl, (blk_cell (blk_below HM.out hb) 2).trans rfl, (blk_cell (blk_below HM.out hb) 3).trans rfl, (blk_cell (blk_below HM.out hb) 4).trans rfl, (blk_cell (blk_below HM.out hb) 5).trans rfl, (blk_cell (blk_below HK1.out hb) 0).trans rfl, (blk_cell (blk_below HK1.out hb) 1).trans rfl, (blk_cell (blk_below HK1.out hb) 2).trans rfl, (blk_cell (blk_below HK1.out hb) 3).trans rfl, hb⟩⟩
  have HT : Aside0 (∀ W', KeepBut W1 W' w0.heap.size none → W'.cell? ⟨w.heap.size, 0, none⟩ = some (.int .i64 m.f0) ∧ W'.cell? ⟨w.heap.size, 1, none⟩ = some (.int .i64 m.f1) ∧ W'.cell? ⟨w.heap.size, 2, none⟩ = some (.int .i64 m.f2) ∧ W'.cell? ⟨w.heap.size, 3, none⟩ = some (.int .i64 m.f3) ∧ W'.cell? ⟨w.heap.size, 4, none⟩ = some (.int .i64 m.f4) ∧ W'.cell? ⟨w.heap.size, 5, none⟩ = some (.bool m.f5) ∧ KeepBut W1 W' w0.heap.size none) :=
    ⟨fun W' hb => ⟨keep_cell hb ((blk_cell HM.out 0).trans rfl) (by show w.heap.size ≠ w0.heap.size; omega), keep_cell hb ((blk_cell HM.out 1).trans rfl) (by show w.heap.size ≠ w0.heap.size; omega), keep_cell hb ((blk_cell HM.out 2).trans rfl) (by show w.heap.size ≠ w0.heap.size; omega), keep_cell hb ((blk_cell HM.out 3).trans rfl) (by show w.heap.size ≠ w0.heap.size; omega), keep_cell hb ((blk_cell HM.out 4).trans rfl) (by show w.heap.size ≠ w0.heap.size; omega), keep_cell hb ((blk_cell HM.out 5).trans rfl) (by show w.heap.size ≠ w0.heap.size; omega), hb⟩⟩
  clear hw hkc hcR
  go_enter Try.func70, Try.ntmps70
  go_wp2_with fail
  rw [← hW1]
  clear hW1
  have m1 := (HS.out W1 (Below.refl _ _)).2.1
  have q2 := (HS.out W1 (Below.refl _ _)).2.2.2.2.2.2.2.2.1
  have kw : IntKind.i64.wrap ((s.size : Int) - 2) = (s.size : Int) - 2 := IntWalk.i64_in _ (by omega)
  have kw1 : IntKind.i64.wrap (m.f1 + 1) = m.f1 + 1 := IntWalk.i64_in _ (by omega)
  have i0 : m.f1 < s.size := by omega
  have i1 : m.f1 + 1 < s.size := by omega
  have i2 : 0 ≤ m.f1 + 1 := by omega
  have b1 := bt_at s m.f1
  have b2 := bt_at s (m.f1 + 1)
  refine wp_region_last _ (by kernel_rfl) (by kernel_rfl) rfl ?_
  simp only [hushLast, hush]
  repeat (go_big_quiet_step ((go_at_call 58; exact Calls.quiet_of_same (inverted_to _ _ _ hcan _))))
  refine wpQuiet_nil ?_
  intro w' hw'
  obtain ⟨nq, rfl⟩ := hw'
  refine ⟨by simp only [Region.wanted], ?_⟩
  go_wp2_with (go_at_call 65; refine (ask_false _).mono ?_; rintro e w' ⟨rfl, rfl⟩)
  exact ⟨rfl, rfl, below_step HB0.out (below_step HB1.out (by repeat (first | (with_reducible exact Below.refl _ _) | apply below_alloc | apply pw_below_drewN | apply below_drew1 | exact Below.refl _ _)))⟩
set_option maxHeartbeats 800000 in
theorem rotated_yes (w0 : World) (tb : Nat) (TB : Option Obj) (g : Int) (A : Option Addr) (n c : Nat) (s : ByteArray) (cs : List S59) (m : S52) (w : World) (hw : Walk w0 tb TB g A n c w s cs) (rels : List ByteArray) (hn : n = rels.length) (hC : Kd.C Kd.string w0 A n rels) (hc : n ≤ c) (hs : s.size ≤ 100000) (h1 : 0 ≤ m.f3) (h2 : m.f3 < n) (hz : (rdOf ByteArray.empty rels m.f3).size ≤ 1000) (t : ByteArray) (ht : sideS rels m.f3 m.f5 = t) (h3 : 0 ≤ m.f4) (h4 : m.f4 < t.size) :
    Calls Try.prog 76 #[.pointer (some ⟨w0.heap.size, 0, none⟩), .agg #[.int .i64 m.f0, .int .i64 m.f1, .int .i64 m.f2, .int .i64 m.f3, .int .i64 m.f4, .bool m.f5]] w fun e w' => e = .returned (.tuple #[.string (t.extract 0 m.f4.toNat), .string (t.extract m.f4.toNat t.size)]) ∧ Below w.heap.size w w' := by
  subst hn
  have HC0 := Aside0.mk (Kd.C_below hC hw.bel)
  obtain ⟨cv, hkc, hcR⟩ := hw.row
  have hklt := hw.klt
  obtain ⟨W1, hW1⟩ : ∃ W1, W1 = w.alloc (.cells #[.int .i64 m.f0, .int .i64 m.f1, .int .i64 m.f2, .int .i64 m.f3, .int .i64 m.f4, .bool m.f5] 52) := ⟨_, rfl⟩
  have HM : Aside0 (W1.heap[w.heap.size]? = some (.cells #[.int .i64 m.f0, .int .i64 m.f1, .int .i64 m.f2, .int .i64 m.f3, .int .i64 m.f4, .bool m.f5] 52 (0, 0))) := ⟨by rw [hW1]; exact Go.heap_alloc_new _ _⟩
  have HK1 : Aside0 (W1.heap[w0.heap.size]? = some (walkO g A _ c s cv)) := ⟨by rw [hW1]; exact blk_alloc hkc _⟩
  have HB1 : Aside0 (Below w.heap.size w W1) := ⟨by rw [hW1]; exact below_alloc (Below.refl _ _) _⟩
  have HW1 : Aside0 (Walk w0 tb TB g A _ c W1 s cs) := ⟨hw.grow HB1.out⟩
  have HLT : Aside0 (w.heap.size < W1.heap.size) := ⟨blk_lt HM.out⟩
  have HS : Aside0 (∀ W', Below W1.heap.size W1 W' → W'.cell? ⟨w.heap.size, 0, none⟩ = some (.int .i64 m.f0) ∧ W'.cell? ⟨w.heap.size, 1, none⟩ = some (.int .i64 m.f1) ∧ W'.cell? ⟨w.heap.size, 2, none⟩ = some (.int .i64 m.f2) ∧ W'.cell? ⟨w.heap.size, 3, none⟩ = some (.int .i64 m.f3) ∧ W'.cell? ⟨w.heap.size, 4, none⟩ = some (.int .i64 m.f4) ∧ W'.cell? ⟨w.heap.size, 5, none⟩ = some (.bool m.f5) ∧ W'.cell? ⟨w0.heap.size, 0, none⟩ = some (.int .i64 g) ∧ W'.cell? ⟨w0.heap.size, 1, none⟩ = some (.slice A rels.length c) ∧ W'.cell? ⟨w0.heap.size, 2, none⟩ = some (.string s) ∧ W'.cell? ⟨w0.heap.size, 3, none⟩ = some (cv) ∧ Below W1.heap.size W1 W') :=
    ⟨fun W' hb => ⟨(blk_cell (blk_below HM.out hb) 0).trans rfl, (blk_cell (blk_below HM.out hb) 1).trans rfl, (blk_cell (blk_below HM.out hb) 2).trans rfl, (blk_cell (blk_below HM.out hb) 3).trans rfl, (blk_cell (blk_below HM.out hb) 4).trans rfl, (blk_cell (blk_below HM.out hb) 5).trans rfl, (blk_cell (blk_below HK1.out hb) 0).trans rfl, (blk_cell (blk_below HK1.out hb) 1).trans rfl, (blk_cell (blk_below HK1.out hb) 2).trans rfl, (blk_cell (blk_below HK1.out hb) 3).trans rfl, hb⟩⟩
  have HT : Aside0 (∀ W', KeepBut W1 W' w0.heap.size none → W'.cell? ⟨w.heap.size, 0, none⟩ = some (.int .i64 m.f0) ∧ W'.cell? ⟨w.heap.size, 1, none⟩ = some (.int .i64 m.f1) ∧ W'.cell? ⟨w.heap.size, 2, none⟩ = some (.int .i64 m.f2) ∧ W'.cell? ⟨w.heap.size, 3, none⟩ = some (.int .i64 m.f3) ∧ W'.cell? ⟨w.heap.size, 4, none⟩ = some (.int .i64 m.f4) ∧ W'.cell? ⟨w.heap.size, 5, none⟩ = some (.bool m.f5) ∧ KeepBut W1 W' w0.heap.size none) :=
    ⟨fun W' hb => ⟨keep_cell hb ((blk_cell HM.out 0).trans rfl) (by show w.heap.size ≠ w0.heap.size; omega), keep_cell hb ((blk_cell HM.out 1).trans rfl) (by show w.heap.size ≠ w0.heap.size; omega), keep_cell hb ((blk_cell HM.out 2).trans rfl) (by show w.heap.size ≠ w0.heap.size; omega), keep_cell hb ((blk_cell HM.out 3).trans rfl) (by show w.heap.size ≠ w0.heap.size; omega), keep_cell hb ((blk_cell HM.out 4).trans rfl) (by show w.heap.size ≠ w0.heap.size; omega), keep_cell hb ((blk_cell HM.out 5).trans rfl) (by show w.heap.size ≠ w0.heap.size; omega), hb⟩⟩
  clear hw hkc hcR
  go_enter Try.func76, Try.ntmps76
  go_wp2_with fail
  rw [← hW1]
  clear hW1
  have m3 := (HS.out W1 (Below.refl _ _)).2.2.2.1
  have q0 := (HS.out W1 (Below.refl _ _)).2.2.2.2.2.2.1
  have q1 := (HS.out W1 (Below.refl _ _)).2.2.2.2.2.2.2.1
  go_quiet (first | (go_at_call 65; exact Calls.quiet_of_same (ask_true' _)))
  go_wp2_with fail
  go_region_held3 (fun W' => W'.cell? ⟨w.heap.size, 0, none⟩ = some (.int .i64 m.f0) ∧ W'.cell? ⟨w.heap.size, 1, none⟩ = some (.int .i64 m.f1) ∧ W'.cell? ⟨w.heap.size, 2, none⟩ = some (.int .i64 m.f2) ∧ W'.cell? ⟨w.heap.size, 3, none⟩ = some (.int .i64 m.f3) ∧ W'.cell? ⟨w.heap.size, 4, none⟩ = some (.int .i64 m.f4) ∧ W'.cell? ⟨w.heap.size, 5, none⟩ = some (.bool m.f5) ∧ W'.cell? ⟨w0.heap.size, 0, none⟩ = some (.int .i64 g) ∧ W'.cell? ⟨w0.heap.size, 1, none⟩ = some (.slice A rels.length c) ∧ W'.cell? ⟨w0.heap.size, 2, none⟩ = some (.string s) ∧ W'.cell? ⟨w0.heap.size, 3, none⟩ = some (cv) ∧ Below W1.heap.size W1 W') (exact HS.out _ (by repeat (first | (with_reducible exact Below.refl _ _) | (with_reducible apply below_alloc) | (with_reducible apply pw_below_drewN) | (with_reducible apply below_drew1) | (refine below_step ?_ hBc) | exact Below.refl _ _))) (first | (go_at_call 56; refine (side_calls g A c _ rels rfl m.f3 m.f5 _ h1 (by omega) (by omega) ?aR ?aC).mono ?_; (case aR => exact Kd.C_below (Kd.C_below HC0.out HB1.out) (by repeat (first | (with_reducible exact Below.refl _ _) | apply below_alloc | apply pw_below_drewN | apply below_drew1 | exact Below.refl _ _))); (case aC => exact hc); rintro e w2 ⟨rfl, hBc⟩; rw [ht]; have HB2 : Aside0 (Below W1.heap.size W1 w2) := ⟨below_step (by repeat (first | (with_reducible exact Below.refl _ _) | apply below_alloc | apply pw_below_drewN | apply below_drew1 | exact Below.refl _ _)) hBc⟩) )
  have m4 := (HS.out w2 HB2.out).2.2.2.2.1
  go_wp2_with (go_at_call 65; refine (ask_true' _).mono ?_; rintro e w' ⟨rfl, rfl⟩)
  go_quiet (fail)
  go_wp2_with fail
  go_ret2
  exact ⟨rfl, below_step HB1.out (below_step HB2.out (by repeat (first | (with_reducible exact Below.refl _ _) | apply pw_below_drewN | apply below_drew1 | exact Below.refl _ _)))⟩
set_option maxHeartbeats 800000 in
theorem rotated_no0 (w0 : World) (tb : Nat) (TB : Option Obj) (g : Int) (A : Option Addr) (n c : Nat) (s : ByteArray) (cs : List S59) (m : S52) (w : World) (hw : Walk w0 tb TB g A n c w s cs) (hs : s.size ≤ 100000) (h1 : ¬ 0 ≤ m.f3) :
    Calls Try.prog 76 #[.pointer (some ⟨w0.heap.size, 0, none⟩), .agg #[.int .i64 m.f0, .int .i64 m.f1, .int .i64 m.f2, .int .i64 m.f3, .int .i64 m.f4, .bool m.f5]] w fun e w' => e = .panicked unfit ∧ Below w0.heap.size w0 w' := by
  have HB0 : Aside0 (Below w0.heap.size w0 w) := ⟨hw.bel⟩
  obtain ⟨cv, hkc, hcR⟩ := hw.row
  have hklt := hw.klt
  obtain ⟨W1, hW1⟩ : ∃ W1, W1 = w.alloc (.cells #[.int .i64 m.f0, .int .i64 m.f1, .int .i64 m.f2, .int .i64 m.f3, .int .i64 m.f4, .bool m.f5] 52) := ⟨_, rfl⟩
  have HM : Aside0 (W1.heap[w.heap.size]? = some (.cells #[.int .i64 m.f0, .int .i64 m.f1, .int .i64 m.f2, .int .i64 m.f3, .int .i64 m.f4, .bool m.f5] 52 (0, 0))) := ⟨by rw [hW1]; exact Go.heap_alloc_new _ _⟩
  have HK1 : Aside0 (W1.heap[w0.heap.size]? = some (walkO g A n c s cv)) := ⟨by rw [hW1]; exact blk_alloc hkc _⟩
  have HB1 : Aside0 (Below w.heap.size w W1) := ⟨by rw [hW1]; exact below_alloc (Below.refl _ _) _⟩
  have HW1 : Aside0 (Walk w0 tb TB g A n c W1 s cs) := ⟨hw.grow HB1.out⟩
  have HLT : Aside0 (w.heap.size < W1.heap.size) := ⟨blk_lt HM.out⟩
  have HS : Aside0 (∀ W', Below W1.heap.size W1 W' → W'.cell? ⟨w.heap.size, 0, none⟩ = some (.int .i64 m.f0) ∧ W'.cell? ⟨w.heap.size, 1, none⟩ = some (.int .i64 m.f1) ∧ W'.cell? ⟨w.heap.size, 2, none⟩ = some (.int .i64 m.f2) ∧ W'.cell? ⟨w.heap.size, 3, none⟩ = some (.int .i64 m.f3) ∧ W'.cell? ⟨w.heap.size, 4, none⟩ = some (.int .i64 m.f4) ∧ W'.cell? ⟨w.heap.size, 5, none⟩ = some (.bool m.f5) ∧ W'.cell? ⟨w0.heap.size, 0, none⟩ = some (.int .i64 g) ∧ W'.cell? ⟨w0.heap.size, 1, none⟩ = some (.slice A n c) ∧ W'.cell? ⟨w0.heap.size, 2, none⟩ = some (.string s) ∧ W'.cell? ⟨w0.heap.size, 3, none⟩ = some (cv) ∧ Below W1.heap.size W1 W') :=
    ⟨fun W' hb => ⟨(blk_cell (blk_below HM.out hb) 0).trans rfl, (blk_cell (blk_below HM.out hb) 1).trans rfl, (blk_cell (blk_below HM.out hb) 2).trans rfl, (blk_cell (blk_below HM.out hb) 3).trans rfl, (blk_cell (blk_below HM.out hb) 4).trans rfl, (blk_cell (blk_below HM.out hb) 5).trans rfl, (blk_cell (blk_below HK1.out hb) 0).trans rfl, (blk_cell (blk_below HK1.out hb) 1).trans rfl, (blk_cell (blk_below HK1.out hb) 2).trans rfl, (blk_cell (blk_below HK1.out hb) 3).trans rfl, hb⟩⟩
  have HT : Aside0 (∀ W', KeepBut W1 W' w0.heap.size none → W'.cell? ⟨w.heap.size, 0, none⟩ = some (.int .i64 m.f0) ∧ W'.cell? ⟨w.heap.size, 1, none⟩ = some (.int .i64 m.f1) ∧ W'.cell? ⟨w.heap.size, 2, none⟩ = some (.int .i64 m.f2) ∧ W'.cell? ⟨w.heap.size, 3, none⟩ = some (.int .i64 m.f3) ∧ W'.cell? ⟨w.heap.size, 4, none⟩ = some (.int .i64 m.f4) ∧ W'.cell? ⟨w.heap.size, 5, none⟩ = some (.bool m.f5) ∧ KeepBut W1 W' w0.heap.size none) :=
    ⟨fun W' hb => ⟨keep_cell hb ((blk_cell HM.out 0).trans rfl) (by show w.heap.size ≠ w0.heap.size; omega), keep_cell hb ((blk_cell HM.out 1).trans rfl) (by show w.heap.size ≠ w0.heap.size; omega), keep_cell hb ((blk_cell HM.out 2).trans rfl) (by show w.heap.size ≠ w0.heap.size; omega), keep_cell hb ((blk_cell HM.out 3).trans rfl) (by show w.heap.size ≠ w0.heap.size; omega), keep_cell hb ((blk_cell HM.out 4).trans rfl) (by show w.heap.size ≠ w0.heap.size; omega), keep_cell hb ((blk_cell HM.out 5).trans rfl) (by show w.heap.size ≠ w0.heap.size; omega), hb⟩⟩
  clear hw hkc hcR
  go_enter Try.func76, Try.ntmps76
  go_wp2_with fail
  rw [← hW1]
  clear hW1
  have m3 := (HS.out W1 (Below.refl _ _)).2.2.2.1
  have q0 := (HS.out W1 (Below.refl _ _)).2.2.2.2.2.2.1
  have q1 := (HS.out W1 (Below.refl _ _)).2.2.2.2.2.2.2.1
  have hdh1 : decide (0 ≤ m.f3) = false := decide_eq_false (by omega)
  refine wp_region_last _ (by kernel_rfl) (by kernel_rfl) rfl ?_
  simp only [hushLast, hush]
  repeat (go_big_quiet_step (fail))
  refine wpQuiet_nil ?_
  intro w' hw'
  obtain ⟨nq, rfl⟩ := hw'
  refine ⟨by simp only [Region.wanted], ?_⟩
  go_wp2_with (go_at_call 65; refine (ask_false _).mono ?_; rintro e w' ⟨rfl, rfl⟩)
  exact ⟨rfl, rfl, below_step HB0.out (below_step HB1.out (by repeat (first | (with_reducible exact Below.refl _ _) | apply below_alloc | apply pw_below_drewN | apply below_drew1 | exact Below.refl _ _)))⟩
set_option maxHeartbeats 800000 in
theorem rotated_no1 (w0 : World) (tb : Nat) (TB : Option Obj) (g : Int) (A : Option Addr) (n c : Nat) (s : ByteArray) (cs : List S59) (m : S52) (w : World) (hw : Walk w0 tb TB g A n c w s cs) (hs : s.size ≤ 100000) (h1 : 0 ≤ m.f3) (h2 : ¬ m.f3 < n) :
    Calls Try.prog 76 #[.pointer (some ⟨w0.heap.size, 0, none⟩), .agg #[.int .i64 m.f0, .int .i64 m.f1, .int .i64 m.f2, .int .i64 m.f3, .int .i64 m.f4, .bool m.f5]] w fun e w' => e = .panicked unfit ∧ Below w0.heap.size w0 w' := by
  have HB0 : Aside0 (Below w0.heap.size w0 w) := ⟨hw.bel⟩
  obtain ⟨cv, hkc, hcR⟩ := hw.row
  have hklt := hw.klt
  obtain ⟨W1, hW1⟩ : ∃ W1, W1 = w.alloc (.cells #[.int .i64 m.f0, .int .i64 m.f1, .int .i64 m.f2, .int .i64 m.f3, .int .i64 m.f4, .bool m.f5] 52) := ⟨_, rfl⟩
  have HM : Aside0 (W1.heap[w.heap.size]? = some (.cells #[.int .i64 m.f0, .int .i64 m.f1, .int .i64 m.f2, .int .i64 m.f3, .int .i64 m.f4, .bool m.f5] 52 (0, 0))) := ⟨by rw [hW1]; exact Go.heap_alloc_new _ _⟩
  have HK1 : Aside0 (W1.heap[w0.heap.size]? = some (walkO g A n c s cv)) := ⟨by rw [hW1]; exact blk_alloc hkc _⟩
  have HB1 : Aside0 (Below w.heap.size w W1) := ⟨by rw [hW1]; exact below_alloc (Below.refl _ _) _⟩
  have HW1 : Aside0 (Walk w0 tb TB g A n c W1 s cs) := ⟨hw.grow HB1.out⟩
  have HLT : Aside0 (w.heap.size < W1.heap.size) := ⟨blk_lt HM.out⟩
  have HS : Aside0 (∀ W', Below W1.heap.size W1 W' → W'.cell? ⟨w.heap.size, 0, none⟩ = some (.int .i64 m.f0) ∧ W'.cell? ⟨w.heap.size, 1, none⟩ = some (.int .i64 m.f1) ∧ W'.cell? ⟨w.heap.size, 2, none⟩ = some (.int .i64 m.f2) ∧ W'.cell? ⟨w.heap.size, 3, none⟩ = some (.int .i64 m.f3) ∧ W'.cell? ⟨w.heap.size, 4, none⟩ = some (.int .i64 m.f4) ∧ W'.cell? ⟨w.heap.size, 5, none⟩ = some (.bool m.f5) ∧ W'.cell? ⟨w0.heap.size, 0, none⟩ = some (.int .i64 g) ∧ W'.cell? ⟨w0.heap.size, 1, none⟩ = some (.slice A n c) ∧ W'.cell? ⟨w0.heap.size, 2, none⟩ = some (.string s) ∧ W'.cell? ⟨w0.heap.size, 3, none⟩ = some (cv) ∧ Below W1.heap.size W1 W') :=
    ⟨fun W' hb => ⟨(blk_cell (blk_below HM.out hb) 0).trans rfl, (blk_cell (blk_below HM.out hb) 1).trans rfl, (blk_cell (blk_below HM.out hb) 2).trans rfl, (blk_cell (blk_below HM.out hb) 3).trans rfl, (blk_cell (blk_below HM.out hb) 4).trans rfl, (blk_cell (blk_below HM.out hb) 5).trans rfl, (blk_cell (blk_below HK1.out hb) 0).trans rfl, (blk_cell (blk_below HK1.out hb) 1).trans rfl, (blk_cell (blk_below HK1.out hb) 2).trans rfl, (blk_cell (blk_below HK1.out hb) 3).trans rfl, hb⟩⟩
  have HT : Aside0 (∀ W', KeepBut W1 W' w0.heap.size none → W'.cell? ⟨w.heap.size, 0, none⟩ = some (.int .i64 m.f0) ∧ W'.cell? ⟨w.heap.size, 1, none⟩ = some (.int .i64 m.f1) ∧ W'.cell? ⟨w.heap.size, 2, none⟩ = some (.int .i64 m.f2) ∧ W'.cell? ⟨w.heap.size, 3, none⟩ = some (.int .i64 m.f3) ∧ W'.cell? ⟨w.heap.size, 4, none⟩ = some (.int .i64 m.f4) ∧ W'.cell? ⟨w.heap.size, 5, none⟩ = some (.bool m.f5) ∧ KeepBut W1 W' w0.heap.size none) :=
    ⟨fun W' hb => ⟨keep_cell hb ((blk_cell HM.out 0).trans rfl) (by show w.heap.size ≠ w0.heap.size; omega), keep_cell hb ((blk_cell HM.out 1).trans rfl) (by show w.heap.size ≠ w0.heap.size; omega), keep_cell hb ((blk_cell HM.out 2).trans rfl) (by show w.heap.size ≠ w0.heap.size; omega), keep_cell hb ((blk_cell HM.out 3).trans rfl) (by show w.heap.size ≠ w0.heap.size; omega), keep_cell hb ((blk_cell HM.out 4).trans rfl) (by show w.heap.size ≠ w0.heap.size; omega), keep_cell hb ((blk_cell HM.out 5).trans rfl) (by show w.heap.size ≠ w0.heap.size; omega), hb⟩⟩
  clear hw hkc hcR
  go_enter Try.func76, Try.ntmps76
  go_wp2_with fail
  rw [← hW1]
  clear hW1
  have m3 := (HS.out W1 (Below.refl _ _)).2.2.2.1
  have q0 := (HS.out W1 (Below.refl _ _)).2.2.2.2.2.2.1
  have q1 := (HS.out W1 (Below.refl _ _)).2.2.2.2.2.2.2.1
  have hdh2 : decide (m.f3 < n) = false := decide_eq_false (by omega)
  refine wp_region_last _ (by kernel_rfl) (by kernel_rfl) rfl ?_
  simp only [hushLast, hush]
  repeat (go_big_quiet_step (fail))
  refine wpQuiet_nil ?_
  intro w' hw'
  obtain ⟨nq, rfl⟩ := hw'
  refine ⟨by simp only [Region.wanted], ?_⟩
  go_wp2_with (go_at_call 65; refine (ask_false _).mono ?_; rintro e w' ⟨rfl, rfl⟩)
  exact ⟨rfl, rfl, below_step HB0.out (below_step HB1.out (by repeat (first | (with_reducible exact Below.refl _ _) | apply below_alloc | apply pw_below_drewN | apply below_drew1 | exact Below.refl _ _)))⟩
set_option maxHeartbeats 800000 in
theorem rotated_no2 (w0 : World) (tb : Nat) (TB : Option Obj) (g : Int) (A : Option Addr) (n c : Nat) (s : ByteArray) (cs : List S59) (m : S52) (w : World) (hw : Walk w0 tb TB g A n c w s cs) (rels : List ByteArray) (hn : n = rels.length) (hC : Kd.C Kd.string w0 A n rels) (hc : n ≤ c) (hs : s.size ≤ 100000) (h1 : 0 ≤ m.f3) (h2 : m.f3 < n) (hz : (rdOf ByteArray.empty rels m.f3).size ≤ 1000) (t : ByteArray) (ht : sideS rels m.f3 m.f5 = t) (h3 : ¬ 0 ≤ m.f4) :
    Calls Try.prog 76 #[.pointer (some ⟨w0.heap.size, 0, none⟩), .agg #[.int .i64 m.f0, .int .i64 m.f1, .int .i64 m.f2, .int .i64 m.f3, .int .i64 m.f4, .bool m.f5]] w fun e w' => e = .panicked unfit ∧ Below w0.heap.size w0 w' := by
  subst hn
  have HB0 : Aside0 (Below w0.heap.size w0 w) := ⟨hw.bel⟩
  have HC0 := Aside0.mk (Kd.C_below hC hw.bel)
  obtain ⟨cv, hkc, hcR⟩ := hw.row
  have hklt := hw.klt
  obtain ⟨W1, hW1⟩ : ∃ W1, W1 = w.alloc (.cells #[.int .i64 m.f0, .int .i64 m.f1, .int .i64 m.f2, .int .i64 m.f3, .int .i64 m.f4, .bool m.f5] 52) := ⟨_, rfl⟩
  have HM : Aside0 (W1.heap[w.heap.size]? = some (.cells #[.int .i64 m.f0, .int .i64 m.f1, .int .i64 m.f2, .int .i64 m.f3, .int .i64 m.f4, .bool m.f5] 52 (0, 0))) := ⟨by rw [hW1]; exact Go.heap_alloc_new _ _⟩
  have HK1 : Aside0 (W1.heap[w0.heap.size]? = some (walkO g A _ c s cv)) := ⟨by rw [hW1]; exact blk_alloc hkc _⟩
  have HB1 : Aside0 (Below w.heap.size w W1) := ⟨by rw [hW1]; exact below_alloc (Below.refl _ _) _⟩
  have HW1 : Aside0 (Walk w0 tb TB g A _ c W1 s cs) := ⟨hw.grow HB1.out⟩
  have HLT : Aside0 (w.heap.size < W1.heap.size) := ⟨blk_lt HM.out⟩
  have HS : Aside0 (∀ W', Below W1.heap.size W1 W' → W'.cell? ⟨w.heap.size, 0, none⟩ = some (.int .i64 m.f0) ∧ W'.cell? ⟨w.heap.size, 1, none⟩ = some (.int .i64 m.f1) ∧ W'.cell? ⟨w.heap.size, 2, none⟩ = some (.int .i64 m.f2) ∧ W'.cell? ⟨w.heap.size, 3, none⟩ = some (.int .i64 m.f3) ∧ W'.cell? ⟨w.heap.size, 4, none⟩ = some (.int .i64 m.f4) ∧ W'.cell? ⟨w.heap.size, 5, none⟩ = some (.bool m.f5) ∧ W'.cell? ⟨w0.heap.size, 0, none⟩ = some (.int .i64 g) ∧ W'.cell? ⟨w0.heap.size, 1, none⟩ = some (.slice A rels.length c) ∧ W'.cell? ⟨w0.heap.size, 2, none⟩ = some (.string s) ∧ W'.cell? ⟨w0.heap.size, 3, none⟩ = some (cv) ∧ Below W1.heap.size W1 W') :=
    ⟨fun W' hb => ⟨(blk_cell (blk_below HM.out hb) 0).trans rfl, (blk_cell (blk_below HM.out hb) 1).trans rfl, (blk_cell (blk_below HM.out hb) 2).trans rfl, (blk_cell (blk_below HM.out hb) 3).trans rfl, (blk_cell (blk_below HM.out hb) 4).trans rfl, (blk_cell (blk_below HM.out hb) 5).trans rfl, (blk_cell (blk_below HK1.out hb) 0).trans rfl, (blk_cell (blk_below HK1.out hb) 1).trans rfl, (blk_cell (blk_below HK1.out hb) 2).trans rfl, (blk_cell (blk_below HK1.out hb) 3).trans rfl, hb⟩⟩
  have HT : Aside0 (∀ W', KeepBut W1 W' w0.heap.size none → W'.cell? ⟨w.heap.size, 0, none⟩ = some (.int .i64 m.f0) ∧ W'.cell? ⟨w.heap.size, 1, none⟩ = some (.int .i64 m.f1) ∧ W'.cell? ⟨w.heap.size, 2, none⟩ = some (.int .i64 m.f2) ∧ W'.cell? ⟨w.heap.size, 3, none⟩ = some (.int .i64 m.f3) ∧ W'.cell? ⟨w.heap.size, 4, none⟩ = some (.int .i64 m.f4) ∧ W'.cell? ⟨w.heap.size, 5, none⟩ = some (.bool m.f5) ∧ KeepBut W1 W' w0.heap.size none) :=
    ⟨fun W' hb => ⟨keep_cell hb ((blk_cell HM.out 0).trans rfl) (by show w.heap.size ≠ w0.heap.size; omega), keep_cell hb ((blk_cell HM.out 1).trans rfl) (by show w.heap.size ≠ w0.heap.size; omega), keep_cell hb ((blk_cell HM.out 2).trans rfl) (by show w.heap.size ≠ w0.heap.size; omega), keep_cell hb ((blk_cell HM.out 3).trans rfl) (by show w.heap.size ≠ w0.heap.size; omega), keep_cell hb ((blk_cell HM.out 4).trans rfl) (by show w.heap.size ≠ w0.heap.size; omega), keep_cell hb ((blk_cell HM.out 5).trans rfl) (by show w.heap.size ≠ w0.heap.size; omega), hb⟩⟩
  clear hw hkc hcR
  go_enter Try.func76, Try.ntmps76
  go_wp2_with fail
  rw [← hW1]
  clear hW1
  have m3 := (HS.out W1 (Below.refl _ _)).2.2.2.1
  have q0 := (HS.out W1 (Below.refl _ _)).2.2.2.2.2.2.1
  have q1 := (HS.out W1 (Below.refl _ _)).2.2.2.2.2.2.2.1
  go_quiet (first | (go_at_call 65; exact Calls.quiet_of_same (ask_true' _)))
  go_wp2_with fail
  go_region_held3 (fun W' => W'.cell? ⟨w.heap.size, 0, none⟩ = some (.int .i64 m.f0) ∧ W'.cell? ⟨w.heap.size, 1, none⟩ = some (.int .i64 m.f1) ∧ W'.cell? ⟨w.heap.size, 2, none⟩ = some (.int .i64 m.f2) ∧ W'.cell? ⟨w.heap.size, 3, none⟩ = some (.int .i64 m.f3) ∧ W'.cell? ⟨w.heap.size, 4, none⟩ = some (.int .i64 m.f4) ∧ W'.cell? ⟨w.heap.size, 5, none⟩ = some (.bool m.f5) ∧ W'.cell? ⟨w0.heap.size, 0, none⟩ = some (.int .i64 g) ∧ W'.cell? ⟨w0.heap.size, 1, none⟩ = some (.slice A rels.length c) ∧ W'.cell? ⟨w0.heap.size, 2, none⟩ = some (.string s) ∧ W'.cell? ⟨w0.heap.size, 3, none⟩ = some (cv) ∧ Below W1.heap.size W1 W') (exact HS.out _ (by repeat (first | (with_reducible exact Below.refl _ _) | (with_reducible apply below_alloc) | (with_reducible apply pw_below_drewN) | (with_reducible apply below_drew1) | (refine below_step ?_ hBc) | exact Below.refl _ _))) (first | (go_at_call 56; refine (side_calls g A c _ rels rfl m.f3 m.f5 _ h1 (by omega) (by omega) ?aR ?aC).mono ?_; (case aR => exact Kd.C_below (Kd.C_below HC0.out HB1.out) (by repeat (first | (with_reducible exact Below.refl _ _) | apply below_alloc | apply pw_below_drewN | apply below_drew1 | exact Below.refl _ _))); (case aC => exact hc); rintro e w2 ⟨rfl, hBc⟩; rw [ht]; have HB2 : Aside0 (Below W1.heap.size W1 w2) := ⟨below_step (by repeat (first | (with_reducible exact Below.refl _ _) | apply below_alloc | apply pw_below_drewN | apply below_drew1 | exact Below.refl _ _)) hBc⟩) )
  have m4 := (HS.out w2 HB2.out).2.2.2.2.1
  have hdh3 : decide (0 ≤ m.f4) = false := decide_eq_false (by omega)
  go_wp2_with (go_at_call 65; refine (ask_false _).mono ?_; rintro e w' ⟨rfl, rfl⟩)
  exact ⟨rfl, rfl, below_step HB0.out (below_step HB1.out (below_step HB2.out (by repeat (first | (with_reducible exact Below.refl _ _) | apply pw_below_drewN | apply below_drew1 | exact Below.refl _ _))))⟩
set_option maxHeartbeats 800000 in
theorem rotated_no3 (w0 : World) (tb : Nat) (TB : Option Obj) (g : Int) (A : Option Addr) (n c : Nat) (s : ByteArray) (cs : List S59) (m : S52) (w : World) (hw : Walk w0 tb TB g A n c w s cs) (rels : List ByteArray) (hn : n = rels.length) (hC : Kd.C Kd.string w0 A n rels) (hc : n ≤ c) (hs : s.size ≤ 100000) (h1 : 0 ≤ m.f3) (h2 : m.f3 < n) (hz : (rdOf ByteArray.empty rels m.f3).size ≤ 1000) (t : ByteArray) (ht : sideS rels m.f3 m.f5 = t) (h3 : 0 ≤ m.f4) (h4 : ¬ m.f4 < t.size) :
    Calls Try.prog 76 #[.pointer (some ⟨w0.heap.size, 0, none⟩), .agg #[.int .i64 m.f0, .int .i64 m.f1, .int .i64 m.f2, .int .i64 m.f3, .int .i64 m.f4, .bool m.f5]] w fun e w' => e = .panicked unfit ∧ Below w0.heap.size w0 w' := by
  subst hn
  have HB0 : Aside0 (Below w0.heap.size w0 w) := ⟨hw.bel⟩
  have HC0 := Aside0.mk (Kd.C_below hC hw.bel)
  obtain ⟨cv, hkc, hcR⟩ := hw.row
  have hklt := hw.klt
  obtain ⟨W1, hW1⟩ : ∃ W1, W1 = w.alloc (.cells #[.int .i64 m.f0, .int .i64 m.f1, .int .i64 m.f2, .int .i64 m.f3, .int .i64 m.f4, .bool m.f5] 52) := ⟨_, rfl⟩
  have HM : Aside0 (W1.heap[w.heap.size]? = some (.cells #[.int .i64 m.f0, .int .i64 m.f1, .int .i64 m.f2, .int .i64 m.f3, .int .i64 m.f4, .bool m.f5] 52 (0, 0))) := ⟨by rw [hW1]; exact Go.heap_alloc_new _ _⟩
  have HK1 : Aside0 (W1.heap[w0.heap.size]? = some (walkO g A _ c s cv)) := ⟨by rw [hW1]; exact blk_alloc hkc _⟩
  have HB1 : Aside0 (Below w.heap.size w W1) := ⟨by rw [hW1]; exact below_alloc (Below.refl _ _) _⟩
  have HW1 : Aside0 (Walk w0 tb TB g A _ c W1 s cs) := ⟨hw.grow HB1.out⟩
  have HLT : Aside0 (w.heap.size < W1.heap.size) := ⟨blk_lt HM.out⟩
  have HS : Aside0 (∀ W', Below W1.heap.size W1 W' → W'.cell? ⟨w.heap.size, 0, none⟩ = some (.int .i64 m.f0) ∧ W'.cell? ⟨w.heap.size, 1, none⟩ = some (.int .i64 m.f1) ∧ W'.cell? ⟨w.heap.size, 2, none⟩ = some (.int .i64 m.f2) ∧ W'.cell? ⟨w.heap.size, 3, none⟩ = some (.int .i64 m.f3) ∧ W'.cell? ⟨w.heap.size, 4, none⟩ = some (.int .i64 m.f4) ∧ W'.cell? ⟨w.heap.size, 5, none⟩ = some (.bool m.f5) ∧ W'.cell? ⟨w0.heap.size, 0, none⟩ = some (.int .i64 g) ∧ W'.cell? ⟨w0.heap.size, 1, none⟩ = some (.slice A rels.length c) ∧ W'.cell? ⟨w0.heap.size, 2, none⟩ = some (.string s) ∧ W'.cell? ⟨w0.heap.size, 3, none⟩ = some (cv) ∧ Below W1.heap.size W1 W') :=
    ⟨fun W' hb => ⟨(blk_cell (blk_below HM.out hb) 0).trans rfl, (blk_cell (blk_below HM.out hb) 1).trans rfl, (blk_cell (blk_below HM.out hb) 2).trans rfl, (blk_cell (blk_below HM.out hb) 3).trans rfl, (blk_cell (blk_below HM.out hb) 4).trans rfl, (blk_cell (blk_below HM.out hb) 5).trans rfl, (blk_cell (blk_below HK1.out hb) 0).trans rfl, (blk_cell (blk_below HK1.out hb) 1).trans rfl, (blk_cell (blk_below HK1.out hb) 2).trans rfl, (blk_cell (blk_below HK1.out hb) 3).trans rfl, hb⟩⟩
  have HT : Aside0 (∀ W', KeepBut W1 W' w0.heap.size none → W'.cell? ⟨w.heap.size, 0, none⟩ = some (.int .i64 m.f0) ∧ W'.cell? ⟨w.heap.size, 1, none⟩ = some (.int .i64 m.f1) ∧ W'.cell? ⟨w.heap.size, 2, none⟩ = some (.int .i64 m.f2) ∧ W'.cell? ⟨w.heap.size, 3, none⟩ = some (.int .i64 m.f3) ∧ W'.cell? ⟨w.heap.size, 4, none⟩ = some (.int .i64 m.f4) ∧ W'.cell? ⟨w.heap.size, 5, none⟩ = some (.bool m.f5) ∧ KeepBut W1 W' w0.heap.size none) :=
    ⟨fun W' hb => ⟨keep_cell hb ((blk_cell HM.out 0).trans rfl) (by show w.heap.size ≠ w0.heap.size; omega), keep_cell hb ((blk_cell HM.out 1).trans rfl) (by show w.heap.size ≠ w0.heap.size; omega), keep_cell hb ((blk_cell HM.out 2).trans rfl) (by show w.heap.size ≠ w0.heap.size; omega), keep_cell hb ((blk_cell HM.out 3).trans rfl) (by show w.heap.size ≠ w0.heap.size; omega), keep_cell hb ((blk_cell HM.out 4).trans rfl) (by show w.heap.size ≠ w0.heap.size; omega), keep_cell hb ((blk_cell HM.out 5).trans rfl) (by show w.heap.size ≠ w0.heap.size; omega), hb⟩⟩
  clear hw hkc hcR
  go_enter Try.func76, Try.ntmps76
  go_wp2_with fail
  rw [← hW1]
  clear hW1
  have m3 := (HS.out W1 (Below.refl _ _)).2.2.2.1
  have q0 := (HS.out W1 (Below.refl _ _)).2.2.2.2.2.2.1
  have q1 := (HS.out W1 (Below.refl _ _)).2.2.2.2.2.2.2.1
  go_quiet (first | (go_at_call 65; exact Calls.quiet_of_same (ask_true' _)))
  go_wp2_with fail
  go_region_held3 (fun W' => W'.cell? ⟨w.heap.size, 0, none⟩ = some (.int .i64 m.f0) ∧ W'.cell? ⟨w.heap.size, 1, none⟩ = some (.int .i64 m.f1) ∧ W'.cell? ⟨w.heap.size, 2, none⟩ = some (.int .i64 m.f2) ∧ W'.cell? ⟨w.heap.size, 3, none⟩ = some (.int .i64 m.f3) ∧ W'.cell? ⟨w.heap.size, 4, none⟩ = some (.int .i64 m.f4) ∧ W'.cell? ⟨w.heap.size, 5, none⟩ = some (.bool m.f5) ∧ W'.cell? ⟨w0.heap.size, 0, none⟩ = some (.int .i64 g) ∧ W'.cell? ⟨w0.heap.size, 1, none⟩ = some (.slice A rels.length c) ∧ W'.cell? ⟨w0.heap.size, 2, none⟩ = some (.string s) ∧ W'.cell? ⟨w0.heap.size, 3, none⟩ = some (cv) ∧ Below W1.heap.size W1 W') (exact HS.out _ (by repeat (first | (with_reducible exact Below.refl _ _) | (with_reducible apply below_alloc) | (with_reducible apply pw_below_drewN) | (with_reducible apply below_drew1) | (refine below_step ?_ hBc) | exact Below.refl _ _))) (first | (go_at_call 56; refine (side_calls g A c _ rels rfl m.f3 m.f5 _ h1 (by omega) (by omega) ?aR ?aC).mono ?_; (case aR => exact Kd.C_below (Kd.C_below HC0.out HB1.out) (by repeat (first | (with_reducible exact Below.refl _ _) | apply below_alloc | apply pw_below_drewN | apply below_drew1 | exact Below.refl _ _))); (case aC => exact hc); rintro e w2 ⟨rfl, hBc⟩; rw [ht]; have HB2 : Aside0 (Below W1.heap.size W1 w2) := ⟨below_step (by repeat (first | (with_reducible exact Below.refl _ _) | apply below_alloc | apply pw_below_drewN | apply below_drew1 | exact Below.refl _ _)) hBc⟩) )
  have m4 := (HS.out w2 HB2.out).2.2.2.2.1
  have hdh4 : decide (m.f4 < t.size) = false := decide_eq_false (by omega)
  go_wp2_with (go_at_call 65; refine (ask_false _).mono ?_; rintro e w' ⟨rfl, rfl⟩)
  exact ⟨rfl, rfl, below_step HB0.out (below_step HB1.out (below_step HB2.out (by repeat (first | (with_reducible exact Below.refl _ _) | apply pw_below_drewN | apply below_drew1 | exact Below.refl _ _))))⟩
theorem kept_cell {W1 W' : World} {row : Option Nat} {g i : Nat} {v : Value} (h : KeepBut W1 W' W1.heap.size row) (hg : g < W1.heap.size) (hr : some g ≠ row) (hc : W1.cell? ⟨g, i, none⟩ = some v) : W'.cell? ⟨g, i, none⟩ = some v := by
  have := h.2 g hg (Nat.ne_of_lt hg) hr
  unfold World.cell? at hc ⊢
  rw [this]; exact hc
theorem kept_below {W1 W W' : World} {row : Option Nat} (h : KeepBut W1 W W1.heap.size row) (hb : Below W.heap.size W W') : KeepBut W1 W' W1.heap.size row :=
  ⟨Nat.le_trans h.1 hb.size, fun i hi hg hr => (hb.block i (Nat.lt_of_lt_of_le hi h.1)).trans (h.2 i hi hg hr)⟩
theorem kept_grown {W1 W W' : World} {row : Option Nat} (h : KeepBut W1 W W1.heap.size row) (hb : W.grownBy W' row) : KeepBut W1 W' W1.heap.size row :=
  ⟨Nat.le_trans h.1 hb.size, fun i hi hg hr => (hb.block i (Nat.lt_of_lt_of_le hi h.1) hr).trans (h.2 i hi hg hr)⟩
set_option maxHeartbeats 1600000 in
theorem cell_walk (w0 : World) (tb : Nat) (TB : Option Obj) (g : Int) (A : Option Addr) (n c : Nat) (s : ByteArray) (cs : List S59) (m : S52) (before : ByteArray) (inv : Bool) (w : World) (hw : Walk w0 tb TB g A n c w s cs) (hs : s.size ≤ 100000) (h1 : 0 ≤ m.f1) (h2 : m.f1 ≤ s.size) (hbs : before.size ≤ 100000) (hcs : cs.length < 1000000) :
    Calls Try.prog 77 #[.pointer (some ⟨w0.heap.size, 0, none⟩), .agg #[.int .i64 m.f0, .int .i64 m.f1, .int .i64 m.f2, .int .i64 m.f3, .int .i64 m.f4, .bool m.f5], .string before, .bool inv] w fun e w' => e = .returned (.tuple #[]) ∧ Walk w0 tb TB g A n c w' s (cs ++ [(⟨strOfNums (redL [s.extract 0 m.f1.toNat, invS before]), m.f3, inv⟩ : S59)]) ∧ ∀ b, b < w.heap.size → b ≠ w0.heap.size → (∀ cv, w.heap[w0.heap.size]? = some (walkO g A n c s cv) → some b ≠ cv.ownBlock) → w'.heap[b]? = w.heap[b]? := by
  obtain ⟨cv, hkc, hcR⟩ := hw.row
  have hklt := hw.klt
  obtain ⟨W1, hW1⟩ : ∃ W1, W1 = w.alloc (.cells #[.int .i64 m.f0, .int .i64 m.f1, .int .i64 m.f2, .int .i64 m.f3, .int .i64 m.f4, .bool m.f5] 52) := ⟨_, rfl⟩
  have HM : Aside0 (W1.heap[w.heap.size]? = some (.cells #[.int .i64 m.f0, .int .i64 m.f1, .int .i64 m.f2, .int .i64 m.f3, .int .i64 m.f4, .bool m.f5] 52 (0, 0))) := ⟨by rw [hW1]; exact Go.heap_alloc_new _ _⟩
  have HK1 : Aside0 (W1.heap[w0.heap.size]? = some (walkO g A n c s cv)) := ⟨by rw [hW1]; exact blk_alloc hkc _⟩
  have HB1 : Aside0 (Below w.heap.size w W1) := ⟨by rw [hW1]; exact below_alloc (Below.refl _ _) _⟩
  have HW1 : Aside0 (Walk w0 tb TB g A n c W1 s cs) := ⟨hw.grow HB1.out⟩
  have HLT : Aside0 (w.heap.size < W1.heap.size) := ⟨blk_lt HM.out⟩
  have HS : Aside0 (∀ W', Below W1.heap.size W1 W' → W'.cell? ⟨w.heap.size, 0, none⟩ = some (.int .i64 m.f0) ∧ W'.cell? ⟨w.heap.size, 1, none⟩ = some (.int .i64 m.f1) ∧ W'.cell? ⟨w.heap.size, 2, none⟩ = some (.int .i64 m.f2) ∧ W'.cell? ⟨w.heap.size, 3, none⟩ = some (.int .i64 m.f3) ∧ W'.cell? ⟨w.heap.size, 4, none⟩ = some (.int .i64 m.f4) ∧ W'.cell? ⟨w.heap.size, 5, none⟩ = some (.bool m.f5) ∧ W'.cell? ⟨w0.heap.size, 0, none⟩ = some (.int .i64 g) ∧ W'.cell? ⟨w0.heap.size, 1, none⟩ = some (.slice A n c) ∧ W'.cell? ⟨w0.heap.size, 2, none⟩ = some (.string s) ∧ W'.cell? ⟨w0.heap.size, 3, none⟩ = some (cv) ∧ Below W1.heap.size W1 W') :=
    ⟨fun W' hb => ⟨(blk_cell (blk_below HM.out hb) 0).trans rfl, (blk_cell (blk_below HM.out hb) 1).trans rfl, (blk_cell (blk_below HM.out hb) 2).trans rfl, (blk_cell (blk_below HM.out hb) 3).trans rfl, (blk_cell (blk_below HM.out hb) 4).trans rfl, (blk_cell (blk_below HM.out hb) 5).trans rfl, (blk_cell (blk_below HK1.out hb) 0).trans rfl, (blk_cell (blk_below HK1.out hb) 1).trans rfl, (blk_cell (blk_below HK1.out hb) 2).trans rfl, (blk_cell (blk_below HK1.out hb) 3).trans rfl, hb⟩⟩
  have HT : Aside0 (∀ W', KeepBut W1 W' w0.heap.size none → W'.cell? ⟨w.heap.size, 0, none⟩ = some (.int .i64 m.f0) ∧ W'.cell? ⟨w.heap.size, 1, none⟩ = some (.int .i64 m.f1) ∧ W'.cell? ⟨w.heap.size, 2, none⟩ = some (.int .i64 m.f2) ∧ W'.cell? ⟨w.heap.size, 3, none⟩ = some (.int .i64 m.f3) ∧ W'.cell? ⟨w.heap.size, 4, none⟩ = some (.int .i64 m.f4) ∧ W'.cell? ⟨w.heap.size, 5, none⟩ = some (.bool m.f5) ∧ KeepBut W1 W' w0.heap.size none) :=
    ⟨fun W' hb => ⟨keep_cell hb ((blk_cell HM.out 0).trans rfl) (by show w.heap.size ≠ w0.heap.size; omega), keep_cell hb ((blk_cell HM.out 1).trans rfl) (by show w.heap.size ≠ w0.heap.size; omega), keep_cell hb ((blk_cell HM.out 2).trans rfl) (by show w.heap.size ≠ w0.heap.size; omega), keep_cell hb ((blk_cell HM.out 3).trans rfl) (by show w.heap.size ≠ w0.heap.size; omega), keep_cell hb ((blk_cell HM.out 4).trans rfl) (by show w.heap.size ≠ w0.heap.size; omega), keep_cell hb ((blk_cell HM.out 5).trans rfl) (by show w.heap.size ≠ w0.heap.size; omega), hb⟩⟩
  have HG0 : Aside0 (some w0.heap.size ≠ cv.ownBlock ∧ some w.heap.size ≠ cv.ownBlock) := ⟨fun e => (hcR.1 _ e.symm).1 rfl, fun e => by have := Kd.R_lt hcR _ e.symm; omega⟩
  have HU : Aside0 (∀ W', KeepBut W1 W' W1.heap.size cv.ownBlock → W'.cell? ⟨w.heap.size, 0, none⟩ = some (.int .i64 m.f0) ∧ W'.cell? ⟨w.heap.size, 1, none⟩ = some (.int .i64 m.f1) ∧ W'.cell? ⟨w.heap.size, 2, none⟩ = some (.int .i64 m.f2) ∧ W'.cell? ⟨w.heap.size, 3, none⟩ = some (.int .i64 m.f3) ∧ W'.cell? ⟨w.heap.size, 4, none⟩ = some (.int .i64 m.f4) ∧ W'.cell? ⟨w.heap.size, 5, none⟩ = some (.bool m.f5) ∧ W'.cell? ⟨w0.heap.size, 0, none⟩ = some (.int .i64 g) ∧ W'.cell? ⟨w0.heap.size, 1, none⟩ = some (.slice A n c) ∧ W'.cell? ⟨w0.heap.size, 2, none⟩ = some (.string s) ∧ W'.cell? ⟨w0.heap.size, 3, none⟩ = some (cv) ∧ KeepBut W1 W' W1.heap.size cv.ownBlock) :=
    ⟨fun W' hb => ⟨kept_cell hb (blk_lt HM.out) HG0.out.2 ((blk_cell HM.out 0).trans rfl), kept_cell hb (blk_lt HM.out) HG0.out.2 ((blk_cell HM.out 1).trans rfl), kept_cell hb (blk_lt HM.out) HG0.out.2 ((blk_cell HM.out 2).trans rfl), kept_cell hb (blk_lt HM.out) HG0.out.2 ((blk_cell HM.out 3).trans rfl), kept_cell hb (blk_lt HM.out) HG0.out.2 ((blk_cell HM.out 4).trans rfl), kept_cell hb (blk_lt HM.out) HG0.out.2 ((blk_cell HM.out 5).trans rfl), kept_cell hb (blk_lt HK1.out) HG0.out.1 ((blk_cell HK1.out 0).trans rfl), kept_cell hb (blk_lt HK1.out) HG0.out.1 ((blk_cell HK1.out 1).trans rfl), kept_cell hb (blk_lt HK1.out) HG0.out.1 ((blk_cell HK1.out 2).trans rfl), kept_cell hb (blk_lt HK1.out) HG0.out.1 ((blk_cell HK1.out 3).trans rfl), hb⟩⟩
  have HR1 : Aside0 (Kd.R k59 59 W1 w0.heap.size (fun k => k ≠ w0.heap.size ∧ k ≠ tb) cv cs) := ⟨Kd.R_below hcR HB1.out⟩
  have HLK : Aside0 (w0.heap.size < W1.heap.size) := ⟨blk_lt HK1.out⟩
  have HKC := Aside0.mk hkc
  clear hw hkc hcR
  go_enter Try.func77, Try.ntmps77
  go_wp2_with fail
  rw [← hW1]
  clear hW1
  refine wp_region_held_last (S := fun W' => W'.cell? ⟨w.heap.size, 0, none⟩ = some (.int .i64 m.f0) ∧ W'.cell? ⟨w.heap.size, 1, none⟩ = some (.int .i64 m.f1) ∧ W'.cell? ⟨w.heap.size, 2, none⟩ = some (.int .i64 m.f2) ∧ W'.cell? ⟨w.heap.size, 3, none⟩ = some (.int .i64 m.f3) ∧ W'.cell? ⟨w.heap.size, 4, none⟩ = some (.int .i64 m.f4) ∧ W'.cell? ⟨w.heap.size, 5, none⟩ = some (.bool m.f5) ∧ W'.cell? ⟨w0.heap.size, 0, none⟩ = some (.int .i64 g) ∧ W'.cell? ⟨w0.heap.size, 1, none⟩ = some (.slice A n c) ∧ W'.cell? ⟨w0.heap.size, 2, none⟩ = some (.string s) ∧ W'.cell? ⟨w0.heap.size, 3, none⟩ = some (cv) ∧ KeepBut W1 W' W1.heap.size cv.ownBlock) _ (by kernel_rfl) (by kernel_rfl) rfl (HU.out _ (kept_below (KeepBut.refl W1 _ _) (below_drew (Below.refl _ _)))) (fun hHeld => ?_)
  simp only [hushLast, hush]
  refine takeH (v := ?v0) 0 rfl (by kernel_rfl) (by kernel_rfl) (by kernel_rfl) (fun _ _ _ h => h) (.inl ⟨by rfl, ?hy0⟩) (by assumption) ?r0
  case hy0 => (intro wq hSw; (try dsimp only at hSw); first | (go_simp; done) | (go_simp; with_reducible rfl))
  try simp only [Act.put, List.setIfInBounds_toArray, List.set_cons_zero, List.set_cons_succ]
  refine takeH (v := ?v1) 1 rfl (by kernel_rfl) (by kernel_rfl) (by kernel_rfl) (fun _ _ _ h => h) (.inl ⟨by rfl, ?hy1⟩) (by assumption) ?r1
  case hy1 => (intro wq hSw; (try dsimp only at hSw); first | (go_simp; done) | (go_simp; with_reducible rfl))
  try simp only [Act.put, List.setIfInBounds_toArray, List.set_cons_zero, List.set_cons_succ]
  refine takeH (v := ?v2) 2 rfl (by kernel_rfl) (by kernel_rfl) (by kernel_rfl) (fun _ _ _ h => h) (.inl ⟨by rfl, ?hy2⟩) (by assumption) ?r2
  case hy2 => (intro wq hSw; (try dsimp only at hSw); first | (go_simp; done) | (go_simp; with_reducible rfl))
  try simp only [Act.put, List.setIfInBounds_toArray, List.set_cons_zero, List.set_cons_succ]
  refine takeH (v := ?v3) 3 rfl (by kernel_rfl) (by kernel_rfl) (by kernel_rfl) (fun _ _ _ h => h) (.inl ⟨by rfl, ?hy3⟩) (by assumption) ?r3
  case hy3 => (intro wq hSw; (try dsimp only at hSw); first | (go_simp; done) | (go_simp; with_reducible rfl))
  try simp only [Act.put, List.setIfInBounds_toArray, List.set_cons_zero, List.set_cons_succ]
  refine takeH (v := ?v4) 4 rfl (by kernel_rfl) (by kernel_rfl) (by kernel_rfl) (fun _ _ _ h => h) (.inl ⟨by rfl, ?hy4⟩) (by assumption) ?r4
  case hy4 => (intro wq hSw; (try dsimp only at hSw); first | (go_simp; done) | (go_simp; with_reducible rfl))
  try simp only [Act.put, List.setIfInBounds_toArray, List.set_cons_zero, List.set_cons_succ]
  refine takeH (v := ?v5) 5 rfl (by kernel_rfl) (by kernel_rfl) (by kernel_rfl) (fun _ _ _ h => h) (.inl ⟨by rfl, ?hy5⟩) (by assumption) ?r5
  case hy5 => (intro wq hSw; (try dsimp only at hSw); first | (go_simp; done) | (go_simp; with_reducible rfl))
  try simp only [Act.put, List.setIfInBounds_toArray, List.set_cons_zero, List.set_cons_succ]
  refine takeH (v := ?v6) 6 rfl (by kernel_rfl) (by kernel_rfl) (by kernel_rfl) (fun _ _ _ h => h) (.inl ⟨by rfl, ?hy6⟩) (by assumption) ?r6
  case hy6 => (intro wq hSw; (try dsimp only at hSw); first | (go_simp; done) | (go_simp; with_reducible rfl))
  try simp only [Act.put, List.setIfInBounds_toArray, List.set_cons_zero, List.set_cons_succ]
  refine takeH (v := ?v7) 7 rfl (by kernel_rfl) (by kernel_rfl) (by kernel_rfl) (fun _ _ _ h => h) (.inl ⟨by rfl, ?hy7⟩) (by assumption) ?r7
  case hy7 => (intro wq hSw; (try dsimp only at hSw); first | (go_simp; done) | (go_simp; with_reducible rfl))
  try simp only [Act.put, List.setIfInBounds_toArray, List.set_cons_zero, List.set_cons_succ]
  refine takeH (v := ?v8) 8 rfl (by kernel_rfl) (by kernel_rfl) (by kernel_rfl) (fun _ _ _ h => h) (.inl ⟨by rfl, ?hy8⟩) (by assumption) ?r8
  case hy8 => (intro wq hSw; (try dsimp only at hSw); first | (go_simp; done) | (go_simp; with_reducible rfl))
  try simp only [Act.put, List.setIfInBounds_toArray, List.set_cons_zero, List.set_cons_succ]
  refine takeH (v := ?v9) 9 rfl (by kernel_rfl) (by kernel_rfl) (by kernel_rfl) (fun _ _ _ h => h) (.inl ⟨by rfl, ?hy9⟩) (by assumption) ?r9
  case hy9 => (intro wq hSw; (try dsimp only at hSw); first | (go_simp; done) | (go_simp; with_reducible rfl))
  try simp only [Act.put, List.setIfInBounds_toArray, List.set_cons_zero, List.set_cons_succ]
  refine takeH (v := ?v10) 10 rfl (by kernel_rfl) (by kernel_rfl) (by kernel_rfl) (fun _ _ _ h => h) (.inl ⟨by rfl, ?hy10⟩) (by assumption) ?r10
  case hy10 => (intro wq hSw; (try dsimp only at hSw); first | (go_simp; done) | (go_simp; with_reducible rfl))
  try simp only [Act.put, List.setIfInBounds_toArray, List.set_cons_zero, List.set_cons_succ]
  refine takeH (v := ?v11) 11 rfl (by kernel_rfl) (by kernel_rfl) (by kernel_rfl) (fun _ _ _ h => h) (.inl ⟨by rfl, ?hy11⟩) (by assumption) ?r11
  case hy11 => (intro wq hSw; (try dsimp only at hSw); first | (go_simp; done) | (go_simp; with_reducible rfl))
  try simp only [Act.put, List.setIfInBounds_toArray, List.set_cons_zero, List.set_cons_succ]
  refine takeH (v := ?v12) 12 rfl (by kernel_rfl) (by kernel_rfl) (by kernel_rfl) (fun _ _ _ h => h) (.inl ⟨by rfl, ?hy12⟩) (by assumption) ?r12
  case hy12 => (intro wq hSw; (try dsimp only at hSw); first | (go_simp; done) | (go_simp; with_reducible rfl))
  try simp only [Act.put, List.setIfInBounds_toArray, List.set_cons_zero, List.set_cons_succ]
  refine takeH (v := ?v16) 16 rfl (by kernel_rfl) (by kernel_rfl) (by kernel_rfl) (fun _ _ _ h => h) (.inl ⟨by rfl, ?hy16⟩) (by assumption) ?r16
  case hy16 => (intro wq hSw; (try dsimp only at hSw); first | (go_simp; done) | (go_simp; with_reducible rfl))
  try simp only [Act.put, List.setIfInBounds_toArray, List.set_cons_zero, List.set_cons_succ]
  refine takeH (v := ?v17) 17 rfl (by kernel_rfl) (by kernel_rfl) (by kernel_rfl) (fun _ _ _ h => h) (.inl ⟨by rfl, ?hy17⟩) (by assumption) ?r17
  case hy17 => (intro wq hSw; (try dsimp only at hSw); first | (go_simp; done) | (go_simp; with_reducible rfl))
  try simp only [Act.put, List.setIfInBounds_toArray, List.set_cons_zero, List.set_cons_succ]
  refine takeH (v := ?v18) 18 rfl (by kernel_rfl) (by kernel_rfl) (by kernel_rfl) (fun _ _ _ h => h) (.inl ⟨by rfl, ?hy18⟩) (by assumption) ?r18
  case hy18 => (intro wq hSw; (try dsimp only at hSw); first | (go_simp; done) | (go_simp; with_reducible rfl))
  try simp only [Act.put, List.setIfInBounds_toArray, List.set_cons_zero, List.set_cons_succ]
  refine oneH 13 (by kernel_rfl) rfl (fun K hK => ?_)
  go_simp
  go_at_call 57
  refine (inverse_calls before (by omega) _).mono ?_
  rintro e w2 ⟨rfl, hB2⟩
  have K2 : KeepBut W1 w2 W1.heap.size cv.ownBlock := kept_below (kept_below (KeepBut.refl W1 _ _) (below_drew (Below.refl _ _))) hB2
  have B2 : Below W1.heap.size W1 w2 := below_step (below_drew (Below.refl _ _)) hB2
  refine hK.out _ _ ?_ (fun hHeld => ?_)
  · exact HU.out _ K2
  clear hK K
  try simp only [Act.put, List.setIfInBounds_toArray, List.set_cons_zero, List.set_cons_succ]
  refine oneH 14 (by kernel_rfl) rfl (fun K hK => ?_)
  go_simp
  refine hK.out _ _ ?_ (fun hHeld => ?_)
  · exact HU.out _ (kept_below K2 (below_alloc (Below.refl _ _) _))
  clear hK K
  try simp only [Act.put, List.setIfInBounds_toArray, List.set_cons_zero, List.set_cons_succ]
  refine oneH 15 (by kernel_rfl) rfl (fun K hK => ?_)
  go_simp
  go_at_call 40
  refine (disk_reduced.calls (some ⟨w2.heap.size, 0, none⟩) 2 [s.extract 0 m.f1.toNat, invS before] (strOfNums (redL [s.extract 0 m.f1.toNat, invS before])) _ (lit_C _ _ 9 (0, 0) [s.extract 0 m.f1.toNat, invS before] (by simp) _ rfl (Go.heap_alloc_new _ _)) (by simp) (by
    rw [disk_reduced.f, if_pos]
    rw [sizes_cons, sizes_cons, invS_size]
    have : (s.extract 0 m.f1.toNat).size ≤ s.size := by rw [ByteArray.size_extract]; omega
    simp only [sizes, List.foldl_nil]; omega)).mono ?_
  rintro e w4 ⟨rfl, hB4⟩
  have B4 : Below W1.heap.size W1 w4 := below_step (below_alloc B2 _) hB4
  have K4 : KeepBut W1 w4 W1.heap.size cv.ownBlock := kept_below (KeepBut.refl W1 _ _) B4
  refine hK.out _ _ ?_ (fun hHeld => ?_)
  · exact HU.out _ K4
  clear hK K
  try simp only [Act.put, List.setIfInBounds_toArray, List.set_cons_zero, List.set_cons_succ]
  refine takeH (v := ?v19) 19 rfl (by kernel_rfl) (by kernel_rfl) (by kernel_rfl) (fun _ _ _ h => h) (.inl ⟨by rfl, ?hy19⟩) (by assumption) ?r19
  case hy19 => (intro wq hSw; (try dsimp only at hSw); first | (go_simp; done) | (go_simp; with_reducible rfl))
  try simp only [Act.put, List.setIfInBounds_toArray, List.set_cons_zero, List.set_cons_succ]
  refine oneH 20 (by kernel_rfl) rfl (fun K hK => ?_)
  go_simp
  refine hK.out _ _ ?_ (fun hHeld => ?_)
  · exact HU.out _ (kept_below K4 (below_alloc (Below.refl _ _) _))
  clear hK K
  try simp only [Act.put, List.setIfInBounds_toArray, List.set_cons_zero, List.set_cons_succ]
  refine oneH 21 (by kernel_rfl) rfl (fun K hK => ?_)
  refine Kd.R_append_step k59 (w0 := w0) w0.heap.size (by rfl) (.tmp 12) (.tmp 28) 25 59 (.agg #[(.string ⟨#[]⟩), (.int .i64 0), (.bool false)]) 32 rfl Try.underlying25 info59 rfl (by decide) (by omega) cv cs (⟨strOfNums (redL [s.extract 0 m.f1.toNat, invS before]), m.f3, inv⟩ : S59) [.string (strOfNums (redL [s.extract 0 m.f1.toNat, invS before])), .int .i64 m.f3, .bool inv] (fun k => k ≠ w0.heap.size ∧ k ≠ tb) (fun _ => False) rfl rfl ?aP (fun _ hk => hk.elim) ?aF ?aO ?aB ?aS ?aL ?_
  case aP => exact k59_mkM _ _ _ (⟨strOfNums (redL [s.extract 0 m.f1.toNat, invS before]), m.f3, inv⟩ : S59)
  case aF => exact fun k hk => ⟨by have := B4.size; have := HLK.out; omega, by have := B4.size; have := HW1.out.tlt; omega⟩
  case aO => exact Kd.R_below HR1.out B4
  case aB => exact below_step HW1.out.bel B4
  case aS => exact Nat.le_trans (Nat.le_of_lt HLK.out) B4.size
  case aL => omega
  intro v1 w6 hoa hba hga hat
  obtain ⟨A6, c6, rfl⟩ := Kd.R_slice hoa
  rw [List.length_append, List.length_singleton] at hoa
  have K6 : KeepBut W1 w6 W1.heap.size cv.ownBlock := kept_grown K4 hga
  have hg6 : w6.heap[w0.heap.size]? = some (walkO g A n c s cv) := (K6.2 _ HLK.out (Nat.ne_of_lt HLK.out) HG0.out.1).trans HK1.out
  have ht6 : w6.heap[tb]? = TB := (K6.2 _ HW1.out.tlt (Nat.ne_of_lt HW1.out.tlt) (fun e => (HR1.out.1 _ e.symm).2 rfl)).trans HW1.out.tab
  have hf6 := blk_frozen hg6 3
  have hc6 : w6.cell? ⟨w0.heap.size, 3, none⟩ = some cv := (blk_cell hg6 3).trans rfl
  have hk6 : W1.heap.size ≤ w6.heap.size := K6.1
  refine hK.out _ _ ?_ (fun hHeld => ?_)
  · exact HU.out _ K6
  clear hK K
  try simp only [Act.put, List.setIfInBounds_toArray, List.set_cons_zero, List.set_cons_succ]
  refine takeH (v := ?v22) 22 rfl (by kernel_rfl) (by kernel_rfl) (by kernel_rfl) (fun _ _ _ h => h) (.inl ⟨by rfl, ?hy22⟩) (by assumption) ?r22
  case hy22 => (intro wq hSw; (try dsimp only at hSw); first | (go_simp; done) | (go_simp; with_reducible rfl))
  try simp only [Act.put, List.setIfInBounds_toArray, List.set_cons_zero, List.set_cons_succ]
  refine takeH (v := ?v23) 23 rfl (by kernel_rfl) (by kernel_rfl) (by kernel_rfl) (fun _ _ _ h => h) (.inl ⟨by rfl, ?hy23⟩) (by assumption) ?r23
  case hy23 => (intro wq hSw; (try dsimp only at hSw); first | (go_simp; done) | (go_simp; with_reducible rfl))
  try simp only [Act.put, List.setIfInBounds_toArray, List.set_cons_zero, List.set_cons_succ]
  refine takeH (v := ?v24) 24 rfl (by kernel_rfl) (by kernel_rfl) (by kernel_rfl) (fun _ _ _ h => h) (.inl ⟨by rfl, ?hy24⟩) (by assumption) ?r24
  case hy24 => (intro wq hSw; (try dsimp only at hSw); first | (go_simp; done) | (go_simp; with_reducible rfl))
  try simp only [Act.put, List.setIfInBounds_toArray, List.set_cons_zero, List.set_cons_succ]
  refine wpAnyH_done (by kernel_rfl) ?_ _
  refine lateQ_done _ rfl (by simp only [Region.wanted]) ?_
  clear hHeld
  go_simp
  go_end0
  refine ⟨rfl, ⟨below_set hba (Nat.le_refl _), ?_, ?_, HW1.out.tne, ?_, _, blk_put (cs := #[.int .i64 g, .slice A n c, .string s, cv]) hg6 3 _ rfl, Kd.R_far (p := ⟨w0.heap.size, 3, none⟩) hoa (fun _ hk => hk.1) _⟩, fun b hb hne hrow => ?_⟩
  · rw [World.size_setCell]; exact Nat.lt_of_lt_of_le HW1.out.tlt hk6
  · rw [World.size_setCell]; exact Nat.lt_of_lt_of_le HLK.out hk6
  · rw [Below.heap_setCell w6 ⟨w0.heap.size, 3, none⟩ _ tb HW1.out.tne]; exact ht6
  · have hb1 : b < W1.heap.size := Nat.lt_of_lt_of_le hb HB1.out.size
    rw [Below.heap_setCell w6 ⟨w0.heap.size, 3, none⟩ _ b hne, K6.2 b hb1 (Nat.ne_of_lt hb1) (hrow cv HKC.out)]
    exact HB1.out.block b hb
end H
end Go.Proofs.Ytmmichdlgjcmoaa.PAll
