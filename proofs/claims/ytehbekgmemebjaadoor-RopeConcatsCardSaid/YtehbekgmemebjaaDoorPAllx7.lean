import Derived.OpenShut
import Derived.Test.YtehbekgmemebjaaDoorPAllx0
import Derived.Test.YtehbekgmemebjaaDoorPAllx5
import Derived.Test.YtehbekgmemebjaaDoorExtR
namespace Go.Proofs.YtehbekgmemebjaaDoor.PAll
open Go.RowKit Go.Proofs.YtehbekgmemebjaaDoorW.PrintWords Go.Proofs.YtehbekgmemebjaaDoorW.PrintLast Go.Proofs.YtehbekgmemebjaaDoorW.PrintMore
attribute [local go_sem] max2_int min2_int max_two min_two max_three min_three max_four min_four   -- for this text's walks alone
set_option linter.unusedVariables false
set_option linter.unusedSimpArgs false
def cayleyref02_letter.f : Nat → List (S55) → List Int → Int → Int → Option (Int)
  | 0, _, _, _, _ => none
  | k + 1, l0, l1, a2, a3 => if 0 ≤ a2 then (if a2 < (l0.length : Int) then (if ((rd_T55 l0 a2).f0).toList = ([] : List UInt8) then (if ((rd_T55 l0 a2).f3) > 0 then (if 0 ≤ ((rd_T55 l0 a2).f1) then (if ((rd_T55 l0 a2).f1) < (l1.length : Int) then (if (rd l1 ((rd_T55 l0 a2).f1)) = 0 then (none) else ((cayleyref02_letter.f k l0 l1 ((rd_T55 l0 a2).f1) (Int.tmod a3 (rd l1 ((rd_T55 l0 a2).f1)))).bind fun t208 => (some t208))) else (none)) else (none)) else (if 0 ≤ ((rd_T55 l0 a2).f1) then (if ((rd_T55 l0 a2).f1) < (l1.length : Int) then (if a3 < (rd l1 ((rd_T55 l0 a2).f1)) then ((cayleyref02_letter.f k l0 l1 ((rd_T55 l0 a2).f1) a3).bind fun t210 => (some t210)) else ((cayleyref02_letter.f k l0 l1 ((rd_T55 l0 a2).f2) (wrap64 (a3 - (rd l1 ((rd_T55 l0 a2).f1))))).bind fun t212 => (some t212))) else (none)) else (none))) else (if 0 ≤ a3 then (if a3 < (((rd_T55 l0 a2).f0).size : Int) then (some (bt ((rd_T55 l0 a2).f0) a3)) else (none)) else (none))) else (none)) else (none)
def cayleyref02_letter.T5 : Bool × List (List Nat × List Nat) := (true, [([], []), ([], []), ([], []), ([2], [2]), ([], []), ([], []), ([], []), ([6], [6]), ([5, 7], [5, 7]), ([8], [8]), ([4, 9], [4, 9]), ([0, 1, 3, 10], [0, 1, 3, 10]), ([11, 11, 0, 1, 2, 3, 4, 5, 6, 7, 8, 9, 10, 11], [11])])
def cayleyref02_letter.B5 : List Nat := [0, 0, 0, 4, 0, 0, 0, 64, 224, 480, 1008, 2047, 4095]
theorem cayleyref02_letter.tab5 : rtab .any (opsOf Tryd.f37 5) = cayleyref02_letter.T5 := by kernel_rfl
theorem cayleyref02_letter.bits5 : waitsOk cayleyref02_letter.T5.2 cayleyref02_letter.B5 = true := by kernel_rfl
def cayleyref02_letter.T8 : Bool × List (List Nat × List Nat) := (true, [([], []), ([], []), ([], []), ([2], [2]), ([], []), ([], []), ([], []), ([6], [6]), ([5, 7], [5, 7]), ([8], [8]), ([4, 9], [4, 9]), ([0, 1, 3, 10], [0, 1, 3, 10]), ([11, 11, 0, 1, 2, 3, 4, 5, 6, 7, 8, 9, 10, 11], [11])])
def cayleyref02_letter.B8 : List Nat := [0, 0, 0, 4, 0, 0, 0, 64, 224, 480, 1008, 2047, 4095]
theorem cayleyref02_letter.tab8 : rtab .any (opsOf Tryd.f37 8) = cayleyref02_letter.T8 := by kernel_rfl
theorem cayleyref02_letter.bits8 : waitsOk cayleyref02_letter.T8.2 cayleyref02_letter.B8 = true := by kernel_rfl
set_option maxHeartbeats 8000000 in
set_option maxRecDepth 100000 in
theorem cayleyref02_letter.calls (k : Nat) : ∀ (A0 : Option Addr) (c0 : Nat) (l0 : List (S55)) (A1 : Option Addr) (c1 : Nat) (l1 : List Int) (a2 : Int) (a3 : Int) (r : Int) (w : World) (hr0 : Kd.C k55 w A0 l0.length l0) (hc0 : l0.length ≤ c0) (hr1 : Kd.C (Kd.int .i64) w A1 l1.length l1) (hc1 : l1.length ≤ c1) (h : cayleyref02_letter.f k l0 l1 a2 a3 = some r),
    Calls Tryd.prog 37 #[.slice A0 l0.length c0, .slice A1 l1.length c1, .int .i64 a2, .int .i64 a3] w fun e w' => e = .returned (.int .u8 r) ∧ Below w.heap.size w w' := by
  induction k using Nat.strongRecOn with
  | _ k ih =>
  intro A0 c0 l0 A1 c1 l1 a2 a3 r w hr0 hc0 hr1 hc1 h
  cases k with
  | zero => exact absurd h (by simp [cayleyref02_letter.f])
  | succ k =>
  simp only [cayleyref02_letter.f] at h
  have hu55 := Tryd.underlying55
  have HR0 := Aside0.mk hr0
  have HC0 := Aside0.mk hc0
  clear hr0 hc0
  have HR1 := Aside0.mk hr1
  have HC1 := Aside0.mk hc1
  clear hr1 hc1
  have HB := Aside0.mk (Below.refl w.heap.size w)
  have H : (if 0 ≤ a2 then (if a2 < (l0.length : Int) then (if ((rd_T55 l0 a2).f0).toList = ([] : List UInt8) then (if ((rd_T55 l0 a2).f3) > 0 then (if 0 ≤ ((rd_T55 l0 a2).f1) then (if ((rd_T55 l0 a2).f1) < (l1.length : Int) then (if (rd l1 ((rd_T55 l0 a2).f1)) = 0 then (none) else ((cayleyref02_letter.f k l0 l1 ((rd_T55 l0 a2).f1) (Int.tmod a3 (rd l1 ((rd_T55 l0 a2).f1)))).bind fun t208 => (some t208))) else (none)) else (none)) else (if 0 ≤ ((rd_T55 l0 a2).f1) then (if ((rd_T55 l0 a2).f1) < (l1.length : Int) then (if a3 < (rd l1 ((rd_T55 l0 a2).f1)) then ((cayleyref02_letter.f k l0 l1 ((rd_T55 l0 a2).f1) a3).bind fun t210 => (some t210)) else ((cayleyref02_letter.f k l0 l1 ((rd_T55 l0 a2).f2) (wrap64 (a3 - (rd l1 ((rd_T55 l0 a2).f1))))).bind fun t212 => (some t212))) else (none)) else (none))) else (if 0 ≤ a3 then (if a3 < (((rd_T55 l0 a2).f0).size : Int) then (some (bt ((rd_T55 l0 a2).f0) a3)) else (none)) else (none))) else (none)) else (none)) = some r := h
  clear h
  by_cases c5 : 0 ≤ a2
  · rw [if_pos c5] at H
    have c5b0 : decide (0 ≤ a2) = true := decide_eq_true c5
    clear c5
    by_cases c6 : a2 < (l0.length : Int)
    · rw [if_pos c6] at H
      have c6b0 : decide (a2 < (l0.length : Int)) = true := decide_eq_true c6
      clear c6
      by_cases c7 : ((rd_T55 l0 a2).f0).toList = ([] : List UInt8)
      · rw [if_pos c7] at H
        have c7b0 : (((rd_T55 l0 a2).f0).toList == ([] : List UInt8)) = true := beq_iff_eq.mpr c7
        have c7b1 : (((rd_T55 l0 a2).f0).toList != ([] : List UInt8)) = false := bne_eq_false_iff_eq.mpr c7
        clear c7
        by_cases c8 : ((rd_T55 l0 a2).f3) > 0
        · rw [if_pos c8] at H
          have c8b0 : decide (0 < ((rd_T55 l0 a2).f3)) = true := decide_eq_true c8
          clear c8
          by_cases c9 : 0 ≤ ((rd_T55 l0 a2).f1)
          · rw [if_pos c9] at H
            have c9b0 : decide (0 ≤ ((rd_T55 l0 a2).f1)) = true := decide_eq_true c9
            clear c9
            by_cases c10 : ((rd_T55 l0 a2).f1) < (l1.length : Int)
            · rw [if_pos c10] at H
              have c10b0 : decide (((rd_T55 l0 a2).f1) < (l1.length : Int)) = true := decide_eq_true c10
              clear c10
              by_cases c11 : (rd l1 ((rd_T55 l0 a2).f1)) = 0
              · rw [if_pos c11] at H
                exact absurd H (by simp)
              · rw [if_neg c11] at H
                have c11b0 : ((rd l1 ((rd_T55 l0 a2).f1)) == 0) = false := beq_eq_false_iff_ne.mpr c11
                have c11b1 : ((rd l1 ((rd_T55 l0 a2).f1)) != 0) = true := bne_iff_ne.mpr c11
                replace H := Option.bind_eq_some_iff.mp H
                obtain ⟨t208, A120, H⟩ := H
                replace H : (some t208) = some r := H
                have A12 := Aside0.mk A120
                clear A120
                obtain rfl := Option.some.inj H
                have p205 : 0 ≤ (a2 : Int) := of_decide_eq_true (by first | (with_reducible assumption) | assumption)
                have q205 : a2 < (l0.length : Int) := of_decide_eq_true (by first | (with_reducible assumption) | assumption)
                obtain ⟨ad205, e205, hx205_0, hx205_1, hx205_2, hx205_3⟩ := at_T55 HR0.out a2 p205 q205
                cases e205
                replace p205 := eq_true p205
                replace q205 := eq_true q205
                go_enter Tryd.func37, Tryd.ntmps37
                try go_wp2_with (first | ((with_reducible refine gate_dst (N := 9) rfl ?_); refine box_event ?hg (N := 9) ?hd (cs := #[.string (⟨#[]⟩ : ByteArray), .int .i64 0, .int .i64 0, .int .i64 0]) (t := 55) ?hr ?_; (case hd => rfl); (case hg => rfl); (case hr => first | (go_simp; done) | (go_simp; rfl)); intro gb206 hg w13 hbox hb; have n0_ := Aside0.mk (below_step (by repeat (first | (with_reducible first | exact HB.out | apply below_alloc | apply pw_below_drewN | apply below_drew1) | exact HB.out)) hb); have n1_ := Aside0.mk (hbox); have n2_ := Aside0.mk ((by rw [hg]; exact (below_size (by repeat (first | (with_reducible first | exact HB.out | apply below_alloc | apply pw_below_drewN | apply below_drew1) | exact HB.out))) : w.heap.size ≤ gb206)); have n3_ := Aside0.mk ((by rw [hg]; exact (below_size (by repeat (first | (with_reducible first | exact HB.out | apply below_alloc | apply pw_below_drewN | apply below_drew1) | exact HB.out))) : w.heap.size ≤ gb206)); clear HB; have HB := n0_; have BK206 := n1_; have GW206 := n2_; have GE206 := n3_; clear n0_ n1_ n2_ n3_; clear hb hbox hg; have hcz14_0 : w13.cell? ⟨gb206, 0, none⟩ = some (.string (⟨#[]⟩ : ByteArray)) := (blk_cell BK206.out 0).trans rfl; have hcz14_1 : w13.cell? ⟨gb206, 1, none⟩ = some (.int .i64 0) := (blk_cell BK206.out 1).trans rfl; have hcz14_2 : w13.cell? ⟨gb206, 2, none⟩ = some (.int .i64 0) := (blk_cell BK206.out 2).trans rfl; have hcz14_3 : w13.cell? ⟨gb206, 3, none⟩ = some (.int .i64 0) := (blk_cell BK206.out 3).trans rfl; have hfz14_0 := blk_frozen BK206.out 0; have hfz14_1 := blk_frozen BK206.out 1; have hfz14_2 := blk_frozen BK206.out 2; have hfz14_3 := blk_frozen BK206.out 3; have hcy14_0 : ∀ z0 z1 z2 z3, ((((w13.setCell ⟨gb206, 0, none⟩ z0).setCell ⟨gb206, 1, none⟩ z1).setCell ⟨gb206, 2, none⟩ z2).setCell ⟨gb206, 3, none⟩ z3).cell? ⟨gb206, 0, none⟩ = some z0 := (by intro z0 z1 z2 z3; go_cell); have hcy14_1 : ∀ z0 z1 z2 z3, ((((w13.setCell ⟨gb206, 0, none⟩ z0).setCell ⟨gb206, 1, none⟩ z1).setCell ⟨gb206, 2, none⟩ z2).setCell ⟨gb206, 3, none⟩ z3).cell? ⟨gb206, 1, none⟩ = some z1 := (by intro z0 z1 z2 z3; go_cell); have hcy14_2 : ∀ z0 z1 z2 z3, ((((w13.setCell ⟨gb206, 0, none⟩ z0).setCell ⟨gb206, 1, none⟩ z1).setCell ⟨gb206, 2, none⟩ z2).setCell ⟨gb206, 3, none⟩ z3).cell? ⟨gb206, 2, none⟩ = some z2 := (by intro z0 z1 z2 z3; go_cell); have hcy14_3 : ∀ z0 z1 z2 z3, ((((w13.setCell ⟨gb206, 0, none⟩ z0).setCell ⟨gb206, 1, none⟩ z1).setCell ⟨gb206, 2, none⟩ z2).setCell ⟨gb206, 3, none⟩ z3).cell? ⟨gb206, 3, none⟩ = some z3 := (by intro z0 z1 z2 z3; go_cell)))
                have n0_ : Aside0 (((((w13.setCell ⟨gb206, 0, none⟩ (.string ((rd_T55 l0 a2).f0))).setCell ⟨gb206, 1, none⟩ (.int .i64 ((rd_T55 l0 a2).f1))).setCell ⟨gb206, 2, none⟩ (.int .i64 ((rd_T55 l0 a2).f2))).setCell ⟨gb206, 3, none⟩ (.int .i64 ((rd_T55 l0 a2).f3))).heap[gb206]? = some (.cells #[.string ((rd_T55 l0 a2).f0), .int .i64 ((rd_T55 l0 a2).f1), .int .i64 ((rd_T55 l0 a2).f2), .int .i64 ((rd_T55 l0 a2).f3)] 55 (0, 0))) := ⟨by (with_reducible repeat (first | refine blk_drewN ?_ _ | refine blk_drew ?_ | refine blk_alloc ?_ _)); refine blk_put (cs := #[.string ((rd_T55 l0 a2).f0), .int .i64 ((rd_T55 l0 a2).f1), .int .i64 ((rd_T55 l0 a2).f2), .int .i64 0]) ?_ 3 _ rfl; (with_reducible repeat (first | refine blk_drewN ?_ _ | refine blk_drew ?_ | refine blk_alloc ?_ _)); refine blk_put (cs := #[.string ((rd_T55 l0 a2).f0), .int .i64 ((rd_T55 l0 a2).f1), .int .i64 0, .int .i64 0]) ?_ 2 _ rfl; (with_reducible repeat (first | refine blk_drewN ?_ _ | refine blk_drew ?_ | refine blk_alloc ?_ _)); refine blk_put (cs := #[.string ((rd_T55 l0 a2).f0), .int .i64 0, .int .i64 0, .int .i64 0]) ?_ 1 _ rfl; (with_reducible repeat (first | refine blk_drewN ?_ _ | refine blk_drew ?_ | refine blk_alloc ?_ _)); refine blk_put (cs := #[.string (⟨#[]⟩ : ByteArray), .int .i64 0, .int .i64 0, .int .i64 0]) ?_ 0 _ rfl; (with_reducible repeat (first | refine blk_drewN ?_ _ | refine blk_drew ?_ | refine blk_alloc ?_ _)); exact BK206.out⟩
                have n1_ : Aside0 (Below w.heap.size w ((((w13.setCell ⟨gb206, 0, none⟩ (.string ((rd_T55 l0 a2).f0))).setCell ⟨gb206, 1, none⟩ (.int .i64 ((rd_T55 l0 a2).f1))).setCell ⟨gb206, 2, none⟩ (.int .i64 ((rd_T55 l0 a2).f2))).setCell ⟨gb206, 3, none⟩ (.int .i64 ((rd_T55 l0 a2).f3)))) := ⟨by repeat (first | (with_reducible first | exact HB.out | apply below_alloc | apply pw_below_drewN | apply below_drew1 | refine below_set ?_ GE206.out) | exact HB.out)⟩
                (try clear BK206)
                (try clear HB)
                generalize ((((w13.setCell ⟨gb206, 0, none⟩ (.string ((rd_T55 l0 a2).f0))).setCell ⟨gb206, 1, none⟩ (.int .i64 ((rd_T55 l0 a2).f1))).setCell ⟨gb206, 2, none⟩ (.int .i64 ((rd_T55 l0 a2).f2))).setCell ⟨gb206, 3, none⟩ (.int .i64 ((rd_T55 l0 a2).f3))) = w15 at n0_ n1_ ⊢
                have BK206 := n0_
                have HB := n1_
                clear n0_ n1_
                have n0_ := Aside0.mk (blk_drew BK206.out)
                have n1_ := Aside0.mk (below_drew1 HB.out)
                clear BK206
                clear HB
                have BK206 := n0_
                have HB := n1_
                clear n0_ n1_
                have p207 : 0 ≤ (((rd_T55 l0 a2).f1) : Int) := of_decide_eq_true (by first | (with_reducible assumption) | assumption)
                have q207 : ((rd_T55 l0 a2).f1) < (l1.length : Int) := of_decide_eq_true (by first | (with_reducible assumption) | assumption)
                obtain ⟨ad207, e207, hx207_0⟩ := Kd.at_int HR1.out ((rd_T55 l0 a2).f1) p207 q207
                have hw207_0 := hx207_0
                cases e207
                replace hx207_0 := (HB.out.cell (World.block_lt_of_cell? w _ hx207_0)).trans hx207_0
                replace p207 := eq_true p207
                replace q207 := eq_true q207
                refine start_ (n := 13) (S := fun w' => w'.cell? ⟨gb206, 0, none⟩ = some (.string ((rd_T55 l0 a2).f0)) ∧ w'.cell? ⟨gb206, 1, none⟩ = some (.int .i64 ((rd_T55 l0 a2).f1)) ∧ w'.cell? ⟨gb206, 2, none⟩ = some (.int .i64 ((rd_T55 l0 a2).f2)) ∧ w'.cell? ⟨gb206, 3, none⟩ = some (.int .i64 ((rd_T55 l0 a2).f3)) ∧ w'.cell? (ad207.add (((rd_T55 l0 a2).f1)).toNat) = some (.int .i64 (rd l1 ((rd_T55 l0 a2).f1)))) (ds := []) #[false, false, false, false, false, false, false, false, false, false, false, false, false] (by kernel_rfl) rfl rfl ⟨(blk_cell BK206.out 0).trans rfl, (blk_cell BK206.out 1).trans rfl, (blk_cell BK206.out 2).trans rfl, (blk_cell BK206.out 3).trans rfl, ((HB.out.cell (World.block_lt_of_cell? w _ hw207_0)).trans hw207_0)⟩ (fun hHeld => ?_); refine with_tabW cayleyref02_letter.tab5 cayleyref02_letter.bits5 (fun HT_ HW_ => ?_)
                generalize w15.drew = w16 at BK206 HB hx207_0 hHeld ⊢
                refine pure_ (i := 0) (N := some 24) (v := ?_) (a' := ?_) #[true, false, false, false, false, false, false, false, false, false, false, false, false] rfl rfl (any_of HT_.out (by kernel_rfl)) (fun _ _ _ h => h) (Or.inl ⟨by rfl, ?_⟩) ?_ ?_
                rotate_left
                · intro w'
                  go_simp
                  with_reducible rfl
                rotate_left
                · simp only [Act.put, List.setIfInBounds_toArray, List.set_cons_zero, List.set_cons_succ, i64_w, i32_w]
                  rfl
                refine pure_ (i := 1) (N := some 25) (v := ?_) (a' := ?_) #[true, true, false, false, false, false, false, false, false, false, false, false, false] rfl rfl (any_of HT_.out (by kernel_rfl)) (fun _ _ _ h => h) (Or.inl ⟨by rfl, ?_⟩) ?_ ?_
                rotate_left
                · intro w'
                  go_simp
                  with_reducible rfl
                rotate_left
                · simp only [Act.put, List.setIfInBounds_toArray, List.set_cons_zero, List.set_cons_succ, i64_w, i32_w]
                  rfl
                refine pure_ (i := 2) (N := some 26) (v := ?_) (a' := ?_) #[true, true, true, false, false, false, false, false, false, false, false, false, false] rfl rfl (any_of HT_.out (by kernel_rfl)) (fun _ _ _ h => h) (Or.inl ⟨by rfl, ?_⟩) ?_ ?_
                rotate_left
                · intro w'
                  go_simp
                  with_reducible rfl
                rotate_left
                · simp only [Act.put, List.setIfInBounds_toArray, List.set_cons_zero, List.set_cons_succ, i64_w, i32_w]
                  rfl
                refine pure_ (i := 4) (N := some 28) (v := ?_) (a' := ?_) #[true, true, true, false, true, false, false, false, false, false, false, false, false] rfl rfl (any_of HT_.out (by kernel_rfl)) (fun _ _ _ h => h) (Or.inl ⟨by rfl, ?_⟩) ?_ ?_
                rotate_left
                · intro w'
                  go_simp
                  with_reducible rfl
                rotate_left
                · simp only [Act.put, List.setIfInBounds_toArray, List.set_cons_zero, List.set_cons_succ, i64_w, i32_w]
                  rfl
                refine pure_ (i := 5) (N := some 29) (v := ?_) (a' := ?_) #[true, true, true, false, true, true, false, false, false, false, false, false, false] rfl rfl (any_of HT_.out (by kernel_rfl)) (fun _ _ _ h => h) (Or.inl ⟨by rfl, ?_⟩) ?_ ?_
                rotate_left
                · intro w'
                  go_simp
                  with_reducible rfl
                rotate_left
                · simp only [Act.put, List.setIfInBounds_toArray, List.set_cons_zero, List.set_cons_succ, i64_w, i32_w]
                  rfl
                refine pure_ (i := 6) (N := some 30) (v := ?_) (a' := ?_) #[true, true, true, false, true, true, true, false, false, false, false, false, false] rfl rfl (any_of HT_.out (by kernel_rfl)) (fun _ _ _ h => h) (Or.inl ⟨by rfl, ?_⟩) ?_ ?_
                rotate_left
                · intro w'
                  go_simp
                  with_reducible rfl
                rotate_left
                · simp only [Act.put, List.setIfInBounds_toArray, List.set_cons_zero, List.set_cons_succ, i64_w, i32_w]
                  rfl
                refine take_ (i := 3) (N := some 27) (v := ?_) (a' := ?_) #[true, true, true, true, true, true, true, false, false, false, false, false, false] rfl rfl (take_ofW HT_.out HW_.out (by kernel_rfl)) (fun _ _ _ h => h) (Or.inl ⟨by rfl, ?_⟩) hHeld ?_ ?_
                rotate_left
                · rintro w' ⟨s0, s1, s2, s3, s4⟩
                  go_simp
                  with_reducible rfl
                rotate_left
                · simp only [Act.put, List.setIfInBounds_toArray, List.set_cons_zero, List.set_cons_succ, i64_w, i32_w]
                  rfl
                refine take_ (i := 7) (N := some 31) (v := ?_) (a' := ?_) #[true, true, true, true, true, true, true, true, false, false, false, false, false] rfl rfl (take_ofW HT_.out HW_.out (by kernel_rfl)) (fun _ _ _ h => h) (Or.inl ⟨by rfl, ?_⟩) hHeld ?_ ?_
                rotate_left
                · rintro w' ⟨s0, s1, s2, s3, s4⟩
                  go_simp
                  with_reducible rfl
                rotate_left
                · simp only [Act.put, List.setIfInBounds_toArray, List.set_cons_zero, List.set_cons_succ, i64_w, i32_w]
                  rfl
                refine pure_ (i := 8) (N := some 32) (v := ?_) (a' := ?_) #[true, true, true, true, true, true, true, true, true, false, false, false, false] rfl rfl (any_of HT_.out (by kernel_rfl)) (fun _ _ _ h => h) (Or.inl ⟨by rfl, ?_⟩) ?_ ?_
                rotate_left
                · intro w'
                  go_simp
                  with_reducible rfl
                rotate_left
                · simp only [Act.put, List.setIfInBounds_toArray, List.set_cons_zero, List.set_cons_succ, i64_w, i32_w]
                  rfl
                refine take_ (i := 9) (N := some 33) (v := ?_) (a' := ?_) #[true, true, true, true, true, true, true, true, true, true, false, false, false] rfl rfl (take_ofW HT_.out HW_.out (by kernel_rfl)) (fun _ _ _ h => h) (Or.inl ⟨by rfl, ?_⟩) hHeld ?_ ?_
                rotate_left
                · rintro w' ⟨s0, s1, s2, s3, s4⟩
                  go_simp
                  with_reducible rfl
                rotate_left
                · simp only [Act.put, List.setIfInBounds_toArray, List.set_cons_zero, List.set_cons_succ, i64_w, i32_w]
                  rfl
                refine pure_ (i := 10) (N := some 34) (v := ?_) (a' := ?_) #[true, true, true, true, true, true, true, true, true, true, true, false, false] rfl rfl (any_of HT_.out (by kernel_rfl)) (fun _ _ _ h => h) (Or.inl ⟨by rfl, ?_⟩) ?_ ?_
                rotate_left
                · intro w'
                  go_simp
                  with_reducible rfl
                rotate_left
                · simp only [Act.put, List.setIfInBounds_toArray, List.set_cons_zero, List.set_cons_succ, i64_w, i32_w]
                  rfl
                refine one_ (i := 11) (N := some 35) #[true, true, true, true, true, true, true, true, true, true, true, true, false] rfl rfl (one_of HT_.out (by kernel_rfl)) (by decide) (fun K hK => ?_)
                refine goes_ Tryd.func37 (by kernel_rfl) rfl #[.slice (some ad205) l0.length c0, .slice (some ad207) l1.length c1, .int .i64 ((rd_T55 l0 a2).f1), .int .i64 (Int.tmod a3 (rd l1 ((rd_T55 l0 a2).f1)))] (by rfl) rfl rfl (by (try simp only [List.map_toArray, List.map_cons, List.map_nil]); first | done | rfl | (simp only [List.length_drop, List.length_take]; rfl)) ?_
                with_reducible refine (ih k (by omega) _ _ l0 _ _ l1 ((rd_T55 l0 a2).f1) (Int.tmod a3 (rd l1 ((rd_T55 l0 a2).f1))) t208 _ ?side1 ?side2 ?side3 ?side4 A12.out).mono ?_
                (case side1 => repeat (first | exact (Kd.C_below HR0.out HB.out) | (with_reducible refine Kd.C_alloc ?_ _) | (with_reducible refine Kd.C_drewN ?_ _) | (with_reducible refine Kd.C_drew ?_)))
                (case side2 => exact HC0.out)
                (case side3 => repeat (first | exact (Kd.C_below HR1.out HB.out) | (with_reducible refine Kd.C_alloc ?_ _) | (with_reducible refine Kd.C_drewN ?_ _) | (with_reducible refine Kd.C_drew ?_)))
                (case side4 => exact HC1.out)
                rintro e w17 ⟨rfl, hb⟩
                refine ⟨_, rfl, ?_⟩
                have n0_ := Aside0.mk (blk_below (g := gb206) (o := .cells #[.string ((rd_T55 l0 a2).f0), .int .i64 ((rd_T55 l0 a2).f1), .int .i64 ((rd_T55 l0 a2).f2), .int .i64 ((rd_T55 l0 a2).f3)] 55 (0, 0)) (by (with_reducible repeat (first | refine blk_drewN ?_ _ | refine blk_drew ?_ | refine blk_alloc ?_ _)); exact BK206.out) hb)
                have n1_ := Aside0.mk (below_step (by repeat (first | (with_reducible first | exact HB.out | apply below_alloc | apply pw_below_drewN | apply below_drew1 | refine below_set ?_ GE206.out) | exact HB.out)) hb)
                clear BK206
                clear HB
                have BK206 := n0_
                have HB := n1_
                clear n0_ n1_
                (try clear hb)
                (try clear hb2)
                (try clear hk)
                (try clear hi)
                refine hK.out _ _ ⟨(blk_cell BK206.out 0).trans rfl, (blk_cell BK206.out 1).trans rfl, (blk_cell BK206.out 2).trans rfl, (blk_cell BK206.out 3).trans rfl, ((HB.out.cell (World.block_lt_of_cell? w _ hw207_0)).trans hw207_0)⟩ (fun hHeld => ?_)
                clear hK K
                refine norm_ (a' := ?_) ?_ ?_
                rotate_left
                · show Act.put _ (some 35) _ = _
                  simp only [Act.put, List.setIfInBounds_toArray, List.set_cons_zero, List.set_cons_succ, i64_w, i32_w]
                  rfl
                refine pure_ (i := 12) (N := some 8) (v := ?_) (a' := ?_) #[true, true, true, true, true, true, true, true, true, true, true, true, true] rfl rfl (any_of HT_.out (by kernel_rfl)) (fun _ _ _ h => h) (Or.inl ⟨by rfl, ?_⟩) ?_ ?_
                rotate_left
                · intro w'
                  go_simp
                  with_reducible rfl
                rotate_left
                · simp only [Act.put, List.setIfInBounds_toArray, List.set_cons_zero, List.set_cons_succ, i64_w, i32_w]
                  rfl
                refine done_ (done_of HT_.out (by kernel_rfl)) ?_
                try go_wp2
                go_ret
                exact ⟨by first | rfl | (simp [errW_none, errW_some] <;> rfl) | (simp [*, errW_none, errW_some] <;> rfl), by repeat (first | (with_reducible first | exact HB.out | apply below_alloc | apply pw_below_drewN | apply below_drew1 | refine below_set ?_ GE206.out) | exact HB.out)⟩
            · rw [if_neg c10] at H
              exact absurd H (by simp)
          · rw [if_neg c9] at H
            exact absurd H (by simp)
        · rw [if_neg c8] at H
          have c8b0 : decide (0 < ((rd_T55 l0 a2).f3)) = false := decide_eq_false c8
          clear c8
          by_cases c18 : 0 ≤ ((rd_T55 l0 a2).f1)
          · rw [if_pos c18] at H
            have c18b0 : decide (0 ≤ ((rd_T55 l0 a2).f1)) = true := decide_eq_true c18
            clear c18
            by_cases c19 : ((rd_T55 l0 a2).f1) < (l1.length : Int)
            · rw [if_pos c19] at H
              have c19b0 : decide (((rd_T55 l0 a2).f1) < (l1.length : Int)) = true := decide_eq_true c19
              clear c19
              by_cases c20 : a3 < (rd l1 ((rd_T55 l0 a2).f1))
              · rw [if_pos c20] at H
                have c20b0 : decide (a3 < (rd l1 ((rd_T55 l0 a2).f1))) = true := decide_eq_true c20
                clear c20
                replace H := Option.bind_eq_some_iff.mp H
                obtain ⟨t210, A210, H⟩ := H
                replace H : (some t210) = some r := H
                have A21 := Aside0.mk A210
                clear A210
                obtain rfl := Option.some.inj H
                have p205 : 0 ≤ (a2 : Int) := of_decide_eq_true (by first | (with_reducible assumption) | assumption)
                have q205 : a2 < (l0.length : Int) := of_decide_eq_true (by first | (with_reducible assumption) | assumption)
                obtain ⟨ad205, e205, hx205_0, hx205_1, hx205_2, hx205_3⟩ := at_T55 HR0.out a2 p205 q205
                cases e205
                replace p205 := eq_true p205
                replace q205 := eq_true q205
                go_enter Tryd.func37, Tryd.ntmps37
                go_wp2_with (first | ((with_reducible refine gate_dst (N := 9) rfl ?_); refine box_event ?hg (N := 9) ?hd (cs := #[.string (⟨#[]⟩ : ByteArray), .int .i64 0, .int .i64 0, .int .i64 0]) (t := 55) ?hr ?_; (case hd => rfl); (case hg => rfl); (case hr => first | (go_simp; done) | (go_simp; rfl)); intro gb206 hg w22 hbox hb; have n0_ := Aside0.mk (below_step (by repeat (first | (with_reducible first | exact HB.out | apply below_alloc | apply pw_below_drewN | apply below_drew1) | exact HB.out)) hb); have n1_ := Aside0.mk (hbox); have n2_ := Aside0.mk ((by rw [hg]; exact (below_size (by repeat (first | (with_reducible first | exact HB.out | apply below_alloc | apply pw_below_drewN | apply below_drew1) | exact HB.out))) : w.heap.size ≤ gb206)); have n3_ := Aside0.mk ((by rw [hg]; exact (below_size (by repeat (first | (with_reducible first | exact HB.out | apply below_alloc | apply pw_below_drewN | apply below_drew1) | exact HB.out))) : w.heap.size ≤ gb206)); clear HB; have HB := n0_; have BK206 := n1_; have GW206 := n2_; have GE206 := n3_; clear n0_ n1_ n2_ n3_; clear hb hbox hg; have hcz23_0 : w22.cell? ⟨gb206, 0, none⟩ = some (.string (⟨#[]⟩ : ByteArray)) := (blk_cell BK206.out 0).trans rfl; have hcz23_1 : w22.cell? ⟨gb206, 1, none⟩ = some (.int .i64 0) := (blk_cell BK206.out 1).trans rfl; have hcz23_2 : w22.cell? ⟨gb206, 2, none⟩ = some (.int .i64 0) := (blk_cell BK206.out 2).trans rfl; have hcz23_3 : w22.cell? ⟨gb206, 3, none⟩ = some (.int .i64 0) := (blk_cell BK206.out 3).trans rfl; have hfz23_0 := blk_frozen BK206.out 0; have hfz23_1 := blk_frozen BK206.out 1; have hfz23_2 := blk_frozen BK206.out 2; have hfz23_3 := blk_frozen BK206.out 3; have hcy23_0 : ∀ z0 z1 z2 z3, ((((w22.setCell ⟨gb206, 0, none⟩ z0).setCell ⟨gb206, 1, none⟩ z1).setCell ⟨gb206, 2, none⟩ z2).setCell ⟨gb206, 3, none⟩ z3).cell? ⟨gb206, 0, none⟩ = some z0 := (by intro z0 z1 z2 z3; go_cell); have hcy23_1 : ∀ z0 z1 z2 z3, ((((w22.setCell ⟨gb206, 0, none⟩ z0).setCell ⟨gb206, 1, none⟩ z1).setCell ⟨gb206, 2, none⟩ z2).setCell ⟨gb206, 3, none⟩ z3).cell? ⟨gb206, 1, none⟩ = some z1 := (by intro z0 z1 z2 z3; go_cell); have hcy23_2 : ∀ z0 z1 z2 z3, ((((w22.setCell ⟨gb206, 0, none⟩ z0).setCell ⟨gb206, 1, none⟩ z1).setCell ⟨gb206, 2, none⟩ z2).setCell ⟨gb206, 3, none⟩ z3).cell? ⟨gb206, 2, none⟩ = some z2 := (by intro z0 z1 z2 z3; go_cell); have hcy23_3 : ∀ z0 z1 z2 z3, ((((w22.setCell ⟨gb206, 0, none⟩ z0).setCell ⟨gb206, 1, none⟩ z1).setCell ⟨gb206, 2, none⟩ z2).setCell ⟨gb206, 3, none⟩ z3).cell? ⟨gb206, 3, none⟩ = some z3 := (by intro z0 z1 z2 z3; go_cell); have p209 : 0 ≤ (((rd_T55 l0 a2).f1) : Int) := of_decide_eq_true (by first | (with_reducible assumption) | assumption); have q209 : ((rd_T55 l0 a2).f1) < (l1.length : Int) := of_decide_eq_true (by first | (with_reducible assumption) | assumption); obtain ⟨ad209, e209, hx209_0⟩ := Kd.at_int HR1.out ((rd_T55 l0 a2).f1) p209 q209; cases e209; have hn209_0 : ad209.block ≠ gb206 := Nat.ne_of_lt (Nat.lt_of_lt_of_le (by have := World.block_lt_of_cell? _ _ hx209_0; first | rwa [add_block] at this | exact this) GW206.out); have hn209_1 : ad209.block ≠ gb206 := Nat.ne_of_lt (Nat.lt_of_lt_of_le (by have := World.block_lt_of_cell? _ _ hx209_0; first | rwa [add_block] at this | exact this) GW206.out); have hn209_2 : ad209.block ≠ gb206 := Nat.ne_of_lt (Nat.lt_of_lt_of_le (by have := World.block_lt_of_cell? _ _ hx209_0; first | rwa [add_block] at this | exact this) GW206.out); have hn209_3 : ad209.block ≠ gb206 := Nat.ne_of_lt (Nat.lt_of_lt_of_le (by have := World.block_lt_of_cell? _ _ hx209_0; first | rwa [add_block] at this | exact this) GW206.out); replace hx209_0 := (HB.out.cell (World.block_lt_of_cell? w _ hx209_0)).trans hx209_0; replace hx209_0 := (cell_far (p := ⟨gb206, 0, none⟩) (by first | (rw [add_block]; exact hn209_0) | (show (Addr.add _ _).block ≠ _; rw [add_block]; exact hn209_0) | exact hn209_0) (.string ((rd_T55 l0 a2).f0))).trans hx209_0; replace hx209_0 := (cell_far (p := ⟨gb206, 1, none⟩) (by first | (rw [add_block]; exact hn209_1) | (show (Addr.add _ _).block ≠ _; rw [add_block]; exact hn209_1) | exact hn209_1) (.int .i64 ((rd_T55 l0 a2).f1))).trans hx209_0; replace hx209_0 := (cell_far (p := ⟨gb206, 2, none⟩) (by first | (rw [add_block]; exact hn209_2) | (show (Addr.add _ _).block ≠ _; rw [add_block]; exact hn209_2) | exact hn209_2) (.int .i64 ((rd_T55 l0 a2).f2))).trans hx209_0; replace hx209_0 := (cell_far (p := ⟨gb206, 3, none⟩) (by first | (rw [add_block]; exact hn209_3) | (show (Addr.add _ _).block ≠ _; rw [add_block]; exact hn209_3) | exact hn209_3) (.int .i64 ((rd_T55 l0 a2).f3))).trans hx209_0; clear hn209_0; clear hn209_1; clear hn209_2; clear hn209_3; replace p209 := eq_true p209; replace q209 := eq_true q209) | ((with_reducible refine gate_callee (f := 37) rfl ?_); refine goesL_ (some 48) rfl rfl Tryd.func37 (by kernel_rfl) rfl #[.slice (some ad205) l0.length c0, .slice (some ad209) l1.length c1, .int .i64 ((rd_T55 l0 a2).f1), .int .i64 a3] rfl (by (try simp only [List.map_toArray, List.map_cons, List.map_nil]); first | done | rfl | (simp only [List.length_drop, List.length_take]; rfl)) ?_; (with_reducible refine (ih k (by omega) _ _ l0 _ _ l1 ((rd_T55 l0 a2).f1) a3 t210 _ ?side1 ?side2 ?side3 ?side4 A21.out).mono ?_); (case side1 => exact Kd.C_below HR0.out (by repeat (first | (with_reducible first | exact HB.out | apply below_alloc | apply pw_below_drewN | apply below_drew1 | refine below_set ?_ GE206.out) | exact HB.out))); (case side2 => exact HC0.out); (case side3 => exact Kd.C_below HR1.out (by repeat (first | (with_reducible first | exact HB.out | apply below_alloc | apply pw_below_drewN | apply below_drew1 | refine below_set ?_ GE206.out) | exact HB.out))); (case side4 => exact HC1.out); rintro e w24 ⟨rfl, hb⟩; refine ⟨_, rfl, ?_⟩; have n0_ := Aside0.mk (blk_below (g := gb206) (o := .cells #[.string ((rd_T55 l0 a2).f0), .int .i64 ((rd_T55 l0 a2).f1), .int .i64 ((rd_T55 l0 a2).f2), .int .i64 ((rd_T55 l0 a2).f3)] 55 (0, 0)) (by (with_reducible repeat (first | refine blk_drewN ?_ _ | refine blk_drew ?_ | refine blk_alloc ?_ _)); refine blk_put (cs := #[.string ((rd_T55 l0 a2).f0), .int .i64 ((rd_T55 l0 a2).f1), .int .i64 ((rd_T55 l0 a2).f2), .int .i64 0]) ?_ 3 _ rfl; (with_reducible repeat (first | refine blk_drewN ?_ _ | refine blk_drew ?_ | refine blk_alloc ?_ _)); refine blk_put (cs := #[.string ((rd_T55 l0 a2).f0), .int .i64 ((rd_T55 l0 a2).f1), .int .i64 0, .int .i64 0]) ?_ 2 _ rfl; (with_reducible repeat (first | refine blk_drewN ?_ _ | refine blk_drew ?_ | refine blk_alloc ?_ _)); refine blk_put (cs := #[.string ((rd_T55 l0 a2).f0), .int .i64 0, .int .i64 0, .int .i64 0]) ?_ 1 _ rfl; (with_reducible repeat (first | refine blk_drewN ?_ _ | refine blk_drew ?_ | refine blk_alloc ?_ _)); refine blk_put (cs := #[.string (⟨#[]⟩ : ByteArray), .int .i64 0, .int .i64 0, .int .i64 0]) ?_ 0 _ rfl; (with_reducible repeat (first | refine blk_drewN ?_ _ | refine blk_drew ?_ | refine blk_alloc ?_ _)); exact BK206.out) hb); have n1_ := Aside0.mk (below_step (by repeat (first | (with_reducible first | exact HB.out | apply below_alloc | apply pw_below_drewN | apply below_drew1 | refine below_set ?_ GE206.out) | exact HB.out)) hb); clear BK206; clear HB; have BK206 := n0_; have HB := n1_; clear n0_ n1_; (try clear hb); (try clear hb2); (try clear hk); (try clear hi)))
                go_ret
                exact ⟨by first | rfl | (simp [errW_none, errW_some] <;> rfl) | (simp [*, errW_none, errW_some] <;> rfl), by repeat (first | (with_reducible first | exact HB.out | apply below_alloc | apply pw_below_drewN | apply below_drew1 | refine below_set ?_ GE206.out) | exact HB.out)⟩
              · rw [if_neg c20] at H
                have c20b0 : decide (a3 < (rd l1 ((rd_T55 l0 a2).f1))) = false := decide_eq_false c20
                clear c20
                replace H := Option.bind_eq_some_iff.mp H
                obtain ⟨t212, A250, H⟩ := H
                replace H : (some t212) = some r := H
                have A25 := Aside0.mk A250
                clear A250
                obtain rfl := Option.some.inj H
                have p205 : 0 ≤ (a2 : Int) := of_decide_eq_true (by first | (with_reducible assumption) | assumption)
                have q205 : a2 < (l0.length : Int) := of_decide_eq_true (by first | (with_reducible assumption) | assumption)
                obtain ⟨ad205, e205, hx205_0, hx205_1, hx205_2, hx205_3⟩ := at_T55 HR0.out a2 p205 q205
                cases e205
                replace p205 := eq_true p205
                replace q205 := eq_true q205
                go_enter Tryd.func37, Tryd.ntmps37
                try go_wp2_with (first | ((with_reducible refine gate_dst (N := 9) rfl ?_); refine box_event ?hg (N := 9) ?hd (cs := #[.string (⟨#[]⟩ : ByteArray), .int .i64 0, .int .i64 0, .int .i64 0]) (t := 55) ?hr ?_; (case hd => rfl); (case hg => rfl); (case hr => first | (go_simp; done) | (go_simp; rfl)); intro gb206 hg w26 hbox hb; have n0_ := Aside0.mk (below_step (by repeat (first | (with_reducible first | exact HB.out | apply below_alloc | apply pw_below_drewN | apply below_drew1) | exact HB.out)) hb); have n1_ := Aside0.mk (hbox); have n2_ := Aside0.mk ((by rw [hg]; exact (below_size (by repeat (first | (with_reducible first | exact HB.out | apply below_alloc | apply pw_below_drewN | apply below_drew1) | exact HB.out))) : w.heap.size ≤ gb206)); have n3_ := Aside0.mk ((by rw [hg]; exact (below_size (by repeat (first | (with_reducible first | exact HB.out | apply below_alloc | apply pw_below_drewN | apply below_drew1) | exact HB.out))) : w.heap.size ≤ gb206)); clear HB; have HB := n0_; have BK206 := n1_; have GW206 := n2_; have GE206 := n3_; clear n0_ n1_ n2_ n3_; clear hb hbox hg; have hcz27_0 : w26.cell? ⟨gb206, 0, none⟩ = some (.string (⟨#[]⟩ : ByteArray)) := (blk_cell BK206.out 0).trans rfl; have hcz27_1 : w26.cell? ⟨gb206, 1, none⟩ = some (.int .i64 0) := (blk_cell BK206.out 1).trans rfl; have hcz27_2 : w26.cell? ⟨gb206, 2, none⟩ = some (.int .i64 0) := (blk_cell BK206.out 2).trans rfl; have hcz27_3 : w26.cell? ⟨gb206, 3, none⟩ = some (.int .i64 0) := (blk_cell BK206.out 3).trans rfl; have hfz27_0 := blk_frozen BK206.out 0; have hfz27_1 := blk_frozen BK206.out 1; have hfz27_2 := blk_frozen BK206.out 2; have hfz27_3 := blk_frozen BK206.out 3; have hcy27_0 : ∀ z0 z1 z2 z3, ((((w26.setCell ⟨gb206, 0, none⟩ z0).setCell ⟨gb206, 1, none⟩ z1).setCell ⟨gb206, 2, none⟩ z2).setCell ⟨gb206, 3, none⟩ z3).cell? ⟨gb206, 0, none⟩ = some z0 := (by intro z0 z1 z2 z3; go_cell); have hcy27_1 : ∀ z0 z1 z2 z3, ((((w26.setCell ⟨gb206, 0, none⟩ z0).setCell ⟨gb206, 1, none⟩ z1).setCell ⟨gb206, 2, none⟩ z2).setCell ⟨gb206, 3, none⟩ z3).cell? ⟨gb206, 1, none⟩ = some z1 := (by intro z0 z1 z2 z3; go_cell); have hcy27_2 : ∀ z0 z1 z2 z3, ((((w26.setCell ⟨gb206, 0, none⟩ z0).setCell ⟨gb206, 1, none⟩ z1).setCell ⟨gb206, 2, none⟩ z2).setCell ⟨gb206, 3, none⟩ z3).cell? ⟨gb206, 2, none⟩ = some z2 := (by intro z0 z1 z2 z3; go_cell); have hcy27_3 : ∀ z0 z1 z2 z3, ((((w26.setCell ⟨gb206, 0, none⟩ z0).setCell ⟨gb206, 1, none⟩ z1).setCell ⟨gb206, 2, none⟩ z2).setCell ⟨gb206, 3, none⟩ z3).cell? ⟨gb206, 3, none⟩ = some z3 := (by intro z0 z1 z2 z3; go_cell); have p209 : 0 ≤ (((rd_T55 l0 a2).f1) : Int) := of_decide_eq_true (by first | (with_reducible assumption) | assumption); have q209 : ((rd_T55 l0 a2).f1) < (l1.length : Int) := of_decide_eq_true (by first | (with_reducible assumption) | assumption); obtain ⟨ad209, e209, hx209_0⟩ := Kd.at_int HR1.out ((rd_T55 l0 a2).f1) p209 q209; cases e209; have hn209_0 : ad209.block ≠ gb206 := Nat.ne_of_lt (Nat.lt_of_lt_of_le (by have := World.block_lt_of_cell? _ _ hx209_0; first | rwa [add_block] at this | exact this) GW206.out); have hn209_1 : ad209.block ≠ gb206 := Nat.ne_of_lt (Nat.lt_of_lt_of_le (by have := World.block_lt_of_cell? _ _ hx209_0; first | rwa [add_block] at this | exact this) GW206.out); have hn209_2 : ad209.block ≠ gb206 := Nat.ne_of_lt (Nat.lt_of_lt_of_le (by have := World.block_lt_of_cell? _ _ hx209_0; first | rwa [add_block] at this | exact this) GW206.out); have hn209_3 : ad209.block ≠ gb206 := Nat.ne_of_lt (Nat.lt_of_lt_of_le (by have := World.block_lt_of_cell? _ _ hx209_0; first | rwa [add_block] at this | exact this) GW206.out); replace hx209_0 := (HB.out.cell (World.block_lt_of_cell? w _ hx209_0)).trans hx209_0; replace hx209_0 := (cell_far (p := ⟨gb206, 0, none⟩) (by first | (rw [add_block]; exact hn209_0) | (show (Addr.add _ _).block ≠ _; rw [add_block]; exact hn209_0) | exact hn209_0) (.string ((rd_T55 l0 a2).f0))).trans hx209_0; replace hx209_0 := (cell_far (p := ⟨gb206, 1, none⟩) (by first | (rw [add_block]; exact hn209_1) | (show (Addr.add _ _).block ≠ _; rw [add_block]; exact hn209_1) | exact hn209_1) (.int .i64 ((rd_T55 l0 a2).f1))).trans hx209_0; replace hx209_0 := (cell_far (p := ⟨gb206, 2, none⟩) (by first | (rw [add_block]; exact hn209_2) | (show (Addr.add _ _).block ≠ _; rw [add_block]; exact hn209_2) | exact hn209_2) (.int .i64 ((rd_T55 l0 a2).f2))).trans hx209_0; replace hx209_0 := (cell_far (p := ⟨gb206, 3, none⟩) (by first | (rw [add_block]; exact hn209_3) | (show (Addr.add _ _).block ≠ _; rw [add_block]; exact hn209_3) | exact hn209_3) (.int .i64 ((rd_T55 l0 a2).f3))).trans hx209_0; clear hn209_0; clear hn209_1; clear hn209_2; clear hn209_3; replace p209 := eq_true p209; replace q209 := eq_true q209))
                have n0_ : Aside0 (((((w26.setCell ⟨gb206, 0, none⟩ (.string ((rd_T55 l0 a2).f0))).setCell ⟨gb206, 1, none⟩ (.int .i64 ((rd_T55 l0 a2).f1))).setCell ⟨gb206, 2, none⟩ (.int .i64 ((rd_T55 l0 a2).f2))).setCell ⟨gb206, 3, none⟩ (.int .i64 ((rd_T55 l0 a2).f3))).heap[gb206]? = some (.cells #[.string ((rd_T55 l0 a2).f0), .int .i64 ((rd_T55 l0 a2).f1), .int .i64 ((rd_T55 l0 a2).f2), .int .i64 ((rd_T55 l0 a2).f3)] 55 (0, 0))) := ⟨by (with_reducible repeat (first | refine blk_drewN ?_ _ | refine blk_drew ?_ | refine blk_alloc ?_ _)); refine blk_put (cs := #[.string ((rd_T55 l0 a2).f0), .int .i64 ((rd_T55 l0 a2).f1), .int .i64 ((rd_T55 l0 a2).f2), .int .i64 0]) ?_ 3 _ rfl; (with_reducible repeat (first | refine blk_drewN ?_ _ | refine blk_drew ?_ | refine blk_alloc ?_ _)); refine blk_put (cs := #[.string ((rd_T55 l0 a2).f0), .int .i64 ((rd_T55 l0 a2).f1), .int .i64 0, .int .i64 0]) ?_ 2 _ rfl; (with_reducible repeat (first | refine blk_drewN ?_ _ | refine blk_drew ?_ | refine blk_alloc ?_ _)); refine blk_put (cs := #[.string ((rd_T55 l0 a2).f0), .int .i64 0, .int .i64 0, .int .i64 0]) ?_ 1 _ rfl; (with_reducible repeat (first | refine blk_drewN ?_ _ | refine blk_drew ?_ | refine blk_alloc ?_ _)); refine blk_put (cs := #[.string (⟨#[]⟩ : ByteArray), .int .i64 0, .int .i64 0, .int .i64 0]) ?_ 0 _ rfl; (with_reducible repeat (first | refine blk_drewN ?_ _ | refine blk_drew ?_ | refine blk_alloc ?_ _)); exact BK206.out⟩
                have n1_ : Aside0 (Below w.heap.size w ((((w26.setCell ⟨gb206, 0, none⟩ (.string ((rd_T55 l0 a2).f0))).setCell ⟨gb206, 1, none⟩ (.int .i64 ((rd_T55 l0 a2).f1))).setCell ⟨gb206, 2, none⟩ (.int .i64 ((rd_T55 l0 a2).f2))).setCell ⟨gb206, 3, none⟩ (.int .i64 ((rd_T55 l0 a2).f3)))) := ⟨by repeat (first | (with_reducible first | exact HB.out | apply below_alloc | apply pw_below_drewN | apply below_drew1 | refine below_set ?_ GE206.out) | exact HB.out)⟩
                (try clear BK206)
                (try clear HB)
                generalize ((((w26.setCell ⟨gb206, 0, none⟩ (.string ((rd_T55 l0 a2).f0))).setCell ⟨gb206, 1, none⟩ (.int .i64 ((rd_T55 l0 a2).f1))).setCell ⟨gb206, 2, none⟩ (.int .i64 ((rd_T55 l0 a2).f2))).setCell ⟨gb206, 3, none⟩ (.int .i64 ((rd_T55 l0 a2).f3))) = w28 at n0_ n1_ ⊢
                have BK206 := n0_
                have HB := n1_
                clear n0_ n1_
                have n0_ := Aside0.mk (blk_drew BK206.out)
                have n1_ := Aside0.mk (below_drew1 HB.out)
                clear BK206
                clear HB
                have BK206 := n0_
                have HB := n1_
                clear n0_ n1_
                have p211 : 0 ≤ (((rd_T55 l0 a2).f1) : Int) := of_decide_eq_true (by first | (with_reducible assumption) | assumption)
                have q211 : ((rd_T55 l0 a2).f1) < (l1.length : Int) := of_decide_eq_true (by first | (with_reducible assumption) | assumption)
                obtain ⟨ad211, e211, hx211_0⟩ := Kd.at_int HR1.out ((rd_T55 l0 a2).f1) p211 q211
                have hw211_0 := hx211_0
                obtain rfl : ad209 = ad211 := (by injection e211)
                replace hx211_0 := (HB.out.cell (World.block_lt_of_cell? w _ hx211_0)).trans hx211_0
                replace p211 := eq_true p211
                replace q211 := eq_true q211
                refine start_ (n := 13) (S := fun w' => w'.cell? ⟨gb206, 0, none⟩ = some (.string ((rd_T55 l0 a2).f0)) ∧ w'.cell? ⟨gb206, 1, none⟩ = some (.int .i64 ((rd_T55 l0 a2).f1)) ∧ w'.cell? ⟨gb206, 2, none⟩ = some (.int .i64 ((rd_T55 l0 a2).f2)) ∧ w'.cell? ⟨gb206, 3, none⟩ = some (.int .i64 ((rd_T55 l0 a2).f3)) ∧ w'.cell? (ad209.add (((rd_T55 l0 a2).f1)).toNat) = some (.int .i64 (rd l1 ((rd_T55 l0 a2).f1)))) (ds := []) #[false, false, false, false, false, false, false, false, false, false, false, false, false] (by kernel_rfl) rfl rfl ⟨(blk_cell BK206.out 0).trans rfl, (blk_cell BK206.out 1).trans rfl, (blk_cell BK206.out 2).trans rfl, (blk_cell BK206.out 3).trans rfl, ((HB.out.cell (World.block_lt_of_cell? w _ hw211_0)).trans hw211_0)⟩ (fun hHeld => ?_); refine with_tabW cayleyref02_letter.tab8 cayleyref02_letter.bits8 (fun HT_ HW_ => ?_)
                generalize w28.drew = w29 at BK206 HB hx211_0 hHeld ⊢
                refine pure_ (i := 0) (N := some 49) (v := ?_) (a' := ?_) #[true, false, false, false, false, false, false, false, false, false, false, false, false] rfl rfl (any_of HT_.out (by kernel_rfl)) (fun _ _ _ h => h) (Or.inl ⟨by rfl, ?_⟩) ?_ ?_
                rotate_left
                · intro w'
                  go_simp
                  with_reducible rfl
                rotate_left
                · simp only [Act.put, List.setIfInBounds_toArray, List.set_cons_zero, List.set_cons_succ, i64_w, i32_w]
                  rfl
                refine pure_ (i := 1) (N := some 50) (v := ?_) (a' := ?_) #[true, true, false, false, false, false, false, false, false, false, false, false, false] rfl rfl (any_of HT_.out (by kernel_rfl)) (fun _ _ _ h => h) (Or.inl ⟨by rfl, ?_⟩) ?_ ?_
                rotate_left
                · intro w'
                  go_simp
                  with_reducible rfl
                rotate_left
                · simp only [Act.put, List.setIfInBounds_toArray, List.set_cons_zero, List.set_cons_succ, i64_w, i32_w]
                  rfl
                refine pure_ (i := 2) (N := some 51) (v := ?_) (a' := ?_) #[true, true, true, false, false, false, false, false, false, false, false, false, false] rfl rfl (any_of HT_.out (by kernel_rfl)) (fun _ _ _ h => h) (Or.inl ⟨by rfl, ?_⟩) ?_ ?_
                rotate_left
                · intro w'
                  go_simp
                  with_reducible rfl
                rotate_left
                · simp only [Act.put, List.setIfInBounds_toArray, List.set_cons_zero, List.set_cons_succ, i64_w, i32_w]
                  rfl
                refine pure_ (i := 4) (N := some 53) (v := ?_) (a' := ?_) #[true, true, true, false, true, false, false, false, false, false, false, false, false] rfl rfl (any_of HT_.out (by kernel_rfl)) (fun _ _ _ h => h) (Or.inl ⟨by rfl, ?_⟩) ?_ ?_
                rotate_left
                · intro w'
                  go_simp
                  with_reducible rfl
                rotate_left
                · simp only [Act.put, List.setIfInBounds_toArray, List.set_cons_zero, List.set_cons_succ, i64_w, i32_w]
                  rfl
                refine pure_ (i := 5) (N := some 54) (v := ?_) (a' := ?_) #[true, true, true, false, true, true, false, false, false, false, false, false, false] rfl rfl (any_of HT_.out (by kernel_rfl)) (fun _ _ _ h => h) (Or.inl ⟨by rfl, ?_⟩) ?_ ?_
                rotate_left
                · intro w'
                  go_simp
                  with_reducible rfl
                rotate_left
                · simp only [Act.put, List.setIfInBounds_toArray, List.set_cons_zero, List.set_cons_succ, i64_w, i32_w]
                  rfl
                refine pure_ (i := 6) (N := some 55) (v := ?_) (a' := ?_) #[true, true, true, false, true, true, true, false, false, false, false, false, false] rfl rfl (any_of HT_.out (by kernel_rfl)) (fun _ _ _ h => h) (Or.inl ⟨by rfl, ?_⟩) ?_ ?_
                rotate_left
                · intro w'
                  go_simp
                  with_reducible rfl
                rotate_left
                · simp only [Act.put, List.setIfInBounds_toArray, List.set_cons_zero, List.set_cons_succ, i64_w, i32_w]
                  rfl
                refine take_ (i := 3) (N := some 52) (v := ?_) (a' := ?_) #[true, true, true, true, true, true, true, false, false, false, false, false, false] rfl rfl (take_ofW HT_.out HW_.out (by kernel_rfl)) (fun _ _ _ h => h) (Or.inl ⟨by rfl, ?_⟩) hHeld ?_ ?_
                rotate_left
                · rintro w' ⟨s0, s1, s2, s3, s4⟩
                  go_simp
                  with_reducible rfl
                rotate_left
                · simp only [Act.put, List.setIfInBounds_toArray, List.set_cons_zero, List.set_cons_succ, i64_w, i32_w]
                  rfl
                refine take_ (i := 7) (N := some 56) (v := ?_) (a' := ?_) #[true, true, true, true, true, true, true, true, false, false, false, false, false] rfl rfl (take_ofW HT_.out HW_.out (by kernel_rfl)) (fun _ _ _ h => h) (Or.inl ⟨by rfl, ?_⟩) hHeld ?_ ?_
                rotate_left
                · rintro w' ⟨s0, s1, s2, s3, s4⟩
                  go_simp
                  with_reducible rfl
                rotate_left
                · simp only [Act.put, List.setIfInBounds_toArray, List.set_cons_zero, List.set_cons_succ, i64_w, i32_w]
                  rfl
                refine pure_ (i := 8) (N := some 57) (v := ?_) (a' := ?_) #[true, true, true, true, true, true, true, true, true, false, false, false, false] rfl rfl (any_of HT_.out (by kernel_rfl)) (fun _ _ _ h => h) (Or.inl ⟨by rfl, ?_⟩) ?_ ?_
                rotate_left
                · intro w'
                  go_simp
                  with_reducible rfl
                rotate_left
                · simp only [Act.put, List.setIfInBounds_toArray, List.set_cons_zero, List.set_cons_succ, i64_w, i32_w]
                  rfl
                refine take_ (i := 9) (N := some 58) (v := ?_) (a' := ?_) #[true, true, true, true, true, true, true, true, true, true, false, false, false] rfl rfl (take_ofW HT_.out HW_.out (by kernel_rfl)) (fun _ _ _ h => h) (Or.inl ⟨by rfl, ?_⟩) hHeld ?_ ?_
                rotate_left
                · rintro w' ⟨s0, s1, s2, s3, s4⟩
                  go_simp
                  with_reducible rfl
                rotate_left
                · simp only [Act.put, List.setIfInBounds_toArray, List.set_cons_zero, List.set_cons_succ, i64_w, i32_w]
                  rfl
                refine pure_ (i := 10) (N := some 59) (v := ?_) (a' := ?_) #[true, true, true, true, true, true, true, true, true, true, true, false, false] rfl rfl (any_of HT_.out (by kernel_rfl)) (fun _ _ _ h => h) (Or.inl ⟨by rfl, ?_⟩) ?_ ?_
                rotate_left
                · intro w'
                  go_simp
                  with_reducible rfl
                rotate_left
                · simp only [Act.put, List.setIfInBounds_toArray, List.set_cons_zero, List.set_cons_succ, i64_w, i32_w]
                  rfl
                refine one_ (i := 11) (N := some 60) #[true, true, true, true, true, true, true, true, true, true, true, true, false] rfl rfl (one_of HT_.out (by kernel_rfl)) (by decide) (fun K hK => ?_)
                refine goes_ Tryd.func37 (by kernel_rfl) rfl #[.slice (some ad205) l0.length c0, .slice (some ad209) l1.length c1, .int .i64 ((rd_T55 l0 a2).f2), .int .i64 (wrap64 (a3 - (rd l1 ((rd_T55 l0 a2).f1))))] (by rfl) rfl rfl (by (try simp only [List.map_toArray, List.map_cons, List.map_nil]); first | done | rfl | (simp only [List.length_drop, List.length_take]; rfl)) ?_
                with_reducible refine (ih k (by omega) _ _ l0 _ _ l1 ((rd_T55 l0 a2).f2) (wrap64 (a3 - (rd l1 ((rd_T55 l0 a2).f1)))) t212 _ ?side1 ?side2 ?side3 ?side4 A25.out).mono ?_
                (case side1 => repeat (first | exact (Kd.C_below HR0.out HB.out) | (with_reducible refine Kd.C_alloc ?_ _) | (with_reducible refine Kd.C_drewN ?_ _) | (with_reducible refine Kd.C_drew ?_)))
                (case side2 => exact HC0.out)
                (case side3 => repeat (first | exact (Kd.C_below HR1.out HB.out) | (with_reducible refine Kd.C_alloc ?_ _) | (with_reducible refine Kd.C_drewN ?_ _) | (with_reducible refine Kd.C_drew ?_)))
                (case side4 => exact HC1.out)
                rintro e w30 ⟨rfl, hb⟩
                refine ⟨_, rfl, ?_⟩
                have n0_ := Aside0.mk (blk_below (g := gb206) (o := .cells #[.string ((rd_T55 l0 a2).f0), .int .i64 ((rd_T55 l0 a2).f1), .int .i64 ((rd_T55 l0 a2).f2), .int .i64 ((rd_T55 l0 a2).f3)] 55 (0, 0)) (by (with_reducible repeat (first | refine blk_drewN ?_ _ | refine blk_drew ?_ | refine blk_alloc ?_ _)); exact BK206.out) hb)
                have n1_ := Aside0.mk (below_step (by repeat (first | (with_reducible first | exact HB.out | apply below_alloc | apply pw_below_drewN | apply below_drew1 | refine below_set ?_ GE206.out) | exact HB.out)) hb)
                clear BK206
                clear HB
                have BK206 := n0_
                have HB := n1_
                clear n0_ n1_
                (try clear hb)
                (try clear hb2)
                (try clear hk)
                (try clear hi)
                refine hK.out _ _ ⟨(blk_cell BK206.out 0).trans rfl, (blk_cell BK206.out 1).trans rfl, (blk_cell BK206.out 2).trans rfl, (blk_cell BK206.out 3).trans rfl, ((HB.out.cell (World.block_lt_of_cell? w _ hw211_0)).trans hw211_0)⟩ (fun hHeld => ?_)
                clear hK K
                refine norm_ (a' := ?_) ?_ ?_
                rotate_left
                · show Act.put _ (some 60) _ = _
                  simp only [Act.put, List.setIfInBounds_toArray, List.set_cons_zero, List.set_cons_succ, i64_w, i32_w]
                  rfl
                refine pure_ (i := 12) (N := some 8) (v := ?_) (a' := ?_) #[true, true, true, true, true, true, true, true, true, true, true, true, true] rfl rfl (any_of HT_.out (by kernel_rfl)) (fun _ _ _ h => h) (Or.inl ⟨by rfl, ?_⟩) ?_ ?_
                rotate_left
                · intro w'
                  go_simp
                  with_reducible rfl
                rotate_left
                · simp only [Act.put, List.setIfInBounds_toArray, List.set_cons_zero, List.set_cons_succ, i64_w, i32_w]
                  rfl
                refine done_ (done_of HT_.out (by kernel_rfl)) ?_
                try go_wp2
                go_ret
                exact ⟨by first | rfl | (simp [errW_none, errW_some] <;> rfl) | (simp [*, errW_none, errW_some] <;> rfl), by repeat (first | (with_reducible first | exact HB.out | apply below_alloc | apply pw_below_drewN | apply below_drew1 | refine below_set ?_ GE206.out) | exact HB.out)⟩
            · rw [if_neg c19] at H
              exact absurd H (by simp)
          · rw [if_neg c18] at H
            exact absurd H (by simp)
      · rw [if_neg c7] at H
        have c7b0 : (((rd_T55 l0 a2).f0).toList == ([] : List UInt8)) = false := beq_eq_false_iff_ne.mpr c7
        have c7b1 : (((rd_T55 l0 a2).f0).toList != ([] : List UInt8)) = true := bne_iff_ne.mpr c7
        by_cases c31 : 0 ≤ a3
        · rw [if_pos c31] at H
          have c31b0 : decide (0 ≤ a3) = true := decide_eq_true c31
          clear c31
          by_cases c32 : a3 < (((rd_T55 l0 a2).f0).size : Int)
          · rw [if_pos c32] at H
            have c32b0 : decide (a3 < (((rd_T55 l0 a2).f0).size : Int)) = true := decide_eq_true c32
            clear c32
            obtain rfl := Option.some.inj H
            have p205 : 0 ≤ (a2 : Int) := of_decide_eq_true (by first | (with_reducible assumption) | assumption)
            have q205 : a2 < (l0.length : Int) := of_decide_eq_true (by first | (with_reducible assumption) | assumption)
            obtain ⟨ad205, e205, hx205_0, hx205_1, hx205_2, hx205_3⟩ := at_T55 HR0.out a2 p205 q205
            cases e205
            replace p205 := eq_true p205
            replace q205 := eq_true q205
            go_enter Tryd.func37, Tryd.ntmps37
            go_wp2_with (first | ((with_reducible refine gate_dst (N := 9) rfl ?_); refine box_event ?hg (N := 9) ?hd (cs := #[.string (⟨#[]⟩ : ByteArray), .int .i64 0, .int .i64 0, .int .i64 0]) (t := 55) ?hr ?_; (case hd => rfl); (case hg => rfl); (case hr => first | (go_simp; done) | (go_simp; rfl)); intro gb206 hg w34 hbox hb; have n0_ := Aside0.mk (below_step (by repeat (first | (with_reducible first | exact HB.out | apply below_alloc | apply pw_below_drewN | apply below_drew1) | exact HB.out)) hb); have n1_ := Aside0.mk (hbox); have n2_ := Aside0.mk ((by rw [hg]; exact (below_size (by repeat (first | (with_reducible first | exact HB.out | apply below_alloc | apply pw_below_drewN | apply below_drew1) | exact HB.out))) : w.heap.size ≤ gb206)); have n3_ := Aside0.mk ((by rw [hg]; exact (below_size (by repeat (first | (with_reducible first | exact HB.out | apply below_alloc | apply pw_below_drewN | apply below_drew1) | exact HB.out))) : w.heap.size ≤ gb206)); clear HB; have HB := n0_; have BK206 := n1_; have GW206 := n2_; have GE206 := n3_; clear n0_ n1_ n2_ n3_; clear hb hbox hg; have hcz35_0 : w34.cell? ⟨gb206, 0, none⟩ = some (.string (⟨#[]⟩ : ByteArray)) := (blk_cell BK206.out 0).trans rfl; have hcz35_1 : w34.cell? ⟨gb206, 1, none⟩ = some (.int .i64 0) := (blk_cell BK206.out 1).trans rfl; have hcz35_2 : w34.cell? ⟨gb206, 2, none⟩ = some (.int .i64 0) := (blk_cell BK206.out 2).trans rfl; have hcz35_3 : w34.cell? ⟨gb206, 3, none⟩ = some (.int .i64 0) := (blk_cell BK206.out 3).trans rfl; have hfz35_0 := blk_frozen BK206.out 0; have hfz35_1 := blk_frozen BK206.out 1; have hfz35_2 := blk_frozen BK206.out 2; have hfz35_3 := blk_frozen BK206.out 3; have hcy35_0 : ∀ z0 z1 z2 z3, ((((w34.setCell ⟨gb206, 0, none⟩ z0).setCell ⟨gb206, 1, none⟩ z1).setCell ⟨gb206, 2, none⟩ z2).setCell ⟨gb206, 3, none⟩ z3).cell? ⟨gb206, 0, none⟩ = some z0 := (by intro z0 z1 z2 z3; go_cell); have hcy35_1 : ∀ z0 z1 z2 z3, ((((w34.setCell ⟨gb206, 0, none⟩ z0).setCell ⟨gb206, 1, none⟩ z1).setCell ⟨gb206, 2, none⟩ z2).setCell ⟨gb206, 3, none⟩ z3).cell? ⟨gb206, 1, none⟩ = some z1 := (by intro z0 z1 z2 z3; go_cell); have hcy35_2 : ∀ z0 z1 z2 z3, ((((w34.setCell ⟨gb206, 0, none⟩ z0).setCell ⟨gb206, 1, none⟩ z1).setCell ⟨gb206, 2, none⟩ z2).setCell ⟨gb206, 3, none⟩ z3).cell? ⟨gb206, 2, none⟩ = some z2 := (by intro z0 z1 z2 z3; go_cell); have hcy35_3 : ∀ z0 z1 z2 z3, ((((w34.setCell ⟨gb206, 0, none⟩ z0).setCell ⟨gb206, 1, none⟩ z1).setCell ⟨gb206, 2, none⟩ z2).setCell ⟨gb206, 3, none⟩ z3).cell? ⟨gb206, 3, none⟩ = some z3 := (by intro z0 z1 z2 z3; go_cell); have p33 : 0 ≤ (a3 : Int) := of_decide_eq_true (by first | (with_reducible assumption) | assumption); have q33 : a3 < (((rd_T55 l0 a2).f0).size : Int) := of_decide_eq_true (by first | (with_reducible assumption) | assumption); have hx33 := bt_at ((rd_T55 l0 a2).f0) a3; replace p33 := eq_true p33; replace q33 := eq_true q33))
            go_ret
            exact ⟨by first | rfl | (simp [errW_none, errW_some] <;> rfl) | (simp [*, errW_none, errW_some] <;> rfl), by repeat (first | (with_reducible first | exact HB.out | apply below_alloc | apply pw_below_drewN | apply below_drew1 | refine below_set ?_ GE206.out) | exact HB.out)⟩
          · rw [if_neg c32] at H
            exact absurd H (by simp)
        · rw [if_neg c31] at H
          exact absurd H (by simp)
    · rw [if_neg c6] at H
      exact absurd H (by simp)
  · rw [if_neg c5] at H
    exact absurd H (by simp)
def cayleyref02_At.j0 : Nat → List (S55) → Int → Bool → Option (Int × Int)
  | 0, _, _, _ => none
  | k + 1, x0, x1, x24 => if x24 = true then (some (0, 1)) else ((cayleyref02_Lengths.f x0).bind fun bt215 => ((cayleyref02_letter.f k x0 bt215.1 (wrap64 ((x0.length : Int) - 1)) x1).bind fun t219 => (some (t219, 0))))
def cayleyref02_At.f (k : Nat) (l0 : List (S55)) (a1 : Int) : Option (Int × Int) := (cayleyref02_Len.f l0).bind fun bt213 => (if bt213.2 = 0 then (if a1 < 0 then (cayleyref02_At.j0 k l0 a1 true) else (cayleyref02_At.j0 k l0 a1 (decide (a1 ≥ bt213.1)))) else (some (0, bt213.2)))
set_option maxHeartbeats 8000000 in
set_option maxRecDepth 100000 in
theorem cayleyref02_At.calls (k : Nat) (A0 : Option Addr) (c0 : Nat) (l0 : List (S55)) (a1 : Int) (r1 : Int) (r2 : Int) (w : World) (hr0 : Kd.C k55 w A0 l0.length l0) (hc0 : l0.length ≤ c0) (h : cayleyref02_At.f k l0 a1 = some (r1, r2)) (hG : H.Glob w := by exact Go.Proofs.YtehbekgmemebjaaDoor.PAll.H.Glob.of HG0.out (by repeat (first | (with_reducible first | exact HB.out | apply below_alloc | apply pw_below_drewN | apply below_drew1) | exact HB.out))) :
    Calls Tryd.prog 14 #[.slice A0 l0.length c0, .int .i64 a1] w fun e w' => e = .returned (.tuple #[.int .u8 r1, .int .i64 r2]) ∧ Below w.heap.size w w' := by
  have HG0 := Aside0.mk hG
  clear hG
  have HR0 := Aside0.mk hr0
  have HC0 := Aside0.mk hc0
  clear hr0 hc0
  have HB := Aside0.mk (Below.refl w.heap.size w)
  have H : ((cayleyref02_Len.f l0).bind fun bt213 => (if bt213.2 = 0 then (if a1 < 0 then (cayleyref02_At.j0 k l0 a1 true) else (cayleyref02_At.j0 k l0 a1 (decide (a1 ≥ bt213.1)))) else (some (0, bt213.2)))) = some (r1, r2) := h
  clear h
  replace H := Option.bind_eq_some_iff.mp H
  obtain ⟨⟨t213, t214⟩, A30, H⟩ := H
  replace H : (if t214 = 0 then (if a1 < 0 then (cayleyref02_At.j0 k l0 a1 true) else (cayleyref02_At.j0 k l0 a1 (decide (a1 ≥ t213)))) else (some (0, t214))) = some (r1, r2) := H
  have A3 := Aside0.mk A30
  clear A30
  by_cases c4 : t214 = 0
  · rw [if_pos c4] at H
    have c4b0 : (t214 == 0) = true := beq_iff_eq.mpr c4
    have c4b1 : (t214 != 0) = false := bne_eq_false_iff_eq.mpr c4
    clear c4
    have HC5 := Aside0.mk H
    clear H
    go_enter Tryd.func14, Tryd.ntmps14
    go_upto_region 4 with (first | ((with_reducible refine gate_callee (f := 12) rfl ?_); refine goesL_ (some 12) rfl rfl Tryd.func12 (by kernel_rfl) rfl #[.slice A0 l0.length c0] rfl (by (try simp only [List.map_toArray, List.map_cons, List.map_nil]); first | done | rfl | (simp only [List.length_drop, List.length_take]; rfl)) ?_; (with_reducible refine (cayleyref02_Len.calls _ _ l0 t213 t214 _ ?side1 ?side2 A3.out).mono ?_); (case side1 => repeat (first | exact HR0.out | (with_reducible refine Kd.C_alloc ?_ _) | (with_reducible refine Kd.C_drewN ?_ _) | (with_reducible refine Kd.C_drew ?_))); (case side2 => exact HC0.out); rintro e w6 ⟨rfl, hb⟩; refine ⟨_, rfl, ?_⟩; have n0_ := Aside0.mk (below_step (by repeat (first | (with_reducible first | exact HB.out | apply below_alloc | apply pw_below_drewN | apply below_drew1) | exact HB.out)) hb); clear HB; have HB := n0_; clear n0_; (try clear hb); (try clear hb2); (try clear hk); (try clear hi)))
    (try simp only [Act.put, List.setIfInBounds_toArray, List.set_cons_zero, List.set_cons_succ])
    go_cut [24] (fun v24 wc => ∃ (kq : Nat) (x24_4 : Bool), v24 = .bool x24_4 ∧ Aside0 (cayleyref02_At.j0 kq l0 a1 x24_4 = some (r1, r2)) ∧ Aside0 (kq ≤ k) ∧ Aside0 (Below w.heap.size w wc))
    case first =>
      have H := HC5.out
      clear HC5
      by_cases c7 : a1 < 0
      · rw [if_pos c7] at H
        have c7b0 : decide (a1 < 0) = true := decide_eq_true c7
        clear c7
        (first | rw [c7b0] | (simp only [i64_w, i32_w]; rw [c7b0]) | skip)
        have H' := Aside0.mk H
        clear H
        go_wp2
        go_meet
        case rel => exact ⟨_, (true), (by first | rfl | (simp; done) | (simp [*]; done)), H', ⟨by first | omega | exact Nat.le_refl _⟩, ⟨by repeat (first | (with_reducible first | exact HB.out | apply below_alloc | apply pw_below_drewN | apply below_drew1) | exact HB.out)⟩⟩
      · rw [if_neg c7] at H
        have c7b0 : decide (a1 < 0) = false := decide_eq_false c7
        clear c7
        (first | rw [c7b0] | (simp only [i64_w, i32_w]; rw [c7b0]) | skip)
        have H' := Aside0.mk H
        clear H
        go_wp2
        go_meet
        case rel => exact ⟨_, (decide (a1 ≥ t213)), (by first | rfl | (simp; done) | (simp [*]; done)), H', ⟨by first | omega | exact Nat.le_refl _⟩, ⟨by repeat (first | (with_reducible first | exact HB.out | apply below_alloc | apply pw_below_drewN | apply below_drew1) | exact HB.out)⟩⟩
    case rest =>
      clear HC5
      try clear c1
      try clear p2
      try clear c4
      try clear c4b0
      try clear c4b1
      try clear c7
      try clear c7b0
      obtain ⟨kq, x24_4, rfl, HA, HJ4, HB⟩ := hcut
      cases kq with
      | zero => exact absurd HA.out (by simp [cayleyref02_At.j0])
      | succ kj4 =>
        have H := HA.out
        clear HA
        simp only [cayleyref02_At.j0] at H
        by_cases c8 : x24_4 = true
        · subst c8
          have H1 : (some (0, 1)) = some (r1, r2) := by rw [if_pos rfl] at H; exact H
          clear H
          have H := H1
          clear H1
          simp only [Option.some.injEq, Prod.mk.injEq] at H
          obtain ⟨rfl, rfl⟩ := H
          go_wp2
          go_ret2
          exact ⟨by first | rfl | (simp [errW_none, errW_some] <;> rfl) | (simp [*, errW_none, errW_some] <;> rfl), by repeat (first | (with_reducible first | exact HB.out | apply below_alloc | apply pw_below_drewN | apply below_drew1) | exact HB.out)⟩
        · replace c8 := Bool.eq_false_iff.mpr c8
          subst c8
          have H1 : ((cayleyref02_Lengths.f l0).bind fun bt215 => ((cayleyref02_letter.f kj4 l0 bt215.1 (wrap64 ((l0.length : Int) - 1)) a1).bind fun t219 => (some (t219, 0)))) = some (r1, r2) := by rw [if_neg (show ¬ (false = true) by decide)] at H; exact H
          clear H
          have H := H1
          clear H1
          replace H := Option.bind_eq_some_iff.mp H
          obtain ⟨⟨t215, t216⟩, A90, H⟩ := H
          replace H : ((cayleyref02_letter.f kj4 l0 t215 (wrap64 ((l0.length : Int) - 1)) a1).bind fun t219 => (some (t219, 0))) = some (r1, r2) := H
          have A9 := Aside0.mk A90
          clear A90
          replace H := Option.bind_eq_some_iff.mp H
          obtain ⟨t219, A100, H⟩ := H
          replace H : (some (t219, 0)) = some (r1, r2) := H
          have A10 := Aside0.mk A100
          clear A100
          simp only [Option.some.injEq, Prod.mk.injEq] at H
          obtain ⟨rfl, rfl⟩ := H
          go_wp2_with (first | ((with_reducible refine gate_callee (f := 35) rfl ?_); refine goesL_ (some 27) rfl rfl Tryd.func35 (by kernel_rfl) rfl #[.slice A0 l0.length c0] rfl (by (try simp only [List.map_toArray, List.map_cons, List.map_nil]); first | done | rfl | (simp only [List.length_drop, List.length_take]; rfl)) ?_; (with_reducible refine (cayleyref02_Lengths.calls _ _ l0 t215 t216 _ ?side1 ?side2 A9.out).mono ?_); (case side1 => repeat (first | exact (Kd.C_below HR0.out HB.out) | (with_reducible refine Kd.C_alloc ?_ _) | (with_reducible refine Kd.C_drewN ?_ _) | (with_reducible refine Kd.C_drew ?_))); (case side2 => exact HC0.out); rintro e w11 ⟨v217, rfl, ho0, hb⟩; refine ⟨_, rfl, ?_⟩; have n0_ := Aside0.mk (Kd.R_lower ho0 (below_size (by repeat (first | (with_reducible first | exact HB.out | apply below_alloc | apply pw_below_drewN | apply below_drew1) | exact HB.out)))); have n1_ := Aside0.mk (below_step (by repeat (first | (with_reducible first | exact HB.out | apply below_alloc | apply pw_below_drewN | apply below_drew1) | exact HB.out)) hb); clear HB; have HO218 := n0_; have HB := n1_; clear n0_ n1_; (try clear hb); (try clear hb2); (try clear hk); (try clear hi); (try clear ho0); obtain ⟨Ao12, co12, eo12⟩ := Kd.R_slice HO218.out; subst eo12) | ((with_reducible refine gate_callee (f := 37) rfl ?_); refine goesL_ (some 36) rfl rfl Tryd.func37 (by kernel_rfl) rfl #[.slice A0 l0.length c0, .slice Ao12 t215.length co12, .int .i64 (wrap64 ((l0.length : Int) - 1)), .int .i64 a1] rfl (by (try simp only [List.map_toArray, List.map_cons, List.map_nil]); first | done | rfl | (simp only [List.length_drop, List.length_take]; rfl)) ?_; (with_reducible refine (cayleyref02_letter.calls kj4 _ _ l0 _ _ t215 (wrap64 ((l0.length : Int) - 1)) a1 t219 _ ?side1 ?side2 ?side3 ?side4 A10.out).mono ?_); (case side1 => repeat (first | exact (Kd.C_below HR0.out HB.out) | (with_reducible refine Kd.C_alloc ?_ _) | (with_reducible refine Kd.C_drewN ?_ _) | (with_reducible refine Kd.C_drew ?_))); (case side2 => exact HC0.out); (case side3 => repeat (first | exact (Kd.R_reads' HO218.out).2.2 | (with_reducible refine Kd.C_alloc ?_ _) | (with_reducible refine Kd.C_drewN ?_ _) | (with_reducible refine Kd.C_drew ?_))); (case side4 => exact (Kd.R_reads' HO218.out).2.1); rintro e w13 ⟨rfl, hb⟩; refine ⟨_, rfl, ?_⟩; have n0_ := Aside0.mk (Kd.R_below (by (with_reducible repeat (first | apply Kd.R_alloc | apply Kd.R_drewN | apply Kd.R_drew)); exact HO218.out) hb); have n1_ := Aside0.mk (below_step (by repeat (first | (with_reducible first | exact HB.out | apply below_alloc | apply pw_below_drewN | apply below_drew1) | exact HB.out)) hb); clear HO218; clear HB; have HO218 := n0_; have HB := n1_; clear n0_ n1_; (try clear hb); (try clear hb2); (try clear hk); (try clear hi)))
          go_ret2
          exact ⟨by first | rfl | (simp [errW_none, errW_some] <;> rfl) | (simp [*, errW_none, errW_some] <;> rfl), by repeat (first | (with_reducible first | exact HB.out | apply below_alloc | apply pw_below_drewN | apply below_drew1) | exact HB.out)⟩
  · rw [if_neg c4] at H
    have c4b0 : (t214 == 0) = false := beq_eq_false_iff_ne.mpr c4
    have c4b1 : (t214 != 0) = true := bne_iff_ne.mpr c4
    simp only [Option.some.injEq, Prod.mk.injEq] at H
    obtain ⟨rfl, rfl⟩ := H
    go_enter Tryd.func14, Tryd.ntmps14
    go_wp2_with (first | ((with_reducible refine gate_callee (f := 12) rfl ?_); refine goesL_ (some 12) rfl rfl Tryd.func12 (by kernel_rfl) rfl #[.slice A0 l0.length c0] rfl (by (try simp only [List.map_toArray, List.map_cons, List.map_nil]); first | done | rfl | (simp only [List.length_drop, List.length_take]; rfl)) ?_; (with_reducible refine (cayleyref02_Len.calls _ _ l0 t213 t214 _ ?side1 ?side2 A3.out).mono ?_); (case side1 => repeat (first | exact HR0.out | (with_reducible refine Kd.C_alloc ?_ _) | (with_reducible refine Kd.C_drewN ?_ _) | (with_reducible refine Kd.C_drew ?_))); (case side2 => exact HC0.out); rintro e w14 ⟨rfl, hb⟩; refine ⟨_, rfl, ?_⟩; have n0_ := Aside0.mk (below_step (by repeat (first | (with_reducible first | exact HB.out | apply below_alloc | apply pw_below_drewN | apply below_drew1) | exact HB.out)) hb); clear HB; have HB := n0_; clear n0_; (try clear hb); (try clear hb2); (try clear hk); (try clear hi)))
    go_ret2
    exact ⟨by first | rfl | (simp [errW_none, errW_some] <;> rfl) | (simp [*, errW_none, errW_some] <;> rfl), by repeat (first | (with_reducible first | exact HB.out | apply below_alloc | apply pw_below_drewN | apply below_drew1) | exact HB.out)⟩
end Go.Proofs.YtehbekgmemebjaaDoor.PAll
