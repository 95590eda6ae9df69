import Derived.OpenShut
import Derived.Test.YtmmichdlgjcmoaaPAllx0
import Derived.Test.YtmmichdlgjcmoaaPAllx3
import Derived.Test.YtmmichdlgjcmoaaPAllx4
import Derived.Test.YtmmichdlgjcmoaaPAllx8
import Derived.Test.YtmmichdlgjcmoaaPAllx2
import Derived.Test.YtmmichdlgjcmoaaExtE
import Derived.Test.YtmmichdlgjcmoaaExtM
namespace Go.Proofs.Ytmmichdlgjcmoaa.PAll
open Go.RowKit Go.Proofs.YtmmichdlgjcmoaaW.PrintWords Go.Proofs.YtmmichdlgjcmoaaW.PrintLast Go.Proofs.YtmmichdlgjcmoaaW.PrintMore
attribute [local go_sem] max2_int min2_int max_two min_two max_three min_three max_four min_four   -- for this text's walks alone
set_option linter.unusedVariables false
set_option linter.unusedSimpArgs false
def cayleyref04_Relators.l0 : Nat → Int → List (S52) → Int → Int → Option (Int)
  | 0, _, _, _, _ => none
  | k + 1, x3, x6, x7, x8 => if x8 < x7 then (if 0 ≤ x8 then (if x8 < (x6.length : Int) then (if ((rd_T52 x6 x8).f0) = 3 then (cayleyref04_Relators.l0 k (wrap64 (x3 + 1)) x6 x7 (wrap64 (x8 + 1))) else (if ((rd_T52 x6 x8).f0) = 4 then (cayleyref04_Relators.l0 k (wrap64 (x3 + 1)) x6 x7 (wrap64 (x8 + 1))) else (cayleyref04_Relators.l0 k x3 x6 x7 (wrap64 (x8 + 1))))) else (none)) else (none)) else (some x3)
def cayleyref04_Relators.f (k : Nat) (l0 : List (S52)) : Option (Int) := cayleyref04_Relators.l0 k 0 l0 (l0.length : Int) 0
set_option maxHeartbeats 8000000 in
set_option maxRecDepth 100000 in
theorem cayleyref04_Relators.calls (k : Nat) (A0 : Option Addr) (c0 : Nat) (l0 : List (S52)) (r : Int) (w : World) (hr0 : Kd.C k52 w A0 l0.length l0) (hc0 : l0.length ≤ c0) (h : cayleyref04_Relators.f k l0 = some r) :
    Calls Try.prog 33 #[.slice A0 l0.length c0] w fun e w' => e = .returned (.int .i64 r) ∧ Below w.heap.size w w' := by
  have hu52 := Try.underlying52
  have HR0 := Aside0.mk hr0
  have HC0 := Aside0.mk hc0
  clear hr0 hc0
  have HB := Aside0.mk (Below.refl w.heap.size w)
  have H : (cayleyref04_Relators.l0 k 0 l0 (l0.length : Int) 0) = some r := h
  clear h
  have H' := Aside0.mk H
  clear H
  go_enter Try.func33, Try.ntmps33
  go_wp2
  go_loopg [3, 8] k (fun kq v3 v8 w' => ∃ (x3_1 : Int) (x8_1 : Int), v3 = .int .i64 x3_1 ∧ v8 = .int .i64 x8_1 ∧ Aside0 (cayleyref04_Relators.l0 kq x3_1 l0 (l0.length : Int) x8_1 = some r) ∧ Aside0 (kq ≤ k) ∧ Aside0 (Below w.heap.size w w'))
  case atStart => exact ⟨(0), (0), (by first | rfl | (simp; done) | (simp [*]; done)), (by first | rfl | (simp; done) | (simp [*]; done)), H', ⟨Nat.le_refl _⟩, ⟨by repeat (first | (with_reducible first | exact HB.out | apply below_alloc | apply pw_below_drewN | apply below_drew1) | exact HB.out)⟩⟩
  case round =>
    clear H'
    obtain ⟨x3_1, x8_1, rfl, rfl, HA, HK1, HB⟩ := hrel
    cases gk with
    | zero => exact absurd HA.out (by simp [cayleyref04_Relators.l0])
    | succ k1 =>
      have H := HA.out
      clear HA
      simp only [cayleyref04_Relators.l0] at H
      by_cases c2 : x8_1 < (l0.length : Int)
      · rw [if_pos c2] at H
        have c2b0 : decide (x8_1 < (l0.length : Int)) = true := decide_eq_true c2
        clear c2
        by_cases c3 : 0 ≤ x8_1
        · rw [if_pos c3] at H
          have c3b0 : decide (0 ≤ x8_1) = true := decide_eq_true c3
          clear c3
          by_cases c4 : x8_1 < (l0.length : Int)
          · rw [if_pos c4] at H
            have c4b0 : decide (x8_1 < (l0.length : Int)) = true := decide_eq_true c4
            clear c4
            by_cases c5 : ((rd_T52 l0 x8_1).f0) = 3
            · rw [if_pos c5] at H
              have c5b0 : (((rd_T52 l0 x8_1).f0) == 3) = true := beq_iff_eq.mpr c5
              have c5b1 : (((rd_T52 l0 x8_1).f0) != 3) = false := bne_eq_false_iff_eq.mpr c5
              clear c5
              have H' := Aside0.mk H
              clear H
              have p521 : 0 ≤ (x8_1 : Int) := of_decide_eq_true (by first | (with_reducible assumption) | assumption)
              have q521 : x8_1 < (l0.length : Int) := of_decide_eq_true (by first | (with_reducible assumption) | assumption)
              obtain ⟨ad521, e521, hx521_0, hx521_1, hx521_2, hx521_3, hx521_4, hx521_5⟩ := at_T52 HR0.out x8_1 p521 q521
              cases e521
              replace hx521_0 := (HB.out.cell (World.block_lt_of_cell? w _ hx521_0)).trans hx521_0
              replace hx521_1 := (HB.out.cell (World.block_lt_of_cell? w _ hx521_1)).trans hx521_1
              replace hx521_2 := (HB.out.cell (World.block_lt_of_cell? w _ hx521_2)).trans hx521_2
              replace hx521_3 := (HB.out.cell (World.block_lt_of_cell? w _ hx521_3)).trans hx521_3
              replace hx521_4 := (HB.out.cell (World.block_lt_of_cell? w _ hx521_4)).trans hx521_4
              replace hx521_5 := (HB.out.cell (World.block_lt_of_cell? w _ hx521_5)).trans hx521_5
              replace p521 := eq_true p521
              replace q521 := eq_true q521
              go_wp2_with (first | ((with_reducible refine gate_dst (N := 5) rfl ?_); refine box_event ?hg (N := 5) ?hd (cs := #[.int .i64 0, .int .i64 0, .int .i64 0, .int .i64 0, .int .i64 0, .bool false]) (t := 52) ?hr ?_; (case hd => rfl); (case hg => rfl); (case hr => first | (go_simp; done) | (go_simp; rfl)); intro gb522 hg w6 hbox hb; have n0_ := Aside0.mk (below_step (by repeat (first | (with_reducible first | exact HB.out | apply below_alloc | apply pw_below_drewN | apply below_drew1) | exact HB.out)) hb); have n1_ := Aside0.mk (hbox); have n2_ := Aside0.mk ((by rw [hg]; exact (below_size (by repeat (first | (with_reducible first | exact HB.out | apply below_alloc | apply pw_below_drewN | apply below_drew1) | exact HB.out))) : w.heap.size ≤ gb522)); have n3_ := Aside0.mk ((by rw [hg]; exact (below_size (by repeat (first | (with_reducible first | exact HB.out | apply below_alloc | apply pw_below_drewN | apply below_drew1) | exact HB.out))) : w.heap.size ≤ gb522)); clear HB; have HB := n0_; have BK522 := n1_; have GW522 := n2_; have GE522 := n3_; clear n0_ n1_ n2_ n3_; clear hb hbox hg; have hcz7_0 : w6.cell? ⟨gb522, 0, none⟩ = some (.int .i64 0) := (blk_cell BK522.out 0).trans rfl; have hcz7_1 : w6.cell? ⟨gb522, 1, none⟩ = some (.int .i64 0) := (blk_cell BK522.out 1).trans rfl; have hcz7_2 : w6.cell? ⟨gb522, 2, none⟩ = some (.int .i64 0) := (blk_cell BK522.out 2).trans rfl; have hcz7_3 : w6.cell? ⟨gb522, 3, none⟩ = some (.int .i64 0) := (blk_cell BK522.out 3).trans rfl; have hcz7_4 : w6.cell? ⟨gb522, 4, none⟩ = some (.int .i64 0) := (blk_cell BK522.out 4).trans rfl; have hcz7_5 : w6.cell? ⟨gb522, 5, none⟩ = some (.bool false) := (blk_cell BK522.out 5).trans rfl; have hfz7_0 := blk_frozen BK522.out 0; have hfz7_1 := blk_frozen BK522.out 1; have hfz7_2 := blk_frozen BK522.out 2; have hfz7_3 := blk_frozen BK522.out 3; have hfz7_4 := blk_frozen BK522.out 4; have hfz7_5 := blk_frozen BK522.out 5; have hcy7_0 : ∀ z0 z1 z2 z3 z4 z5, ((((((w6.setCell ⟨gb522, 0, none⟩ z0).setCell ⟨gb522, 1, none⟩ z1).setCell ⟨gb522, 2, none⟩ z2).setCell ⟨gb522, 3, none⟩ z3).setCell ⟨gb522, 4, none⟩ z4).setCell ⟨gb522, 5, none⟩ z5).cell? ⟨gb522, 0, none⟩ = some z0 := (by intro z0 z1 z2 z3 z4 z5; go_cell); have hcy7_1 : ∀ z0 z1 z2 z3 z4 z5, ((((((w6.setCell ⟨gb522, 0, none⟩ z0).setCell ⟨gb522, 1, none⟩ z1).setCell ⟨gb522, 2, none⟩ z2).setCell ⟨gb522, 3, none⟩ z3).setCell ⟨gb522, 4, none⟩ z4).setCell ⟨gb522, 5, none⟩ z5).cell? ⟨gb522, 1, none⟩ = some z1 := (by intro z0 z1 z2 z3 z4 z5; go_cell); have hcy7_2 : ∀ z0 z1 z2 z3 z4 z5, ((((((w6.setCell ⟨gb522, 0, none⟩ z0).setCell ⟨gb522, 1, none⟩ z1).setCell ⟨gb522, 2, none⟩ z2).setCell ⟨gb522, 3, none⟩ z3).setCell ⟨gb522, 4, none⟩ z4).setCell ⟨gb522, 5, none⟩ z5).cell? ⟨gb522, 2, none⟩ = some z2 := (by intro z0 z1 z2 z3 z4 z5; go_cell); have hcy7_3 : ∀ z0 z1 z2 z3 z4 z5, ((((((w6.setCell ⟨gb522, 0, none⟩ z0).setCell ⟨gb522, 1, none⟩ z1).setCell ⟨gb522, 2, none⟩ z2).setCell ⟨gb522, 3, none⟩ z3).setCell ⟨gb522, 4, none⟩ z4).setCell ⟨gb522, 5, none⟩ z5).cell? ⟨gb522, 3, none⟩ = some z3 := (by intro z0 z1 z2 z3 z4 z5; go_cell); have hcy7_4 : ∀ z0 z1 z2 z3 z4 z5, ((((((w6.setCell ⟨gb522, 0, none⟩ z0).setCell ⟨gb522, 1, none⟩ z1).setCell ⟨gb522, 2, none⟩ z2).setCell ⟨gb522, 3, none⟩ z3).setCell ⟨gb522, 4, none⟩ z4).setCell ⟨gb522, 5, none⟩ z5).cell? ⟨gb522, 4, none⟩ = some z4 := (by intro z0 z1 z2 z3 z4 z5; go_cell); have hcy7_5 : ∀ z0 z1 z2 z3 z4 z5, ((((((w6.setCell ⟨gb522, 0, none⟩ z0).setCell ⟨gb522, 1, none⟩ z1).setCell ⟨gb522, 2, none⟩ z2).setCell ⟨gb522, 3, none⟩ z3).setCell ⟨gb522, 4, none⟩ z4).setCell ⟨gb522, 5, none⟩ z5).cell? ⟨gb522, 5, none⟩ = some z5 := (by intro z0 z1 z2 z3 z4 z5; go_cell)))
              go_roundg k1
              case measure => have := HK1.out; omega
              case rel => exact ⟨(wrap64 (x3_1 + 1)), (wrap64 (x8_1 + 1)), (by first | rfl | (simp; done) | (simp [*]; done)), (by first | rfl | (simp; done) | (simp [*]; done)), H', ⟨by have := HK1.out; omega⟩, ⟨by repeat (first | (with_reducible first | exact HB.out | apply below_alloc | apply pw_below_drewN | apply below_drew1 | refine below_set ?_ GE522.out) | exact HB.out)⟩⟩
            · rw [if_neg c5] at H
              have c5b0 : (((rd_T52 l0 x8_1).f0) == 3) = false := beq_eq_false_iff_ne.mpr c5
              have c5b1 : (((rd_T52 l0 x8_1).f0) != 3) = true := bne_iff_ne.mpr c5
              by_cases c8 : ((rd_T52 l0 x8_1).f0) = 4
              · rw [if_pos c8] at H
                have c8b0 : (((rd_T52 l0 x8_1).f0) == 4) = true := beq_iff_eq.mpr c8
                have c8b1 : (((rd_T52 l0 x8_1).f0) != 4) = false := bne_eq_false_iff_eq.mpr c8
                clear c8
                have H' := Aside0.mk H
                clear H
                have p521 : 0 ≤ (x8_1 : Int) := of_decide_eq_true (by first | (with_reducible assumption) | assumption)
                have q521 : x8_1 < (l0.length : Int) := of_decide_eq_true (by first | (with_reducible assumption) | assumption)
                obtain ⟨ad521, e521, hx521_0, hx521_1, hx521_2, hx521_3, hx521_4, hx521_5⟩ := at_T52 HR0.out x8_1 p521 q521
                cases e521
                replace hx521_0 := (HB.out.cell (World.block_lt_of_cell? w _ hx521_0)).trans hx521_0
                replace hx521_1 := (HB.out.cell (World.block_lt_of_cell? w _ hx521_1)).trans hx521_1
                replace hx521_2 := (HB.out.cell (World.block_lt_of_cell? w _ hx521_2)).trans hx521_2
                replace hx521_3 := (HB.out.cell (World.block_lt_of_cell? w _ hx521_3)).trans hx521_3
                replace hx521_4 := (HB.out.cell (World.block_lt_of_cell? w _ hx521_4)).trans hx521_4
                replace hx521_5 := (HB.out.cell (World.block_lt_of_cell? w _ hx521_5)).trans hx521_5
                replace p521 := eq_true p521
                replace q521 := eq_true q521
                go_wp2_with (first | ((with_reducible refine gate_dst (N := 5) rfl ?_); refine box_event ?hg (N := 5) ?hd (cs := #[.int .i64 0, .int .i64 0, .int .i64 0, .int .i64 0, .int .i64 0, .bool false]) (t := 52) ?hr ?_; (case hd => rfl); (case hg => rfl); (case hr => first | (go_simp; done) | (go_simp; rfl)); intro gb522 hg w9 hbox hb; have n0_ := Aside0.mk (below_step (by repeat (first | (with_reducible first | exact HB.out | apply below_alloc | apply pw_below_drewN | apply below_drew1) | exact HB.out)) hb); have n1_ := Aside0.mk (hbox); have n2_ := Aside0.mk ((by rw [hg]; exact (below_size (by repeat (first | (with_reducible first | exact HB.out | apply below_alloc | apply pw_below_drewN | apply below_drew1) | exact HB.out))) : w.heap.size ≤ gb522)); have n3_ := Aside0.mk ((by rw [hg]; exact (below_size (by repeat (first | (with_reducible first | exact HB.out | apply below_alloc | apply pw_below_drewN | apply below_drew1) | exact HB.out))) : w.heap.size ≤ gb522)); clear HB; have HB := n0_; have BK522 := n1_; have GW522 := n2_; have GE522 := n3_; clear n0_ n1_ n2_ n3_; clear hb hbox hg; have hcz10_0 : w9.cell? ⟨gb522, 0, none⟩ = some (.int .i64 0) := (blk_cell BK522.out 0).trans rfl; have hcz10_1 : w9.cell? ⟨gb522, 1, none⟩ = some (.int .i64 0) := (blk_cell BK522.out 1).trans rfl; have hcz10_2 : w9.cell? ⟨gb522, 2, none⟩ = some (.int .i64 0) := (blk_cell BK522.out 2).trans rfl; have hcz10_3 : w9.cell? ⟨gb522, 3, none⟩ = some (.int .i64 0) := (blk_cell BK522.out 3).trans rfl; have hcz10_4 : w9.cell? ⟨gb522, 4, none⟩ = some (.int .i64 0) := (blk_cell BK522.out 4).trans rfl; have hcz10_5 : w9.cell? ⟨gb522, 5, none⟩ = some (.bool false) := (blk_cell BK522.out 5).trans rfl; have hfz10_0 := blk_frozen BK522.out 0; have hfz10_1 := blk_frozen BK522.out 1; have hfz10_2 := blk_frozen BK522.out 2; have hfz10_3 := blk_frozen BK522.out 3; have hfz10_4 := blk_frozen BK522.out 4; have hfz10_5 := blk_frozen BK522.out 5; have hcy10_0 : ∀ z0 z1 z2 z3 z4 z5, ((((((w9.setCell ⟨gb522, 0, none⟩ z0).setCell ⟨gb522, 1, none⟩ z1).setCell ⟨gb522, 2, none⟩ z2).setCell ⟨gb522, 3, none⟩ z3).setCell ⟨gb522, 4, none⟩ z4).setCell ⟨gb522, 5, none⟩ z5).cell? ⟨gb522, 0, none⟩ = some z0 := (by intro z0 z1 z2 z3 z4 z5; go_cell); have hcy10_1 : ∀ z0 z1 z2 z3 z4 z5, ((((((w9.setCell ⟨gb522, 0, none⟩ z0).setCell ⟨gb522, 1, none⟩ z1).setCell ⟨gb522, 2, none⟩ z2).setCell ⟨gb522, 3, none⟩ z3).setCell ⟨gb522, 4, none⟩ z4).setCell ⟨gb522, 5, none⟩ z5).cell? ⟨gb522, 1, none⟩ = some z1 := (by intro z0 z1 z2 z3 z4 z5; go_cell); have hcy10_2 : ∀ z0 z1 z2 z3 z4 z5, ((((((w9.setCell ⟨gb522, 0, none⟩ z0).setCell ⟨gb522, 1, none⟩ z1).setCell ⟨gb522, 2, none⟩ z2).setCell ⟨gb522, 3, none⟩ z3).setCell ⟨gb522, 4, none⟩ z4).setCell ⟨gb522, 5, none⟩ z5).cell? ⟨gb522, 2, none⟩ = some z2 := (by intro z0 z1 z2 z3 z4 z5; go_cell); have hcy10_3 : ∀ z0 z1 z2 z3 z4 z5, ((((((w9.setCell ⟨gb522, 0, none⟩ z0).setCell ⟨gb522, 1, none⟩ z1).setCell ⟨gb522, 2, none⟩ z2).setCell ⟨gb522, 3, none⟩ z3).setCell ⟨gb522, 4, none⟩ z4).setCell ⟨gb522, 5, none⟩ z5).cell? ⟨gb522, 3, none⟩ = some z3 := (by intro z0 z1 z2 z3 z4 z5; go_cell); have hcy10_4 : ∀ z0 z1 z2 z3 z4 z5, ((((((w9.setCell ⟨gb522, 0, none⟩ z0).setCell ⟨gb522, 1, none⟩ z1).setCell ⟨gb522, 2, none⟩ z2).setCell ⟨gb522, 3, none⟩ z3).setCell ⟨gb522, 4, none⟩ z4).setCell ⟨gb522, 5, none⟩ z5).cell? ⟨gb522, 4, none⟩ = some z4 := (by intro z0 z1 z2 z3 z4 z5; go_cell); have hcy10_5 : ∀ z0 z1 z2 z3 z4 z5, ((((((w9.setCell ⟨gb522, 0, none⟩ z0).setCell ⟨gb522, 1, none⟩ z1).setCell ⟨gb522, 2, none⟩ z2).setCell ⟨gb522, 3, none⟩ z3).setCell ⟨gb522, 4, none⟩ z4).setCell ⟨gb522, 5, none⟩ z5).cell? ⟨gb522, 5, none⟩ = some z5 := (by intro z0 z1 z2 z3 z4 z5; go_cell)))
                go_roundg k1
                case measure => have := HK1.out; omega
                case rel => exact ⟨(wrap64 (x3_1 + 1)), (wrap64 (x8_1 + 1)), (by first | rfl | (simp; done) | (simp [*]; done)), (by first | rfl | (simp; done) | (simp [*]; done)), H', ⟨by have := HK1.out; omega⟩, ⟨by repeat (first | (with_reducible first | exact HB.out | apply below_alloc | apply pw_below_drewN | apply below_drew1 | refine below_set ?_ GE522.out) | exact HB.out)⟩⟩
              · rw [if_neg c8] at H
                have c8b0 : (((rd_T52 l0 x8_1).f0) == 4) = false := beq_eq_false_iff_ne.mpr c8
                have c8b1 : (((rd_T52 l0 x8_1).f0) != 4) = true := bne_iff_ne.mpr c8
                have H' := Aside0.mk H
                clear H
                have p521 : 0 ≤ (x8_1 : Int) := of_decide_eq_true (by first | (with_reducible assumption) | assumption)
                have q521 : x8_1 < (l0.length : Int) := of_decide_eq_true (by first | (with_reducible assumption) | assumption)
                obtain ⟨ad521, e521, hx521_0, hx521_1, hx521_2, hx521_3, hx521_4, hx521_5⟩ := at_T52 HR0.out x8_1 p521 q521
                cases e521
                replace hx521_0 := (HB.out.cell (World.block_lt_of_cell? w _ hx521_0)).trans hx521_0
                replace hx521_1 := (HB.out.cell (World.block_lt_of_cell? w _ hx521_1)).trans hx521_1
                replace hx521_2 := (HB.out.cell (World.block_lt_of_cell? w _ hx521_2)).trans hx521_2
                replace hx521_3 := (HB.out.cell (World.block_lt_of_cell? w _ hx521_3)).trans hx521_3
                replace hx521_4 := (HB.out.cell (World.block_lt_of_cell? w _ hx521_4)).trans hx521_4
                replace hx521_5 := (HB.out.cell (World.block_lt_of_cell? w _ hx521_5)).trans hx521_5
                replace p521 := eq_true p521
                replace q521 := eq_true q521
                go_wp2_with (first | ((with_reducible refine gate_dst (N := 5) rfl ?_); refine box_event ?hg (N := 5) ?hd (cs := #[.int .i64 0, .int .i64 0, .int .i64 0, .int .i64 0, .int .i64 0, .bool false]) (t := 52) ?hr ?_; (case hd => rfl); (case hg => rfl); (case hr => first | (go_simp; done) | (go_simp; rfl)); intro gb522 hg w11 hbox hb; have n0_ := Aside0.mk (below_step (by repeat (first | (with_reducible first | exact HB.out | apply below_alloc | apply pw_below_drewN | apply below_drew1) | exact HB.out)) hb); have n1_ := Aside0.mk (hbox); have n2_ := Aside0.mk ((by rw [hg]; exact (below_size (by repeat (first | (with_reducible first | exact HB.out | apply below_alloc | apply pw_below_drewN | apply below_drew1) | exact HB.out))) : w.heap.size ≤ gb522)); have n3_ := Aside0.mk ((by rw [hg]; exact (below_size (by repeat (first | (with_reducible first | exact HB.out | apply below_alloc | apply pw_below_drewN | apply below_drew1) | exact HB.out))) : w.heap.size ≤ gb522)); clear HB; have HB := n0_; have BK522 := n1_; have GW522 := n2_; have GE522 := n3_; clear n0_ n1_ n2_ n3_; clear hb hbox hg; have hcz12_0 : w11.cell? ⟨gb522, 0, none⟩ = some (.int .i64 0) := (blk_cell BK522.out 0).trans rfl; have hcz12_1 : w11.cell? ⟨gb522, 1, none⟩ = some (.int .i64 0) := (blk_cell BK522.out 1).trans rfl; have hcz12_2 : w11.cell? ⟨gb522, 2, none⟩ = some (.int .i64 0) := (blk_cell BK522.out 2).trans rfl; have hcz12_3 : w11.cell? ⟨gb522, 3, none⟩ = some (.int .i64 0) := (blk_cell BK522.out 3).trans rfl; have hcz12_4 : w11.cell? ⟨gb522, 4, none⟩ = some (.int .i64 0) := (blk_cell BK522.out 4).trans rfl; have hcz12_5 : w11.cell? ⟨gb522, 5, none⟩ = some (.bool false) := (blk_cell BK522.out 5).trans rfl; have hfz12_0 := blk_frozen BK522.out 0; have hfz12_1 := blk_frozen BK522.out 1; have hfz12_2 := blk_frozen BK522.out 2; have hfz12_3 := blk_frozen BK522.out 3; have hfz12_4 := blk_frozen BK522.out 4; have hfz12_5 := blk_frozen BK522.out 5; have hcy12_0 : ∀ z0 z1 z2 z3 z4 z5, ((((((w11.setCell ⟨gb522, 0, none⟩ z0).setCell ⟨gb522, 1, none⟩ z1).setCell ⟨gb522, 2, none⟩ z2).setCell ⟨gb522, 3, none⟩ z3).setCell ⟨gb522, 4, none⟩ z4).setCell ⟨gb522, 5, none⟩ z5).cell? ⟨gb522, 0, none⟩ = some z0 := (by intro z0 z1 z2 z3 z4 z5; go_cell); have hcy12_1 : ∀ z0 z1 z2 z3 z4 z5, ((((((w11.setCell ⟨gb522, 0, none⟩ z0).setCell ⟨gb522, 1, none⟩ z1).setCell ⟨gb522, 2, none⟩ z2).setCell ⟨gb522, 3, none⟩ z3).setCell ⟨gb522, 4, none⟩ z4).setCell ⟨gb522, 5, none⟩ z5).cell? ⟨gb522, 1, none⟩ = some z1 := (by intro z0 z1 z2 z3 z4 z5; go_cell); have hcy12_2 : ∀ z0 z1 z2 z3 z4 z5, ((((((w11.setCell ⟨gb522, 0, none⟩ z0).setCell ⟨gb522, 1, none⟩ z1).setCell ⟨gb522, 2, none⟩ z2).setCell ⟨gb522, 3, none⟩ z3).setCell ⟨gb522, 4, none⟩ z4).setCell ⟨gb522, 5, none⟩ z5).cell? ⟨gb522, 2, none⟩ = some z2 := (by intro z0 z1 z2 z3 z4 z5; go_cell); have hcy12_3 : ∀ z0 z1 z2 z3 z4 z5, ((((((w11.setCell ⟨gb522, 0, none⟩ z0).setCell ⟨gb522, 1, none⟩ z1).setCell ⟨gb522, 2, none⟩ z2).setCell ⟨gb522, 3, none⟩ z3).setCell ⟨gb522, 4, none⟩ z4).setCell ⟨gb522, 5, none⟩ z5).cell? ⟨gb522, 3, none⟩ = some z3 := (by intro z0 z1 z2 z3 z4 z5; go_cell); have hcy12_4 : ∀ z0 z1 z2 z3 z4 z5, ((((((w11.setCell ⟨gb522, 0, none⟩ z0).setCell ⟨gb522, 1, none⟩ z1).setCell ⟨gb522, 2, none⟩ z2).setCell ⟨gb522, 3, none⟩ z3).setCell ⟨gb522, 4, none⟩ z4).setCell ⟨gb522, 5, none⟩ z5).cell? ⟨gb522, 4, none⟩ = some z4 := (by intro z0 z1 z2 z3 z4 z5; go_cell); have hcy12_5 : ∀ z0 z1 z2 z3 z4 z5, ((((((w11.setCell ⟨gb522, 0, none⟩ z0).setCell ⟨gb522, 1, none⟩ z1).setCell ⟨gb522, 2, none⟩ z2).setCell ⟨gb522, 3, none⟩ z3).setCell ⟨gb522, 4, none⟩ z4).setCell ⟨gb522, 5, none⟩ z5).cell? ⟨gb522, 5, none⟩ = some z5 := (by intro z0 z1 z2 z3 z4 z5; go_cell)))
                go_roundg k1
                case measure => have := HK1.out; omega
                case rel => exact ⟨(x3_1), (wrap64 (x8_1 + 1)), (by first | rfl | (simp; done) | (simp [*]; done)), (by first | rfl | (simp; done) | (simp [*]; done)), H', ⟨by have := HK1.out; omega⟩, ⟨by repeat (first | (with_reducible first | exact HB.out | apply below_alloc | apply pw_below_drewN | apply below_drew1 | refine below_set ?_ GE522.out) | exact HB.out)⟩⟩
          · rw [if_neg c4] at H
            exact absurd H (by simp)
        · rw [if_neg c3] at H
          exact absurd H (by simp)
      · rw [if_neg c2] at H
        have c2b0 : decide (x8_1 < (l0.length : Int)) = false := decide_eq_false c2
        clear c2
        obtain rfl := Option.some.inj H
        go_wp2
        go_ret
        exact ⟨by first | rfl | (simp [errW_none, errW_some] <;> rfl) | (simp [*, errW_none, errW_some] <;> rfl), by repeat (first | (with_reducible first | exact HB.out | apply below_alloc | apply pw_below_drewN | apply below_drew1) | exact HB.out)⟩
end Go.Proofs.Ytmmichdlgjcmoaa.PAll
