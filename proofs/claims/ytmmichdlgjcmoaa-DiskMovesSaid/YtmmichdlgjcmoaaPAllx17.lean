import Derived.OpenShut
import Derived.Test.YtmmichdlgjcmoaaPAllx0
import Derived.Test.YtmmichdlgjcmoaaPAllx4
import Derived.Test.YtmmichdlgjcmoaaPAllx16
import Derived.Test.YtmmichdlgjcmoaaExtE
namespace Go.Proofs.Ytmmichdlgjcmoaa.PAll
open Go.RowKit Go.Proofs.YtmmichdlgjcmoaaW.PrintWords Go.Proofs.YtmmichdlgjcmoaaW.PrintLast Go.Proofs.YtmmichdlgjcmoaaW.PrintMore
attribute [local go_sem] max2_int min2_int max_two min_two max_three min_three max_four min_four   -- for this text's walks alone
set_option linter.unusedVariables false
set_option linter.unusedSimpArgs false
mutual
def cayleyref04_plain.j0 : Nat → ByteArray → Bool → Int → List ByteArray → Int → Int → Int → Int → Int → Bool → Option (ByteArray × Bool)
  | 0, _, _, _, _, _, _, _, _, _, _ => none
  | k + 1, x1, x21, x463000, x463001, x464000, x464001, x464002, x464003, x464004, x464005 => if x21 = true then ((cayleyref04_move.f x463000 x463001 x1 x464000 x464001 x464002 x464003 x464004 x464005).bind fun bt464 => (some (bt464.1, bt464.2.2))) else ((cayleyref04_turned.f k x463000 x463001 x464000 x464001 x464002 x464003 x464004 x464005).bind fun bt469 => (if bt469.2.2 = true then (if x464001 < 0 then (cayleyref04_plain.j1 k x1 bt469.1 true x464000 x464001 x464002 x464003 x464004 x464005) else (cayleyref04_plain.j1 k x1 bt469.1 (decide (x464001 > (x1.size : Int))) x464000 x464001 x464002 x464003 x464004 x464005)) else (cayleyref04_plain.j1 k x1 bt469.1 true x464000 x464001 x464002 x464003 x464004 x464005)))
def cayleyref04_plain.j1 : Nat → ByteArray → ByteArray → Bool → Int → Int → Int → Int → Int → Bool → Option (ByteArray × Bool)
  | 0, _, _, _, _, _, _, _, _, _ => none
  | k + 1, x1, x11, x52, x464000, x464001, x464002, x464003, x464004, x464005 => if x52 = true then (some ((⟨#[]⟩ : ByteArray), false)) else (if x464000 = 3 then (if 0 ≤ x464001 then (if x464001 ≤ (x1.size : Int) then (if (x1.extract 0 (x464001 : Int).toNat).size + x11.size ≤ 9223372036854775807 then (if ((x1.extract 0 (x464001 : Int).toNat) ++ x11).size + (x1.extract (x464001 : Int).toNat x1.size).size ≤ 9223372036854775807 then (some (((x1.extract 0 (x464001 : Int).toNat) ++ x11) ++ (x1.extract (x464001 : Int).toNat x1.size), true)) else (none)) else (none)) else (none)) else (none)) else (if (wrap64 ((x1.size : Int) - x464001)) < (x11.size : Int) then (some ((⟨#[]⟩ : ByteArray), false)) else (if 0 ≤ x464001 then (if x464001 ≤ (wrap64 (x464001 + (x11.size : Int))) then (if (wrap64 (x464001 + (x11.size : Int))) ≤ (x1.size : Int) then (if (x1.extract (x464001 : Int).toNat ((wrap64 (x464001 + (x11.size : Int))) : Int).toNat).toList = x11.toList then (if x464001 ≤ (x1.size : Int) then (if 0 ≤ (wrap64 (x464001 + (x11.size : Int))) then (if (x1.extract 0 (x464001 : Int).toNat).size + (x1.extract ((wrap64 (x464001 + (x11.size : Int))) : Int).toNat x1.size).size ≤ 9223372036854775807 then (some ((x1.extract 0 (x464001 : Int).toNat) ++ (x1.extract ((wrap64 (x464001 + (x11.size : Int))) : Int).toNat x1.size), true)) else (none)) else (none)) else (none)) else (some ((⟨#[]⟩ : ByteArray), false))) else (none)) else (none)) else (none))))
end
def cayleyref04_plain.f (k : Nat) (a0_0 : Int) (l0_1 : List ByteArray) (a1 : ByteArray) (a2_0 : Int) (a2_1 : Int) (a2_2 : Int) (a2_3 : Int) (a2_4 : Int) (a2_5 : Bool) : Option (ByteArray × Bool) := if a2_0 = 3 then (cayleyref04_plain.j0 k a1 false a0_0 l0_1 a2_0 a2_1 a2_2 a2_3 a2_4 a2_5) else (cayleyref04_plain.j0 k a1 (a2_0 != 4) a0_0 l0_1 a2_0 a2_1 a2_2 a2_3 a2_4 a2_5)
set_option maxHeartbeats 8000000 in
set_option maxRecDepth 100000 in
theorem cayleyref04_plain.calls (k : Nat) (a0_0 : Int) (A0_1 : Option Addr) (c0_1 : Nat) (l0_1 : List ByteArray) (a1 : ByteArray) (a2_0 : Int) (a2_1 : Int) (a2_2 : Int) (a2_3 : Int) (a2_4 : Int) (a2_5 : Bool) (r1 : ByteArray) (r2 : Bool) (w : World) (hr0_1 : Kd.C Kd.string w A0_1 l0_1.length l0_1) (hc0_1 : l0_1.length ≤ c0_1) (h : cayleyref04_plain.f k a0_0 l0_1 a1 a2_0 a2_1 a2_2 a2_3 a2_4 a2_5 = some (r1, r2)) :
    Calls Try.prog 53 #[.agg #[.int .i64 a0_0, .slice A0_1 l0_1.length c0_1], .string a1, .agg #[.int .i64 a2_0, .int .i64 a2_1, .int .i64 a2_2, .int .i64 a2_3, .int .i64 a2_4, .bool a2_5]] w fun e w' => e = .returned (.tuple #[.string r1, .bool r2]) ∧ Below w.heap.size w w' := by
  have hu24 := Try.underlying24
  have hu52 := Try.underlying52
  have HR0_1 := Aside0.mk hr0_1
  have HC0_1 := Aside0.mk hc0_1
  clear hr0_1 hc0_1
  have HB := Aside0.mk (Below.refl w.heap.size w)
  have H : (if a2_0 = 3 then (cayleyref04_plain.j0 k a1 false a0_0 l0_1 a2_0 a2_1 a2_2 a2_3 a2_4 a2_5) else (cayleyref04_plain.j0 k a1 (a2_0 != 4) a0_0 l0_1 a2_0 a2_1 a2_2 a2_3 a2_4 a2_5)) = some (r1, r2) := h
  clear h
  have HC4 := Aside0.mk H
  clear H
  go_enter Try.func53, Try.ntmps53
  go_upto_region 1 with (first | ((with_reducible refine gate_dst (N := 3) rfl ?_); (try (refine gate_guard (by rfl) ?_; dsimp only)); refine box_event ?hg (N := 3) ?hd (cs := #[.int .i64 a0_0, .slice A0_1 l0_1.length c0_1]) (t := 24) ?hr ?_; (case hd => rfl); (case hg => rfl); (case hr => first | (go_simp; done) | (go_simp; rfl)); intro gb462 hg w5 hbox hb; have n0_ := Aside0.mk (below_step (by repeat (first | (with_reducible first | exact HB.out | apply below_alloc | apply pw_below_drewN | apply below_drew1) | exact HB.out)) hb); have n1_ := Aside0.mk (hbox); have n2_ := Aside0.mk ((by rw [hg]; exact (below_size (by repeat (first | (with_reducible first | exact HB.out | apply below_alloc | apply pw_below_drewN | apply below_drew1) | exact HB.out))) : w.heap.size ≤ gb462)); have n3_ := Aside0.mk ((by rw [hg]; exact (below_size (by repeat (first | (with_reducible first | exact HB.out | apply below_alloc | apply pw_below_drewN | apply below_drew1) | exact HB.out))) : w.heap.size ≤ gb462)); clear HB; have HB := n0_; have BK462 := n1_; have GW462 := n2_; have GE462 := n3_; clear n0_ n1_ n2_ n3_; clear hb hbox hg) | ((with_reducible refine gate_dst (N := 5) rfl ?_); (try (refine gate_guard (by rfl) ?_; dsimp only)); refine box_event ?hg (N := 5) ?hd (cs := #[.int .i64 a2_0, .int .i64 a2_1, .int .i64 a2_2, .int .i64 a2_3, .int .i64 a2_4, .bool a2_5]) (t := 52) ?hr ?_; (case hd => rfl); (case hg => rfl); (case hr => first | (go_simp; done) | (go_simp; rfl)); intro gb463 hg w6 hbox hb; have n0_ := Aside0.mk (blk_below (g := gb462) (o := .cells #[.int .i64 a0_0, .slice A0_1 l0_1.length c0_1] 24 (0, 0)) (by (with_reducible repeat (first | refine blk_drewN ?_ _ | refine blk_drew ?_ | refine blk_alloc ?_ _)); exact BK462.out) hb); have n1_ := Aside0.mk (below_step (by repeat (first | (with_reducible first | exact HB.out | apply below_alloc | apply pw_below_drewN | apply below_drew1 | refine below_set ?_ GE462.out) | exact HB.out)) hb); have n2_ := Aside0.mk (hbox); have n3_ := Aside0.mk ((by rw [hg]; exact (below_size (by repeat (first | (with_reducible first | exact HB.out | apply below_alloc | apply pw_below_drewN | apply below_drew1 | refine below_set ?_ GE462.out) | exact HB.out))) : w.heap.size ≤ gb463)); have n4_ := Aside0.mk ((by rw [hg]; exact (below_size (by repeat (first | (with_reducible first | exact HB.out | apply below_alloc | apply pw_below_drewN | apply below_drew1 | refine below_set ?_ GE462.out) | exact HB.out))) : w.heap.size ≤ gb463)); have n5_ := Aside0.mk ((by rw [hg]; exact Nat.ne_of_lt (blk_lt (g := gb462) (o := .cells #[.int .i64 a0_0, .slice A0_1 l0_1.length c0_1] 24 (0, 0)) (by (with_reducible repeat (first | refine blk_drewN ?_ _ | refine blk_drew ?_ | refine blk_alloc ?_ _)); exact BK462.out)) : gb462 ≠ gb463)); have n6_ := Aside0.mk ((by rw [hg]; exact Nat.ne_of_gt (blk_lt (g := gb462) (o := .cells #[.int .i64 a0_0, .slice A0_1 l0_1.length c0_1] 24 (0, 0)) (by (with_reducible repeat (first | refine blk_drewN ?_ _ | refine blk_drew ?_ | refine blk_alloc ?_ _)); exact BK462.out)) : gb463 ≠ gb462)); clear BK462; clear HB; have BK462 := n0_; have HB := n1_; have BK463 := n2_; have GW463 := n3_; have GE463 := n4_; have NB462_463 := n5_; have NB463_462 := n6_; clear n0_ n1_ n2_ n3_ n4_ n5_ n6_; clear hb hbox hg))
  repeat (go_quiet (first | ((with_reducible refine gate_dst (N := 3) rfl ?_); (try (refine gate_guard (by rfl) ?_; dsimp only)); refine box_event ?hg (N := 3) ?hd (cs := #[.int .i64 a0_0, .slice A0_1 l0_1.length c0_1]) (t := 24) ?hr ?_; (case hd => rfl); (case hg => rfl); (case hr => first | (go_simp; done) | (go_simp; rfl)); intro gb462 hg w5 hbox hb; have n0_ := Aside0.mk (below_step (by repeat (first | (with_reducible first | exact HB.out | apply below_alloc | apply pw_below_drewN | apply below_drew1) | exact HB.out)) hb); have n1_ := Aside0.mk (hbox); have n2_ := Aside0.mk ((by rw [hg]; exact (below_size (by repeat (first | (with_reducible first | exact HB.out | apply below_alloc | apply pw_below_drewN | apply below_drew1) | exact HB.out))) : w.heap.size ≤ gb462)); have n3_ := Aside0.mk ((by rw [hg]; exact (below_size (by repeat (first | (with_reducible first | exact HB.out | apply below_alloc | apply pw_below_drewN | apply below_drew1) | exact HB.out))) : w.heap.size ≤ gb462)); clear HB; have HB := n0_; have BK462 := n1_; have GW462 := n2_; have GE462 := n3_; clear n0_ n1_ n2_ n3_; clear hb hbox hg) | ((with_reducible refine gate_dst (N := 5) rfl ?_); (try (refine gate_guard (by rfl) ?_; dsimp only)); refine box_event ?hg (N := 5) ?hd (cs := #[.int .i64 a2_0, .int .i64 a2_1, .int .i64 a2_2, .int .i64 a2_3, .int .i64 a2_4, .bool a2_5]) (t := 52) ?hr ?_; (case hd => rfl); (case hg => rfl); (case hr => first | (go_simp; done) | (go_simp; rfl)); intro gb463 hg w6 hbox hb; have n0_ := Aside0.mk (blk_below (g := gb462) (o := .cells #[.int .i64 a0_0, .slice A0_1 l0_1.length c0_1] 24 (0, 0)) (by (with_reducible repeat (first | refine blk_drewN ?_ _ | refine blk_drew ?_ | refine blk_alloc ?_ _)); exact BK462.out) hb); have n1_ := Aside0.mk (below_step (by repeat (first | (with_reducible first | exact HB.out | apply below_alloc | apply pw_below_drewN | apply below_drew1 | refine below_set ?_ GE462.out) | exact HB.out)) hb); have n2_ := Aside0.mk (hbox); have n3_ := Aside0.mk ((by rw [hg]; exact (below_size (by repeat (first | (with_reducible first | exact HB.out | apply below_alloc | apply pw_below_drewN | apply below_drew1 | refine below_set ?_ GE462.out) | exact HB.out))) : w.heap.size ≤ gb463)); have n4_ := Aside0.mk ((by rw [hg]; exact (below_size (by repeat (first | (with_reducible first | exact HB.out | apply below_alloc | apply pw_below_drewN | apply below_drew1 | refine below_set ?_ GE462.out) | exact HB.out))) : w.heap.size ≤ gb463)); have n5_ := Aside0.mk ((by rw [hg]; exact Nat.ne_of_lt (blk_lt (g := gb462) (o := .cells #[.int .i64 a0_0, .slice A0_1 l0_1.length c0_1] 24 (0, 0)) (by (with_reducible repeat (first | refine blk_drewN ?_ _ | refine blk_drew ?_ | refine blk_alloc ?_ _)); exact BK462.out)) : gb462 ≠ gb463)); have n6_ := Aside0.mk ((by rw [hg]; exact Nat.ne_of_gt (blk_lt (g := gb462) (o := .cells #[.int .i64 a0_0, .slice A0_1 l0_1.length c0_1] 24 (0, 0)) (by (with_reducible repeat (first | refine blk_drewN ?_ _ | refine blk_drew ?_ | refine blk_alloc ?_ _)); exact BK462.out)) : gb463 ≠ gb462)); clear BK462; clear HB; have BK462 := n0_; have HB := n1_; have BK463 := n2_; have GW463 := n3_; have GE463 := n4_; have NB462_463 := n5_; have NB463_462 := n6_; clear n0_ n1_ n2_ n3_ n4_ n5_ n6_; clear hb hbox hg)); go_upto_region 1 with (first | ((with_reducible refine gate_dst (N := 3) rfl ?_); (try (refine gate_guard (by rfl) ?_; dsimp only)); refine box_event ?hg (N := 3) ?hd (cs := #[.int .i64 a0_0, .slice A0_1 l0_1.length c0_1]) (t := 24) ?hr ?_; (case hd => rfl); (case hg => rfl); (case hr => first | (go_simp; done) | (go_simp; rfl)); intro gb462 hg w5 hbox hb; have n0_ := Aside0.mk (below_step (by repeat (first | (with_reducible first | exact HB.out | apply below_alloc | apply pw_below_drewN | apply below_drew1) | exact HB.out)) hb); have n1_ := Aside0.mk (hbox); have n2_ := Aside0.mk ((by rw [hg]; exact (below_size (by repeat (first | (with_reducible first | exact HB.out | apply below_alloc | apply pw_below_drewN | apply below_drew1) | exact HB.out))) : w.heap.size ≤ gb462)); have n3_ := Aside0.mk ((by rw [hg]; exact (below_size (by repeat (first | (with_reducible first | exact HB.out | apply below_alloc | apply pw_below_drewN | apply below_drew1) | exact HB.out))) : w.heap.size ≤ gb462)); clear HB; have HB := n0_; have BK462 := n1_; have GW462 := n2_; have GE462 := n3_; clear n0_ n1_ n2_ n3_; clear hb hbox hg) | ((with_reducible refine gate_dst (N := 5) rfl ?_); (try (refine gate_guard (by rfl) ?_; dsimp only)); refine box_event ?hg (N := 5) ?hd (cs := #[.int .i64 a2_0, .int .i64 a2_1, .int .i64 a2_2, .int .i64 a2_3, .int .i64 a2_4, .bool a2_5]) (t := 52) ?hr ?_; (case hd => rfl); (case hg => rfl); (case hr => first | (go_simp; done) | (go_simp; rfl)); intro gb463 hg w6 hbox hb; have n0_ := Aside0.mk (blk_below (g := gb462) (o := .cells #[.int .i64 a0_0, .slice A0_1 l0_1.length c0_1] 24 (0, 0)) (by (with_reducible repeat (first | refine blk_drewN ?_ _ | refine blk_drew ?_ | refine blk_alloc ?_ _)); exact BK462.out) hb); have n1_ := Aside0.mk (below_step (by repeat (first | (with_reducible first | exact HB.out | apply below_alloc | apply pw_below_drewN | apply below_drew1 | refine below_set ?_ GE462.out) | exact HB.out)) hb); have n2_ := Aside0.mk (hbox); have n3_ := Aside0.mk ((by rw [hg]; exact (below_size (by repeat (first | (with_reducible first | exact HB.out | apply below_alloc | apply pw_below_drewN | apply below_drew1 | refine below_set ?_ GE462.out) | exact HB.out))) : w.heap.size ≤ gb463)); have n4_ := Aside0.mk ((by rw [hg]; exact (below_size (by repeat (first | (with_reducible first | exact HB.out | apply below_alloc | apply pw_below_drewN | apply below_drew1 | refine below_set ?_ GE462.out) | exact HB.out))) : w.heap.size ≤ gb463)); have n5_ := Aside0.mk ((by rw [hg]; exact Nat.ne_of_lt (blk_lt (g := gb462) (o := .cells #[.int .i64 a0_0, .slice A0_1 l0_1.length c0_1] 24 (0, 0)) (by (with_reducible repeat (first | refine blk_drewN ?_ _ | refine blk_drew ?_ | refine blk_alloc ?_ _)); exact BK462.out)) : gb462 ≠ gb463)); have n6_ := Aside0.mk ((by rw [hg]; exact Nat.ne_of_gt (blk_lt (g := gb462) (o := .cells #[.int .i64 a0_0, .slice A0_1 l0_1.length c0_1] 24 (0, 0)) (by (with_reducible repeat (first | refine blk_drewN ?_ _ | refine blk_drew ?_ | refine blk_alloc ?_ _)); exact BK462.out)) : gb463 ≠ gb462)); clear BK462; clear HB; have BK462 := n0_; have HB := n1_; have BK463 := n2_; have GW463 := n3_; have GE463 := n4_; have NB462_463 := n5_; have NB463_462 := n6_; clear n0_ n1_ n2_ n3_ n4_ n5_ n6_; clear hb hbox hg)))
  (try simp only [Act.put, List.setIfInBounds_toArray, List.set_cons_zero, List.set_cons_succ])
  go_cut [21] (fun v21 wc => ∃ (kq : Nat) (x21_3 : Bool), v21 = .bool x21_3 ∧ Aside0 (cayleyref04_plain.j0 kq a1 x21_3 a0_0 l0_1 a2_0 a2_1 a2_2 a2_3 a2_4 a2_5 = some (r1, r2)) ∧ Aside0 (kq ≤ k) ∧ Aside0 (wc.heap[gb462]? = some (.cells #[.int .i64 a0_0, (.slice A0_1 l0_1.length c0_1)] 24 (0, 0))) ∧ Aside0 (wc.heap[gb463]? = some (.cells #[.int .i64 a2_0, .int .i64 a2_1, .int .i64 a2_2, .int .i64 a2_3, .int .i64 a2_4, .bool a2_5] 52 (0, 0))) ∧ Aside0 (Below w.heap.size w wc))
  case first =>
    have H := HC4.out
    clear HC4
    by_cases c7 : a2_0 = 3
    · rw [if_pos c7] at H
      have c7b0 : (a2_0 == 3) = true := beq_iff_eq.mpr c7
      have c7b1 : (a2_0 != 3) = false := bne_eq_false_iff_eq.mpr c7
      clear c7
      (first | rw [c7b0] | (simp only [i64_w, i32_w]; rw [c7b0]) | skip)
      have H' := Aside0.mk H
      clear H
      have hnb8 := NB463_462.out
      have hnc8 := NB462_463.out
      have hcz9_0 : w6.cell? ⟨gb463, 0, none⟩ = some (.int .i64 a2_0) := (blk_cell BK463.out 0).trans rfl
      have hcz9_1 : w6.cell? ⟨gb463, 1, none⟩ = some (.int .i64 a2_1) := (blk_cell BK463.out 1).trans rfl
      have hcz9_2 : w6.cell? ⟨gb463, 2, none⟩ = some (.int .i64 a2_2) := (blk_cell BK463.out 2).trans rfl
      have hcz9_3 : w6.cell? ⟨gb463, 3, none⟩ = some (.int .i64 a2_3) := (blk_cell BK463.out 3).trans rfl
      have hcz9_4 : w6.cell? ⟨gb463, 4, none⟩ = some (.int .i64 a2_4) := (blk_cell BK463.out 4).trans rfl
      have hcz9_5 : w6.cell? ⟨gb463, 5, none⟩ = some (.bool a2_5) := (blk_cell BK463.out 5).trans rfl
      have hfz9_0 := blk_frozen BK463.out 0
      have hfz9_1 := blk_frozen BK463.out 1
      have hfz9_2 := blk_frozen BK463.out 2
      have hfz9_3 := blk_frozen BK463.out 3
      have hfz9_4 := blk_frozen BK463.out 4
      have hfz9_5 := blk_frozen BK463.out 5
      go_wp2
      repeat (go_quiet (fail); try go_wp2)
      go_meet
      case rel => exact ⟨_, (false), (by first | rfl | (simp; done) | (simp [*]; done)), H', ⟨by first | omega | exact Nat.le_refl _⟩, ⟨by (with_reducible repeat (first | refine blk_drewN ?_ _ | refine blk_drew ?_ | refine blk_alloc ?_ _)); exact BK462.out⟩, ⟨by (with_reducible repeat (first | refine blk_drewN ?_ _ | refine blk_drew ?_ | refine blk_alloc ?_ _)); exact BK463.out⟩, ⟨by repeat (first | (with_reducible first | exact HB.out | apply below_alloc | apply pw_below_drewN | apply below_drew1 | refine below_set ?_ GE462.out | refine below_set ?_ GE463.out) | exact HB.out)⟩⟩
    · rw [if_neg c7] at H
      have c7b0 : (a2_0 == 3) = false := beq_eq_false_iff_ne.mpr c7
      have c7b1 : (a2_0 != 3) = true := bne_iff_ne.mpr c7
      (first | rw [c7b0] | (simp only [i64_w, i32_w]; rw [c7b0]) | skip)
      have H' := Aside0.mk H
      clear H
      have hnb10 := NB463_462.out
      have hnc10 := NB462_463.out
      have hcz11_0 : w6.cell? ⟨gb463, 0, none⟩ = some (.int .i64 a2_0) := (blk_cell BK463.out 0).trans rfl
      have hcz11_1 : w6.cell? ⟨gb463, 1, none⟩ = some (.int .i64 a2_1) := (blk_cell BK463.out 1).trans rfl
      have hcz11_2 : w6.cell? ⟨gb463, 2, none⟩ = some (.int .i64 a2_2) := (blk_cell BK463.out 2).trans rfl
      have hcz11_3 : w6.cell? ⟨gb463, 3, none⟩ = some (.int .i64 a2_3) := (blk_cell BK463.out 3).trans rfl
      have hcz11_4 : w6.cell? ⟨gb463, 4, none⟩ = some (.int .i64 a2_4) := (blk_cell BK463.out 4).trans rfl
      have hcz11_5 : w6.cell? ⟨gb463, 5, none⟩ = some (.bool a2_5) := (blk_cell BK463.out 5).trans rfl
      have hfz11_0 := blk_frozen BK463.out 0
      have hfz11_1 := blk_frozen BK463.out 1
      have hfz11_2 := blk_frozen BK463.out 2
      have hfz11_3 := blk_frozen BK463.out 3
      have hfz11_4 := blk_frozen BK463.out 4
      have hfz11_5 := blk_frozen BK463.out 5
      go_wp2
      repeat (go_quiet (fail); try go_wp2)
      go_meet
      case rel => exact ⟨_, ((a2_0 != 4)), (by first | rfl | (simp; done) | (simp [*]; done)), H', ⟨by first | omega | exact Nat.le_refl _⟩, ⟨by (with_reducible repeat (first | refine blk_drewN ?_ _ | refine blk_drew ?_ | refine blk_alloc ?_ _)); exact BK462.out⟩, ⟨by (with_reducible repeat (first | refine blk_drewN ?_ _ | refine blk_drew ?_ | refine blk_alloc ?_ _)); exact BK463.out⟩, ⟨by repeat (first | (with_reducible first | exact HB.out | apply below_alloc | apply pw_below_drewN | apply below_drew1 | refine below_set ?_ GE462.out | refine below_set ?_ GE463.out) | exact HB.out)⟩⟩
  case rest =>
    clear HC4
    try clear c1
    try clear p2
    try clear c5
    try clear c7
    try clear c7b0
    try clear c7b1
    try clear c8
    try clear c10
    try clear hcz11_0
    try clear hcz11_1
    try clear hcz11_2
    try clear hcz11_3
    try clear hcz11_4
    try clear hcz11_5
    try clear hcz9_0
    try clear hcz9_1
    try clear hcz9_2
    try clear hcz9_3
    try clear hcz9_4
    try clear hcz9_5
    try clear hfz11_0
    try clear hfz11_1
    try clear hfz11_2
    try clear hfz11_3
    try clear hfz11_4
    try clear hfz11_5
    try clear hfz9_0
    try clear hfz9_1
    try clear hfz9_2
    try clear hfz9_3
    try clear hfz9_4
    try clear hfz9_5
    obtain ⟨kq, x21_3, rfl, HA, HJ3, BK462, BK463, HB⟩ := hcut
    cases kq with
    | zero => exact absurd HA.out (by simp [cayleyref04_plain.j0])
    | succ kj3 =>
      have H := HA.out
      clear HA
      simp only [cayleyref04_plain.j0] at H
      by_cases c12 : x21_3 = true
      · subst c12
        have H1 : ((cayleyref04_move.f a0_0 l0_1 a1 a2_0 a2_1 a2_2 a2_3 a2_4 a2_5).bind fun bt464 => (some (bt464.1, bt464.2.2))) = some (r1, r2) := by rw [if_pos rfl] at H; exact H
        clear H
        have H := H1
        clear H1
        replace H := Option.bind_eq_some_iff.mp H
        obtain ⟨⟨t464, t465, t468⟩, A130, H⟩ := H
        replace H : (some (t464, t468)) = some (r1, r2) := H
        have A13 := Aside0.mk A130
        clear A130
        simp only [Option.some.injEq, Prod.mk.injEq] at H
        obtain ⟨rfl, rfl⟩ := H
        have hnb14 := NB462_463.out
        have hnc14 := NB463_462.out
        have hcz15_0 : wc.cell? ⟨gb462, 0, none⟩ = some (.int .i64 a0_0) := (blk_cell BK462.out 0).trans rfl
        have hcz15_1 : wc.cell? ⟨gb462, 1, none⟩ = some (.slice A0_1 l0_1.length c0_1) := (blk_cell BK462.out 1).trans rfl
        have hfz15_0 := blk_frozen BK462.out 0
        have hfz15_1 := blk_frozen BK462.out 1
        have hcz16_0 : wc.cell? ⟨gb463, 0, none⟩ = some (.int .i64 a2_0) := (blk_cell BK463.out 0).trans rfl
        have hcz16_1 : wc.cell? ⟨gb463, 1, none⟩ = some (.int .i64 a2_1) := (blk_cell BK463.out 1).trans rfl
        have hcz16_2 : wc.cell? ⟨gb463, 2, none⟩ = some (.int .i64 a2_2) := (blk_cell BK463.out 2).trans rfl
        have hcz16_3 : wc.cell? ⟨gb463, 3, none⟩ = some (.int .i64 a2_3) := (blk_cell BK463.out 3).trans rfl
        have hcz16_4 : wc.cell? ⟨gb463, 4, none⟩ = some (.int .i64 a2_4) := (blk_cell BK463.out 4).trans rfl
        have hcz16_5 : wc.cell? ⟨gb463, 5, none⟩ = some (.bool a2_5) := (blk_cell BK463.out 5).trans rfl
        have hfz16_0 := blk_frozen BK463.out 0
        have hfz16_1 := blk_frozen BK463.out 1
        have hfz16_2 := blk_frozen BK463.out 2
        have hfz16_3 := blk_frozen BK463.out 3
        have hfz16_4 := blk_frozen BK463.out 4
        have hfz16_5 := blk_frozen BK463.out 5
        go_wp2_with (first | (go_at_call 66; (with_reducible refine (cayleyref04_move.calls a0_0 _ _ l0_1 a1 a2_0 a2_1 a2_2 a2_3 a2_4 a2_5 t464 t465 t468 _ ?side1 ?side2 A13.out).mono ?_); (case side1 => repeat (first | exact (Kd.C_below HR0_1.out HB.out) | (with_reducible refine Kd.C_alloc ?_ _) | (with_reducible refine Kd.C_drewN ?_ _) | (with_reducible refine Kd.C_drew ?_))); (case side2 => exact HC0_1.out); rintro e w17 ⟨v466, rfl, ho0, hb⟩; have n0_ := Aside0.mk (Kd.R_lower ho0 (below_size (by repeat (first | (with_reducible first | exact HB.out | apply below_alloc | apply pw_below_drewN | apply below_drew1 | refine below_set ?_ GE462.out | refine below_set ?_ GE463.out) | exact HB.out)))); have n1_ := Aside0.mk (blk_below (g := gb462) (o := .cells #[.int .i64 a0_0, .slice A0_1 l0_1.length c0_1] 24 (0, 0)) (by (with_reducible repeat (first | refine blk_drewN ?_ _ | refine blk_drew ?_ | refine blk_alloc ?_ _)); exact BK462.out) hb); have n2_ := Aside0.mk (blk_below (g := gb463) (o := .cells #[.int .i64 a2_0, .int .i64 a2_1, .int .i64 a2_2, .int .i64 a2_3, .int .i64 a2_4, .bool a2_5] 52 (0, 0)) (by (with_reducible repeat (first | refine blk_drewN ?_ _ | refine blk_drew ?_ | refine blk_alloc ?_ _)); exact BK463.out) hb); have n3_ := Aside0.mk (below_step (by repeat (first | (with_reducible first | exact HB.out | apply below_alloc | apply pw_below_drewN | apply below_drew1 | refine below_set ?_ GE462.out | refine below_set ?_ GE463.out) | exact HB.out)) hb); clear BK462; clear BK463; clear HB; have HO467 := n0_; have BK462 := n1_; have BK463 := n2_; have HB := n3_; clear n0_ n1_ n2_ n3_; (try clear hb); (try clear hb2); (try clear hk); (try clear hi); (try clear ho0)))
        repeat (go_quiet (first | (go_at_call 66; (with_reducible refine (cayleyref04_move.calls a0_0 _ _ l0_1 a1 a2_0 a2_1 a2_2 a2_3 a2_4 a2_5 t464 t465 t468 _ ?side1 ?side2 A13.out).mono ?_); (case side1 => repeat (first | exact (Kd.C_below HR0_1.out HB.out) | (with_reducible refine Kd.C_alloc ?_ _) | (with_reducible refine Kd.C_drewN ?_ _) | (with_reducible refine Kd.C_drew ?_))); (case side2 => exact HC0_1.out); rintro e w17 ⟨v466, rfl, ho0, hb⟩; have n0_ := Aside0.mk (Kd.R_lower ho0 (below_size (by repeat (first | (with_reducible first | exact HB.out | apply below_alloc | apply pw_below_drewN | apply below_drew1 | refine below_set ?_ GE462.out | refine below_set ?_ GE463.out) | exact HB.out)))); have n1_ := Aside0.mk (blk_below (g := gb462) (o := .cells #[.int .i64 a0_0, .slice A0_1 l0_1.length c0_1] 24 (0, 0)) (by (with_reducible repeat (first | refine blk_drewN ?_ _ | refine blk_drew ?_ | refine blk_alloc ?_ _)); exact BK462.out) hb); have n2_ := Aside0.mk (blk_below (g := gb463) (o := .cells #[.int .i64 a2_0, .int .i64 a2_1, .int .i64 a2_2, .int .i64 a2_3, .int .i64 a2_4, .bool a2_5] 52 (0, 0)) (by (with_reducible repeat (first | refine blk_drewN ?_ _ | refine blk_drew ?_ | refine blk_alloc ?_ _)); exact BK463.out) hb); have n3_ := Aside0.mk (below_step (by repeat (first | (with_reducible first | exact HB.out | apply below_alloc | apply pw_below_drewN | apply below_drew1 | refine below_set ?_ GE462.out | refine below_set ?_ GE463.out) | exact HB.out)) hb); clear BK462; clear BK463; clear HB; have HO467 := n0_; have BK462 := n1_; have BK463 := n2_; have HB := n3_; clear n0_ n1_ n2_ n3_; (try clear hb); (try clear hb2); (try clear hk); (try clear hi); (try clear ho0))); try go_wp2_with (first | (go_at_call 66; (with_reducible refine (cayleyref04_move.calls a0_0 _ _ l0_1 a1 a2_0 a2_1 a2_2 a2_3 a2_4 a2_5 t464 t465 t468 _ ?side1 ?side2 A13.out).mono ?_); (case side1 => repeat (first | exact (Kd.C_below HR0_1.out HB.out) | (with_reducible refine Kd.C_alloc ?_ _) | (with_reducible refine Kd.C_drewN ?_ _) | (with_reducible refine Kd.C_drew ?_))); (case side2 => exact HC0_1.out); rintro e w17 ⟨v466, rfl, ho0, hb⟩; have n0_ := Aside0.mk (Kd.R_lower ho0 (below_size (by repeat (first | (with_reducible first | exact HB.out | apply below_alloc | apply pw_below_drewN | apply below_drew1 | refine below_set ?_ GE462.out | refine below_set ?_ GE463.out) | exact HB.out)))); have n1_ := Aside0.mk (blk_below (g := gb462) (o := .cells #[.int .i64 a0_0, .slice A0_1 l0_1.length c0_1] 24 (0, 0)) (by (with_reducible repeat (first | refine blk_drewN ?_ _ | refine blk_drew ?_ | refine blk_alloc ?_ _)); exact BK462.out) hb); have n2_ := Aside0.mk (blk_below (g := gb463) (o := .cells #[.int .i64 a2_0, .int .i64 a2_1, .int .i64 a2_2, .int .i64 a2_3, .int .i64 a2_4, .bool a2_5] 52 (0, 0)) (by (with_reducible repeat (first | refine blk_drewN ?_ _ | refine blk_drew ?_ | refine blk_alloc ?_ _)); exact BK463.out) hb); have n3_ := Aside0.mk (below_step (by repeat (first | (with_reducible first | exact HB.out | apply below_alloc | apply pw_below_drewN | apply below_drew1 | refine below_set ?_ GE462.out | refine below_set ?_ GE463.out) | exact HB.out)) hb); clear BK462; clear BK463; clear HB; have HO467 := n0_; have BK462 := n1_; have BK463 := n2_; have HB := n3_; clear n0_ n1_ n2_ n3_; (try clear hb); (try clear hb2); (try clear hk); (try clear hi); (try clear ho0))))
        go_ret2
        exact ⟨by first | rfl | (simp [errW_none, errW_some] <;> rfl) | (simp [*, errW_none, errW_some] <;> rfl), by repeat (first | (with_reducible first | exact HB.out | apply below_alloc | apply pw_below_drewN | apply below_drew1 | refine below_set ?_ GE462.out | refine below_set ?_ GE463.out) | exact HB.out)⟩
      · replace c12 := Bool.eq_false_iff.mpr c12
        subst c12
        have H1 : ((cayleyref04_turned.f kj3 a0_0 l0_1 a2_0 a2_1 a2_2 a2_3 a2_4 a2_5).bind fun bt469 => (if bt469.2.2 = true then (if a2_1 < 0 then (cayleyref04_plain.j1 kj3 a1 bt469.1 true a2_0 a2_1 a2_2 a2_3 a2_4 a2_5) else (cayleyref04_plain.j1 kj3 a1 bt469.1 (decide (a2_1 > (a1.size : Int))) a2_0 a2_1 a2_2 a2_3 a2_4 a2_5)) else (cayleyref04_plain.j1 kj3 a1 bt469.1 true a2_0 a2_1 a2_2 a2_3 a2_4 a2_5))) = some (r1, r2) := by rw [if_neg (show ¬ (false = true) by decide)] at H; exact H
        clear H
        have H := H1
        clear H1
        replace H := Option.bind_eq_some_iff.mp H
        obtain ⟨⟨t469, t470, t471⟩, A180, H⟩ := H
        replace H : (if t471 = true then (if a2_1 < 0 then (cayleyref04_plain.j1 kj3 a1 t469 true a2_0 a2_1 a2_2 a2_3 a2_4 a2_5) else (cayleyref04_plain.j1 kj3 a1 t469 (decide (a2_1 > (a1.size : Int))) a2_0 a2_1 a2_2 a2_3 a2_4 a2_5)) else (cayleyref04_plain.j1 kj3 a1 t469 true a2_0 a2_1 a2_2 a2_3 a2_4 a2_5)) = some (r1, r2) := H
        have A18 := Aside0.mk A180
        clear A180
        have HC19 := Aside0.mk H
        clear H
        have hnb20 := NB462_463.out
        have hnc20 := NB463_462.out
        have hcz21_0 : wc.cell? ⟨gb462, 0, none⟩ = some (.int .i64 a0_0) := (blk_cell BK462.out 0).trans rfl
        have hcz21_1 : wc.cell? ⟨gb462, 1, none⟩ = some (.slice A0_1 l0_1.length c0_1) := (blk_cell BK462.out 1).trans rfl
        have hfz21_0 := blk_frozen BK462.out 0
        have hfz21_1 := blk_frozen BK462.out 1
        have hcz22_0 : wc.cell? ⟨gb463, 0, none⟩ = some (.int .i64 a2_0) := (blk_cell BK463.out 0).trans rfl
        have hcz22_1 : wc.cell? ⟨gb463, 1, none⟩ = some (.int .i64 a2_1) := (blk_cell BK463.out 1).trans rfl
        have hcz22_2 : wc.cell? ⟨gb463, 2, none⟩ = some (.int .i64 a2_2) := (blk_cell BK463.out 2).trans rfl
        have hcz22_3 : wc.cell? ⟨gb463, 3, none⟩ = some (.int .i64 a2_3) := (blk_cell BK463.out 3).trans rfl
        have hcz22_4 : wc.cell? ⟨gb463, 4, none⟩ = some (.int .i64 a2_4) := (blk_cell BK463.out 4).trans rfl
        have hcz22_5 : wc.cell? ⟨gb463, 5, none⟩ = some (.bool a2_5) := (blk_cell BK463.out 5).trans rfl
        have hfz22_0 := blk_frozen BK463.out 0
        have hfz22_1 := blk_frozen BK463.out 1
        have hfz22_2 := blk_frozen BK463.out 2
        have hfz22_3 := blk_frozen BK463.out 3
        have hfz22_4 := blk_frozen BK463.out 4
        have hfz22_5 := blk_frozen BK463.out 5
        go_upto_region 5 with (first | (go_at_call 67; (with_reducible refine (cayleyref04_turned.calls kj3 a0_0 _ _ l0_1 a2_0 a2_1 a2_2 a2_3 a2_4 a2_5 t469 t470 t471 _ ?side1 ?side2 A18.out).mono ?_); (case side1 => repeat (first | exact (Kd.C_below HR0_1.out HB.out) | (with_reducible refine Kd.C_alloc ?_ _) | (with_reducible refine Kd.C_drewN ?_ _) | (with_reducible refine Kd.C_drew ?_))); (case side2 => exact HC0_1.out); rintro e w23 ⟨rfl, hb⟩; have n0_ := Aside0.mk (blk_below (g := gb462) (o := .cells #[.int .i64 a0_0, .slice A0_1 l0_1.length c0_1] 24 (0, 0)) (by (with_reducible repeat (first | refine blk_drewN ?_ _ | refine blk_drew ?_ | refine blk_alloc ?_ _)); exact BK462.out) hb); have n1_ := Aside0.mk (blk_below (g := gb463) (o := .cells #[.int .i64 a2_0, .int .i64 a2_1, .int .i64 a2_2, .int .i64 a2_3, .int .i64 a2_4, .bool a2_5] 52 (0, 0)) (by (with_reducible repeat (first | refine blk_drewN ?_ _ | refine blk_drew ?_ | refine blk_alloc ?_ _)); exact BK463.out) hb); have n2_ := Aside0.mk (below_step (by repeat (first | (with_reducible first | exact HB.out | apply below_alloc | apply pw_below_drewN | apply below_drew1 | refine below_set ?_ GE462.out | refine below_set ?_ GE463.out) | exact HB.out)) hb); clear BK462; clear BK463; clear HB; have BK462 := n0_; have BK463 := n1_; have HB := n2_; clear n0_ n1_ n2_; (try clear hb); (try clear hb2); (try clear hk); (try clear hi)))
        repeat (go_quiet (first | (go_at_call 67; (with_reducible refine (cayleyref04_turned.calls kj3 a0_0 _ _ l0_1 a2_0 a2_1 a2_2 a2_3 a2_4 a2_5 t469 t470 t471 _ ?side1 ?side2 A18.out).mono ?_); (case side1 => repeat (first | exact (Kd.C_below HR0_1.out HB.out) | (with_reducible refine Kd.C_alloc ?_ _) | (with_reducible refine Kd.C_drewN ?_ _) | (with_reducible refine Kd.C_drew ?_))); (case side2 => exact HC0_1.out); rintro e w23 ⟨rfl, hb⟩; have n0_ := Aside0.mk (blk_below (g := gb462) (o := .cells #[.int .i64 a0_0, .slice A0_1 l0_1.length c0_1] 24 (0, 0)) (by (with_reducible repeat (first | refine blk_drewN ?_ _ | refine blk_drew ?_ | refine blk_alloc ?_ _)); exact BK462.out) hb); have n1_ := Aside0.mk (blk_below (g := gb463) (o := .cells #[.int .i64 a2_0, .int .i64 a2_1, .int .i64 a2_2, .int .i64 a2_3, .int .i64 a2_4, .bool a2_5] 52 (0, 0)) (by (with_reducible repeat (first | refine blk_drewN ?_ _ | refine blk_drew ?_ | refine blk_alloc ?_ _)); exact BK463.out) hb); have n2_ := Aside0.mk (below_step (by repeat (first | (with_reducible first | exact HB.out | apply below_alloc | apply pw_below_drewN | apply below_drew1 | refine below_set ?_ GE462.out | refine below_set ?_ GE463.out) | exact HB.out)) hb); clear BK462; clear BK463; clear HB; have BK462 := n0_; have BK463 := n1_; have HB := n2_; clear n0_ n1_ n2_; (try clear hb); (try clear hb2); (try clear hk); (try clear hi))); go_upto_region 5 with (first | (go_at_call 67; (with_reducible refine (cayleyref04_turned.calls kj3 a0_0 _ _ l0_1 a2_0 a2_1 a2_2 a2_3 a2_4 a2_5 t469 t470 t471 _ ?side1 ?side2 A18.out).mono ?_); (case side1 => repeat (first | exact (Kd.C_below HR0_1.out HB.out) | (with_reducible refine Kd.C_alloc ?_ _) | (with_reducible refine Kd.C_drewN ?_ _) | (with_reducible refine Kd.C_drew ?_))); (case side2 => exact HC0_1.out); rintro e w23 ⟨rfl, hb⟩; have n0_ := Aside0.mk (blk_below (g := gb462) (o := .cells #[.int .i64 a0_0, .slice A0_1 l0_1.length c0_1] 24 (0, 0)) (by (with_reducible repeat (first | refine blk_drewN ?_ _ | refine blk_drew ?_ | refine blk_alloc ?_ _)); exact BK462.out) hb); have n1_ := Aside0.mk (blk_below (g := gb463) (o := .cells #[.int .i64 a2_0, .int .i64 a2_1, .int .i64 a2_2, .int .i64 a2_3, .int .i64 a2_4, .bool a2_5] 52 (0, 0)) (by (with_reducible repeat (first | refine blk_drewN ?_ _ | refine blk_drew ?_ | refine blk_alloc ?_ _)); exact BK463.out) hb); have n2_ := Aside0.mk (below_step (by repeat (first | (with_reducible first | exact HB.out | apply below_alloc | apply pw_below_drewN | apply below_drew1 | refine below_set ?_ GE462.out | refine below_set ?_ GE463.out) | exact HB.out)) hb); clear BK462; clear BK463; clear HB; have BK462 := n0_; have BK463 := n1_; have HB := n2_; clear n0_ n1_ n2_; (try clear hb); (try clear hb2); (try clear hk); (try clear hi))))
        (try simp only [Act.put, List.setIfInBounds_toArray, List.set_cons_zero, List.set_cons_succ])
        go_cut [52] (fun v52 wc => ∃ (kq : Nat) (x52_18 : Bool), v52 = .bool x52_18 ∧ Aside0 (cayleyref04_plain.j1 kq a1 t469 x52_18 a2_0 a2_1 a2_2 a2_3 a2_4 a2_5 = some (r1, r2)) ∧ Aside0 (kq ≤ kj3) ∧ Aside0 (wc.heap[gb462]? = some (.cells #[.int .i64 a0_0, (.slice A0_1 l0_1.length c0_1)] 24 (0, 0))) ∧ Aside0 (wc.heap[gb463]? = some (.cells #[.int .i64 a2_0, .int .i64 a2_1, .int .i64 a2_2, .int .i64 a2_3, .int .i64 a2_4, .bool a2_5] 52 (0, 0))) ∧ Aside0 (Below w.heap.size w wc))
        case first =>
          have H := HC19.out
          clear HC19
          by_cases c24 : t471 = true
          · subst c24
            have H1 : (if a2_1 < 0 then (cayleyref04_plain.j1 kj3 a1 t469 true a2_0 a2_1 a2_2 a2_3 a2_4 a2_5) else (cayleyref04_plain.j1 kj3 a1 t469 (decide (a2_1 > (a1.size : Int))) a2_0 a2_1 a2_2 a2_3 a2_4 a2_5)) = some (r1, r2) := by rw [if_pos rfl] at H; exact H
            clear H
            have H := H1
            clear H1
            by_cases c25 : a2_1 < 0
            · rw [if_pos c25] at H
              have c25b0 : decide (a2_1 < 0) = true := decide_eq_true c25
              clear c25
              (first | rw [c25b0] | (simp only [i64_w, i32_w]; rw [c25b0]) | skip)
              have H' := Aside0.mk H
              clear H
              have hnb26 := NB463_462.out
              have hnc26 := NB462_463.out
              have hcz27_0 : w23.cell? ⟨gb463, 0, none⟩ = some (.int .i64 a2_0) := (blk_cell BK463.out 0).trans rfl
              have hcz27_1 : w23.cell? ⟨gb463, 1, none⟩ = some (.int .i64 a2_1) := (blk_cell BK463.out 1).trans rfl
              have hcz27_2 : w23.cell? ⟨gb463, 2, none⟩ = some (.int .i64 a2_2) := (blk_cell BK463.out 2).trans rfl
              have hcz27_3 : w23.cell? ⟨gb463, 3, none⟩ = some (.int .i64 a2_3) := (blk_cell BK463.out 3).trans rfl
              have hcz27_4 : w23.cell? ⟨gb463, 4, none⟩ = some (.int .i64 a2_4) := (blk_cell BK463.out 4).trans rfl
              have hcz27_5 : w23.cell? ⟨gb463, 5, none⟩ = some (.bool a2_5) := (blk_cell BK463.out 5).trans rfl
              have hfz27_0 := blk_frozen BK463.out 0
              have hfz27_1 := blk_frozen BK463.out 1
              have hfz27_2 := blk_frozen BK463.out 2
              have hfz27_3 := blk_frozen BK463.out 3
              have hfz27_4 := blk_frozen BK463.out 4
              have hfz27_5 := blk_frozen BK463.out 5
              go_wp2
              repeat (go_quiet (fail); try go_wp2)
              go_meet
              case rel => exact ⟨_, (true), (by first | rfl | (simp; done) | (simp [*]; done)), H', ⟨by have := HJ3.out; first | omega | exact Nat.le_refl _⟩, ⟨by (with_reducible repeat (first | refine blk_drewN ?_ _ | refine blk_drew ?_ | refine blk_alloc ?_ _)); exact BK462.out⟩, ⟨by (with_reducible repeat (first | refine blk_drewN ?_ _ | refine blk_drew ?_ | refine blk_alloc ?_ _)); exact BK463.out⟩, ⟨by repeat (first | (with_reducible first | exact HB.out | apply below_alloc | apply pw_below_drewN | apply below_drew1 | refine below_set ?_ GE462.out | refine below_set ?_ GE463.out) | exact HB.out)⟩⟩
            · rw [if_neg c25] at H
              have c25b0 : decide (a2_1 < 0) = false := decide_eq_false c25
              clear c25
              (first | rw [c25b0] | (simp only [i64_w, i32_w]; rw [c25b0]) | skip)
              have H' := Aside0.mk H
              clear H
              have hnb28 := NB463_462.out
              have hnc28 := NB462_463.out
              have hcz29_0 : w23.cell? ⟨gb463, 0, none⟩ = some (.int .i64 a2_0) := (blk_cell BK463.out 0).trans rfl
              have hcz29_1 : w23.cell? ⟨gb463, 1, none⟩ = some (.int .i64 a2_1) := (blk_cell BK463.out 1).trans rfl
              have hcz29_2 : w23.cell? ⟨gb463, 2, none⟩ = some (.int .i64 a2_2) := (blk_cell BK463.out 2).trans rfl
              have hcz29_3 : w23.cell? ⟨gb463, 3, none⟩ = some (.int .i64 a2_3) := (blk_cell BK463.out 3).trans rfl
              have hcz29_4 : w23.cell? ⟨gb463, 4, none⟩ = some (.int .i64 a2_4) := (blk_cell BK463.out 4).trans rfl
              have hcz29_5 : w23.cell? ⟨gb463, 5, none⟩ = some (.bool a2_5) := (blk_cell BK463.out 5).trans rfl
              have hfz29_0 := blk_frozen BK463.out 0
              have hfz29_1 := blk_frozen BK463.out 1
              have hfz29_2 := blk_frozen BK463.out 2
              have hfz29_3 := blk_frozen BK463.out 3
              have hfz29_4 := blk_frozen BK463.out 4
              have hfz29_5 := blk_frozen BK463.out 5
              go_wp2
              repeat (go_quiet (fail); try go_wp2)
              go_meet
              case rel => exact ⟨_, (decide (a2_1 > (a1.size : Int))), (by first | rfl | (simp; done) | (simp [*]; done)), H', ⟨by have := HJ3.out; first | omega | exact Nat.le_refl _⟩, ⟨by (with_reducible repeat (first | refine blk_drewN ?_ _ | refine blk_drew ?_ | refine blk_alloc ?_ _)); exact BK462.out⟩, ⟨by (with_reducible repeat (first | refine blk_drewN ?_ _ | refine blk_drew ?_ | refine blk_alloc ?_ _)); exact BK463.out⟩, ⟨by repeat (first | (with_reducible first | exact HB.out | apply below_alloc | apply pw_below_drewN | apply below_drew1 | refine below_set ?_ GE462.out | refine below_set ?_ GE463.out) | exact HB.out)⟩⟩
          · replace c24 := Bool.eq_false_iff.mpr c24
            subst c24
            have H1 : (cayleyref04_plain.j1 kj3 a1 t469 true a2_0 a2_1 a2_2 a2_3 a2_4 a2_5) = some (r1, r2) := by rw [if_neg (show ¬ (false = true) by decide)] at H; exact H
            clear H
            have H := H1
            clear H1
            have H' := Aside0.mk H
            clear H
            go_wp2
            repeat (go_quiet (fail); try go_wp2)
            go_meet
            case rel => exact ⟨_, (true), (by first | rfl | (simp; done) | (simp [*]; done)), H', ⟨by have := HJ3.out; first | omega | exact Nat.le_refl _⟩, ⟨by (with_reducible repeat (first | refine blk_drewN ?_ _ | refine blk_drew ?_ | refine blk_alloc ?_ _)); exact BK462.out⟩, ⟨by (with_reducible repeat (first | refine blk_drewN ?_ _ | refine blk_drew ?_ | refine blk_alloc ?_ _)); exact BK463.out⟩, ⟨by repeat (first | (with_reducible first | exact HB.out | apply below_alloc | apply pw_below_drewN | apply below_drew1 | refine below_set ?_ GE462.out | refine below_set ?_ GE463.out) | exact HB.out)⟩⟩
        case rest =>
          clear HC19
          try clear c1
          try clear c2
          try clear p2
          try clear c5
          try clear c7
          try clear c7b0
          try clear c7b1
          try clear c8
          try clear c10
          try clear c12
          try clear c14
          try clear c20
          try clear c24
          try clear c25
          try clear c25b0
          try clear c26
          try clear c28
          try clear hcz11_0
          try clear hcz11_1
          try clear hcz11_2
          try clear hcz11_3
          try clear hcz11_4
          try clear hcz11_5
          try clear hcz15_0
          try clear hcz15_1
          try clear hcz16_0
          try clear hcz16_1
          try clear hcz16_2
          try clear hcz16_3
          try clear hcz16_4
          try clear hcz16_5
          try clear hcz21_0
          try clear hcz21_1
          try clear hcz22_0
          try clear hcz22_1
          try clear hcz22_2
          try clear hcz22_3
          try clear hcz22_4
          try clear hcz22_5
          try clear hcz27_0
          try clear hcz27_1
          try clear hcz27_2
          try clear hcz27_3
          try clear hcz27_4
          try clear hcz27_5
          try clear hcz29_0
          try clear hcz29_1
          try clear hcz29_2
          try clear hcz29_3
          try clear hcz29_4
          try clear hcz29_5
          try clear hcz9_0
          try clear hcz9_1
          try clear hcz9_2
          try clear hcz9_3
          try clear hcz9_4
          try clear hcz9_5
          try clear hfz11_0
          try clear hfz11_1
          try clear hfz11_2
          try clear hfz11_3
          try clear hfz11_4
          try clear hfz11_5
          try clear hfz15_0
          try clear hfz15_1
          try clear hfz16_0
          try clear hfz16_1
          try clear hfz16_2
          try clear hfz16_3
          try clear hfz16_4
          try clear hfz16_5
          try clear hfz21_0
          try clear hfz21_1
          try clear hfz22_0
          try clear hfz22_1
          try clear hfz22_2
          try clear hfz22_3
          try clear hfz22_4
          try clear hfz22_5
          try clear hfz27_0
          try clear hfz27_1
          try clear hfz27_2
          try clear hfz27_3
          try clear hfz27_4
          try clear hfz27_5
          try clear hfz29_0
          try clear hfz29_1
          try clear hfz29_2
          try clear hfz29_3
          try clear hfz29_4
          try clear hfz29_5
          try clear hfz9_0
          try clear hfz9_1
          try clear hfz9_2
          try clear hfz9_3
          try clear hfz9_4
          try clear hfz9_5
          try clear p2
          obtain ⟨kq, x52_18, rfl, HA, HJ18, BK462, BK463, HB⟩ := hcut
          cases kq with
          | zero => exact absurd HA.out (by simp [cayleyref04_plain.j1])
          | succ kj18 =>
            have H := HA.out
            clear HA
            simp only [cayleyref04_plain.j1] at H
            by_cases c30 : x52_18 = true
            · subst c30
              have H1 : (some ((⟨#[]⟩ : ByteArray), false)) = some (r1, r2) := by rw [if_pos rfl] at H; exact H
              clear H
              have H := H1
              clear H1
              simp only [Option.some.injEq, Prod.mk.injEq] at H
              obtain ⟨rfl, rfl⟩ := H
              go_wp2
              repeat (go_quiet (fail); try go_wp2)
              go_ret2
              exact ⟨by first | rfl | (simp [errW_none, errW_some] <;> rfl) | (simp [*, errW_none, errW_some] <;> rfl), by repeat (first | (with_reducible first | exact HB.out | apply below_alloc | apply pw_below_drewN | apply below_drew1 | refine below_set ?_ GE462.out | refine below_set ?_ GE463.out) | exact HB.out)⟩
            · replace c30 := Bool.eq_false_iff.mpr c30
              subst c30
              have H1 : (if a2_0 = 3 then (if 0 ≤ a2_1 then (if a2_1 ≤ (a1.size : Int) then (if (a1.extract 0 (a2_1 : Int).toNat).size + t469.size ≤ 9223372036854775807 then (if ((a1.extract 0 (a2_1 : Int).toNat) ++ t469).size + (a1.extract (a2_1 : Int).toNat a1.size).size ≤ 9223372036854775807 then (some (((a1.extract 0 (a2_1 : Int).toNat) ++ t469) ++ (a1.extract (a2_1 : Int).toNat a1.size), true)) else (none)) else (none)) else (none)) else (none)) else (if (wrap64 ((a1.size : Int) - a2_1)) < (t469.size : Int) then (some ((⟨#[]⟩ : ByteArray), false)) else (if 0 ≤ a2_1 then (if a2_1 ≤ (wrap64 (a2_1 + (t469.size : Int))) then (if (wrap64 (a2_1 + (t469.size : Int))) ≤ (a1.size : Int) then (if (a1.extract (a2_1 : Int).toNat ((wrap64 (a2_1 + (t469.size : Int))) : Int).toNat).toList = t469.toList then (if a2_1 ≤ (a1.size : Int) then (if 0 ≤ (wrap64 (a2_1 + (t469.size : Int))) then (if (a1.extract 0 (a2_1 : Int).toNat).size + (a1.extract ((wrap64 (a2_1 + (t469.size : Int))) : Int).toNat a1.size).size ≤ 9223372036854775807 then (some ((a1.extract 0 (a2_1 : Int).toNat) ++ (a1.extract ((wrap64 (a2_1 + (t469.size : Int))) : Int).toNat a1.size), true)) else (none)) else (none)) else (none)) else (some ((⟨#[]⟩ : ByteArray), false))) else (none)) else (none)) else (none)))) = some (r1, r2) := by rw [if_neg (show ¬ (false = true) by decide)] at H; exact H
              clear H
              have H := H1
              clear H1
              by_cases c31 : a2_0 = 3
              · rw [if_pos c31] at H
                have c31b0 : (a2_0 == 3) = true := beq_iff_eq.mpr c31
                have c31b1 : (a2_0 != 3) = false := bne_eq_false_iff_eq.mpr c31
                clear c31
                by_cases c32 : 0 ≤ a2_1
                · rw [if_pos c32] at H
                  have c32b0 := eq_true c32
                  have c32b1 : decide (0 ≤ a2_1) = true := decide_eq_true c32
                  clear c32
                  by_cases c33 : a2_1 ≤ (a1.size : Int)
                  · rw [if_pos c33] at H
                    have c33b0 := eq_true c33
                    have c33b1 : decide (a2_1 ≤ (a1.size : Int)) = true := decide_eq_true c33
                    clear c33
                    by_cases c34 : (a1.extract 0 (a2_1 : Int).toNat).size + t469.size ≤ 9223372036854775807
                    · rw [if_pos c34] at H
                      have c34b0 := eq_true c34
                      have c34b1 : decide ((a1.extract 0 (a2_1 : Int).toNat).size + t469.size ≤ 9223372036854775807) = true := decide_eq_true c34
                      try have c34b2 : (9223372036854775807 < (a1.extract 0 (a2_1 : Int).toNat).size + t469.size) = False := eq_false (Nat.not_lt.2 c34)
                      have c35b0 := eq_true (of_decide_eq_true (by first | (with_reducible assumption) | assumption) : 0 ≤ a2_1)
                      have c36b0 := eq_true (of_decide_eq_true (by first | (with_reducible assumption) | assumption) : a2_1 ≤ (a1.size : Int))
                      by_cases c37 : ((a1.extract 0 (a2_1 : Int).toNat) ++ t469).size + (a1.extract (a2_1 : Int).toNat a1.size).size ≤ 9223372036854775807
                      · rw [if_pos c37] at H
                        have c37b0 := eq_true c37
                        have c37b1 : decide (((a1.extract 0 (a2_1 : Int).toNat) ++ t469).size + (a1.extract (a2_1 : Int).toNat a1.size).size ≤ 9223372036854775807) = true := decide_eq_true c37
                        try have c37b2 : (9223372036854775807 < ((a1.extract 0 (a2_1 : Int).toNat) ++ t469).size + (a1.extract (a2_1 : Int).toNat a1.size).size) = False := eq_false (Nat.not_lt.2 c37)
                        simp only [Option.some.injEq, Prod.mk.injEq] at H
                        obtain ⟨rfl, rfl⟩ := H
                        have hnb38 := NB463_462.out
                        have hnc38 := NB462_463.out
                        have hcz39_0 : wc.cell? ⟨gb463, 0, none⟩ = some (.int .i64 a2_0) := (blk_cell BK463.out 0).trans rfl
                        have hcz39_1 : wc.cell? ⟨gb463, 1, none⟩ = some (.int .i64 a2_1) := (blk_cell BK463.out 1).trans rfl
                        have hcz39_2 : wc.cell? ⟨gb463, 2, none⟩ = some (.int .i64 a2_2) := (blk_cell BK463.out 2).trans rfl
                        have hcz39_3 : wc.cell? ⟨gb463, 3, none⟩ = some (.int .i64 a2_3) := (blk_cell BK463.out 3).trans rfl
                        have hcz39_4 : wc.cell? ⟨gb463, 4, none⟩ = some (.int .i64 a2_4) := (blk_cell BK463.out 4).trans rfl
                        have hcz39_5 : wc.cell? ⟨gb463, 5, none⟩ = some (.bool a2_5) := (blk_cell BK463.out 5).trans rfl
                        have hfz39_0 := blk_frozen BK463.out 0
                        have hfz39_1 := blk_frozen BK463.out 1
                        have hfz39_2 := blk_frozen BK463.out 2
                        have hfz39_3 := blk_frozen BK463.out 3
                        have hfz39_4 := blk_frozen BK463.out 4
                        have hfz39_5 := blk_frozen BK463.out 5
                        go_wp2
                        repeat (go_quiet (fail); try go_wp2)
                        go_ret2
                        exact ⟨by first | rfl | (simp [errW_none, errW_some] <;> rfl) | (simp [*, errW_none, errW_some] <;> rfl), by repeat (first | (with_reducible first | exact HB.out | apply below_alloc | apply pw_below_drewN | apply below_drew1 | refine below_set ?_ GE462.out | refine below_set ?_ GE463.out) | exact HB.out)⟩
                      · rw [if_neg c37] at H
                        exact absurd H (by simp)
                    · rw [if_neg c34] at H
                      exact absurd H (by simp)
                  · rw [if_neg c33] at H
                    exact absurd H (by simp)
                · rw [if_neg c32] at H
                  exact absurd H (by simp)
              · rw [if_neg c31] at H
                have c31b0 : (a2_0 == 3) = false := beq_eq_false_iff_ne.mpr c31
                have c31b1 : (a2_0 != 3) = true := bne_iff_ne.mpr c31
                by_cases c40 : (wrap64 ((a1.size : Int) - a2_1)) < (t469.size : Int)
                · rw [if_pos c40] at H
                  have c40b0 : decide ((wrap64 ((a1.size : Int) - a2_1)) < (t469.size : Int)) = true := decide_eq_true c40
                  clear c40
                  simp only [Option.some.injEq, Prod.mk.injEq] at H
                  obtain ⟨rfl, rfl⟩ := H
                  have hnb41 := NB463_462.out
                  have hnc41 := NB462_463.out
                  have hcz42_0 : wc.cell? ⟨gb463, 0, none⟩ = some (.int .i64 a2_0) := (blk_cell BK463.out 0).trans rfl
                  have hcz42_1 : wc.cell? ⟨gb463, 1, none⟩ = some (.int .i64 a2_1) := (blk_cell BK463.out 1).trans rfl
                  have hcz42_2 : wc.cell? ⟨gb463, 2, none⟩ = some (.int .i64 a2_2) := (blk_cell BK463.out 2).trans rfl
                  have hcz42_3 : wc.cell? ⟨gb463, 3, none⟩ = some (.int .i64 a2_3) := (blk_cell BK463.out 3).trans rfl
                  have hcz42_4 : wc.cell? ⟨gb463, 4, none⟩ = some (.int .i64 a2_4) := (blk_cell BK463.out 4).trans rfl
                  have hcz42_5 : wc.cell? ⟨gb463, 5, none⟩ = some (.bool a2_5) := (blk_cell BK463.out 5).trans rfl
                  have hfz42_0 := blk_frozen BK463.out 0
                  have hfz42_1 := blk_frozen BK463.out 1
                  have hfz42_2 := blk_frozen BK463.out 2
                  have hfz42_3 := blk_frozen BK463.out 3
                  have hfz42_4 := blk_frozen BK463.out 4
                  have hfz42_5 := blk_frozen BK463.out 5
                  go_wp2
                  repeat (go_quiet (fail); try go_wp2)
                  go_ret2
                  exact ⟨by first | rfl | (simp [errW_none, errW_some] <;> rfl) | (simp [*, errW_none, errW_some] <;> rfl), by repeat (first | (with_reducible first | exact HB.out | apply below_alloc | apply pw_below_drewN | apply below_drew1 | refine below_set ?_ GE462.out | refine below_set ?_ GE463.out) | exact HB.out)⟩
                · rw [if_neg c40] at H
                  have c40b0 : decide ((wrap64 ((a1.size : Int) - a2_1)) < (t469.size : Int)) = false := decide_eq_false c40
                  clear c40
                  by_cases c43 : 0 ≤ a2_1
                  · rw [if_pos c43] at H
                    have c43b0 := eq_true c43
                    have c43b1 : decide (0 ≤ a2_1) = true := decide_eq_true c43
                    clear c43
                    by_cases c44 : a2_1 ≤ (wrap64 (a2_1 + (t469.size : Int)))
                    · rw [if_pos c44] at H
                      have c44b0 := eq_true c44
                      have c44b1 : decide (a2_1 ≤ (wrap64 (a2_1 + (t469.size : Int)))) = true := decide_eq_true c44
                      by_cases c45 : (wrap64 (a2_1 + (t469.size : Int))) ≤ (a1.size : Int)
                      · rw [if_pos c45] at H
                        have c45b0 := eq_true c45
                        have c45b1 : decide ((wrap64 (a2_1 + (t469.size : Int))) ≤ (a1.size : Int)) = true := decide_eq_true c45
                        by_cases c46 : (a1.extract (a2_1 : Int).toNat ((wrap64 (a2_1 + (t469.size : Int))) : Int).toNat).toList = t469.toList
                        · rw [if_pos c46] at H
                          have c46b0 : ((a1.extract (a2_1 : Int).toNat ((wrap64 (a2_1 + (t469.size : Int))) : Int).toNat).toList == t469.toList) = true := beq_iff_eq.mpr c46
                          have c46b1 : ((a1.extract (a2_1 : Int).toNat ((wrap64 (a2_1 + (t469.size : Int))) : Int).toNat).toList != t469.toList) = false := bne_eq_false_iff_eq.mpr c46
                          clear c46
                          have c47b0 := eq_true (of_decide_eq_true (by first | (with_reducible assumption) | assumption) : 0 ≤ a2_1)
                          by_cases c48 : a2_1 ≤ (a1.size : Int)
                          · rw [if_pos c48] at H
                            have c48b0 := eq_true c48
                            have c48b1 : decide (a2_1 ≤ (a1.size : Int)) = true := decide_eq_true c48
                            clear c48
                            obtain ⟨ji49, hji49⟩ : ∃ j_ : Int, (wrap64 (a2_1 + (t469.size : Int))) = j_ := ⟨_, rfl⟩
                            replace H : (if 0 ≤ (ji49) then (if (a1.extract 0 (a2_1 : Int).toNat).size + (a1.extract ((ji49) : Int).toNat a1.size).size ≤ 9223372036854775807 then (some ((a1.extract 0 (a2_1 : Int).toNat) ++ (a1.extract ((ji49) : Int).toNat a1.size), true)) else (none)) else (none)) = some (r1, r2) := by first | (rw [hji49] at H; exact H) | (simp only [hji49] at H ⊢; exact H)
                            (try rw [hji49] at c44b0)
                            (try rw [hji49] at c44b1)
                            (try rw [hji49] at c44)
                            (try rw [hji49] at c45b0)
                            (try rw [hji49] at c45b1)
                            (try rw [hji49] at c45)
                            (try rw [hji49] at c46b0)
                            (try rw [hji49] at c46b1)
                            have hji49w : (IntKind.i64.wrap (a2_1 + (t469.size : Int))) = ji49 := (i64_w _).trans hji49
                            by_cases c50 : 0 ≤ (ji49)
                            · rw [if_pos c50] at H
                              have c50b0 := eq_true c50
                              have c50b1 : decide (0 ≤ (ji49)) = true := decide_eq_true c50
                              clear c50
                              have c51b0 := eq_true (of_decide_eq_true (by first | (with_reducible assumption) | assumption) : (ji49) ≤ (a1.size : Int))
                              by_cases c52 : (a1.extract 0 (a2_1 : Int).toNat).size + (a1.extract ((ji49) : Int).toNat a1.size).size ≤ 9223372036854775807
                              · rw [if_pos c52] at H
                                have c52b0 := eq_true c52
                                have c52b1 : decide ((a1.extract 0 (a2_1 : Int).toNat).size + (a1.extract ((ji49) : Int).toNat a1.size).size ≤ 9223372036854775807) = true := decide_eq_true c52
                                try have c52b2 : (9223372036854775807 < (a1.extract 0 (a2_1 : Int).toNat).size + (a1.extract ((ji49) : Int).toNat a1.size).size) = False := eq_false (Nat.not_lt.2 c52)
                                simp only [Option.some.injEq, Prod.mk.injEq] at H
                                obtain ⟨rfl, rfl⟩ := H
                                have hnb53 := NB463_462.out
                                have hnc53 := NB462_463.out
                                have hcz54_0 : wc.cell? ⟨gb463, 0, none⟩ = some (.int .i64 a2_0) := (blk_cell BK463.out 0).trans rfl
                                have hcz54_1 : wc.cell? ⟨gb463, 1, none⟩ = some (.int .i64 a2_1) := (blk_cell BK463.out 1).trans rfl
                                have hcz54_2 : wc.cell? ⟨gb463, 2, none⟩ = some (.int .i64 a2_2) := (blk_cell BK463.out 2).trans rfl
                                have hcz54_3 : wc.cell? ⟨gb463, 3, none⟩ = some (.int .i64 a2_3) := (blk_cell BK463.out 3).trans rfl
                                have hcz54_4 : wc.cell? ⟨gb463, 4, none⟩ = some (.int .i64 a2_4) := (blk_cell BK463.out 4).trans rfl
                                have hcz54_5 : wc.cell? ⟨gb463, 5, none⟩ = some (.bool a2_5) := (blk_cell BK463.out 5).trans rfl
                                have hfz54_0 := blk_frozen BK463.out 0
                                have hfz54_1 := blk_frozen BK463.out 1
                                have hfz54_2 := blk_frozen BK463.out 2
                                have hfz54_3 := blk_frozen BK463.out 3
                                have hfz54_4 := blk_frozen BK463.out 4
                                have hfz54_5 := blk_frozen BK463.out 5
                                go_wp2
                                repeat (go_quiet (fail); try go_wp2)
                                go_ret2
                                exact ⟨by first | rfl | (simp [errW_none, errW_some] <;> rfl) | (simp only [← hji49]; first | rfl | (simp [errW_none, errW_some] <;> rfl)) | (simp [*, errW_none, errW_some] <;> rfl), by repeat (first | (with_reducible first | exact HB.out | apply below_alloc | apply pw_below_drewN | apply below_drew1 | refine below_set ?_ GE462.out | refine below_set ?_ GE463.out) | exact HB.out)⟩
                              · rw [if_neg c52] at H
                                exact absurd H (by simp)
                            · rw [if_neg c50] at H
                              exact absurd H (by simp)
                          · rw [if_neg c48] at H
                            exact absurd H (by simp)
                        · rw [if_neg c46] at H
                          have c46b0 : ((a1.extract (a2_1 : Int).toNat ((wrap64 (a2_1 + (t469.size : Int))) : Int).toNat).toList == t469.toList) = false := beq_eq_false_iff_ne.mpr c46
                          have c46b1 : ((a1.extract (a2_1 : Int).toNat ((wrap64 (a2_1 + (t469.size : Int))) : Int).toNat).toList != t469.toList) = true := bne_iff_ne.mpr c46
                          simp only [Option.some.injEq, Prod.mk.injEq] at H
                          obtain ⟨rfl, rfl⟩ := H
                          have hnb55 := NB463_462.out
                          have hnc55 := NB462_463.out
                          have hcz56_0 : wc.cell? ⟨gb463, 0, none⟩ = some (.int .i64 a2_0) := (blk_cell BK463.out 0).trans rfl
                          have hcz56_1 : wc.cell? ⟨gb463, 1, none⟩ = some (.int .i64 a2_1) := (blk_cell BK463.out 1).trans rfl
                          have hcz56_2 : wc.cell? ⟨gb463, 2, none⟩ = some (.int .i64 a2_2) := (blk_cell BK463.out 2).trans rfl
                          have hcz56_3 : wc.cell? ⟨gb463, 3, none⟩ = some (.int .i64 a2_3) := (blk_cell BK463.out 3).trans rfl
                          have hcz56_4 : wc.cell? ⟨gb463, 4, none⟩ = some (.int .i64 a2_4) := (blk_cell BK463.out 4).trans rfl
                          have hcz56_5 : wc.cell? ⟨gb463, 5, none⟩ = some (.bool a2_5) := (blk_cell BK463.out 5).trans rfl
                          have hfz56_0 := blk_frozen BK463.out 0
                          have hfz56_1 := blk_frozen BK463.out 1
                          have hfz56_2 := blk_frozen BK463.out 2
                          have hfz56_3 := blk_frozen BK463.out 3
                          have hfz56_4 := blk_frozen BK463.out 4
                          have hfz56_5 := blk_frozen BK463.out 5
                          go_wp2
                          repeat (go_quiet (fail); try go_wp2)
                          go_ret2
                          exact ⟨by first | rfl | (simp [errW_none, errW_some] <;> rfl) | (simp [*, errW_none, errW_some] <;> rfl), by repeat (first | (with_reducible first | exact HB.out | apply below_alloc | apply pw_below_drewN | apply below_drew1 | refine below_set ?_ GE462.out | refine below_set ?_ GE463.out) | exact HB.out)⟩
                      · rw [if_neg c45] at H
                        exact absurd H (by simp)
                    · rw [if_neg c44] at H
                      exact absurd H (by simp)
                  · rw [if_neg c43] at H
                    exact absurd H (by simp)
def cayleyref04_Apply.l0 : Nat → ByteArray → List (S52) → Int → Int → Int → List ByteArray → Option (ByteArray × Int)
  | 0, _, _, _, _, _, _ => none
  | k + 1, x1, x23, x24, x25, x473000, x473001 => if x25 < x24 then (if 0 ≤ x25 then (if x25 < (x23.length : Int) then ((cayleyref04_plain.f k x473000 x473001 x1 ((rd_T52 x23 x25).f0) ((rd_T52 x23 x25).f1) ((rd_T52 x23 x25).f2) ((rd_T52 x23 x25).f3) ((rd_T52 x23 x25).f4) ((rd_T52 x23 x25).f5)).bind fun bt479 => (if bt479.2 = true then (if (bt479.1.size : Int) > 100000 then (some ((⟨#[]⟩ : ByteArray), 43)) else (cayleyref04_Apply.l0 k bt479.1 x23 x24 (wrap64 (x25 + 1)) x473000 x473001)) else (some ((⟨#[]⟩ : ByteArray), 43)))) else (none)) else (none)) else (some (x1, 0))
def cayleyref04_Apply.f (k : Nat) (a0_0 : Int) (l0_1 : List ByteArray) (a1 : ByteArray) (l2 : List (S52)) : Option (ByteArray × Int) := (cayleyref04_checked.f k a0_0 l0_1 (([a1] : List ByteArray)) ([] : List (List (S59)))).bind fun t476 => (if t476 = 0 then (if (l2.length : Int) > 100000 then (some ((⟨#[]⟩ : ByteArray), 2)) else (cayleyref04_Apply.l0 k a1 l2 (l2.length : Int) 0 a0_0 l0_1)) else (some ((⟨#[]⟩ : ByteArray), t476)))
set_option maxHeartbeats 8000000 in
set_option maxRecDepth 100000 in
theorem cayleyref04_Apply.calls (k : Nat) (a0_0 : Int) (A0_1 : Option Addr) (c0_1 : Nat) (l0_1 : List ByteArray) (a1 : ByteArray) (A2 : Option Addr) (c2 : Nat) (l2 : List (S52)) (r1 : ByteArray) (r2 : Int) (w : World) (hr0_1 : Kd.C Kd.string w A0_1 l0_1.length l0_1) (hc0_1 : l0_1.length ≤ c0_1) (hr2 : Kd.C k52 w A2 l2.length l2) (hc2 : l2.length ≤ c2) (h : cayleyref04_Apply.f k a0_0 l0_1 a1 l2 = some (r1, r2)) :
    Calls Try.prog 30 #[.agg #[.int .i64 a0_0, .slice A0_1 l0_1.length c0_1], .string a1, .slice A2 l2.length c2] w fun e w' => e = .returned (.tuple #[.string r1, .int .i64 r2]) ∧ Below w.heap.size w w' := by
  have hu24 := Try.underlying24
  have hu52 := Try.underlying52
  have HR0_1 := Aside0.mk hr0_1
  have HC0_1 := Aside0.mk hc0_1
  clear hr0_1 hc0_1
  have HR2 := Aside0.mk hr2
  have HC2 := Aside0.mk hc2
  clear hr2 hc2
  have HB := Aside0.mk (Below.refl w.heap.size w)
  have H : ((cayleyref04_checked.f k a0_0 l0_1 (([a1] : List ByteArray)) ([] : List (List (S59)))).bind fun t476 => (if t476 = 0 then (if (l2.length : Int) > 100000 then (some ((⟨#[]⟩ : ByteArray), 2)) else (cayleyref04_Apply.l0 k a1 l2 (l2.length : Int) 0 a0_0 l0_1)) else (some ((⟨#[]⟩ : ByteArray), t476)))) = some (r1, r2) := h
  clear h
  obtain ⟨y473, hy473⟩ : ∃ y_ : List ByteArray, y_ = (([a1] : List ByteArray)) := ⟨_, rfl⟩
  replace H : ((cayleyref04_checked.f k a0_0 l0_1 y473 ([] : List (List (S59)))).bind fun t476 => (if t476 = 0 then (if (l2.length : Int) > 100000 then (some ((⟨#[]⟩ : ByteArray), 2)) else (cayleyref04_Apply.l0 k a1 l2 (l2.length : Int) 0 a0_0 l0_1)) else (some ((⟨#[]⟩ : ByteArray), t476)))) = some (r1, r2) := by first | (rw [hy473]; with_reducible exact H) | (have H2_ := (Option.bind_some _ _).symm.trans H; rw [hy473]; with_reducible exact H2_) | (have H2_ := (Option.bind_some _ _).symm.trans H; with_reducible exact H2_) | with_reducible exact H | (rw [hy473]; exact H) | exact H
  have Ny473 := Aside0.mk hy473
  clear hy473
  replace H := Option.bind_eq_some_iff.mp H
  obtain ⟨t476, A40, H⟩ := H
  replace H : (if t476 = 0 then (if (l2.length : Int) > 100000 then (some ((⟨#[]⟩ : ByteArray), 2)) else (cayleyref04_Apply.l0 k a1 l2 (l2.length : Int) 0 a0_0 l0_1)) else (some ((⟨#[]⟩ : ByteArray), t476))) = some (r1, r2) := H
  have A4 := Aside0.mk A40
  clear A40
  by_cases c5 : t476 = 0
  · rw [if_pos c5] at H
    have c5b0 : (t476 == 0) = true := beq_iff_eq.mpr c5
    have c5b1 : (t476 != 0) = false := bne_eq_false_iff_eq.mpr c5
    clear c5
    by_cases c6 : (l2.length : Int) > 100000
    · rw [if_pos c6] at H
      have c6b0 : decide (100000 < (l2.length : Int)) = true := decide_eq_true c6
      have c6b1 : decide (100000 < l2.length) = true := decide_eq_true (by omega)
      clear c6
      simp only [Option.some.injEq, Prod.mk.injEq] at H
      obtain ⟨rfl, rfl⟩ := H
      go_enter Try.func30, Try.ntmps30
      go_wp2_with (first | ((with_reducible refine gate_dst (N := 3) rfl ?_); (try (refine gate_guard (by rfl) ?_; dsimp only)); refine box_event ?hg (N := 3) ?hd (cs := #[.int .i64 a0_0, .slice A0_1 l0_1.length c0_1]) (t := 24) ?hr ?_; (case hd => rfl); (case hg => rfl); (case hr => first | (go_simp; done) | (go_simp; rfl)); intro gb472 hg w7 hbox hb; have n0_ := Aside0.mk (below_step (by repeat (first | (with_reducible first | exact HB.out | apply below_alloc | apply pw_below_drewN | apply below_drew1) | exact HB.out)) hb); have n1_ := Aside0.mk (hbox); have n2_ := Aside0.mk ((by rw [hg]; exact (below_size (by repeat (first | (with_reducible first | exact HB.out | apply below_alloc | apply pw_below_drewN | apply below_drew1) | exact HB.out))) : w.heap.size ≤ gb472)); have n3_ := Aside0.mk ((by rw [hg]; exact (below_size (by repeat (first | (with_reducible first | exact HB.out | apply below_alloc | apply pw_below_drewN | apply below_drew1) | exact HB.out))) : w.heap.size ≤ gb472)); clear HB; have HB := n0_; have BK472 := n1_; have GW472 := n2_; have GE472 := n3_; clear n0_ n1_ n2_ n3_; clear hb hbox hg; have hcz8_0 : w7.cell? ⟨gb472, 0, none⟩ = some (.int .i64 a0_0) := (blk_cell BK472.out 0).trans rfl; have hcz8_1 : w7.cell? ⟨gb472, 1, none⟩ = some (.slice A0_1 l0_1.length c0_1) := (blk_cell BK472.out 1).trans rfl; have hfz8_0 := blk_frozen BK472.out 0; have hfz8_1 := blk_frozen BK472.out 1; have hcy8_0 : ∀ z0 z1, ((w7.setCell ⟨gb472, 0, none⟩ z0).setCell ⟨gb472, 1, none⟩ z1).cell? ⟨gb472, 0, none⟩ = some z0 := (by intro z0 z1; go_cell); have hcy8_1 : ∀ z0 z1, ((w7.setCell ⟨gb472, 0, none⟩ z0).setCell ⟨gb472, 1, none⟩ z1).cell? ⟨gb472, 1, none⟩ = some z1 := (by intro z0 z1; go_cell)) | ((with_reducible refine gate_dst (N := 15) rfl ?_); (try (refine gate_guard (by rfl) ?_; dsimp only)); refine Kd.R_lit Kd.string _ 9 ?hg (N := 15) ?hd (xs := ([a1] : List ByteArray)) (inner := [.string a1]) (ok := fun _ => True) (okp := fun _ => True) ?hr ?hp (fun _ hk => hk) trivial (Below.refl _ _) (Nat.le_refl _) (by simp) ?_; (case hd => rfl); (case hg => rfl); (case hr => first | (go_simp; done) | (go_simp; rfl)); (case hp => exact (Reps.one (show Kd.M Kd.string _ _ _ a1 [.string a1] from rfl) (Reps.none _ _))); intro v474 w9 ho10 hb hg_ hnew_; clear hg_ hnew_; (first | rw [← Ny473.out] at ho10 | (simp only [Int.reduceToNat] at ho10; rw [← Ny473.out] at ho10)); have n0_ := Aside0.mk (Kd.R_lower ho10 (below_size (by repeat (first | (with_reducible first | exact HB.out | apply below_alloc | apply pw_below_drewN | apply below_drew1 | refine below_set ?_ GE472.out) | exact HB.out)))); have n1_ := Aside0.mk (blk_below (g := gb472) (o := .cells #[.int .i64 a0_0, .slice A0_1 l0_1.length c0_1] 24 (0, 0)) (by (with_reducible repeat (first | refine blk_drewN ?_ _ | refine blk_drew ?_ | refine blk_alloc ?_ _)); exact BK472.out) hb); have n2_ := Aside0.mk (below_step (by repeat (first | (with_reducible first | exact HB.out | apply below_alloc | apply pw_below_drewN | apply below_drew1 | refine below_set ?_ GE472.out) | exact HB.out)) hb); clear BK472; clear HB; have HO475 := n0_; have BK472 := n1_; have HB := n2_; clear n0_ n1_ n2_; clear hb ho10; obtain ⟨Ao11, co11, eo11⟩ := Kd.R_slice HO475.out; subst eo11) | ((with_reducible refine gate_callee (f := 36) rfl ?_); refine goesL_ (some 16) rfl rfl Try.func36 (by kernel_rfl) rfl #[.agg #[.int .i64 a0_0, .slice A0_1 l0_1.length c0_1], .slice Ao11 y473.length co11, .slice none 0 0] rfl (by (try simp only [List.map_toArray, List.map_cons, List.map_nil]); first | done | rfl | (simp only [List.length_drop, List.length_take]; rfl)) ?_; (refine (cayleyref04_checked.calls k a0_0 _ _ l0_1 _ _ y473 _ _ ([] : List (List (S59))) t476 _ ?side1 ?side2 ?side3 ?side4 ?side5 ?side6 A4.out).mono ?_); (case side1 => repeat (first | exact (Kd.C_below HR0_1.out HB.out) | (with_reducible refine Kd.C_alloc ?_ _) | (with_reducible refine Kd.C_drewN ?_ _) | (with_reducible refine Kd.C_drew ?_))); (case side2 => exact HC0_1.out); (case side3 => repeat (first | exact (Kd.R_reads' HO475.out).2.2 | (with_reducible refine Kd.C_alloc ?_ _) | (with_reducible refine Kd.C_drewN ?_ _) | (with_reducible refine Kd.C_drew ?_))); (case side4 => exact (Kd.R_reads' HO475.out).2.1); (case side5 => exact Kd.C_nil _ _); (case side6 => exact Nat.le_refl _); rintro e w12 ⟨rfl, hb⟩; refine ⟨_, rfl, ?_⟩; have n0_ := Aside0.mk (Kd.R_below (by (with_reducible repeat (first | apply Kd.R_alloc | apply Kd.R_drewN | apply Kd.R_drew)); exact HO475.out) hb); have n1_ := Aside0.mk (blk_below (g := gb472) (o := .cells #[.int .i64 a0_0, .slice A0_1 l0_1.length c0_1] 24 (0, 0)) (by (with_reducible repeat (first | refine blk_drewN ?_ _ | refine blk_drew ?_ | refine blk_alloc ?_ _)); exact BK472.out) hb); have n2_ := Aside0.mk (below_step (by repeat (first | (with_reducible first | exact HB.out | apply below_alloc | apply pw_below_drewN | apply below_drew1 | refine below_set ?_ GE472.out) | exact HB.out)) hb); clear HO475; clear BK472; clear HB; have HO475 := n0_; have BK472 := n1_; have HB := n2_; clear n0_ n1_ n2_; (try clear hb); (try clear hb2); (try clear hk); (try clear hi)))
      go_ret2
      exact ⟨by first | rfl | (simp [errW_none, errW_some] <;> rfl) | (simp [*, errW_none, errW_some] <;> rfl), by repeat (first | (with_reducible first | exact HB.out | apply below_alloc | apply pw_below_drewN | apply below_drew1 | refine below_set ?_ GE472.out) | exact HB.out)⟩
    · rw [if_neg c6] at H
      have c6b0 : decide (100000 < (l2.length : Int)) = false := decide_eq_false c6
      have c6b1 : decide (100000 < l2.length) = false := decide_eq_false (by omega)
      clear c6
      have H' := Aside0.mk H
      clear H
      go_enter Try.func30, Try.ntmps30
      go_wp2_with (first | ((with_reducible refine gate_dst (N := 3) rfl ?_); (try (refine gate_guard (by rfl) ?_; dsimp only)); refine box_event ?hg (N := 3) ?hd (cs := #[.int .i64 a0_0, .slice A0_1 l0_1.length c0_1]) (t := 24) ?hr ?_; (case hd => rfl); (case hg => rfl); (case hr => first | (go_simp; done) | (go_simp; rfl)); intro gb472 hg w13 hbox hb; have n0_ := Aside0.mk (below_step (by repeat (first | (with_reducible first | exact HB.out | apply below_alloc | apply pw_below_drewN | apply below_drew1) | exact HB.out)) hb); have n1_ := Aside0.mk (hbox); have n2_ := Aside0.mk ((by rw [hg]; exact (below_size (by repeat (first | (with_reducible first | exact HB.out | apply below_alloc | apply pw_below_drewN | apply below_drew1) | exact HB.out))) : w.heap.size ≤ gb472)); have n3_ := Aside0.mk ((by rw [hg]; exact (below_size (by repeat (first | (with_reducible first | exact HB.out | apply below_alloc | apply pw_below_drewN | apply below_drew1) | exact HB.out))) : w.heap.size ≤ gb472)); clear HB; have HB := n0_; have BK472 := n1_; have GW472 := n2_; have GE472 := n3_; clear n0_ n1_ n2_ n3_; clear hb hbox hg; have hcz14_0 : w13.cell? ⟨gb472, 0, none⟩ = some (.int .i64 a0_0) := (blk_cell BK472.out 0).trans rfl; have hcz14_1 : w13.cell? ⟨gb472, 1, none⟩ = some (.slice A0_1 l0_1.length c0_1) := (blk_cell BK472.out 1).trans rfl; have hfz14_0 := blk_frozen BK472.out 0; have hfz14_1 := blk_frozen BK472.out 1; have hcy14_0 : ∀ z0 z1, ((w13.setCell ⟨gb472, 0, none⟩ z0).setCell ⟨gb472, 1, none⟩ z1).cell? ⟨gb472, 0, none⟩ = some z0 := (by intro z0 z1; go_cell); have hcy14_1 : ∀ z0 z1, ((w13.setCell ⟨gb472, 0, none⟩ z0).setCell ⟨gb472, 1, none⟩ z1).cell? ⟨gb472, 1, none⟩ = some z1 := (by intro z0 z1; go_cell)) | ((with_reducible refine gate_dst (N := 15) rfl ?_); (try (refine gate_guard (by rfl) ?_; dsimp only)); refine Kd.R_lit Kd.string _ 9 ?hg (N := 15) ?hd (xs := ([a1] : List ByteArray)) (inner := [.string a1]) (ok := fun _ => True) (okp := fun _ => True) ?hr ?hp (fun _ hk => hk) trivial (Below.refl _ _) (Nat.le_refl _) (by simp) ?_; (case hd => rfl); (case hg => rfl); (case hr => first | (go_simp; done) | (go_simp; rfl)); (case hp => exact (Reps.one (show Kd.M Kd.string _ _ _ a1 [.string a1] from rfl) (Reps.none _ _))); intro v474 w15 ho16 hb hg_ hnew_; clear hg_ hnew_; (first | rw [← Ny473.out] at ho16 | (simp only [Int.reduceToNat] at ho16; rw [← Ny473.out] at ho16)); have n0_ := Aside0.mk (Kd.R_lower ho16 (below_size (by repeat (first | (with_reducible first | exact HB.out | apply below_alloc | apply pw_below_drewN | apply below_drew1 | refine below_set ?_ GE472.out) | exact HB.out)))); have n1_ := Aside0.mk (blk_below (g := gb472) (o := .cells #[.int .i64 a0_0, .slice A0_1 l0_1.length c0_1] 24 (0, 0)) (by (with_reducible repeat (first | refine blk_drewN ?_ _ | refine blk_drew ?_ | refine blk_alloc ?_ _)); exact BK472.out) hb); have n2_ := Aside0.mk (below_step (by repeat (first | (with_reducible first | exact HB.out | apply below_alloc | apply pw_below_drewN | apply below_drew1 | refine below_set ?_ GE472.out) | exact HB.out)) hb); clear BK472; clear HB; have HO475 := n0_; have BK472 := n1_; have HB := n2_; clear n0_ n1_ n2_; clear hb ho16; obtain ⟨Ao17, co17, eo17⟩ := Kd.R_slice HO475.out; subst eo17) | ((with_reducible refine gate_callee (f := 36) rfl ?_); refine goesL_ (some 16) rfl rfl Try.func36 (by kernel_rfl) rfl #[.agg #[.int .i64 a0_0, .slice A0_1 l0_1.length c0_1], .slice Ao17 y473.length co17, .slice none 0 0] rfl (by (try simp only [List.map_toArray, List.map_cons, List.map_nil]); first | done | rfl | (simp only [List.length_drop, List.length_take]; rfl)) ?_; (refine (cayleyref04_checked.calls k a0_0 _ _ l0_1 _ _ y473 _ _ ([] : List (List (S59))) t476 _ ?side1 ?side2 ?side3 ?side4 ?side5 ?side6 A4.out).mono ?_); (case side1 => repeat (first | exact (Kd.C_below HR0_1.out HB.out) | (with_reducible refine Kd.C_alloc ?_ _) | (with_reducible refine Kd.C_drewN ?_ _) | (with_reducible refine Kd.C_drew ?_))); (case side2 => exact HC0_1.out); (case side3 => repeat (first | exact (Kd.R_reads' HO475.out).2.2 | (with_reducible refine Kd.C_alloc ?_ _) | (with_reducible refine Kd.C_drewN ?_ _) | (with_reducible refine Kd.C_drew ?_))); (case side4 => exact (Kd.R_reads' HO475.out).2.1); (case side5 => exact Kd.C_nil _ _); (case side6 => exact Nat.le_refl _); rintro e w18 ⟨rfl, hb⟩; refine ⟨_, rfl, ?_⟩; have n0_ := Aside0.mk (Kd.R_below (by (with_reducible repeat (first | apply Kd.R_alloc | apply Kd.R_drewN | apply Kd.R_drew)); exact HO475.out) hb); have n1_ := Aside0.mk (blk_below (g := gb472) (o := .cells #[.int .i64 a0_0, .slice A0_1 l0_1.length c0_1] 24 (0, 0)) (by (with_reducible repeat (first | refine blk_drewN ?_ _ | refine blk_drew ?_ | refine blk_alloc ?_ _)); exact BK472.out) hb); have n2_ := Aside0.mk (below_step (by repeat (first | (with_reducible first | exact HB.out | apply below_alloc | apply pw_below_drewN | apply below_drew1 | refine below_set ?_ GE472.out) | exact HB.out)) hb); clear HO475; clear BK472; clear HB; have HO475 := n0_; have BK472 := n1_; have HB := n2_; clear n0_ n1_ n2_; (try clear hb); (try clear hb2); (try clear hk); (try clear hi)))
      go_loopg [1, 25] k (fun kq v1 v25 w' => ∃ (x1_1 : ByteArray) (x25_1 : Int), v1 = .string x1_1 ∧ v25 = .int .i64 x25_1 ∧ Aside0 (cayleyref04_Apply.l0 kq x1_1 l2 (l2.length : Int) x25_1 a0_0 l0_1 = some (r1, r2)) ∧ Aside0 (kq ≤ k) ∧ Aside0 (w'.heap[gb472]? = some (.cells #[.int .i64 a0_0, (.slice A0_1 l0_1.length c0_1)] 24 (0, 0))) ∧ Aside0 (Below w.heap.size w w'))
      case atStart => exact ⟨(a1), (0), (by first | rfl | (simp; done) | (simp [*]; done)), (by first | rfl | (simp; done) | (simp [*]; done)), H', ⟨Nat.le_refl _⟩, ⟨by (with_reducible repeat (first | refine blk_drewN ?_ _ | refine blk_drew ?_ | refine blk_alloc ?_ _)); exact BK472.out⟩, ⟨by repeat (first | (with_reducible first | exact HB.out | apply below_alloc | apply pw_below_drewN | apply below_drew1 | refine below_set ?_ GE472.out) | exact HB.out)⟩⟩
      case round =>
        clear H'
        try clear c2
        try clear p2
        try clear c3
        try clear c5
        try clear c5b0
        try clear c5b1
        try clear c6
        try clear c6b0
        try clear c6b1
        try clear hcz14_0
        try clear hcz14_1
        try clear hcz8_0
        try clear hcz8_1
        try clear hfz14_0
        try clear hfz14_1
        try clear hfz8_0
        try clear hfz8_1
        obtain ⟨x1_1, x25_1, rfl, rfl, HA, HK1, BK472, HB⟩ := hrel
        cases gk with
        | zero => exact absurd HA.out (by simp [cayleyref04_Apply.l0])
        | succ k1 =>
          have H := HA.out
          clear HA
          simp only [cayleyref04_Apply.l0] at H
          by_cases c19 : x25_1 < (l2.length : Int)
          · rw [if_pos c19] at H
            have c19b0 : decide (x25_1 < (l2.length : Int)) = true := decide_eq_true c19
            clear c19
            by_cases c20 : 0 ≤ x25_1
            · rw [if_pos c20] at H
              have c20b0 : decide (0 ≤ x25_1) = true := decide_eq_true c20
              clear c20
              by_cases c21 : x25_1 < (l2.length : Int)
              · rw [if_pos c21] at H
                have c21b0 : decide (x25_1 < (l2.length : Int)) = true := decide_eq_true c21
                clear c21
                replace H := Option.bind_eq_some_iff.mp H
                obtain ⟨⟨t479, t480⟩, A220, H⟩ := H
                replace H : (if t480 = true then (if (t479.size : Int) > 100000 then (some ((⟨#[]⟩ : ByteArray), 43)) else (cayleyref04_Apply.l0 k1 t479 l2 (l2.length : Int) (wrap64 (x25_1 + 1)) a0_0 l0_1)) else (some ((⟨#[]⟩ : ByteArray), 43))) = some (r1, r2) := H
                have A22 := Aside0.mk A220
                clear A220
                by_cases c23 : t480 = true
                · subst c23
                  have H1 : (if (t479.size : Int) > 100000 then (some ((⟨#[]⟩ : ByteArray), 43)) else (cayleyref04_Apply.l0 k1 t479 l2 (l2.length : Int) (wrap64 (x25_1 + 1)) a0_0 l0_1)) = some (r1, r2) := by rw [if_pos rfl] at H; exact H
                  clear H
                  have H := H1
                  clear H1
                  by_cases c24 : (t479.size : Int) > 100000
                  · rw [if_pos c24] at H
                    have c24b0 : decide (100000 < (t479.size : Int)) = true := decide_eq_true c24
                    have c24b1 : decide (100000 < t479.size) = true := decide_eq_true (by omega)
                    clear c24
                    simp only [Option.some.injEq, Prod.mk.injEq] at H
                    obtain ⟨rfl, rfl⟩ := H
                    have p477 : 0 ≤ (x25_1 : Int) := of_decide_eq_true (by first | (with_reducible assumption) | assumption)
                    have q477 : x25_1 < (l2.length : Int) := of_decide_eq_true (by first | (with_reducible assumption) | assumption)
                    obtain ⟨ad477, e477, hx477_0, hx477_1, hx477_2, hx477_3, hx477_4, hx477_5⟩ := at_T52 HR2.out x25_1 p477 q477
                    cases e477
                    replace hx477_0 := (HB.out.cell (World.block_lt_of_cell? w _ hx477_0)).trans hx477_0
                    replace hx477_1 := (HB.out.cell (World.block_lt_of_cell? w _ hx477_1)).trans hx477_1
                    replace hx477_2 := (HB.out.cell (World.block_lt_of_cell? w _ hx477_2)).trans hx477_2
                    replace hx477_3 := (HB.out.cell (World.block_lt_of_cell? w _ hx477_3)).trans hx477_3
                    replace hx477_4 := (HB.out.cell (World.block_lt_of_cell? w _ hx477_4)).trans hx477_4
                    replace hx477_5 := (HB.out.cell (World.block_lt_of_cell? w _ hx477_5)).trans hx477_5
                    replace p477 := eq_true p477
                    replace q477 := eq_true q477
                    go_wp2_with (first | ((with_reducible refine gate_dst (N := 10) rfl ?_); (try (refine gate_guard (by rfl) ?_; dsimp only)); refine box_event ?hg (N := 10) ?hd (cs := #[.int .i64 0, .int .i64 0, .int .i64 0, .int .i64 0, .int .i64 0, .bool false]) (t := 52) ?hr ?_; (case hd => rfl); (case hg => rfl); (case hr => first | (go_simp; done) | (go_simp; rfl)); intro gb478 hg w25 hbox hb; have n0_ := Aside0.mk (blk_below (g := gb472) (o := .cells #[.int .i64 a0_0, .slice A0_1 l0_1.length c0_1] 24 (0, 0)) (by (with_reducible repeat (first | refine blk_drewN ?_ _ | refine blk_drew ?_ | refine blk_alloc ?_ _)); exact BK472.out) hb); have n1_ := Aside0.mk (below_step (by repeat (first | (with_reducible first | exact HB.out | apply below_alloc | apply pw_below_drewN | apply below_drew1 | refine below_set ?_ GE472.out) | exact HB.out)) hb); have n2_ := Aside0.mk (hbox); have n3_ := Aside0.mk ((by rw [hg]; exact (below_size (by repeat (first | (with_reducible first | exact HB.out | apply below_alloc | apply pw_below_drewN | apply below_drew1 | refine below_set ?_ GE472.out) | exact HB.out))) : w.heap.size ≤ gb478)); have n4_ := Aside0.mk ((by rw [hg]; exact (below_size (by repeat (first | (with_reducible first | exact HB.out | apply below_alloc | apply pw_below_drewN | apply below_drew1 | refine below_set ?_ GE472.out) | exact HB.out))) : w.heap.size ≤ gb478)); have n5_ := Aside0.mk ((by rw [hg]; exact Nat.ne_of_lt (blk_lt (g := gb472) (o := .cells #[.int .i64 a0_0, .slice A0_1 l0_1.length c0_1] 24 (0, 0)) (by (with_reducible repeat (first | refine blk_drewN ?_ _ | refine blk_drew ?_ | refine blk_alloc ?_ _)); exact BK472.out)) : gb472 ≠ gb478)); have n6_ := Aside0.mk ((by rw [hg]; exact Nat.ne_of_gt (blk_lt (g := gb472) (o := .cells #[.int .i64 a0_0, .slice A0_1 l0_1.length c0_1] 24 (0, 0)) (by (with_reducible repeat (first | refine blk_drewN ?_ _ | refine blk_drew ?_ | refine blk_alloc ?_ _)); exact BK472.out)) : gb478 ≠ gb472)); clear BK472; clear HB; have BK472 := n0_; have HB := n1_; have BK478 := n2_; have GW478 := n3_; have GE478 := n4_; have NB472_478 := n5_; have NB478_472 := n6_; clear n0_ n1_ n2_ n3_ n4_ n5_ n6_; clear hb hbox hg; have hnb26 := NB478_472.out; have hnc26 := NB472_478.out; have hcz27_0 : w25.cell? ⟨gb478, 0, none⟩ = some (.int .i64 0) := (blk_cell BK478.out 0).trans rfl; have hcz27_1 : w25.cell? ⟨gb478, 1, none⟩ = some (.int .i64 0) := (blk_cell BK478.out 1).trans rfl; have hcz27_2 : w25.cell? ⟨gb478, 2, none⟩ = some (.int .i64 0) := (blk_cell BK478.out 2).trans rfl; have hcz27_3 : w25.cell? ⟨gb478, 3, none⟩ = some (.int .i64 0) := (blk_cell BK478.out 3).trans rfl; have hcz27_4 : w25.cell? ⟨gb478, 4, none⟩ = some (.int .i64 0) := (blk_cell BK478.out 4).trans rfl; have hcz27_5 : w25.cell? ⟨gb478, 5, none⟩ = some (.bool false) := (blk_cell BK478.out 5).trans rfl; have hfz27_0 := blk_frozen BK478.out 0; have hfz27_1 := blk_frozen BK478.out 1; have hfz27_2 := blk_frozen BK478.out 2; have hfz27_3 := blk_frozen BK478.out 3; have hfz27_4 := blk_frozen BK478.out 4; have hfz27_5 := blk_frozen BK478.out 5; have hcy27_0 : ∀ z0 z1 z2 z3 z4 z5, ((((((w25.setCell ⟨gb478, 0, none⟩ z0).setCell ⟨gb478, 1, none⟩ z1).setCell ⟨gb478, 2, none⟩ z2).setCell ⟨gb478, 3, none⟩ z3).setCell ⟨gb478, 4, none⟩ z4).setCell ⟨gb478, 5, none⟩ z5).cell? ⟨gb478, 0, none⟩ = some z0 := (by intro z0 z1 z2 z3 z4 z5; go_cell); have hcy27_1 : ∀ z0 z1 z2 z3 z4 z5, ((((((w25.setCell ⟨gb478, 0, none⟩ z0).setCell ⟨gb478, 1, none⟩ z1).setCell ⟨gb478, 2, none⟩ z2).setCell ⟨gb478, 3, none⟩ z3).setCell ⟨gb478, 4, none⟩ z4).setCell ⟨gb478, 5, none⟩ z5).cell? ⟨gb478, 1, none⟩ = some z1 := (by intro z0 z1 z2 z3 z4 z5; go_cell); have hcy27_2 : ∀ z0 z1 z2 z3 z4 z5, ((((((w25.setCell ⟨gb478, 0, none⟩ z0).setCell ⟨gb478, 1, none⟩ z1).setCell ⟨gb478, 2, none⟩ z2).setCell ⟨gb478, 3, none⟩ z3).setCell ⟨gb478, 4, none⟩ z4).setCell ⟨gb478, 5, none⟩ z5).cell? ⟨gb478, 2, none⟩ = some z2 := (by intro z0 z1 z2 z3 z4 z5; go_cell); have hcy27_3 : ∀ z0 z1 z2 z3 z4 z5, ((((((w25.setCell ⟨gb478, 0, none⟩ z0).setCell ⟨gb478, 1, none⟩ z1).setCell ⟨gb478, 2, none⟩ z2).setCell ⟨gb478, 3, none⟩ z3).setCell ⟨gb478, 4, none⟩ z4).setCell ⟨gb478, 5, none⟩ z5).cell? ⟨gb478, 3, none⟩ = some z3 := (by intro z0 z1 z2 z3 z4 z5; go_cell); have hcy27_4 : ∀ z0 z1 z2 z3 z4 z5, ((((((w25.setCell ⟨gb478, 0, none⟩ z0).setCell ⟨gb478, 1, none⟩ z1).setCell ⟨gb478, 2, none⟩ z2).setCell ⟨gb478, 3, none⟩ z3).setCell ⟨gb478, 4, none⟩ z4).setCell ⟨gb478, 5, none⟩ z5).cell? ⟨gb478, 4, none⟩ = some z4 := (by intro z0 z1 z2 z3 z4 z5; go_cell); have hcy27_5 : ∀ z0 z1 z2 z3 z4 z5, ((((((w25.setCell ⟨gb478, 0, none⟩ z0).setCell ⟨gb478, 1, none⟩ z1).setCell ⟨gb478, 2, none⟩ z2).setCell ⟨gb478, 3, none⟩ z3).setCell ⟨gb478, 4, none⟩ z4).setCell ⟨gb478, 5, none⟩ z5).cell? ⟨gb478, 5, none⟩ = some z5 := (by intro z0 z1 z2 z3 z4 z5; go_cell); have hcz28_0 : w25.cell? ⟨gb472, 0, none⟩ = some (.int .i64 a0_0) := (blk_cell BK472.out 0).trans rfl; have hcz28_1 : w25.cell? ⟨gb472, 1, none⟩ = some (.slice A0_1 l0_1.length c0_1) := (blk_cell BK472.out 1).trans rfl; have hfz28_0 := blk_frozen BK472.out 0; have hfz28_1 := blk_frozen BK472.out 1; have hcy28_0 : ∀ z0 z1, ((w25.setCell ⟨gb472, 0, none⟩ z0).setCell ⟨gb472, 1, none⟩ z1).cell? ⟨gb472, 0, none⟩ = some z0 := (by intro z0 z1; go_cell); have hcy28_1 : ∀ z0 z1, ((w25.setCell ⟨gb472, 0, none⟩ z0).setCell ⟨gb472, 1, none⟩ z1).cell? ⟨gb472, 1, none⟩ = some z1 := (by intro z0 z1; go_cell)) | ((with_reducible refine gate_callee (f := 53) rfl ?_); refine goesL_ (some 33) rfl rfl Try.func53 (by kernel_rfl) rfl #[.agg #[.int .i64 a0_0, .slice A0_1 l0_1.length c0_1], .string x1_1, .agg #[.int .i64 ((rd_T52 l2 x25_1).f0), .int .i64 ((rd_T52 l2 x25_1).f1), .int .i64 ((rd_T52 l2 x25_1).f2), .int .i64 ((rd_T52 l2 x25_1).f3), .int .i64 ((rd_T52 l2 x25_1).f4), .bool ((rd_T52 l2 x25_1).f5)]] rfl (by (try simp only [List.map_toArray, List.map_cons, List.map_nil]); first | done | rfl | (simp only [List.length_drop, List.length_take]; rfl)) ?_; (with_reducible refine (cayleyref04_plain.calls k1 a0_0 _ _ l0_1 x1_1 ((rd_T52 l2 x25_1).f0) ((rd_T52 l2 x25_1).f1) ((rd_T52 l2 x25_1).f2) ((rd_T52 l2 x25_1).f3) ((rd_T52 l2 x25_1).f4) ((rd_T52 l2 x25_1).f5) t479 true _ ?side1 ?side2 A22.out).mono ?_); (case side1 => exact Kd.C_below HR0_1.out (by repeat (first | (with_reducible first | exact HB.out | apply below_alloc | apply pw_below_drewN | apply below_drew1 | refine below_set ?_ GE472.out | refine below_set ?_ GE478.out) | exact HB.out))); (case side2 => exact HC0_1.out); rintro e w29 ⟨rfl, hb⟩; refine ⟨_, rfl, ?_⟩; have n0_ := Aside0.mk (blk_below (g := gb472) (o := .cells #[.int .i64 a0_0, .slice A0_1 l0_1.length c0_1] 24 (0, 0)) (by (with_reducible repeat (first | refine blk_drewN ?_ _ | refine blk_drew ?_ | refine blk_alloc ?_ _)); refine blk_far ?_ NB472_478.out _; (with_reducible repeat (first | refine blk_drewN ?_ _ | refine blk_drew ?_ | refine blk_alloc ?_ _)); refine blk_far ?_ NB472_478.out _; (with_reducible repeat (first | refine blk_drewN ?_ _ | refine blk_drew ?_ | refine blk_alloc ?_ _)); refine blk_far ?_ NB472_478.out _; (with_reducible repeat (first | refine blk_drewN ?_ _ | refine blk_drew ?_ | refine blk_alloc ?_ _)); refine blk_far ?_ NB472_478.out _; (with_reducible repeat (first | refine blk_drewN ?_ _ | refine blk_drew ?_ | refine blk_alloc ?_ _)); refine blk_far ?_ NB472_478.out _; (with_reducible repeat (first | refine blk_drewN ?_ _ | refine blk_drew ?_ | refine blk_alloc ?_ _)); refine blk_far ?_ NB472_478.out _; (with_reducible repeat (first | refine blk_drewN ?_ _ | refine blk_drew ?_ | refine blk_alloc ?_ _)); exact BK472.out) hb); have n1_ := Aside0.mk (blk_below (g := gb478) (o := .cells #[.int .i64 ((rd_T52 l2 x25_1).f0), .int .i64 ((rd_T52 l2 x25_1).f1), .int .i64 ((rd_T52 l2 x25_1).f2), .int .i64 ((rd_T52 l2 x25_1).f3), .int .i64 ((rd_T52 l2 x25_1).f4), .bool ((rd_T52 l2 x25_1).f5)] 52 (0, 0)) (by (with_reducible repeat (first | refine blk_drewN ?_ _ | refine blk_drew ?_ | refine blk_alloc ?_ _)); refine blk_put (cs := #[.int .i64 ((rd_T52 l2 x25_1).f0), .int .i64 ((rd_T52 l2 x25_1).f1), .int .i64 ((rd_T52 l2 x25_1).f2), .int .i64 ((rd_T52 l2 x25_1).f3), .int .i64 ((rd_T52 l2 x25_1).f4), .bool false]) ?_ 5 _ rfl; (with_reducible repeat (first | refine blk_drewN ?_ _ | refine blk_drew ?_ | refine blk_alloc ?_ _)); refine blk_put (cs := #[.int .i64 ((rd_T52 l2 x25_1).f0), .int .i64 ((rd_T52 l2 x25_1).f1), .int .i64 ((rd_T52 l2 x25_1).f2), .int .i64 ((rd_T52 l2 x25_1).f3), .int .i64 0, .bool false]) ?_ 4 _ rfl; (with_reducible repeat (first | refine blk_drewN ?_ _ | refine blk_drew ?_ | refine blk_alloc ?_ _)); refine blk_put (cs := #[.int .i64 ((rd_T52 l2 x25_1).f0), .int .i64 ((rd_T52 l2 x25_1).f1), .int .i64 ((rd_T52 l2 x25_1).f2), .int .i64 0, .int .i64 0, .bool false]) ?_ 3 _ rfl; (with_reducible repeat (first | refine blk_drewN ?_ _ | refine blk_drew ?_ | refine blk_alloc ?_ _)); refine blk_put (cs := #[.int .i64 ((rd_T52 l2 x25_1).f0), .int .i64 ((rd_T52 l2 x25_1).f1), .int .i64 0, .int .i64 0, .int .i64 0, .bool false]) ?_ 2 _ rfl; (with_reducible repeat (first | refine blk_drewN ?_ _ | refine blk_drew ?_ | refine blk_alloc ?_ _)); refine blk_put (cs := #[.int .i64 ((rd_T52 l2 x25_1).f0), .int .i64 0, .int .i64 0, .int .i64 0, .int .i64 0, .bool false]) ?_ 1 _ rfl; (with_reducible repeat (first | refine blk_drewN ?_ _ | refine blk_drew ?_ | refine blk_alloc ?_ _)); refine blk_put (cs := #[.int .i64 0, .int .i64 0, .int .i64 0, .int .i64 0, .int .i64 0, .bool false]) ?_ 0 _ rfl; (with_reducible repeat (first | refine blk_drewN ?_ _ | refine blk_drew ?_ | refine blk_alloc ?_ _)); exact BK478.out) hb); have n2_ := Aside0.mk (below_step (by repeat (first | (with_reducible first | exact HB.out | apply below_alloc | apply pw_below_drewN | apply below_drew1 | refine below_set ?_ GE472.out | refine below_set ?_ GE478.out) | exact HB.out)) hb); clear BK472; clear BK478; clear HB; have BK472 := n0_; have BK478 := n1_; have HB := n2_; clear n0_ n1_ n2_; (try clear hb); (try clear hb2); (try clear hk); (try clear hi)))
                    go_ret2
                    exact ⟨by first | rfl | (simp [errW_none, errW_some] <;> rfl) | (simp [*, errW_none, errW_some] <;> rfl), by repeat (first | (with_reducible first | exact HB.out | apply below_alloc | apply pw_below_drewN | apply below_drew1 | refine below_set ?_ GE472.out | refine below_set ?_ GE478.out) | exact HB.out)⟩
                  · rw [if_neg c24] at H
                    have c24b0 : decide (100000 < (t479.size : Int)) = false := decide_eq_false c24
                    have c24b1 : decide (100000 < t479.size) = false := decide_eq_false (by omega)
                    clear c24
                    have H' := Aside0.mk H
                    clear H
                    have p477 : 0 ≤ (x25_1 : Int) := of_decide_eq_true (by first | (with_reducible assumption) | assumption)
                    have q477 : x25_1 < (l2.length : Int) := of_decide_eq_true (by first | (with_reducible assumption) | assumption)
                    obtain ⟨ad477, e477, hx477_0, hx477_1, hx477_2, hx477_3, hx477_4, hx477_5⟩ := at_T52 HR2.out x25_1 p477 q477
                    cases e477
                    replace hx477_0 := (HB.out.cell (World.block_lt_of_cell? w _ hx477_0)).trans hx477_0
                    replace hx477_1 := (HB.out.cell (World.block_lt_of_cell? w _ hx477_1)).trans hx477_1
                    replace hx477_2 := (HB.out.cell (World.block_lt_of_cell? w _ hx477_2)).trans hx477_2
                    replace hx477_3 := (HB.out.cell (World.block_lt_of_cell? w _ hx477_3)).trans hx477_3
                    replace hx477_4 := (HB.out.cell (World.block_lt_of_cell? w _ hx477_4)).trans hx477_4
                    replace hx477_5 := (HB.out.cell (World.block_lt_of_cell? w _ hx477_5)).trans hx477_5
                    replace p477 := eq_true p477
                    replace q477 := eq_true q477
                    go_wp2_with (first | ((with_reducible refine gate_dst (N := 10) rfl ?_); (try (refine gate_guard (by rfl) ?_; dsimp only)); refine box_event ?hg (N := 10) ?hd (cs := #[.int .i64 0, .int .i64 0, .int .i64 0, .int .i64 0, .int .i64 0, .bool false]) (t := 52) ?hr ?_; (case hd => rfl); (case hg => rfl); (case hr => first | (go_simp; done) | (go_simp; rfl)); intro gb478 hg w30 hbox hb; have n0_ := Aside0.mk (blk_below (g := gb472) (o := .cells #[.int .i64 a0_0, .slice A0_1 l0_1.length c0_1] 24 (0, 0)) (by (with_reducible repeat (first | refine blk_drewN ?_ _ | refine blk_drew ?_ | refine blk_alloc ?_ _)); exact BK472.out) hb); have n1_ := Aside0.mk (below_step (by repeat (first | (with_reducible first | exact HB.out | apply below_alloc | apply pw_below_drewN | apply below_drew1 | refine below_set ?_ GE472.out) | exact HB.out)) hb); have n2_ := Aside0.mk (hbox); have n3_ := Aside0.mk ((by rw [hg]; exact (below_size (by repeat (first | (with_reducible first | exact HB.out | apply below_alloc | apply pw_below_drewN | apply below_drew1 | refine below_set ?_ GE472.out) | exact HB.out))) : w.heap.size ≤ gb478)); have n4_ := Aside0.mk ((by rw [hg]; exact (below_size (by repeat (first | (with_reducible first | exact HB.out | apply below_alloc | apply pw_below_drewN | apply below_drew1 | refine below_set ?_ GE472.out) | exact HB.out))) : w.heap.size ≤ gb478)); have n5_ := Aside0.mk ((by rw [hg]; exact Nat.ne_of_lt (blk_lt (g := gb472) (o := .cells #[.int .i64 a0_0, .slice A0_1 l0_1.length c0_1] 24 (0, 0)) (by (with_reducible repeat (first | refine blk_drewN ?_ _ | refine blk_drew ?_ | refine blk_alloc ?_ _)); exact BK472.out)) : gb472 ≠ gb478)); have n6_ := Aside0.mk ((by rw [hg]; exact Nat.ne_of_gt (blk_lt (g := gb472) (o := .cells #[.int .i64 a0_0, .slice A0_1 l0_1.length c0_1] 24 (0, 0)) (by (with_reducible repeat (first | refine blk_drewN ?_ _ | refine blk_drew ?_ | refine blk_alloc ?_ _)); exact BK472.out)) : gb478 ≠ gb472)); clear BK472; clear HB; have BK472 := n0_; have HB := n1_; have BK478 := n2_; have GW478 := n3_; have GE478 := n4_; have NB472_478 := n5_; have NB478_472 := n6_; clear n0_ n1_ n2_ n3_ n4_ n5_ n6_; clear hb hbox hg; have hnb31 := NB478_472.out; have hnc31 := NB472_478.out; have hcz32_0 : w30.cell? ⟨gb478, 0, none⟩ = some (.int .i64 0) := (blk_cell BK478.out 0).trans rfl; have hcz32_1 : w30.cell? ⟨gb478, 1, none⟩ = some (.int .i64 0) := (blk_cell BK478.out 1).trans rfl; have hcz32_2 : w30.cell? ⟨gb478, 2, none⟩ = some (.int .i64 0) := (blk_cell BK478.out 2).trans rfl; have hcz32_3 : w30.cell? ⟨gb478, 3, none⟩ = some (.int .i64 0) := (blk_cell BK478.out 3).trans rfl; have hcz32_4 : w30.cell? ⟨gb478, 4, none⟩ = some (.int .i64 0) := (blk_cell BK478.out 4).trans rfl; have hcz32_5 : w30.cell? ⟨gb478, 5, none⟩ = some (.bool false) := (blk_cell BK478.out 5).trans rfl; have hfz32_0 := blk_frozen BK478.out 0; have hfz32_1 := blk_frozen BK478.out 1; have hfz32_2 := blk_frozen BK478.out 2; have hfz32_3 := blk_frozen BK478.out 3; have hfz32_4 := blk_frozen BK478.out 4; have hfz32_5 := blk_frozen BK478.out 5; have hcy32_0 : ∀ z0 z1 z2 z3 z4 z5, ((((((w30.setCell ⟨gb478, 0, none⟩ z0).setCell ⟨gb478, 1, none⟩ z1).setCell ⟨gb478, 2, none⟩ z2).setCell ⟨gb478, 3, none⟩ z3).setCell ⟨gb478, 4, none⟩ z4).setCell ⟨gb478, 5, none⟩ z5).cell? ⟨gb478, 0, none⟩ = some z0 := (by intro z0 z1 z2 z3 z4 z5; go_cell); have hcy32_1 : ∀ z0 z1 z2 z3 z4 z5, ((((((w30.setCell ⟨gb478, 0, none⟩ z0).setCell ⟨gb478, 1, none⟩ z1).setCell ⟨gb478, 2, none⟩ z2).setCell ⟨gb478, 3, none⟩ z3).setCell ⟨gb478, 4, none⟩ z4).setCell ⟨gb478, 5, none⟩ z5).cell? ⟨gb478, 1, none⟩ = some z1 := (by intro z0 z1 z2 z3 z4 z5; go_cell); have hcy32_2 : ∀ z0 z1 z2 z3 z4 z5, ((((((w30.setCell ⟨gb478, 0, none⟩ z0).setCell ⟨gb478, 1, none⟩ z1).setCell ⟨gb478, 2, none⟩ z2).setCell ⟨gb478, 3, none⟩ z3).setCell ⟨gb478, 4, none⟩ z4).setCell ⟨gb478, 5, none⟩ z5).cell? ⟨gb478, 2, none⟩ = some z2 := (by intro z0 z1 z2 z3 z4 z5; go_cell); have hcy32_3 : ∀ z0 z1 z2 z3 z4 z5, ((((((w30.setCell ⟨gb478, 0, none⟩ z0).setCell ⟨gb478, 1, none⟩ z1).setCell ⟨gb478, 2, none⟩ z2).setCell ⟨gb478, 3, none⟩ z3).setCell ⟨gb478, 4, none⟩ z4).setCell ⟨gb478, 5, none⟩ z5).cell? ⟨gb478, 3, none⟩ = some z3 := (by intro z0 z1 z2 z3 z4 z5; go_cell); have hcy32_4 : ∀ z0 z1 z2 z3 z4 z5, ((((((w30.setCell ⟨gb478, 0, none⟩ z0).setCell ⟨gb478, 1, none⟩ z1).setCell ⟨gb478, 2, none⟩ z2).setCell ⟨gb478, 3, none⟩ z3).setCell ⟨gb478, 4, none⟩ z4).setCell ⟨gb478, 5, none⟩ z5).cell? ⟨gb478, 4, none⟩ = some z4 := (by intro z0 z1 z2 z3 z4 z5; go_cell); have hcy32_5 : ∀ z0 z1 z2 z3 z4 z5, ((((((w30.setCell ⟨gb478, 0, none⟩ z0).setCell ⟨gb478, 1, none⟩ z1).setCell ⟨gb478, 2, none⟩ z2).setCell ⟨gb478, 3, none⟩ z3).setCell ⟨gb478, 4, none⟩ z4).setCell ⟨gb478, 5, none⟩ z5).cell? ⟨gb478, 5, none⟩ = some z5 := (by intro z0 z1 z2 z3 z4 z5; go_cell); have hcz33_0 : w30.cell? ⟨gb472, 0, none⟩ = some (.int .i64 a0_0) := (blk_cell BK472.out 0).trans rfl; have hcz33_1 : w30.cell? ⟨gb472, 1, none⟩ = some (.slice A0_1 l0_1.length c0_1) := (blk_cell BK472.out 1).trans rfl; have hfz33_0 := blk_frozen BK472.out 0; have hfz33_1 := blk_frozen BK472.out 1; have hcy33_0 : ∀ z0 z1, ((w30.setCell ⟨gb472, 0, none⟩ z0).setCell ⟨gb472, 1, none⟩ z1).cell? ⟨gb472, 0, none⟩ = some z0 := (by intro z0 z1; go_cell); have hcy33_1 : ∀ z0 z1, ((w30.setCell ⟨gb472, 0, none⟩ z0).setCell ⟨gb472, 1, none⟩ z1).cell? ⟨gb472, 1, none⟩ = some z1 := (by intro z0 z1; go_cell)) | ((with_reducible refine gate_callee (f := 53) rfl ?_); refine goesL_ (some 33) rfl rfl Try.func53 (by kernel_rfl) rfl #[.agg #[.int .i64 a0_0, .slice A0_1 l0_1.length c0_1], .string x1_1, .agg #[.int .i64 ((rd_T52 l2 x25_1).f0), .int .i64 ((rd_T52 l2 x25_1).f1), .int .i64 ((rd_T52 l2 x25_1).f2), .int .i64 ((rd_T52 l2 x25_1).f3), .int .i64 ((rd_T52 l2 x25_1).f4), .bool ((rd_T52 l2 x25_1).f5)]] rfl (by (try simp only [List.map_toArray, List.map_cons, List.map_nil]); first | done | rfl | (simp only [List.length_drop, List.length_take]; rfl)) ?_; (with_reducible refine (cayleyref04_plain.calls k1 a0_0 _ _ l0_1 x1_1 ((rd_T52 l2 x25_1).f0) ((rd_T52 l2 x25_1).f1) ((rd_T52 l2 x25_1).f2) ((rd_T52 l2 x25_1).f3) ((rd_T52 l2 x25_1).f4) ((rd_T52 l2 x25_1).f5) t479 true _ ?side1 ?side2 A22.out).mono ?_); (case side1 => exact Kd.C_below HR0_1.out (by repeat (first | (with_reducible first | exact HB.out | apply below_alloc | apply pw_below_drewN | apply below_drew1 | refine below_set ?_ GE472.out | refine below_set ?_ GE478.out) | exact HB.out))); (case side2 => exact HC0_1.out); rintro e w34 ⟨rfl, hb⟩; refine ⟨_, rfl, ?_⟩; have n0_ := Aside0.mk (blk_below (g := gb472) (o := .cells #[.int .i64 a0_0, .slice A0_1 l0_1.length c0_1] 24 (0, 0)) (by (with_reducible repeat (first | refine blk_drewN ?_ _ | refine blk_drew ?_ | refine blk_alloc ?_ _)); refine blk_far ?_ NB472_478.out _; (with_reducible repeat (first | refine blk_drewN ?_ _ | refine blk_drew ?_ | refine blk_alloc ?_ _)); refine blk_far ?_ NB472_478.out _; (with_reducible repeat (first | refine blk_drewN ?_ _ | refine blk_drew ?_ | refine blk_alloc ?_ _)); refine blk_far ?_ NB472_478.out _; (with_reducible repeat (first | refine blk_drewN ?_ _ | refine blk_drew ?_ | refine blk_alloc ?_ _)); refine blk_far ?_ NB472_478.out _; (with_reducible repeat (first | refine blk_drewN ?_ _ | refine blk_drew ?_ | refine blk_alloc ?_ _)); refine blk_far ?_ NB472_478.out _; (with_reducible repeat (first | refine blk_drewN ?_ _ | refine blk_drew ?_ | refine blk_alloc ?_ _)); refine blk_far ?_ NB472_478.out _; (with_reducible repeat (first | refine blk_drewN ?_ _ | refine blk_drew ?_ | refine blk_alloc ?_ _)); exact BK472.out) hb); have n1_ := Aside0.mk (blk_below (g := gb478) (o := .cells #[.int .i64 ((rd_T52 l2 x25_1).f0), .int .i64 ((rd_T52 l2 x25_1).f1), .int .i64 ((rd_T52 l2 x25_1).f2), .int .i64 ((rd_T52 l2 x25_1).f3), .int .i64 ((rd_T52 l2 x25_1).f4), .bool ((rd_T52 l2 x25_1).f5)] 52 (0, 0)) (by (with_reducible repeat (first | refine blk_drewN ?_ _ | refine blk_drew ?_ | refine blk_alloc ?_ _)); refine blk_put (cs := #[.int .i64 ((rd_T52 l2 x25_1).f0), .int .i64 ((rd_T52 l2 x25_1).f1), .int .i64 ((rd_T52 l2 x25_1).f2), .int .i64 ((rd_T52 l2 x25_1).f3), .int .i64 ((rd_T52 l2 x25_1).f4), .bool false]) ?_ 5 _ rfl; (with_reducible repeat (first | refine blk_drewN ?_ _ | refine blk_drew ?_ | refine blk_alloc ?_ _)); refine blk_put (cs := #[.int .i64 ((rd_T52 l2 x25_1).f0), .int .i64 ((rd_T52 l2 x25_1).f1), .int .i64 ((rd_T52 l2 x25_1).f2), .int .i64 ((rd_T52 l2 x25_1).f3), .int .i64 0, .bool false]) ?_ 4 _ rfl; (with_reducible repeat (first | refine blk_drewN ?_ _ | refine blk_drew ?_ | refine blk_alloc ?_ _)); refine blk_put (cs := #[.int .i64 ((rd_T52 l2 x25_1).f0), .int .i64 ((rd_T52 l2 x25_1).f1), .int .i64 ((rd_T52 l2 x25_1).f2), .int .i64 0, .int .i64 0, .bool false]) ?_ 3 _ rfl; (with_reducible repeat (first | refine blk_drewN ?_ _ | refine blk_drew ?_ | refine blk_alloc ?_ _)); refine blk_put (cs := #[.int .i64 ((rd_T52 l2 x25_1).f0), .int .i64 ((rd_T52 l2 x25_1).f1), .int .i64 0, .int .i64 0, .int .i64 0, .bool false]) ?_ 2 _ rfl; (with_reducible repeat (first | refine blk_drewN ?_ _ | refine blk_drew ?_ | refine blk_alloc ?_ _)); refine blk_put (cs := #[.int .i64 ((rd_T52 l2 x25_1).f0), .int .i64 0, .int .i64 0, .int .i64 0, .int .i64 0, .bool false]) ?_ 1 _ rfl; (with_reducible repeat (first | refine blk_drewN ?_ _ | refine blk_drew ?_ | refine blk_alloc ?_ _)); refine blk_put (cs := #[.int .i64 0, .int .i64 0, .int .i64 0, .int .i64 0, .int .i64 0, .bool false]) ?_ 0 _ rfl; (with_reducible repeat (first | refine blk_drewN ?_ _ | refine blk_drew ?_ | refine blk_alloc ?_ _)); exact BK478.out) hb); have n2_ := Aside0.mk (below_step (by repeat (first | (with_reducible first | exact HB.out | apply below_alloc | apply pw_below_drewN | apply below_drew1 | refine below_set ?_ GE472.out | refine below_set ?_ GE478.out) | exact HB.out)) hb); clear BK472; clear BK478; clear HB; have BK472 := n0_; have BK478 := n1_; have HB := n2_; clear n0_ n1_ n2_; (try clear hb); (try clear hb2); (try clear hk); (try clear hi)))
                    go_roundg k1
                    case measure => have := HK1.out; omega
                    case rel => exact ⟨(t479), (wrap64 (x25_1 + 1)), (by first | rfl | (simp; done) | (simp [*]; done)), (by first | rfl | (simp; done) | (simp [*]; done)), H', ⟨by have := HK1.out; omega⟩, ⟨by (with_reducible repeat (first | refine blk_drewN ?_ _ | refine blk_drew ?_ | refine blk_alloc ?_ _)); exact BK472.out⟩, ⟨by repeat (first | (with_reducible first | exact HB.out | apply below_alloc | apply pw_below_drewN | apply below_drew1 | refine below_set ?_ GE472.out | refine below_set ?_ GE478.out) | exact HB.out)⟩⟩
                · replace c23 := Bool.eq_false_iff.mpr c23
                  subst c23
                  have H1 : (some ((⟨#[]⟩ : ByteArray), 43)) = some (r1, r2) := by rw [if_neg (show ¬ (false = true) by decide)] at H; exact H
                  clear H
                  have H := H1
                  clear H1
                  simp only [Option.some.injEq, Prod.mk.injEq] at H
                  obtain ⟨rfl, rfl⟩ := H
                  have p477 : 0 ≤ (x25_1 : Int) := of_decide_eq_true (by first | (with_reducible assumption) | assumption)
                  have q477 : x25_1 < (l2.length : Int) := of_decide_eq_true (by first | (with_reducible assumption) | assumption)
                  obtain ⟨ad477, e477, hx477_0, hx477_1, hx477_2, hx477_3, hx477_4, hx477_5⟩ := at_T52 HR2.out x25_1 p477 q477
                  cases e477
                  replace hx477_0 := (HB.out.cell (World.block_lt_of_cell? w _ hx477_0)).trans hx477_0
                  replace hx477_1 := (HB.out.cell (World.block_lt_of_cell? w _ hx477_1)).trans hx477_1
                  replace hx477_2 := (HB.out.cell (World.block_lt_of_cell? w _ hx477_2)).trans hx477_2
                  replace hx477_3 := (HB.out.cell (World.block_lt_of_cell? w _ hx477_3)).trans hx477_3
                  replace hx477_4 := (HB.out.cell (World.block_lt_of_cell? w _ hx477_4)).trans hx477_4
                  replace hx477_5 := (HB.out.cell (World.block_lt_of_cell? w _ hx477_5)).trans hx477_5
                  replace p477 := eq_true p477
                  replace q477 := eq_true q477
                  go_wp2_with (first | ((with_reducible refine gate_dst (N := 10) rfl ?_); (try (refine gate_guard (by rfl) ?_; dsimp only)); refine box_event ?hg (N := 10) ?hd (cs := #[.int .i64 0, .int .i64 0, .int .i64 0, .int .i64 0, .int .i64 0, .bool false]) (t := 52) ?hr ?_; (case hd => rfl); (case hg => rfl); (case hr => first | (go_simp; done) | (go_simp; rfl)); intro gb478 hg w35 hbox hb; have n0_ := Aside0.mk (blk_below (g := gb472) (o := .cells #[.int .i64 a0_0, .slice A0_1 l0_1.length c0_1] 24 (0, 0)) (by (with_reducible repeat (first | refine blk_drewN ?_ _ | refine blk_drew ?_ | refine blk_alloc ?_ _)); exact BK472.out) hb); have n1_ := Aside0.mk (below_step (by repeat (first | (with_reducible first | exact HB.out | apply below_alloc | apply pw_below_drewN | apply below_drew1 | refine below_set ?_ GE472.out) | exact HB.out)) hb); have n2_ := Aside0.mk (hbox); have n3_ := Aside0.mk ((by rw [hg]; exact (below_size (by repeat (first | (with_reducible first | exact HB.out | apply below_alloc | apply pw_below_drewN | apply below_drew1 | refine below_set ?_ GE472.out) | exact HB.out))) : w.heap.size ≤ gb478)); have n4_ := Aside0.mk ((by rw [hg]; exact (below_size (by repeat (first | (with_reducible first | exact HB.out | apply below_alloc | apply pw_below_drewN | apply below_drew1 | refine below_set ?_ GE472.out) | exact HB.out))) : w.heap.size ≤ gb478)); have n5_ := Aside0.mk ((by rw [hg]; exact Nat.ne_of_lt (blk_lt (g := gb472) (o := .cells #[.int .i64 a0_0, .slice A0_1 l0_1.length c0_1] 24 (0, 0)) (by (with_reducible repeat (first | refine blk_drewN ?_ _ | refine blk_drew ?_ | refine blk_alloc ?_ _)); exact BK472.out)) : gb472 ≠ gb478)); have n6_ := Aside0.mk ((by rw [hg]; exact Nat.ne_of_gt (blk_lt (g := gb472) (o := .cells #[.int .i64 a0_0, .slice A0_1 l0_1.length c0_1] 24 (0, 0)) (by (with_reducible repeat (first | refine blk_drewN ?_ _ | refine blk_drew ?_ | refine blk_alloc ?_ _)); exact BK472.out)) : gb478 ≠ gb472)); clear BK472; clear HB; have BK472 := n0_; have HB := n1_; have BK478 := n2_; have GW478 := n3_; have GE478 := n4_; have NB472_478 := n5_; have NB478_472 := n6_; clear n0_ n1_ n2_ n3_ n4_ n5_ n6_; clear hb hbox hg; have hnb36 := NB478_472.out; have hnc36 := NB472_478.out; have hcz37_0 : w35.cell? ⟨gb478, 0, none⟩ = some (.int .i64 0) := (blk_cell BK478.out 0).trans rfl; have hcz37_1 : w35.cell? ⟨gb478, 1, none⟩ = some (.int .i64 0) := (blk_cell BK478.out 1).trans rfl; have hcz37_2 : w35.cell? ⟨gb478, 2, none⟩ = some (.int .i64 0) := (blk_cell BK478.out 2).trans rfl; have hcz37_3 : w35.cell? ⟨gb478, 3, none⟩ = some (.int .i64 0) := (blk_cell BK478.out 3).trans rfl; have hcz37_4 : w35.cell? ⟨gb478, 4, none⟩ = some (.int .i64 0) := (blk_cell BK478.out 4).trans rfl; have hcz37_5 : w35.cell? ⟨gb478, 5, none⟩ = some (.bool false) := (blk_cell BK478.out 5).trans rfl; have hfz37_0 := blk_frozen BK478.out 0; have hfz37_1 := blk_frozen BK478.out 1; have hfz37_2 := blk_frozen BK478.out 2; have hfz37_3 := blk_frozen BK478.out 3; have hfz37_4 := blk_frozen BK478.out 4; have hfz37_5 := blk_frozen BK478.out 5; have hcy37_0 : ∀ z0 z1 z2 z3 z4 z5, ((((((w35.setCell ⟨gb478, 0, none⟩ z0).setCell ⟨gb478, 1, none⟩ z1).setCell ⟨gb478, 2, none⟩ z2).setCell ⟨gb478, 3, none⟩ z3).setCell ⟨gb478, 4, none⟩ z4).setCell ⟨gb478, 5, none⟩ z5).cell? ⟨gb478, 0, none⟩ = some z0 := (by intro z0 z1 z2 z3 z4 z5; go_cell); have hcy37_1 : ∀ z0 z1 z2 z3 z4 z5, ((((((w35.setCell ⟨gb478, 0, none⟩ z0).setCell ⟨gb478, 1, none⟩ z1).setCell ⟨gb478, 2, none⟩ z2).setCell ⟨gb478, 3, none⟩ z3).setCell ⟨gb478, 4, none⟩ z4).setCell ⟨gb478, 5, none⟩ z5).cell? ⟨gb478, 1, none⟩ = some z1 := (by intro z0 z1 z2 z3 z4 z5; go_cell); have hcy37_2 : ∀ z0 z1 z2 z3 z4 z5, ((((((w35.setCell ⟨gb478, 0, none⟩ z0).setCell ⟨gb478, 1, none⟩ z1).setCell ⟨gb478, 2, none⟩ z2).setCell ⟨gb478, 3, none⟩ z3).setCell ⟨gb478, 4, none⟩ z4).setCell ⟨gb478, 5, none⟩ z5).cell? ⟨gb478, 2, none⟩ = some z2 := (by intro z0 z1 z2 z3 z4 z5; go_cell); have hcy37_3 : ∀ z0 z1 z2 z3 z4 z5, ((((((w35.setCell ⟨gb478, 0, none⟩ z0).setCell ⟨gb478, 1, none⟩ z1).setCell ⟨gb478, 2, none⟩ z2).setCell ⟨gb478, 3, none⟩ z3).setCell ⟨gb478, 4, none⟩ z4).setCell ⟨gb478, 5, none⟩ z5).cell? ⟨gb478, 3, none⟩ = some z3 := (by intro z0 z1 z2 z3 z4 z5; go_cell); have hcy37_4 : ∀ z0 z1 z2 z3 z4 z5, ((((((w35.setCell ⟨gb478, 0, none⟩ z0).setCell ⟨gb478, 1, none⟩ z1).setCell ⟨gb478, 2, none⟩ z2).setCell ⟨gb478, 3, none⟩ z3).setCell ⟨gb478, 4, none⟩ z4).setCell ⟨gb478, 5, none⟩ z5).cell? ⟨gb478, 4, none⟩ = some z4 := (by intro z0 z1 z2 z3 z4 z5; go_cell); have hcy37_5 : ∀ z0 z1 z2 z3 z4 z5, ((((((w35.setCell ⟨gb478, 0, none⟩ z0).setCell ⟨gb478, 1, none⟩ z1).setCell ⟨gb478, 2, none⟩ z2).setCell ⟨gb478, 3, none⟩ z3).setCell ⟨gb478, 4, none⟩ z4).setCell ⟨gb478, 5, none⟩ z5).cell? ⟨gb478, 5, none⟩ = some z5 := (by intro z0 z1 z2 z3 z4 z5; go_cell); have hcz38_0 : w35.cell? ⟨gb472, 0, none⟩ = some (.int .i64 a0_0) := (blk_cell BK472.out 0).trans rfl; have hcz38_1 : w35.cell? ⟨gb472, 1, none⟩ = some (.slice A0_1 l0_1.length c0_1) := (blk_cell BK472.out 1).trans rfl; have hfz38_0 := blk_frozen BK472.out 0; have hfz38_1 := blk_frozen BK472.out 1; have hcy38_0 : ∀ z0 z1, ((w35.setCell ⟨gb472, 0, none⟩ z0).setCell ⟨gb472, 1, none⟩ z1).cell? ⟨gb472, 0, none⟩ = some z0 := (by intro z0 z1; go_cell); have hcy38_1 : ∀ z0 z1, ((w35.setCell ⟨gb472, 0, none⟩ z0).setCell ⟨gb472, 1, none⟩ z1).cell? ⟨gb472, 1, none⟩ = some z1 := (by intro z0 z1; go_cell)) | ((with_reducible refine gate_callee (f := 53) rfl ?_); refine goesL_ (some 33) rfl rfl Try.func53 (by kernel_rfl) rfl #[.agg #[.int .i64 a0_0, .slice A0_1 l0_1.length c0_1], .string x1_1, .agg #[.int .i64 ((rd_T52 l2 x25_1).f0), .int .i64 ((rd_T52 l2 x25_1).f1), .int .i64 ((rd_T52 l2 x25_1).f2), .int .i64 ((rd_T52 l2 x25_1).f3), .int .i64 ((rd_T52 l2 x25_1).f4), .bool ((rd_T52 l2 x25_1).f5)]] rfl (by (try simp only [List.map_toArray, List.map_cons, List.map_nil]); first | done | rfl | (simp only [List.length_drop, List.length_take]; rfl)) ?_; (with_reducible refine (cayleyref04_plain.calls k1 a0_0 _ _ l0_1 x1_1 ((rd_T52 l2 x25_1).f0) ((rd_T52 l2 x25_1).f1) ((rd_T52 l2 x25_1).f2) ((rd_T52 l2 x25_1).f3) ((rd_T52 l2 x25_1).f4) ((rd_T52 l2 x25_1).f5) t479 false _ ?side1 ?side2 A22.out).mono ?_); (case side1 => exact Kd.C_below HR0_1.out (by repeat (first | (with_reducible first | exact HB.out | apply below_alloc | apply pw_below_drewN | apply below_drew1 | refine below_set ?_ GE472.out | refine below_set ?_ GE478.out) | exact HB.out))); (case side2 => exact HC0_1.out); rintro e w39 ⟨rfl, hb⟩; refine ⟨_, rfl, ?_⟩; have n0_ := Aside0.mk (blk_below (g := gb472) (o := .cells #[.int .i64 a0_0, .slice A0_1 l0_1.length c0_1] 24 (0, 0)) (by (with_reducible repeat (first | refine blk_drewN ?_ _ | refine blk_drew ?_ | refine blk_alloc ?_ _)); refine blk_far ?_ NB472_478.out _; (with_reducible repeat (first | refine blk_drewN ?_ _ | refine blk_drew ?_ | refine blk_alloc ?_ _)); refine blk_far ?_ NB472_478.out _; (with_reducible repeat (first | refine blk_drewN ?_ _ | refine blk_drew ?_ | refine blk_alloc ?_ _)); refine blk_far ?_ NB472_478.out _; (with_reducible repeat (first | refine blk_drewN ?_ _ | refine blk_drew ?_ | refine blk_alloc ?_ _)); refine blk_far ?_ NB472_478.out _; (with_reducible repeat (first | refine blk_drewN ?_ _ | refine blk_drew ?_ | refine blk_alloc ?_ _)); refine blk_far ?_ NB472_478.out _; (with_reducible repeat (first | refine blk_drewN ?_ _ | refine blk_drew ?_ | refine blk_alloc ?_ _)); refine blk_far ?_ NB472_478.out _; (with_reducible repeat (first | refine blk_drewN ?_ _ | refine blk_drew ?_ | refine blk_alloc ?_ _)); exact BK472.out) hb); have n1_ := Aside0.mk (blk_below (g := gb478) (o := .cells #[.int .i64 ((rd_T52 l2 x25_1).f0), .int .i64 ((rd_T52 l2 x25_1).f1), .int .i64 ((rd_T52 l2 x25_1).f2), .int .i64 ((rd_T52 l2 x25_1).f3), .int .i64 ((rd_T52 l2 x25_1).f4), .bool ((rd_T52 l2 x25_1).f5)] 52 (0, 0)) (by (with_reducible repeat (first | refine blk_drewN ?_ _ | refine blk_drew ?_ | refine blk_alloc ?_ _)); refine blk_put (cs := #[.int .i64 ((rd_T52 l2 x25_1).f0), .int .i64 ((rd_T52 l2 x25_1).f1), .int .i64 ((rd_T52 l2 x25_1).f2), .int .i64 ((rd_T52 l2 x25_1).f3), .int .i64 ((rd_T52 l2 x25_1).f4), .bool false]) ?_ 5 _ rfl; (with_reducible repeat (first | refine blk_drewN ?_ _ | refine blk_drew ?_ | refine blk_alloc ?_ _)); refine blk_put (cs := #[.int .i64 ((rd_T52 l2 x25_1).f0), .int .i64 ((rd_T52 l2 x25_1).f1), .int .i64 ((rd_T52 l2 x25_1).f2), .int .i64 ((rd_T52 l2 x25_1).f3), .int .i64 0, .bool false]) ?_ 4 _ rfl; (with_reducible repeat (first | refine blk_drewN ?_ _ | refine blk_drew ?_ | refine blk_alloc ?_ _)); refine blk_put (cs := #[.int .i64 ((rd_T52 l2 x25_1).f0), .int .i64 ((rd_T52 l2 x25_1).f1), .int .i64 ((rd_T52 l2 x25_1).f2), .int .i64 0, .int .i64 0, .bool false]) ?_ 3 _ rfl; (with_reducible repeat (first | refine blk_drewN ?_ _ | refine blk_drew ?_ | refine blk_alloc ?_ _)); refine blk_put (cs := #[.int .i64 ((rd_T52 l2 x25_1).f0), .int .i64 ((rd_T52 l2 x25_1).f1), .int .i64 0, .int .i64 0, .int .i64 0, .bool false]) ?_ 2 _ rfl; (with_reducible repeat (first | refine blk_drewN ?_ _ | refine blk_drew ?_ | refine blk_alloc ?_ _)); refine blk_put (cs := #[.int .i64 ((rd_T52 l2 x25_1).f0), .int .i64 0, .int .i64 0, .int .i64 0, .int .i64 0, .bool false]) ?_ 1 _ rfl; (with_reducible repeat (first | refine blk_drewN ?_ _ | refine blk_drew ?_ | refine blk_alloc ?_ _)); refine blk_put (cs := #[.int .i64 0, .int .i64 0, .int .i64 0, .int .i64 0, .int .i64 0, .bool false]) ?_ 0 _ rfl; (with_reducible repeat (first | refine blk_drewN ?_ _ | refine blk_drew ?_ | refine blk_alloc ?_ _)); exact BK478.out) hb); have n2_ := Aside0.mk (below_step (by repeat (first | (with_reducible first | exact HB.out | apply below_alloc | apply pw_below_drewN | apply below_drew1 | refine below_set ?_ GE472.out | refine below_set ?_ GE478.out) | exact HB.out)) hb); clear BK472; clear BK478; clear HB; have BK472 := n0_; have BK478 := n1_; have HB := n2_; clear n0_ n1_ n2_; (try clear hb); (try clear hb2); (try clear hk); (try clear hi)))
                  go_ret2
                  exact ⟨by first | rfl | (simp [errW_none, errW_some] <;> rfl) | (simp [*, errW_none, errW_some] <;> rfl), by repeat (first | (with_reducible first | exact HB.out | apply below_alloc | apply pw_below_drewN | apply below_drew1 | refine below_set ?_ GE472.out | refine below_set ?_ GE478.out) | exact HB.out)⟩
              · rw [if_neg c21] at H
                exact absurd H (by simp)
            · rw [if_neg c20] at H
              exact absurd H (by simp)
          · rw [if_neg c19] at H
            have c19b0 : decide (x25_1 < (l2.length : Int)) = false := decide_eq_false c19
            clear c19
            simp only [Option.some.injEq, Prod.mk.injEq] at H
            obtain ⟨rfl, rfl⟩ := H
            go_wp2
            go_ret2
            exact ⟨by first | rfl | (simp [errW_none, errW_some] <;> rfl) | (simp [*, errW_none, errW_some] <;> rfl), by repeat (first | (with_reducible first | exact HB.out | apply below_alloc | apply pw_below_drewN | apply below_drew1 | refine below_set ?_ GE472.out) | exact HB.out)⟩
  · rw [if_neg c5] at H
    have c5b0 : (t476 == 0) = false := beq_eq_false_iff_ne.mpr c5
    have c5b1 : (t476 != 0) = true := bne_iff_ne.mpr c5
    simp only [Option.some.injEq, Prod.mk.injEq] at H
    obtain ⟨rfl, rfl⟩ := H
    go_enter Try.func30, Try.ntmps30
    go_wp2_with (first | ((with_reducible refine gate_dst (N := 3) rfl ?_); (try (refine gate_guard (by rfl) ?_; dsimp only)); refine box_event ?hg (N := 3) ?hd (cs := #[.int .i64 a0_0, .slice A0_1 l0_1.length c0_1]) (t := 24) ?hr ?_; (case hd => rfl); (case hg => rfl); (case hr => first | (go_simp; done) | (go_simp; rfl)); intro gb472 hg w40 hbox hb; have n0_ := Aside0.mk (below_step (by repeat (first | (with_reducible first | exact HB.out | apply below_alloc | apply pw_below_drewN | apply below_drew1) | exact HB.out)) hb); have n1_ := Aside0.mk (hbox); have n2_ := Aside0.mk ((by rw [hg]; exact (below_size (by repeat (first | (with_reducible first | exact HB.out | apply below_alloc | apply pw_below_drewN | apply below_drew1) | exact HB.out))) : w.heap.size ≤ gb472)); have n3_ := Aside0.mk ((by rw [hg]; exact (below_size (by repeat (first | (with_reducible first | exact HB.out | apply below_alloc | apply pw_below_drewN | apply below_drew1) | exact HB.out))) : w.heap.size ≤ gb472)); clear HB; have HB := n0_; have BK472 := n1_; have GW472 := n2_; have GE472 := n3_; clear n0_ n1_ n2_ n3_; clear hb hbox hg; have hcz41_0 : w40.cell? ⟨gb472, 0, none⟩ = some (.int .i64 a0_0) := (blk_cell BK472.out 0).trans rfl; have hcz41_1 : w40.cell? ⟨gb472, 1, none⟩ = some (.slice A0_1 l0_1.length c0_1) := (blk_cell BK472.out 1).trans rfl; have hfz41_0 := blk_frozen BK472.out 0; have hfz41_1 := blk_frozen BK472.out 1; have hcy41_0 : ∀ z0 z1, ((w40.setCell ⟨gb472, 0, none⟩ z0).setCell ⟨gb472, 1, none⟩ z1).cell? ⟨gb472, 0, none⟩ = some z0 := (by intro z0 z1; go_cell); have hcy41_1 : ∀ z0 z1, ((w40.setCell ⟨gb472, 0, none⟩ z0).setCell ⟨gb472, 1, none⟩ z1).cell? ⟨gb472, 1, none⟩ = some z1 := (by intro z0 z1; go_cell)) | ((with_reducible refine gate_dst (N := 15) rfl ?_); (try (refine gate_guard (by rfl) ?_; dsimp only)); refine Kd.R_lit Kd.string _ 9 ?hg (N := 15) ?hd (xs := ([a1] : List ByteArray)) (inner := [.string a1]) (ok := fun _ => True) (okp := fun _ => True) ?hr ?hp (fun _ hk => hk) trivial (Below.refl _ _) (Nat.le_refl _) (by simp) ?_; (case hd => rfl); (case hg => rfl); (case hr => first | (go_simp; done) | (go_simp; rfl)); (case hp => exact (Reps.one (show Kd.M Kd.string _ _ _ a1 [.string a1] from rfl) (Reps.none _ _))); intro v474 w42 ho43 hb hg_ hnew_; clear hg_ hnew_; (first | rw [← Ny473.out] at ho43 | (simp only [Int.reduceToNat] at ho43; rw [← Ny473.out] at ho43)); have n0_ := Aside0.mk (Kd.R_lower ho43 (below_size (by repeat (first | (with_reducible first | exact HB.out | apply below_alloc | apply pw_below_drewN | apply below_drew1 | refine below_set ?_ GE472.out) | exact HB.out)))); have n1_ := Aside0.mk (blk_below (g := gb472) (o := .cells #[.int .i64 a0_0, .slice A0_1 l0_1.length c0_1] 24 (0, 0)) (by (with_reducible repeat (first | refine blk_drewN ?_ _ | refine blk_drew ?_ | refine blk_alloc ?_ _)); exact BK472.out) hb); have n2_ := Aside0.mk (below_step (by repeat (first | (with_reducible first | exact HB.out | apply below_alloc | apply pw_below_drewN | apply below_drew1 | refine below_set ?_ GE472.out) | exact HB.out)) hb); clear BK472; clear HB; have HO475 := n0_; have BK472 := n1_; have HB := n2_; clear n0_ n1_ n2_; clear hb ho43; obtain ⟨Ao44, co44, eo44⟩ := Kd.R_slice HO475.out; subst eo44) | ((with_reducible refine gate_callee (f := 36) rfl ?_); refine goesL_ (some 16) rfl rfl Try.func36 (by kernel_rfl) rfl #[.agg #[.int .i64 a0_0, .slice A0_1 l0_1.length c0_1], .slice Ao44 y473.length co44, .slice none 0 0] rfl (by (try simp only [List.map_toArray, List.map_cons, List.map_nil]); first | done | rfl | (simp only [List.length_drop, List.length_take]; rfl)) ?_; (refine (cayleyref04_checked.calls k a0_0 _ _ l0_1 _ _ y473 _ _ ([] : List (List (S59))) t476 _ ?side1 ?side2 ?side3 ?side4 ?side5 ?side6 A4.out).mono ?_); (case side1 => repeat (first | exact (Kd.C_below HR0_1.out HB.out) | (with_reducible refine Kd.C_alloc ?_ _) | (with_reducible refine Kd.C_drewN ?_ _) | (with_reducible refine Kd.C_drew ?_))); (case side2 => exact HC0_1.out); (case side3 => repeat (first | exact (Kd.R_reads' HO475.out).2.2 | (with_reducible refine Kd.C_alloc ?_ _) | (with_reducible refine Kd.C_drewN ?_ _) | (with_reducible refine Kd.C_drew ?_))); (case side4 => exact (Kd.R_reads' HO475.out).2.1); (case side5 => exact Kd.C_nil _ _); (case side6 => exact Nat.le_refl _); rintro e w45 ⟨rfl, hb⟩; refine ⟨_, rfl, ?_⟩; have n0_ := Aside0.mk (Kd.R_below (by (with_reducible repeat (first | apply Kd.R_alloc | apply Kd.R_drewN | apply Kd.R_drew)); exact HO475.out) hb); have n1_ := Aside0.mk (blk_below (g := gb472) (o := .cells #[.int .i64 a0_0, .slice A0_1 l0_1.length c0_1] 24 (0, 0)) (by (with_reducible repeat (first | refine blk_drewN ?_ _ | refine blk_drew ?_ | refine blk_alloc ?_ _)); exact BK472.out) hb); have n2_ := Aside0.mk (below_step (by repeat (first | (with_reducible first | exact HB.out | apply below_alloc | apply pw_below_drewN | apply below_drew1 | refine below_set ?_ GE472.out) | exact HB.out)) hb); clear HO475; clear BK472; clear HB; have HO475 := n0_; have BK472 := n1_; have HB := n2_; clear n0_ n1_ n2_; (try clear hb); (try clear hb2); (try clear hk); (try clear hi)))
    go_ret2
    exact ⟨by first | rfl | (simp [errW_none, errW_some] <;> rfl) | (simp [*, errW_none, errW_some] <;> rfl), by repeat (first | (with_reducible first | exact HB.out | apply below_alloc | apply pw_below_drewN | apply below_drew1 | refine below_set ?_ GE472.out) | exact HB.out)⟩
end Go.Proofs.Ytmmichdlgjcmoaa.PAll
