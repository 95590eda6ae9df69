import Derived.Test.YtmmichdlgjcmoaaPAllx0
import Derived.Test.YtmmichdlgjcmoaaPAllx3
import Derived.Test.YtmmichdlgjcmoaaPAllx8
import Derived.Test.YtmmichdlgjcmoaaPAllx15
import Derived.Test.YtmmichdlgjcmoaaExtM
import Derived.Test.YtmmichdlgjcmoaaPureP
import Derived.Deep.DeepMust
import Derived.Deep.RegionHeld3
import Derived.Deep.QuietTactic
import Derived.BigQuiet
namespace Go.Proofs.Ytmmichdlgjcmoaa.PAll
open Go.RowKit Go.Proofs.YtmmichdlgjcmoaaW.PrintWords Go.Proofs.YtmmichdlgjcmoaaW.PrintLast Go.Proofs.YtmmichdlgjcmoaaW.PrintMore H
set_option linter.unusedVariables false
set_option linter.unusedSimpArgs false
namespace H
theorem sum_calls (ys : List Int) (hy : ImgOk ys) (s : ByteArray) (hs : s.size ≤ 1000000000) (hL : allL (bytesOf s)) (b : Nat) (w : World) (hC : Kd.C (Kd.int .i64) w (some ⟨b, 0, none⟩) 8 ys) : Calls Try.prog 28 #[.string s, .slice (some ⟨b, 0, none⟩) 8 8] w fun e w' => e = .returned (.int .i64 (sumL ys (bytesOf s))) ∧ Below w.heap.size w w' := by
  obtain ⟨k, hk⟩ := (ref_Sum_ev ys hy s hs hL).rounds
  have hl := hy.1
  have := cayleyref04_Sum.calls k s (some ⟨b, 0, none⟩) 8 ys _ w (by rw [hl]; exact hC) (by omega) hk
  rw [hl] at this
  exact this.mono fun _ _ h => ⟨h.1, h.2.below⟩
theorem sane_to (w : World) : Calls Try.prog 13 #[] w fun e w' => e = .returned (.bool true) ∧ Below w.heap.size w w' := by
  obtain ⟨k, hk⟩ := sane_ev.rounds
  exact cayleylaw04_sane.calls k true w hk
theorem isPres_to (g : Int) (A : Option Addr) (c : Nat) (rels : List ByteArray) (b : Bool) (hb : isPresS g rels = b) (w : World) (hC : Kd.C Kd.string w A rels.length rels) (hc : rels.length ≤ c) : Calls Try.prog 27 #[.agg #[.int .i64 g, .slice A rels.length c]] w fun e w' => e = .returned (.bool b) ∧ Below w.heap.size w w' := by
  obtain ⟨k, hk⟩ := (ref_IsPres_ev g rels).rounds
  rw [hb] at hk
  exact cayleyref04_IsPres.calls k g A c rels b w hC hc hk
theorem boundary_to (g : Int) (A : Option Addr) (c : Nat) (rels : List ByteArray) (A1 : Option Addr) (c1 : Nat) (d : List S59) (b : ByteArray) (r : Int) (hr : BoundaryS g rels d = (b, r)) (w : World) (hC : Kd.C Kd.string w A rels.length rels) (hc : rels.length ≤ c) (hD : Kd.C k59 w A1 d.length d) (hc1 : d.length ≤ c1) :
    Calls Try.prog 12 #[.agg #[.int .i64 g, .slice A rels.length c], .slice A1 d.length c1] w fun e w' => e = .returned (.tuple #[.string b, .int .i64 r]) ∧ Below w.heap.size w w' := by
  obtain ⟨k, hk⟩ := (disk_Boundary_ev g rels d).rounds
  rw [hr] at hk
  exact disk_Boundary.calls k g A c rels (fun k_ => k_ < w.heap.size) A1 c1 d b r w hC hc (Kd.V_mk hc1 (Kd.C_F k59_heap hD)) hk
theorem img_C (W : World) (b : Nat) (cs : Array Value) (ys : List Int) (hl : ys.length = 8) (hcs : cs = (ys.map (Value.int .i64)).toArray) (h : W.heap[b]? = some (.cells cs 39 (0, 0))) : Kd.C (Kd.int .i64) W (some ⟨b, 0, none⟩) 8 ys := by
  subst hcs
  refine Kd.C_of_reads (enc := Value.int .i64) (d := (0 : Int)) (h1 := fun _ => rfl) ⟨hl, by omega, fun _ => ⟨_, rfl, fun j hj => ?_⟩⟩
  rw [add_plain]
  unfold World.cell?
  rw [h]
  have hj' : j < ys.length := by omega
  simp [hj']
theorem img_at0 (y0 y1 y2 y3 y4 y5 y6 y7 : Int) (w : World) : (Instr.index 39 (.agg #[.int .i64 y0, .int .i64 y1, .int .i64 y2, .int .i64 y3, .int .i64 y4, .int .i64 y5, .int .i64 y6, .int .i64 y7]) (.int .i64 0)).run Try.prog w = .ok (.int .i64 y0) w := by simp [Instr.index, run_underlying Try.underlying39, go_sem]
theorem img_at1 (y0 y1 y2 y3 y4 y5 y6 y7 : Int) (w : World) : (Instr.index 39 (.agg #[.int .i64 y0, .int .i64 y1, .int .i64 y2, .int .i64 y3, .int .i64 y4, .int .i64 y5, .int .i64 y6, .int .i64 y7]) (.int .i64 1)).run Try.prog w = .ok (.int .i64 y1) w := by simp [Instr.index, run_underlying Try.underlying39, go_sem]
theorem img_at2 (y0 y1 y2 y3 y4 y5 y6 y7 : Int) (w : World) : (Instr.index 39 (.agg #[.int .i64 y0, .int .i64 y1, .int .i64 y2, .int .i64 y3, .int .i64 y4, .int .i64 y5, .int .i64 y6, .int .i64 y7]) (.int .i64 2)).run Try.prog w = .ok (.int .i64 y2) w := by simp [Instr.index, run_underlying Try.underlying39, go_sem]
theorem img_at3 (y0 y1 y2 y3 y4 y5 y6 y7 : Int) (w : World) : (Instr.index 39 (.agg #[.int .i64 y0, .int .i64 y1, .int .i64 y2, .int .i64 y3, .int .i64 y4, .int .i64 y5, .int .i64 y6, .int .i64 y7]) (.int .i64 3)).run Try.prog w = .ok (.int .i64 y3) w := by simp [Instr.index, run_underlying Try.underlying39, go_sem]
theorem img_at4 (y0 y1 y2 y3 y4 y5 y6 y7 : Int) (w : World) : (Instr.index 39 (.agg #[.int .i64 y0, .int .i64 y1, .int .i64 y2, .int .i64 y3, .int .i64 y4, .int .i64 y5, .int .i64 y6, .int .i64 y7]) (.int .i64 4)).run Try.prog w = .ok (.int .i64 y4) w := by simp [Instr.index, run_underlying Try.underlying39, go_sem]
theorem img_at5 (y0 y1 y2 y3 y4 y5 y6 y7 : Int) (w : World) : (Instr.index 39 (.agg #[.int .i64 y0, .int .i64 y1, .int .i64 y2, .int .i64 y3, .int .i64 y4, .int .i64 y5, .int .i64 y6, .int .i64 y7]) (.int .i64 5)).run Try.prog w = .ok (.int .i64 y5) w := by simp [Instr.index, run_underlying Try.underlying39, go_sem]
theorem img_at6 (y0 y1 y2 y3 y4 y5 y6 y7 : Int) (w : World) : (Instr.index 39 (.agg #[.int .i64 y0, .int .i64 y1, .int .i64 y2, .int .i64 y3, .int .i64 y4, .int .i64 y5, .int .i64 y6, .int .i64 y7]) (.int .i64 6)).run Try.prog w = .ok (.int .i64 y6) w := by simp [Instr.index, run_underlying Try.underlying39, go_sem]
theorem img_at7 (y0 y1 y2 y3 y4 y5 y6 y7 : Int) (w : World) : (Instr.index 39 (.agg #[.int .i64 y0, .int .i64 y1, .int .i64 y2, .int .i64 y3, .int .i64 y4, .int .i64 y5, .int .i64 y6, .int .i64 y7]) (.int .i64 7)).run Try.prog w = .ok (.int .i64 y7) w := by simp [Instr.index, run_underlying Try.underlying39, go_sem]
theorem name_world {K : World → Prop} {B : Nat} {w0 w : World} (h2 : Below B w0 w) (h : ∀ W, Below B w0 W → K W) : K w := h w h2
theorem bound_zero {ys : List Int} {g : Int} {rels : List ByteArray} {d : List S59} {b : ByteArray} (hz : Zero ys rels) (h : BoundaryS g rels d = (b, 0)) : b.size ≤ 1000000000 ∧ allL (bytesOf b) ∧ sumL ys (bytesOf b) = 0 := by
  unfold BoundaryS at h
  by_cases he : examineS g rels [] [d] = 0
  · rw [if_pos he] at h
    obtain ⟨rfl, _⟩ := Prod.mk.inj h
    obtain ⟨hp, _, hd⟩ := examine_zero he
    have hd := hd d (by simp)
    have hok := diskOk_of hp hd
    have h1 := bound_size hok
    rw [bytesOf_bound hok]
    exact ⟨by omega, boundL_L hok, sum_bound hz hp hd⟩
  · rw [if_neg he] at h
    exact absurd (Prod.mk.inj h).2 he
set_option maxHeartbeats 3200000 in
set_option maxRecDepth 100000 in
theorem invariant_calls (g : Int) (A : Option Addr) (c : Nat) (rels : List ByteArray) (y0 y1 y2 y3 y4 y5 y6 y7 : Int) (A1 : Option Addr) (c1 : Nat) (d : List S59) (s : ByteArray) (A4 : Option Addr) (c4 : Nat) (ms : List S52) (w : World) (hC : Kd.C Kd.string w A rels.length rels) (hc : rels.length ≤ c) (hD : Kd.C k59 w A1 d.length d) (hc1 : d.length ≤ c1) (hM : Kd.C k52 w A4 ms.length ms) (hc4 : ms.length ≤ c4) :
    Calls Try.prog 6 #[.agg #[.int .i64 g, .slice A rels.length c], .agg #[.int .i64 y0, .int .i64 y1, .int .i64 y2, .int .i64 y3, .int .i64 y4, .int .i64 y5, .int .i64 y6, .int .i64 y7], .slice A1 d.length c1, .string s, .slice A4 ms.length c4] w fun e w' => e = .returned (.bool true) ∧ Below w.heap.size w w' := by
  have HR := Aside0.mk hC
  have HRC := Aside0.mk hc
  have HD := Aside0.mk hD
  have HDC := Aside0.mk hc1
  have HM := Aside0.mk hM
  have HMC := Aside0.mk hc4
  have hrm : rels.length ≤ 9223372036854775807 := Kd.C_max hC
  clear hC hc hD hc1 hM hc4
  obtain ⟨W1, hW1⟩ : ∃ W1, W1 = w.alloc (.cells #[.int .i64 g, .slice A rels.length c] 24) := ⟨_, rfl⟩
  obtain ⟨W2, hW2⟩ : ∃ W2, W2 = W1.alloc (.cells #[.int .i64 y0, .int .i64 y1, .int .i64 y2, .int .i64 y3, .int .i64 y4, .int .i64 y5, .int .i64 y6, .int .i64 y7] 39) := ⟨_, rfl⟩
  have z1 : W1.heap.size = w.heap.size + 1 := by rw [hW1, World.size_alloc]
  have HP : Aside0 (W2.heap[w.heap.size]? = some (.cells #[.int .i64 g, .slice A rels.length c] 24 (0, 0))) := ⟨by rw [hW2]; exact blk_alloc (by rw [hW1]; exact Go.heap_alloc_new _ _) _⟩
  have HI : Aside0 (W2.heap[w.heap.size + 1]? = some (.cells #[.int .i64 y0, .int .i64 y1, .int .i64 y2, .int .i64 y3, .int .i64 y4, .int .i64 y5, .int .i64 y6, .int .i64 y7] 39 (0, 0))) := ⟨by rw [hW2, ← z1]; exact Go.heap_alloc_new _ _⟩
  have HB2 : Aside0 (Below w.heap.size w W2) := ⟨by rw [hW2, hW1]; exact below_alloc (below_alloc (Below.refl _ _) _) _⟩
  clear z1
  go_enter Try.func6, Try.ntmps6
  go_wp2_with (fail)
  rw [← hW1, ← hW2]
  clear hW1 hW2
  go_loop [20] (fun i => ∃ k : Nat, k ≤ 8 ∧ i = .int .i64 k ∧ Aside0 (∀ j : Nat, j < k → -1000000000 ≤ rd [y0, y1, y2, y3, y4, y5, y6, y7] (j : Int) ∧ rd [y0, y1, y2, y3, y4, y5, y6, y7] (j : Int) ≤ 1000000000)) (fun i => 8 - (intOf i).toNat)
  case atStart => exact ⟨0, by omega, rfl, ⟨fun j hj => absurd hj (Nat.not_lt_zero _)⟩⟩
  case round =>
    obtain ⟨k, hk, rfl, HK⟩ := hrel
    by_cases hlt : k < 8
    · have hk8 : k = 0 ∨ k = 1 ∨ k = 2 ∨ k = 3 ∨ k = 4 ∨ k = 5 ∨ k = 6 ∨ k = 7 := by omega
      rcases hk8 with rfl | rfl | rfl | rfl | rfl | rfl | rfl | rfl
      · have hix := fun w => img_at0 y0 y1 y2 y3 y4 y5 y6 y7 w
        by_cases a1 : y0 < -1000000000
        · go_wp2_with (go_at_call 13; refine (sane_to _).mono ?_; rintro e w' ⟨rfl, hb⟩; have HBS := Aside0.mk (below_step HB2.out hb); clear hb)
          go_ret
          exact ⟨rfl, HBS.out⟩
        · by_cases a2 : y0 > 1000000000
          · go_wp2_with (go_at_call 13; refine (sane_to _).mono ?_; rintro e w' ⟨rfl, hb⟩; have HBS := Aside0.mk (below_step HB2.out hb); clear hb)
            go_ret
            exact ⟨rfl, HBS.out⟩
          · go_wp2
            go_round
            case rel => exact ⟨1, by omega, by go_num, ⟨fun j hj => by
              by_cases hj' : j < 0
              · exact HK.out j hj'
              · rw [show j = 0 by omega]; exact ⟨by show _ ≤ y0; omega, by show y0 ≤ _; omega⟩⟩⟩
            case measure => simp [intOf]
      · have hix := fun w => img_at1 y0 y1 y2 y3 y4 y5 y6 y7 w
        by_cases a1 : y1 < -1000000000
        · go_wp2_with (go_at_call 13; refine (sane_to _).mono ?_; rintro e w' ⟨rfl, hb⟩; have HBS := Aside0.mk (below_step HB2.out hb); clear hb)
          go_ret
          exact ⟨rfl, HBS.out⟩
        · by_cases a2 : y1 > 1000000000
          · go_wp2_with (go_at_call 13; refine (sane_to _).mono ?_; rintro e w' ⟨rfl, hb⟩; have HBS := Aside0.mk (below_step HB2.out hb); clear hb)
            go_ret
            exact ⟨rfl, HBS.out⟩
          · go_wp2
            go_round
            case rel => exact ⟨2, by omega, by go_num, ⟨fun j hj => by
              by_cases hj' : j < 1
              · exact HK.out j hj'
              · rw [show j = 1 by omega]; exact ⟨by show _ ≤ y1; omega, by show y1 ≤ _; omega⟩⟩⟩
            case measure => simp [intOf]
      · have hix := fun w => img_at2 y0 y1 y2 y3 y4 y5 y6 y7 w
        by_cases a1 : y2 < -1000000000
        · go_wp2_with (go_at_call 13; refine (sane_to _).mono ?_; rintro e w' ⟨rfl, hb⟩; have HBS := Aside0.mk (below_step HB2.out hb); clear hb)
          go_ret
          exact ⟨rfl, HBS.out⟩
        · by_cases a2 : y2 > 1000000000
          · go_wp2_with (go_at_call 13; refine (sane_to _).mono ?_; rintro e w' ⟨rfl, hb⟩; have HBS := Aside0.mk (below_step HB2.out hb); clear hb)
            go_ret
            exact ⟨rfl, HBS.out⟩
          · go_wp2
            go_round
            case rel => exact ⟨3, by omega, by go_num, ⟨fun j hj => by
              by_cases hj' : j < 2
              · exact HK.out j hj'
              · rw [show j = 2 by omega]; exact ⟨by show _ ≤ y2; omega, by show y2 ≤ _; omega⟩⟩⟩
            case measure => simp [intOf]
      · have hix := fun w => img_at3 y0 y1 y2 y3 y4 y5 y6 y7 w
        by_cases a1 : y3 < -1000000000
        · go_wp2_with (go_at_call 13; refine (sane_to _).mono ?_; rintro e w' ⟨rfl, hb⟩; have HBS := Aside0.mk (below_step HB2.out hb); clear hb)
          go_ret
          exact ⟨rfl, HBS.out⟩
        · by_cases a2 : y3 > 1000000000
          · go_wp2_with (go_at_call 13; refine (sane_to _).mono ?_; rintro e w' ⟨rfl, hb⟩; have HBS := Aside0.mk (below_step HB2.out hb); clear hb)
            go_ret
            exact ⟨rfl, HBS.out⟩
          · go_wp2
            go_round
            case rel => exact ⟨4, by omega, by go_num, ⟨fun j hj => by
              by_cases hj' : j < 3
              · exact HK.out j hj'
              · rw [show j = 3 by omega]; exact ⟨by show _ ≤ y3; omega, by show y3 ≤ _; omega⟩⟩⟩
            case measure => simp [intOf]
      · have hix := fun w => img_at4 y0 y1 y2 y3 y4 y5 y6 y7 w
        by_cases a1 : y4 < -1000000000
        · go_wp2_with (go_at_call 13; refine (sane_to _).mono ?_; rintro e w' ⟨rfl, hb⟩; have HBS := Aside0.mk (below_step HB2.out hb); clear hb)
          go_ret
          exact ⟨rfl, HBS.out⟩
        · by_cases a2 : y4 > 1000000000
          · go_wp2_with (go_at_call 13; refine (sane_to _).mono ?_; rintro e w' ⟨rfl, hb⟩; have HBS := Aside0.mk (below_step HB2.out hb); clear hb)
            go_ret
            exact ⟨rfl, HBS.out⟩
          · go_wp2
            go_round
            case rel => exact ⟨5, by omega, by go_num, ⟨fun j hj => by
              by_cases hj' : j < 4
              · exact HK.out j hj'
              · rw [show j = 4 by omega]; exact ⟨by show _ ≤ y4; omega, by show y4 ≤ _; omega⟩⟩⟩
            case measure => simp [intOf]
      · have hix := fun w => img_at5 y0 y1 y2 y3 y4 y5 y6 y7 w
        by_cases a1 : y5 < -1000000000
        · go_wp2_with (go_at_call 13; refine (sane_to _).mono ?_; rintro e w' ⟨rfl, hb⟩; have HBS := Aside0.mk (below_step HB2.out hb); clear hb)
          go_ret
          exact ⟨rfl, HBS.out⟩
        · by_cases a2 : y5 > 1000000000
          · go_wp2_with (go_at_call 13; refine (sane_to _).mono ?_; rintro e w' ⟨rfl, hb⟩; have HBS := Aside0.mk (below_step HB2.out hb); clear hb)
            go_ret
            exact ⟨rfl, HBS.out⟩
          · go_wp2
            go_round
            case rel => exact ⟨6, by omega, by go_num, ⟨fun j hj => by
              by_cases hj' : j < 5
              · exact HK.out j hj'
              · rw [show j = 5 by omega]; exact ⟨by show _ ≤ y5; omega, by show y5 ≤ _; omega⟩⟩⟩
            case measure => simp [intOf]
      · have hix := fun w => img_at6 y0 y1 y2 y3 y4 y5 y6 y7 w
        by_cases a1 : y6 < -1000000000
        · go_wp2_with (go_at_call 13; refine (sane_to _).mono ?_; rintro e w' ⟨rfl, hb⟩; have HBS := Aside0.mk (below_step HB2.out hb); clear hb)
          go_ret
          exact ⟨rfl, HBS.out⟩
        · by_cases a2 : y6 > 1000000000
          · go_wp2_with (go_at_call 13; refine (sane_to _).mono ?_; rintro e w' ⟨rfl, hb⟩; have HBS := Aside0.mk (below_step HB2.out hb); clear hb)
            go_ret
            exact ⟨rfl, HBS.out⟩
          · go_wp2
            go_round
            case rel => exact ⟨7, by omega, by go_num, ⟨fun j hj => by
              by_cases hj' : j < 6
              · exact HK.out j hj'
              · rw [show j = 6 by omega]; exact ⟨by show _ ≤ y6; omega, by show y6 ≤ _; omega⟩⟩⟩
            case measure => simp [intOf]
      · have hix := fun w => img_at7 y0 y1 y2 y3 y4 y5 y6 y7 w
        by_cases a1 : y7 < -1000000000
        · go_wp2_with (go_at_call 13; refine (sane_to _).mono ?_; rintro e w' ⟨rfl, hb⟩; have HBS := Aside0.mk (below_step HB2.out hb); clear hb)
          go_ret
          exact ⟨rfl, HBS.out⟩
        · by_cases a2 : y7 > 1000000000
          · go_wp2_with (go_at_call 13; refine (sane_to _).mono ?_; rintro e w' ⟨rfl, hb⟩; have HBS := Aside0.mk (below_step HB2.out hb); clear hb)
            go_ret
            exact ⟨rfl, HBS.out⟩
          · go_wp2
            go_round
            case rel => exact ⟨8, by omega, by go_num, ⟨fun j hj => by
              by_cases hj' : j < 7
              · exact HK.out j hj'
              · rw [show j = 7 by omega]; exact ⟨by show _ ≤ y7; omega, by show y7 ≤ _; omega⟩⟩⟩
            case measure => simp [intOf]
    · have hke : k = 8 := by omega
      subst hke
      obtain ⟨ys, hys⟩ : ∃ ys, ys = ([y0, y1, y2, y3, y4, y5, y6, y7] : List Int) := ⟨_, rfl⟩
      have HIM : Aside0 (ImgOk ys) := ⟨by rw [hys]; rfl, fun y hy => by
        rw [hys] at hy
        simp only [List.mem_cons, List.not_mem_nil, or_false] at hy
        rcases hy with rfl | rfl | rfl | rfl | rfl | rfl | rfl | rfl
        · exact HK.out 0 (by omega)
        · exact HK.out 1 (by omega)
        · exact HK.out 2 (by omega)
        · exact HK.out 3 (by omega)
        · exact HK.out 4 (by omega)
        · exact HK.out 5 (by omega)
        · exact HK.out 6 (by omega)
        · exact HK.out 7 (by omega)⟩
      have HIC : Aside0 (∀ W', Below W2.heap.size W2 W' → Kd.C (Kd.int .i64) W' (some ⟨w.heap.size + 1, 0, none⟩) 8 ys) := ⟨fun W' hb => by rw [hys]; exact img_C W' _ _ _ rfl rfl (blk_below HI.out hb)⟩
      clear hys HK
      have hq0 : W2.cell? ⟨w.heap.size, 0, none⟩ = some (.int .i64 g) := (blk_cell HP.out 0).trans rfl
      have hq1 : W2.cell? ⟨w.heap.size, 1, none⟩ = some (.slice A rels.length c) := (blk_cell HP.out 1).trans rfl
      cases hp : isPresS g rels with
      | false =>
        go_wp2_with (first | (go_at_call 27; refine (isPres_to g A c rels false hp _ (Kd.C_below HR.out HB2.out) HRC.out).mono ?_; rintro e w3 ⟨rfl, hb⟩; have HB3 := Aside0.mk (below_step HB2.out hb); clear hb) | (go_at_call 13; refine (sane_to _).mono ?_; rintro e w' ⟨rfl, hb⟩; have HBS := Aside0.mk (below_step HB3.out hb); clear hb))
        go_ret
        exact ⟨rfl, HBS.out⟩
      | true =>
        have HPT := Aside0.mk hp
        have HRL := Aside0.mk (relsL_of hp)
        go_wp2_with (go_at_call 27; refine (isPres_to g A c rels true hp _ (Kd.C_below HR.out HB2.out) HRC.out).mono ?_; rintro e w3 ⟨rfl, hb⟩; have H23 := Aside0.mk hb; have hp3 := blk_below HP.out hb; have hq3 : w3.cell? ⟨w.heap.size, 1, none⟩ = some (.slice A rels.length c) := (blk_cell hp3 1).trans rfl; have HP3 := Aside0.mk hp3; clear hb hp3 hp)
        go_loopw [38] (fun i wr => ∃ k : Nat, k ≤ rels.length ∧ i = .int .i64 k ∧ Aside0 (∀ j : Nat, j < k → sumL ys (bytesOf (rdOf ByteArray.empty rels (j : Int))) = 0) ∧ Aside0 (Below w3.heap.size w3 wr)) (fun i _ => rels.length - (intOf i).toNat)
        case atStart => exact ⟨0, Nat.zero_le _, rfl, ⟨fun j hj => absurd hj (Nat.not_lt_zero _)⟩, ⟨Below.refl _ _⟩⟩
        case round =>
          obtain ⟨k, hk, rfl, HZ, HB⟩ := hrel
          have H2r := Aside0.mk (below_step H23.out HB.out)
          have HBr := Aside0.mk (below_step HB2.out H2r.out)
          by_cases hlt : k < rels.length
          · obtain ⟨ar, e2, hrc⟩ := Kd.at_string (Kd.C_below HR.out HBr.out) (k : Int) (by omega) (by omega)
            cases e2
            rw [Int.toNat_natCast] at hrc
            have hm := rdOf_mem (rels := rels) (i := (k : Int)) (by omega) (by omega)
            have hrr := HRL.out _ hm
            obtain ⟨r, hr⟩ : ∃ r, rdOf ByteArray.empty rels (k : Int) = r := ⟨_, rfl⟩
            rw [hr] at hrc hrr
            have L28 : Aside0 (∀ W', Below W2.heap.size W2 W' → Calls Try.prog 28 #[.string r, .slice (some ⟨w.heap.size + 1, 0, none⟩) 8 8] W' fun e w' => e = .returned (.int .i64 (sumL ys (bytesOf r))) ∧ Below W'.heap.size W' w') := ⟨fun W' hb => sum_calls ys HIM.out r (by have := hrr.1; omega) hrr.2 _ W' (HIC.out W' hb)⟩
            clear hrr hm
            by_cases hz : sumL ys (bytesOf r) = 0
            · rw [hz] at L28
              go_wp2_with (go_at_call 28; refine (L28.out _ H2r.out).mono ?_; rintro e w4 ⟨rfl, hb⟩; have HBn := Aside0.mk (below_step HB.out hb); clear hb)
              go_roundw
              case rel => exact ⟨k + 1, by omega, by go_num, ⟨fun j hj => by
                by_cases hj' : j < k
                · exact HZ.out j hj'
                · rw [show j = k by omega, hr]; exact hz⟩, HBn⟩
              case measure => simp [intOf]; omega
            · have hz' : (sumL ys (bytesOf r) != 0) = true := by simp [hz]
              go_wp2_with (first | (go_at_call 28; refine (L28.out _ H2r.out).mono ?_; rintro e w4 ⟨rfl, hb⟩; have HBn := Aside0.mk (below_step HBr.out hb); clear hb) | (go_at_call 13; refine (sane_to _).mono ?_; rintro e w' ⟨rfl, hb⟩; have HBS := Aside0.mk (below_step HBn.out hb); clear hb))
              go_ret
              exact ⟨rfl, HBS.out⟩
          · have hke : k = rels.length := by omega
            have HZA : Aside0 (Zero ys rels) := ⟨fun r hr => by
              obtain ⟨j, hj, rfl⟩ := List.getElem_of_mem hr
              have := HZ.out j (by omega)
              rw [show rdOf ByteArray.empty rels (j : Int) = rels[j] by simp [rdOf, hj]] at this
              exact this⟩
            clear hke HZ
            have hr0 : wr.cell? ⟨w.heap.size, 0, none⟩ = some (.int .i64 g) := (blk_cell (blk_below HP.out H2r.out) 0).trans rfl
            have hr1 : wr.cell? ⟨w.heap.size, 1, none⟩ = some (.slice A rels.length c) := (blk_cell (blk_below HP.out H2r.out) 1).trans rfl
            cases hmv : movesS g rels s ms with
            | error er =>
              have hx : (er == 0) = false := by simp [movesS_err hmv]
              have hap : disk_Apply.f g rels s ms = some (⟨#[]⟩, er) := by unfold disk_Apply.f ApplyS; rw [hmv]
              have HAP := Aside0.mk hap
              clear hap hmv
              go_wp2_with (go_at_call 29; go_must (refine (disk_Apply.calls g A c rels s A4 c4 ms ⟨#[]⟩ er _ (Kd.C_below HR.out HBr.out) HRC.out (Kd.C_below HM.out HBr.out) HMC.out HAP.out).mono ?_; rintro e w5 ⟨rfl, hb⟩; have H25 := Aside0.mk (below_step H2r.out hb); clear hb))
              go_quiet (fail)
              all_goals
                refine name_world (K := fun W => Exit.then _ _ Exit.normal _ W) (by first | exact H25.out | exact pw_below_drewN H25.out _ | exact below_drew H25.out) (fun wz Hz => ?_)
                have hz0 : wz.cell? ⟨w.heap.size, 0, none⟩ = some (.int .i64 g) := (blk_cell (blk_below HP.out Hz) 0).trans rfl
                have hz1 : wz.cell? ⟨w.heap.size, 1, none⟩ = some (.slice A rels.length c) := (blk_cell (blk_below HP.out Hz) 1).trans rfl
                have HZz := Aside0.mk Hz
                have HBz := Aside0.mk (below_step HB2.out Hz)
                cases he : BoundaryS g rels d with
                | mk b r =>
                  by_cases hr0' : r = 0
                  · subst hr0'
                    obtain ⟨i1, i2, i3⟩ := bound_zero HZA.out he
                    have LB : Aside0 (∀ W', Below W2.heap.size W2 W' → Calls Try.prog 28 #[.string b, .slice (some ⟨w.heap.size + 1, 0, none⟩) 8 8] W' fun e w' => e = .returned (.int .i64 0) ∧ Below W'.heap.size W' w') := ⟨fun W' hb => by rw [← i3]; exact sum_calls ys HIM.out b i1 i2 _ W' (HIC.out W' hb)⟩
                    have HE := Aside0.mk he
                    clear he i1 i2 i3
                    go_wp2_with (first | (go_at_call 12; go_must (refine (boundary_to g A c rels A1 c1 d b 0 HE.out _ (Kd.C_below HR.out HBz.out) HRC.out (Kd.C_below HD.out HBz.out) HDC.out).mono ?_; rintro e w6 ⟨rfl, hb⟩; have H26 := Aside0.mk (below_step HZz.out hb); clear hb)) | (go_at_call 13; refine (sane_to _).mono ?_; rintro e w7 ⟨rfl, hb⟩; have H27 := Aside0.mk (below_step H26.out hb); clear hb) | (go_at_call 28; refine (LB.out _ H27.out).mono ?_; rintro e w8 ⟨rfl, hb⟩; have H28 := Aside0.mk (below_step H27.out hb); clear hb))
                    go_ret
                    exact ⟨rfl, below_step HB2.out H28.out⟩
                  · have hre : (r != 0) = true := by simp [hr0']
                    have HE := Aside0.mk he
                    clear he hr0'
                    go_wp2_with (first | (go_at_call 12; go_must (refine (boundary_to g A c rels A1 c1 d b r HE.out _ (Kd.C_below HR.out HBz.out) HRC.out (Kd.C_below HD.out HBz.out) HDC.out).mono ?_; rintro e w6 ⟨rfl, hb⟩; have H26 := Aside0.mk (below_step HZz.out hb); clear hb)) | (go_at_call 13; refine (sane_to _).mono ?_; rintro e w7 ⟨rfl, hb⟩; have H27 := Aside0.mk (below_step H26.out hb); clear hb))
                    go_ret
                    exact ⟨rfl, below_step HB2.out H27.out⟩
            | ok x =>
              have hap : disk_Apply.f g rels s ms = some (x.1, 0) := by unfold disk_Apply.f ApplyS; rw [hmv]
              have HAP := Aside0.mk hap
              have hi := movesS_inv hmv
              have ho := movesS_ok hmv
              have hsum := sum_moves HZA.out hmv
              obtain ⟨x1, hx1⟩ : ∃ x1, x1 = x.1 := ⟨_, rfl⟩
              rw [← hx1] at HAP hi hsum
              have L28 : Aside0 (∀ W', Below W2.heap.size W2 W' → Calls Try.prog 28 #[.string x1, .slice (some ⟨w.heap.size + 1, 0, none⟩) 8 8] W' fun e w' => e = .returned (.int .i64 (sumL ys (bytesOf s))) ∧ Below W'.heap.size W' w') := ⟨fun W' hb => by rw [← hsum]; exact sum_calls ys HIM.out x1 (by have := hi.1; omega) hi.2.1 _ W' (HIC.out W' hb)⟩
              have L29 : Aside0 (∀ W', Below W2.heap.size W2 W' → Calls Try.prog 28 #[.string s, .slice (some ⟨w.heap.size + 1, 0, none⟩) 8 8] W' fun e w' => e = .returned (.int .i64 (sumL ys (bytesOf s))) ∧ Below W'.heap.size W' w') := ⟨fun W' hb => sum_calls ys HIM.out s (by have := isWordL_len ho.2.1; omega) (allL_of ho.2.1) _ W' (HIC.out W' hb)⟩
              clear hap hmv hi ho hsum hx1
              obtain ⟨sm, hsm⟩ : ∃ sm, sm = sumL ys (bytesOf s) := ⟨_, rfl⟩
              rw [← hsm] at L28 L29
              have hse : (sm != sm) = false := by simp
              clear hsm
              go_wp2_with (go_at_call 29; go_must (refine (disk_Apply.calls g A c rels s A4 c4 ms x1 0 _ (Kd.C_below HR.out HBr.out) HRC.out (Kd.C_below HM.out HBr.out) HMC.out HAP.out).mono ?_; rintro e w5 ⟨rfl, hb⟩; have H25 := Aside0.mk (below_step H2r.out hb); clear hb))
              have hb00 := H25.out
              go_region_held3 (fun W' => Below W2.heap.size W2 W') (first | assumption | exact below_drew (by assumption) | exact pw_below_drewN (by assumption) _) (first | (go_at_call 28; refine (L28.out _ (by first | assumption | exact below_drew (by assumption))).mono ?_; rintro e w' ⟨rfl, hb⟩; clear L28; have hbn : Below W2.heap.size W2 w' := below_step (by first | assumption | exact below_drew (by assumption)) hb) | (go_at_call 28; refine (L29.out _ (by first | assumption | exact below_drew (by assumption))).mono ?_; rintro e w' ⟨rfl, hb⟩; clear L29; have hbn : Below W2.heap.size W2 w' := below_step (by first | assumption | exact below_drew (by assumption)) hb))
              all_goals
                refine name_world (K := fun W => Exit.then _ _ Exit.normal _ W) (by first | exact hbn | exact below_drew hbn | exact pw_below_drewN hbn _) (fun wz Hz => ?_)
                have hz0 : wz.cell? ⟨w.heap.size, 0, none⟩ = some (.int .i64 g) := (blk_cell (blk_below HP.out Hz) 0).trans rfl
                have hz1 : wz.cell? ⟨w.heap.size, 1, none⟩ = some (.slice A rels.length c) := (blk_cell (blk_below HP.out Hz) 1).trans rfl
                have HZz := Aside0.mk Hz
                have HBz := Aside0.mk (below_step HB2.out Hz)
                cases he : BoundaryS g rels d with
                | mk b r =>
                  by_cases hr0' : r = 0
                  · subst hr0'
                    obtain ⟨i1, i2, i3⟩ := bound_zero HZA.out he
                    have LB : Aside0 (∀ W', Below W2.heap.size W2 W' → Calls Try.prog 28 #[.string b, .slice (some ⟨w.heap.size + 1, 0, none⟩) 8 8] W' fun e w' => e = .returned (.int .i64 0) ∧ Below W'.heap.size W' w') := ⟨fun W' hb => by rw [← i3]; exact sum_calls ys HIM.out b i1 i2 _ W' (HIC.out W' hb)⟩
                    have HE := Aside0.mk he
                    clear he i1 i2 i3
                    go_wp2_with (first | (go_at_call 12; go_must (refine (boundary_to g A c rels A1 c1 d b 0 HE.out _ (Kd.C_below HR.out HBz.out) HRC.out (Kd.C_below HD.out HBz.out) HDC.out).mono ?_; rintro e w6 ⟨rfl, hb⟩; have H26 := Aside0.mk (below_step HZz.out hb); clear hb)) | (go_at_call 13; refine (sane_to _).mono ?_; rintro e w7 ⟨rfl, hb⟩; have H27 := Aside0.mk (below_step H26.out hb); clear hb) | (go_at_call 28; refine (LB.out _ H27.out).mono ?_; rintro e w8 ⟨rfl, hb⟩; have H28 := Aside0.mk (below_step H27.out hb); clear hb))
                    go_ret
                    exact ⟨rfl, below_step HB2.out H28.out⟩
                  · have hre : (r != 0) = true := by simp [hr0']
                    have HE := Aside0.mk he
                    clear he hr0'
                    go_wp2_with (first | (go_at_call 12; go_must (refine (boundary_to g A c rels A1 c1 d b r HE.out _ (Kd.C_below HR.out HBz.out) HRC.out (Kd.C_below HD.out HBz.out) HDC.out).mono ?_; rintro e w6 ⟨rfl, hb⟩; have H26 := Aside0.mk (below_step HZz.out hb); clear hb)) | (go_at_call 13; refine (sane_to _).mono ?_; rintro e w7 ⟨rfl, hb⟩; have H27 := Aside0.mk (below_step H26.out hb); clear hb))
                    go_ret
                    exact ⟨rfl, below_step HB2.out H27.out⟩
end H
end Go.Proofs.Ytmmichdlgjcmoaa.PAll
