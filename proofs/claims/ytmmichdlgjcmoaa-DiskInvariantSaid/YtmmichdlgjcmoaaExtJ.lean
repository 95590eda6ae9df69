import Derived.Test.YtmmichdlgjcmoaaPAllx0
import Derived.Test.YtmmichdlgjcmoaaPAllx6
import Derived.Test.YtmmichdlgjcmoaaPAllx7
import Derived.Test.YtmmichdlgjcmoaaExtI
import Derived.Tactics
import Derived.Tactics2
import Derived.Defers
import Derived.Recover
import Derived.Laws.Pointers
import Derived.WideMake
namespace Go.Proofs.Ytmmichdlgjcmoaa.PAll
open Go.RowKit Go.Proofs.YtmmichdlgjcmoaaW.PrintWords Go.Proofs.YtmmichdlgjcmoaaW.PrintLast Go.Proofs.YtmmichdlgjcmoaaW.PrintMore H Go.Proofs.YtmmichdlgjcmoaaReg
set_option linter.unusedVariables false
set_option linter.unusedSimpArgs false
namespace H
theorem catch_idle (p q : Addr) (w : World) :
    CallsD Try.prog 63 #[.pointer (some p), .pointer (some q)] .returning w fun e u' w' => e = .returned (.tuple #[]) ∧ u' = .returning ∧ w' = w := by
  refine callsD_of_wpS Try.func63 rfl fun c₀ cs hu => ?_
  apply wpS_seq
  apply wpS_region
  simp [wpOpsS, go_sem, recoverD, hu, Try.ntmps63, Exit.thenS]
  apply wpS_seq
  apply wpS_region
  simp [wpOpsS, go_sem, recoverD, hu, Try.ntmps63, Exit.thenS]
  refine wpS_cond (t := false) (by simp [Act.eval, Array.replicate]) ?_
  simp only [Bool.false_eq_true, if_false]
  refine wpS_of_wp (wp_skip ?_)
  cases c₀
  simp_all [bodyPostS, results, Try.results63]
set_option maxRecDepth 20000 in
theorem catch_unfit (a b : Nat) (x y : Value) (w : World) (hab : a ≠ b) (hp : w.heap[a]? = some (.cells #[x] 72 (0, 0))) (hq : w.heap[b]? = some (.cells #[y] 26 (0, 0))) :
    CallsD Try.prog 63 #[.pointer (some ⟨a, 0, none⟩), .pointer (some ⟨b, 0, none⟩)] (.panicking unfit) w fun e u' w' =>
      e = .returned (.tuple #[]) ∧ u' = .panicking [{ v := .iface 87 (.agg #[]), recovered := true }] ∧ w' = ((w.alloc (.cells #[] 87)).setCell ⟨a, 0, none⟩ (.pointer none)).setCell ⟨b, 0, none⟩ (.int .i64 43) := by
  have ha1 : (w.alloc (.cells #[] 87)).cell? ⟨a, 0, none⟩ = some x := (blk_cell (blk_alloc hp _) 0).trans rfl
  have ha2 : (w.alloc (.cells #[] 87)).frozen? ⟨a, 0, none⟩ = false := blk_frozen (blk_alloc hp _) 0
  have hb0 : ((w.alloc (.cells #[] 87)).setCell ⟨a, 0, none⟩ (.pointer none)).heap[b]? = some (.cells #[y] 26 (0, 0)) := blk_far (blk_alloc hq _) (fun e => hab e.symm) _
  have hb1 : ((w.alloc (.cells #[] 87)).setCell ⟨a, 0, none⟩ (.pointer none)).cell? ⟨b, 0, none⟩ = some y := (blk_cell hb0 0).trans rfl
  have hb2 : ((w.alloc (.cells #[] 87)).setCell ⟨a, 0, none⟩ (.pointer none)).frozen? ⟨b, 0, none⟩ = false := blk_frozen hb0 0
  clear hp hq hb0
  refine callsD_of_wpS Try.func63 rfl fun c₀ cs hu => ?_
  apply wpS_seq
  apply wpS_region
  simp [wpOpsS, go_sem, recoverD, hu, Try.ntmps63, Exit.thenS, unfit]
  apply wpS_seq
  apply wpS_region
  simp [wpOpsS, go_sem, recoverD, hu, Try.ntmps63, Exit.thenS]
  refine wpS_cond (t := true) (by simp [Act.eval, Array.replicate]) ?_
  simp only [if_true]
  refine wpS_of_wp ?_
  have hta : ∀ w, (Instr.typeAssert (.iface 87 (.agg #[])) 20 87 true).run Try.prog w = .ok (.tuple #[.agg #[], .bool true]) w := fun w => by rfl
  show Code.wp Try.prog _ _ ⟨#[.pointer (some ⟨a, 0, none⟩), .pointer (some ⟨b, 0, none⟩), .iface 87 (.agg #[]), undef, undef, .iface 87 (.agg #[]), .iface 87 (.agg #[]), .bool true, undef, undef, undef, undef, undef, undef, undef, undef], []⟩ w
  go_wp2
  simp [bodyPostS, results, Try.results63, unfit]
theorem mk (w : World) : (Instr.makeMap 89 none).run Try.prog w = .ok (.map (some w.heap.size)) (w.alloc (.map #[] 0)) := by
  rfl
theorem upd_int (w : World) (r clock : Nat) (es : Array MapEntry) (k : Int) (val : Value) (hb : w.heap[r]? = some (.map es clock)) (hf : Instr.findNow (.int .i64) (.int .i64 k) es.toList 0 = some none) :
    (Instr.mapUpdate 89 (.map (some r)) (.int .i64 k) val).run Try.prog w = .ok () { w with heap := w.heap.setIfInBounds r (.map (es.push { key := .int .i64 k, val := val, born := clock }) (clock + 1)) } := by
  have hc : (Instr.checkKey false 10000 3 (.int .i64 k)).run Try.prog w = .ok () w := MapKept.run_checkKey (k := .int .i64 k) Try.underlying3 (by simp [MapKept.IsKey]) false 9999
  simp [Instr.mapUpdate, run_underlying Try.underlying89, MapKept.run_getObj_map hb, hc, MapKept.run_findKey Try.underlying3 hf, MapKept.run_setObj_map _ hb, Result.andThen]
theorem set_at (w : World) (b : Nat) (o o' : Obj) (h : w.heap[b]? = some o) : ({ w with heap := w.heap.setIfInBounds b o' } : World).heap[b]? = some o' := by
  have := (Array.getElem?_eq_some_iff.1 h).1
  simp [this]
theorem set_below (w W : World) (b : Nat) (o' : Obj) (h : Below w.heap.size w W) (hb : w.heap.size ≤ b) : Below w.heap.size w { W with heap := W.heap.setIfInBounds b o' } := by
  refine { h with size := ?_, block := ?_ }
  · simpa using h.size
  · intro i hi
    have : b ≠ i := by omega
    rw [← h.block i hi]
    simp [Array.getElem?_setIfInBounds_ne this]
def kindsM : Array MapEntry := #[{ key := .int .i64 1, val := .func (.func 69) #[] #[], born := 0 }, { key := .int .i64 2, val := .func (.func 70) #[] #[], born := 1 }, { key := .int .i64 3, val := .func (.func 71) #[] #[], born := 2 }, { key := .int .i64 4, val := .func (.func 72) #[] #[], born := 3 }]
set_option maxRecDepth 20000 in
theorem kinds_calls (w : World) : Calls Try.prog 64 #[] w fun e w' => e = .returned (.map (some w.heap.size)) ∧ w'.heap[w.heap.size]? = some (.map kindsM 4) ∧ Below w.heap.size w w' := by
  have hmk := mk w
  have h0 : (w.alloc (.map #[] 0)).heap[w.heap.size]? = some (.map #[] 0) := Go.heap_alloc_new _ _
  have B0 : Below w.heap.size w (w.alloc (.map #[] 0)) := below_alloc (Below.refl _ _) _
  generalize hW0 : w.alloc (.map #[] 0) = W0 at *
  have u1 := upd_int W0 w.heap.size 0 #[] 1 (.func (.func 69) #[] #[]) h0 rfl
  have h1 := set_at W0 w.heap.size _ (.map #[{ key := .int .i64 1, val := .func (.func 69) #[] #[], born := 0 }] 1) h0
  have B1 := set_below w W0 w.heap.size (.map #[{ key := .int .i64 1, val := .func (.func 69) #[] #[], born := 0 }] 1) B0 (Nat.le_refl _)
  rw [show ((#[] : Array MapEntry).push { key := .int .i64 1, val := .func (.func 69) #[] #[], born := 0 } : Array MapEntry) = #[{ key := .int .i64 1, val := .func (.func 69) #[] #[], born := 0 }] from rfl] at u1
  generalize hW1 : ({ W0 with heap := W0.heap.setIfInBounds w.heap.size (.map #[{ key := .int .i64 1, val := .func (.func 69) #[] #[], born := 0 }] 1) } : World) = W1 at *
  have u2 := upd_int W1 w.heap.size 1 #[{ key := .int .i64 1, val := .func (.func 69) #[] #[], born := 0 }] 2 (.func (.func 70) #[] #[]) h1 rfl
  have h2 := set_at W1 w.heap.size _ (.map #[{ key := .int .i64 1, val := .func (.func 69) #[] #[], born := 0 }, { key := .int .i64 2, val := .func (.func 70) #[] #[], born := 1 }] 2) h1
  have B2 := set_below w W1 w.heap.size (.map #[{ key := .int .i64 1, val := .func (.func 69) #[] #[], born := 0 }, { key := .int .i64 2, val := .func (.func 70) #[] #[], born := 1 }] 2) B1 (Nat.le_refl _)
  rw [show ((#[{ key := .int .i64 1, val := .func (.func 69) #[] #[], born := 0 }] : Array MapEntry).push { key := .int .i64 2, val := .func (.func 70) #[] #[], born := 1 } : Array MapEntry) = #[{ key := .int .i64 1, val := .func (.func 69) #[] #[], born := 0 }, { key := .int .i64 2, val := .func (.func 70) #[] #[], born := 1 }] from rfl] at u2
  generalize hW2 : ({ W1 with heap := W1.heap.setIfInBounds w.heap.size (.map #[{ key := .int .i64 1, val := .func (.func 69) #[] #[], born := 0 }, { key := .int .i64 2, val := .func (.func 70) #[] #[], born := 1 }] 2) } : World) = W2 at *
  have u3 := upd_int W2 w.heap.size 2 #[{ key := .int .i64 1, val := .func (.func 69) #[] #[], born := 0 }, { key := .int .i64 2, val := .func (.func 70) #[] #[], born := 1 }] 3 (.func (.func 71) #[] #[]) h2 rfl
  have h3 := set_at W2 w.heap.size _ (.map #[{ key := .int .i64 1, val := .func (.func 69) #[] #[], born := 0 }, { key := .int .i64 2, val := .func (.func 70) #[] #[], born := 1 }, { key := .int .i64 3, val := .func (.func 71) #[] #[], born := 2 }] 3) h2
  have B3 := set_below w W2 w.heap.size (.map #[{ key := .int .i64 1, val := .func (.func 69) #[] #[], born := 0 }, { key := .int .i64 2, val := .func (.func 70) #[] #[], born := 1 }, { key := .int .i64 3, val := .func (.func 71) #[] #[], born := 2 }] 3) B2 (Nat.le_refl _)
  rw [show ((#[{ key := .int .i64 1, val := .func (.func 69) #[] #[], born := 0 }, { key := .int .i64 2, val := .func (.func 70) #[] #[], born := 1 }] : Array MapEntry).push { key := .int .i64 3, val := .func (.func 71) #[] #[], born := 2 } : Array MapEntry) = #[{ key := .int .i64 1, val := .func (.func 69) #[] #[], born := 0 }, { key := .int .i64 2, val := .func (.func 70) #[] #[], born := 1 }, { key := .int .i64 3, val := .func (.func 71) #[] #[], born := 2 }] from rfl] at u3
  generalize hW3 : ({ W2 with heap := W2.heap.setIfInBounds w.heap.size (.map #[{ key := .int .i64 1, val := .func (.func 69) #[] #[], born := 0 }, { key := .int .i64 2, val := .func (.func 70) #[] #[], born := 1 }, { key := .int .i64 3, val := .func (.func 71) #[] #[], born := 2 }] 3) } : World) = W3 at *
  have u4 := upd_int W3 w.heap.size 3 #[{ key := .int .i64 1, val := .func (.func 69) #[] #[], born := 0 }, { key := .int .i64 2, val := .func (.func 70) #[] #[], born := 1 }, { key := .int .i64 3, val := .func (.func 71) #[] #[], born := 2 }] 4 (.func (.func 72) #[] #[]) h3 rfl
  have h4 := set_at W3 w.heap.size _ (.map #[{ key := .int .i64 1, val := .func (.func 69) #[] #[], born := 0 }, { key := .int .i64 2, val := .func (.func 70) #[] #[], born := 1 }, { key := .int .i64 3, val := .func (.func 71) #[] #[], born := 2 }, { key := .int .i64 4, val := .func (.func 72) #[] #[], born := 3 }] 4) h3
  have B4 := set_below w W3 w.heap.size (.map #[{ key := .int .i64 1, val := .func (.func 69) #[] #[], born := 0 }, { key := .int .i64 2, val := .func (.func 70) #[] #[], born := 1 }, { key := .int .i64 3, val := .func (.func 71) #[] #[], born := 2 }, { key := .int .i64 4, val := .func (.func 72) #[] #[], born := 3 }] 4) B3 (Nat.le_refl _)
  rw [show ((#[{ key := .int .i64 1, val := .func (.func 69) #[] #[], born := 0 }, { key := .int .i64 2, val := .func (.func 70) #[] #[], born := 1 }, { key := .int .i64 3, val := .func (.func 71) #[] #[], born := 2 }] : Array MapEntry).push { key := .int .i64 4, val := .func (.func 72) #[] #[], born := 3 } : Array MapEntry) = #[{ key := .int .i64 1, val := .func (.func 69) #[] #[], born := 0 }, { key := .int .i64 2, val := .func (.func 70) #[] #[], born := 1 }, { key := .int .i64 3, val := .func (.func 71) #[] #[], born := 2 }, { key := .int .i64 4, val := .func (.func 72) #[] #[], born := 3 }] from rfl] at u4
  generalize hW4 : ({ W3 with heap := W3.heap.setIfInBounds w.heap.size (.map #[{ key := .int .i64 1, val := .func (.func 69) #[] #[], born := 0 }, { key := .int .i64 2, val := .func (.func 70) #[] #[], born := 1 }, { key := .int .i64 3, val := .func (.func 71) #[] #[], born := 2 }, { key := .int .i64 4, val := .func (.func 72) #[] #[], born := 3 }] 4) } : World) = W4 at *
  clear hW0 hW1 hW2 hW3 hW4 h0 h1 h2 h3
  go_enter Try.func64, Try.ntmps64
  go_wp2
  go_ret
  exact ⟨rfl, h4, B4⟩
theorem look_hit (w : World) (b : Nat) (k : Int) (i : Nat) (v : Value) (hb : w.heap[b]? = some (.map kindsM 4)) (hf : Instr.findNow (.int .i64) (.int .i64 k) kindsM.toList 0 = some (some (i, v))) :
    (Instr.lookup 89 (.map (some b)) (.int .i64 k) false).run Try.prog w = .ok v w := by
  have hc : (Instr.checkKey false 10000 3 (.int .i64 k)).run Try.prog w = .ok () w := MapKept.run_checkKey (k := .int .i64 k) Try.underlying3 (by simp [MapKept.IsKey]) false 9999
  have h1 := MapKept.run_findKey (w := w) Try.underlying3 hf
  simp [Instr.lookup, run_underlying Try.underlying89, MapKept.run_getObj_map hb, show kindsM.isEmpty = false from rfl, hc, h1, Result.andThen]
set_option maxRecDepth 20000 in
theorem look_miss (w : World) (b : Nat) (k : Int) (hb : w.heap[b]? = some (.map kindsM 4)) (hk : k ≠ 1 ∧ k ≠ 2 ∧ k ≠ 3 ∧ k ≠ 4) :
    (Instr.lookup 89 (.map (some b)) (.int .i64 k) false).run Try.prog w = .ok .nilFunc w := by
  have hf : Instr.findNow (.int .i64) (.int .i64 k) kindsM.toList 0 = some none := by
    simp [kindsM, Instr.findNow, Instr.sameNow, beq_eq_false_iff_ne.mpr hk.1, beq_eq_false_iff_ne.mpr hk.2.1, beq_eq_false_iff_ne.mpr hk.2.2.1, beq_eq_false_iff_ne.mpr hk.2.2.2]
  have hc : (Instr.checkKey false 10000 3 (.int .i64 k)).run Try.prog w = .ok () w := MapKept.run_checkKey (k := .int .i64 k) Try.underlying3 (by simp [MapKept.IsKey]) false 9999
  have h1 := MapKept.run_findKey (w := w) Try.underlying3 hf
  have hz : (zeroValue 91).run Try.prog w = .ok .nilFunc w := by rfl
  simp [Instr.lookup, run_underlying Try.underlying89, MapKept.run_getObj_map hb, show kindsM.isEmpty = false from rfl, hc, h1, hz, Result.andThen]
end H
end Go.Proofs.Ytmmichdlgjcmoaa.PAll
