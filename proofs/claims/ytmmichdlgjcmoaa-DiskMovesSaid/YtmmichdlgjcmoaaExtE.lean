import Derived.Test.YtmmichdlgjcmoaaPAllx0
import Derived.Test.YtmmichdlgjcmoaaPAllx3
import Derived.Test.YtmmichdlgjcmoaaPAllx4
import Derived.Test.YtmmichdlgjcmoaaPAllx16
import Derived.Test.YtmmichdlgjcmoaaPureH
import Derived.Test.YtmmichdlgjcmoaaReg
namespace Go.Proofs.Ytmmichdlgjcmoaa.PAll
open Go.RowKit Go.Proofs.YtmmichdlgjcmoaaW.PrintWords Go.Proofs.YtmmichdlgjcmoaaW.PrintLast Go.Proofs.YtmmichdlgjcmoaaW.PrintMore H Go.Proofs.YtmmichdlgjcmoaaReg
set_option linter.unusedVariables false
set_option linter.unusedSimpArgs false
namespace H
def moveS (g : Int) (rels : List ByteArray) (s : ByteArray) (m : S52) : Option (ByteArray × List S59) :=
  if m.f0 = 1 then
    if 0 ≤ m.f1 ∧ m.f1 ≤ s.size ∧ 0 ≤ m.f2 ∧ m.f2 < 2 * g then some (repl s m.f1.toNat 0 (pairS m.f2), []) else none
  else if m.f0 = 2 then
    if 0 ≤ m.f1 ∧ m.f1 ≤ (s.size : Int) - 2 ∧ canc (bt s m.f1) (bt s (m.f1 + 1)) = true then some (repl s m.f1.toNat 2 ⟨#[]⟩, []) else none
  else if m.f0 = 3 then
    if relOkM rels m = true ∧ 0 ≤ m.f1 ∧ m.f1 ≤ s.size then some (repl s m.f1.toNat 0 (rotM rels m), [cellM rels s m (!m.f5)]) else none
  else if m.f0 = 4 then
    if relOkM rels m = true ∧ 0 ≤ m.f1 ∧ m.f1 ≤ s.size ∧ prefB (s.extract m.f1.toNat s.size) (rotM rels m) = true then some (repl s m.f1.toNat (relM rels m).size ⟨#[]⟩, [cellM rels s m m.f5]) else none
  else none
theorem letterR_calls (i : Int) (h0 : 0 ≤ i) (h1 : i < 16) (w : World) : Calls Try.prog 73 #[.int .i64 i] w fun e w' => e = .returned (.string (strOfNums [letterB i])) ∧ Below w.heap.size w w' := cayleyref04_Letter.calls i _ w (ref_Letter_eq i h0 h1)
theorem turnedR_calls (g : Int) (A : Option Addr) (c : Nat) (rels : List ByteArray) (hr : relsL rels) (m : S52) (w : World) (hC : Kd.C Kd.string w A rels.length rels) (hc : rels.length ≤ c) (a b : ByteArray) (o : Bool) (h : turnedS rels m = (a, b, o)) :
    Calls Try.prog 67 #[.agg #[.int .i64 g, .slice A rels.length c], .agg #[.int .i64 m.f0, .int .i64 m.f1, .int .i64 m.f2, .int .i64 m.f3, .int .i64 m.f4, .bool m.f5]] w fun e w' => e = .returned (.tuple #[.string a, .string b, .bool o]) ∧ Below w.heap.size w w' := by
  obtain ⟨k, hk⟩ := (ref_turned_ev g rels hr m).rounds
  rw [h] at hk
  exact cayleyref04_turned.calls k g A c rels _ _ _ _ _ _ _ _ _ w hC hc hk
theorem invertR_calls (s : ByteArray) (hs : s.size ≤ 1000000000) (hL : allL (bytesOf s)) (w : World) : Calls Try.prog 26 #[.string s] w fun e w' => e = .returned (.string (invS s)) ∧ Below w.heap.size w w' := by
  obtain ⟨k, hk⟩ := (ref_Invert_ev s hs hL).rounds
  exact cayleyref04_Invert.calls k s _ w hk
theorem reduceR_calls (s : ByteArray) (hs : s.size ≤ 1000000000) (hL : allL (bytesOf s)) (w : World) : Calls Try.prog 25 #[.string s] w fun e w' => e = .returned (.string (strOfNums (redL [s]))) ∧ Below w.heap.size w w' := by
  obtain ⟨k, hk⟩ := (ref_Reduce_ev s hs hL).rounds
  exact cayleyref04_Reduce.calls k s _ w hk
theorem R_one59 (W : World) (base : Nat) (x : S59) (hb : base ≤ W.heap.size) : Kd.R k59 59 (W.alloc (.cells #[.string x.f0, .int .i64 x.f1, .bool x.f2] 59)) base (fun _ => True) (.slice (some ⟨W.heap.size, 0, none⟩) 1 1) [x] := by
  refine ⟨fun _ _ => trivial, [.string x.f0, .int .i64 x.f1, .bool x.f2], ?_, Reps.c3 (k59_mkM _ _ _ x) (Reps.none _ _)⟩
  exact World.ownsRow_lit (base := base) (e := 59) (size := 3) W #[.string x.f0, .int .i64 x.f1, .bool x.f2] 1 hb (by decide) rfl
theorem name_block {w : World} {b : Nat} {o : Obj} (h : w.heap[b]? = some o) : ∃ b', b' = b := ⟨_, rfl⟩
theorem fresh_world {K : World → Prop} {B b : Nat} {w0 w : World} {o : Obj} (h1 : w.heap[b]? = some o) (h2 : Below B w0 w) (h : ∀ W, W.heap[b]? = some o → Below B w0 W → K W) : K w := h w h1 h2
theorem invertedR_calls (x : Int) (hx : isL x) (w : World) : Calls Try.prog 49 #[.int .u8 x] w fun e w' => e = .returned (.int .u8 (otherB x)) ∧ Below w.heap.size w w' :=
  (cayleyref04_inverted.calls x _ w (inverted_isL hx)).mono fun _ _ h => ⟨h.1, h.2.below⟩
set_option maxHeartbeats 1600000 in
set_option maxRecDepth 100000 in
theorem move_out0 (g : Int) (A : Option Addr) (c : Nat) (rels : List ByteArray) (s : ByteArray) (m : S52) (w : World) (hC : Kd.C Kd.string w A rels.length rels) (hc : rels.length ≤ c) (hr : relsL rels) (hg : 1 ≤ g ∧ g ≤ 8) (hs : s.size ≤ 1000000) (hL : allL (bytesOf s)) (h : m.f1 < 0) :
    Calls Try.prog 66 #[.agg #[.int .i64 g, .slice A rels.length c], .string s, .agg #[.int .i64 m.f0, .int .i64 m.f1, .int .i64 m.f2, .int .i64 m.f3, .int .i64 m.f4, .bool m.f5]] w fun e w' => ∃ v : Value, e = .returned (.tuple #[.string ⟨#[]⟩, v, .bool false]) ∧ Kd.R k59 59 w' w.heap.size (fun _ => True) v [] ∧ Below w.heap.size w w' := by
  obtain ⟨hg1, hg2⟩ := hg
  have HC := Aside0.mk hC
  have HL := Aside0.mk hL
  have HRL := Aside0.mk hr
  clear hC hL hr
  obtain ⟨W1, hW1⟩ : ∃ W1, W1 = w.alloc (.cells #[.int .i64 g, .slice A rels.length c] 24) := ⟨_, rfl⟩
  obtain ⟨W2, hW2⟩ : ∃ W2, W2 = W1.alloc (.cells #[.int .i64 m.f0, .int .i64 m.f1, .int .i64 m.f2, .int .i64 m.f3, .int .i64 m.f4, .bool m.f5] 52) := ⟨_, rfl⟩
  have z1 : W1.heap.size = w.heap.size + 1 := by rw [hW1, World.size_alloc]
  have HP : Aside0 (W2.heap[w.heap.size]? = some (.cells #[.int .i64 g, .slice A rels.length c] 24 (0, 0))) := ⟨by rw [hW2]; exact blk_alloc (by rw [hW1]; exact Go.heap_alloc_new _ _) _⟩
  have HM : Aside0 (W2.heap[w.heap.size + 1]? = some (.cells #[.int .i64 m.f0, .int .i64 m.f1, .int .i64 m.f2, .int .i64 m.f3, .int .i64 m.f4, .bool m.f5] 52 (0, 0))) := ⟨by rw [hW2, ← z1]; exact Go.heap_alloc_new _ _⟩
  have HB : Aside0 (Below w.heap.size w W2) := ⟨by rw [hW2, hW1]; exact below_alloc (below_alloc (Below.refl _ _) _) _⟩
  have HS : Aside0 (∀ W', Below W2.heap.size W2 W' → W'.cell? ⟨w.heap.size + 1, 0, none⟩ = some (.int .i64 m.f0) ∧ W'.cell? ⟨w.heap.size + 1, 1, none⟩ = some (.int .i64 m.f1) ∧ W'.cell? ⟨w.heap.size + 1, 2, none⟩ = some (.int .i64 m.f2) ∧ W'.cell? ⟨w.heap.size + 1, 3, none⟩ = some (.int .i64 m.f3) ∧ W'.cell? ⟨w.heap.size + 1, 4, none⟩ = some (.int .i64 m.f4) ∧ W'.cell? ⟨w.heap.size + 1, 5, none⟩ = some (.bool m.f5) ∧ W'.cell? ⟨w.heap.size, 0, none⟩ = some (.int .i64 g) ∧ W'.cell? ⟨w.heap.size, 1, none⟩ = some (.slice A rels.length c) ∧ Below W2.heap.size W2 W') :=
    ⟨fun W' hb => ⟨(blk_cell (blk_below HM.out hb) 0).trans rfl, (blk_cell (blk_below HM.out hb) 1).trans rfl, (blk_cell (blk_below HM.out hb) 2).trans rfl, (blk_cell (blk_below HM.out hb) 3).trans rfl, (blk_cell (blk_below HM.out hb) 4).trans rfl, (blk_cell (blk_below HM.out hb) 5).trans rfl, (blk_cell (blk_below HP.out hb) 0).trans rfl, (blk_cell (blk_below HP.out hb) 1).trans rfl, hb⟩⟩
  obtain ⟨m0, m1, m2, m3, m4, m5, p0, p1, _⟩ := HS.out W2 (Below.refl _ _)
  clear z1
  go_enter Try.func66, Try.ntmps66
  go_wp2
  go_ret3
  exact ⟨_, rfl, Kd.R_nil _ _ _ _ _, by rw [← hW1, ← hW2]; exact HB.out⟩
set_option maxHeartbeats 1600000 in
set_option maxRecDepth 100000 in
theorem move_out1 (g : Int) (A : Option Addr) (c : Nat) (rels : List ByteArray) (s : ByteArray) (m : S52) (w : World) (hC : Kd.C Kd.string w A rels.length rels) (hc : rels.length ≤ c) (hr : relsL rels) (hg : 1 ≤ g ∧ g ≤ 8) (hs : s.size ≤ 1000000) (hL : allL (bytesOf s)) (h : ¬ m.f1 < 0) (h' : m.f1 > s.size) :
    Calls Try.prog 66 #[.agg #[.int .i64 g, .slice A rels.length c], .string s, .agg #[.int .i64 m.f0, .int .i64 m.f1, .int .i64 m.f2, .int .i64 m.f3, .int .i64 m.f4, .bool m.f5]] w fun e w' => ∃ v : Value, e = .returned (.tuple #[.string ⟨#[]⟩, v, .bool false]) ∧ Kd.R k59 59 w' w.heap.size (fun _ => True) v [] ∧ Below w.heap.size w w' := by
  obtain ⟨hg1, hg2⟩ := hg
  have HC := Aside0.mk hC
  have HL := Aside0.mk hL
  have HRL := Aside0.mk hr
  clear hC hL hr
  obtain ⟨W1, hW1⟩ : ∃ W1, W1 = w.alloc (.cells #[.int .i64 g, .slice A rels.length c] 24) := ⟨_, rfl⟩
  obtain ⟨W2, hW2⟩ : ∃ W2, W2 = W1.alloc (.cells #[.int .i64 m.f0, .int .i64 m.f1, .int .i64 m.f2, .int .i64 m.f3, .int .i64 m.f4, .bool m.f5] 52) := ⟨_, rfl⟩
  have z1 : W1.heap.size = w.heap.size + 1 := by rw [hW1, World.size_alloc]
  have HP : Aside0 (W2.heap[w.heap.size]? = some (.cells #[.int .i64 g, .slice A rels.length c] 24 (0, 0))) := ⟨by rw [hW2]; exact blk_alloc (by rw [hW1]; exact Go.heap_alloc_new _ _) _⟩
  have HM : Aside0 (W2.heap[w.heap.size + 1]? = some (.cells #[.int .i64 m.f0, .int .i64 m.f1, .int .i64 m.f2, .int .i64 m.f3, .int .i64 m.f4, .bool m.f5] 52 (0, 0))) := ⟨by rw [hW2, ← z1]; exact Go.heap_alloc_new _ _⟩
  have HB : Aside0 (Below w.heap.size w W2) := ⟨by rw [hW2, hW1]; exact below_alloc (below_alloc (Below.refl _ _) _) _⟩
  have HS : Aside0 (∀ W', Below W2.heap.size W2 W' → W'.cell? ⟨w.heap.size + 1, 0, none⟩ = some (.int .i64 m.f0) ∧ W'.cell? ⟨w.heap.size + 1, 1, none⟩ = some (.int .i64 m.f1) ∧ W'.cell? ⟨w.heap.size + 1, 2, none⟩ = some (.int .i64 m.f2) ∧ W'.cell? ⟨w.heap.size + 1, 3, none⟩ = some (.int .i64 m.f3) ∧ W'.cell? ⟨w.heap.size + 1, 4, none⟩ = some (.int .i64 m.f4) ∧ W'.cell? ⟨w.heap.size + 1, 5, none⟩ = some (.bool m.f5) ∧ W'.cell? ⟨w.heap.size, 0, none⟩ = some (.int .i64 g) ∧ W'.cell? ⟨w.heap.size, 1, none⟩ = some (.slice A rels.length c) ∧ Below W2.heap.size W2 W') :=
    ⟨fun W' hb => ⟨(blk_cell (blk_below HM.out hb) 0).trans rfl, (blk_cell (blk_below HM.out hb) 1).trans rfl, (blk_cell (blk_below HM.out hb) 2).trans rfl, (blk_cell (blk_below HM.out hb) 3).trans rfl, (blk_cell (blk_below HM.out hb) 4).trans rfl, (blk_cell (blk_below HM.out hb) 5).trans rfl, (blk_cell (blk_below HP.out hb) 0).trans rfl, (blk_cell (blk_below HP.out hb) 1).trans rfl, hb⟩⟩
  obtain ⟨m0, m1, m2, m3, m4, m5, p0, p1, _⟩ := HS.out W2 (Below.refl _ _)
  clear z1
  go_enter Try.func66, Try.ntmps66
  go_wp2
  go_ret3
  exact ⟨_, rfl, Kd.R_nil _ _ _ _ _, by rw [← hW1, ← hW2]; exact HB.out⟩
set_option maxHeartbeats 1600000 in
set_option maxRecDepth 100000 in
theorem move_kind (g : Int) (A : Option Addr) (c : Nat) (rels : List ByteArray) (s : ByteArray) (m : S52) (w : World) (hC : Kd.C Kd.string w A rels.length rels) (hc : rels.length ≤ c) (hr : relsL rels) (hg : 1 ≤ g ∧ g ≤ 8) (hs : s.size ≤ 1000000) (hL : allL (bytesOf s)) (h : ¬ m.f1 < 0) (h' : ¬ m.f1 > s.size) (k1 : ¬ m.f0 = 1) (k2 : ¬ m.f0 = 2) (k3 : ¬ m.f0 = 3) (k4 : ¬ m.f0 = 4) :
    Calls Try.prog 66 #[.agg #[.int .i64 g, .slice A rels.length c], .string s, .agg #[.int .i64 m.f0, .int .i64 m.f1, .int .i64 m.f2, .int .i64 m.f3, .int .i64 m.f4, .bool m.f5]] w fun e w' => ∃ v : Value, e = .returned (.tuple #[.string ⟨#[]⟩, v, .bool false]) ∧ Kd.R k59 59 w' w.heap.size (fun _ => True) v [] ∧ Below w.heap.size w w' := by
  obtain ⟨hg1, hg2⟩ := hg
  have HC := Aside0.mk hC
  have HL := Aside0.mk hL
  have HRL := Aside0.mk hr
  clear hC hL hr
  obtain ⟨W1, hW1⟩ : ∃ W1, W1 = w.alloc (.cells #[.int .i64 g, .slice A rels.length c] 24) := ⟨_, rfl⟩
  obtain ⟨W2, hW2⟩ : ∃ W2, W2 = W1.alloc (.cells #[.int .i64 m.f0, .int .i64 m.f1, .int .i64 m.f2, .int .i64 m.f3, .int .i64 m.f4, .bool m.f5] 52) := ⟨_, rfl⟩
  have z1 : W1.heap.size = w.heap.size + 1 := by rw [hW1, World.size_alloc]
  have HP : Aside0 (W2.heap[w.heap.size]? = some (.cells #[.int .i64 g, .slice A rels.length c] 24 (0, 0))) := ⟨by rw [hW2]; exact blk_alloc (by rw [hW1]; exact Go.heap_alloc_new _ _) _⟩
  have HM : Aside0 (W2.heap[w.heap.size + 1]? = some (.cells #[.int .i64 m.f0, .int .i64 m.f1, .int .i64 m.f2, .int .i64 m.f3, .int .i64 m.f4, .bool m.f5] 52 (0, 0))) := ⟨by rw [hW2, ← z1]; exact Go.heap_alloc_new _ _⟩
  have HB : Aside0 (Below w.heap.size w W2) := ⟨by rw [hW2, hW1]; exact below_alloc (below_alloc (Below.refl _ _) _) _⟩
  have HS : Aside0 (∀ W', Below W2.heap.size W2 W' → W'.cell? ⟨w.heap.size + 1, 0, none⟩ = some (.int .i64 m.f0) ∧ W'.cell? ⟨w.heap.size + 1, 1, none⟩ = some (.int .i64 m.f1) ∧ W'.cell? ⟨w.heap.size + 1, 2, none⟩ = some (.int .i64 m.f2) ∧ W'.cell? ⟨w.heap.size + 1, 3, none⟩ = some (.int .i64 m.f3) ∧ W'.cell? ⟨w.heap.size + 1, 4, none⟩ = some (.int .i64 m.f4) ∧ W'.cell? ⟨w.heap.size + 1, 5, none⟩ = some (.bool m.f5) ∧ W'.cell? ⟨w.heap.size, 0, none⟩ = some (.int .i64 g) ∧ W'.cell? ⟨w.heap.size, 1, none⟩ = some (.slice A rels.length c) ∧ Below W2.heap.size W2 W') :=
    ⟨fun W' hb => ⟨(blk_cell (blk_below HM.out hb) 0).trans rfl, (blk_cell (blk_below HM.out hb) 1).trans rfl, (blk_cell (blk_below HM.out hb) 2).trans rfl, (blk_cell (blk_below HM.out hb) 3).trans rfl, (blk_cell (blk_below HM.out hb) 4).trans rfl, (blk_cell (blk_below HM.out hb) 5).trans rfl, (blk_cell (blk_below HP.out hb) 0).trans rfl, (blk_cell (blk_below HP.out hb) 1).trans rfl, hb⟩⟩
  obtain ⟨m0, m1, m2, m3, m4, m5, p0, p1, _⟩ := HS.out W2 (Below.refl _ _)
  clear z1
  go_enter Try.func66, Try.ntmps66
  go_wp2
  go_ret3
  exact ⟨_, rfl, Kd.R_nil _ _ _ _ _, by rw [← hW1, ← hW2]; exact HB.out⟩
set_option maxHeartbeats 1600000 in
set_option maxRecDepth 100000 in
theorem move_one_no (g : Int) (A : Option Addr) (c : Nat) (rels : List ByteArray) (s : ByteArray) (m : S52) (w : World) (hC : Kd.C Kd.string w A rels.length rels) (hc : rels.length ≤ c) (hr : relsL rels) (hg : 1 ≤ g ∧ g ≤ 8) (hs : s.size ≤ 1000000) (hL : allL (bytesOf s)) (h : ¬ m.f1 < 0) (h' : ¬ m.f1 > s.size) (k1 : m.f0 = 1) (h2 : ¬ (0 ≤ m.f2 ∧ m.f2 < 2 * g)) :
    Calls Try.prog 66 #[.agg #[.int .i64 g, .slice A rels.length c], .string s, .agg #[.int .i64 m.f0, .int .i64 m.f1, .int .i64 m.f2, .int .i64 m.f3, .int .i64 m.f4, .bool m.f5]] w fun e w' => ∃ v : Value, e = .returned (.tuple #[.string ⟨#[]⟩, v, .bool false]) ∧ Kd.R k59 59 w' w.heap.size (fun _ => True) v [] ∧ Below w.heap.size w w' := by
  obtain ⟨hg1, hg2⟩ := hg
  have HC := Aside0.mk hC
  have HL := Aside0.mk hL
  have HRL := Aside0.mk hr
  clear hC hL hr
  obtain ⟨W1, hW1⟩ : ∃ W1, W1 = w.alloc (.cells #[.int .i64 g, .slice A rels.length c] 24) := ⟨_, rfl⟩
  obtain ⟨W2, hW2⟩ : ∃ W2, W2 = W1.alloc (.cells #[.int .i64 m.f0, .int .i64 m.f1, .int .i64 m.f2, .int .i64 m.f3, .int .i64 m.f4, .bool m.f5] 52) := ⟨_, rfl⟩
  have z1 : W1.heap.size = w.heap.size + 1 := by rw [hW1, World.size_alloc]
  have HP : Aside0 (W2.heap[w.heap.size]? = some (.cells #[.int .i64 g, .slice A rels.length c] 24 (0, 0))) := ⟨by rw [hW2]; exact blk_alloc (by rw [hW1]; exact Go.heap_alloc_new _ _) _⟩
  have HM : Aside0 (W2.heap[w.heap.size + 1]? = some (.cells #[.int .i64 m.f0, .int .i64 m.f1, .int .i64 m.f2, .int .i64 m.f3, .int .i64 m.f4, .bool m.f5] 52 (0, 0))) := ⟨by rw [hW2, ← z1]; exact Go.heap_alloc_new _ _⟩
  have HB : Aside0 (Below w.heap.size w W2) := ⟨by rw [hW2, hW1]; exact below_alloc (below_alloc (Below.refl _ _) _) _⟩
  have HS : Aside0 (∀ W', Below W2.heap.size W2 W' → W'.cell? ⟨w.heap.size + 1, 0, none⟩ = some (.int .i64 m.f0) ∧ W'.cell? ⟨w.heap.size + 1, 1, none⟩ = some (.int .i64 m.f1) ∧ W'.cell? ⟨w.heap.size + 1, 2, none⟩ = some (.int .i64 m.f2) ∧ W'.cell? ⟨w.heap.size + 1, 3, none⟩ = some (.int .i64 m.f3) ∧ W'.cell? ⟨w.heap.size + 1, 4, none⟩ = some (.int .i64 m.f4) ∧ W'.cell? ⟨w.heap.size + 1, 5, none⟩ = some (.bool m.f5) ∧ W'.cell? ⟨w.heap.size, 0, none⟩ = some (.int .i64 g) ∧ W'.cell? ⟨w.heap.size, 1, none⟩ = some (.slice A rels.length c) ∧ Below W2.heap.size W2 W') :=
    ⟨fun W' hb => ⟨(blk_cell (blk_below HM.out hb) 0).trans rfl, (blk_cell (blk_below HM.out hb) 1).trans rfl, (blk_cell (blk_below HM.out hb) 2).trans rfl, (blk_cell (blk_below HM.out hb) 3).trans rfl, (blk_cell (blk_below HM.out hb) 4).trans rfl, (blk_cell (blk_below HM.out hb) 5).trans rfl, (blk_cell (blk_below HP.out hb) 0).trans rfl, (blk_cell (blk_below HP.out hb) 1).trans rfl, hb⟩⟩
  obtain ⟨m0, m1, m2, m3, m4, m5, p0, p1, _⟩ := HS.out W2 (Below.refl _ _)
  clear z1
  go_enter Try.func66, Try.ntmps66
  have e1 : (m.f0 == 1) = true := by simp [k1]
  have K1 := Aside0.mk k1
  clear k1
  by_cases h3 : m.f2 < 0
  · go_wp2
    go_ret3
    exact ⟨_, rfl, Kd.R_nil _ _ _ _ _, by rw [← hW1, ← hW2]; exact HB.out⟩
  · have h4 : m.f2 ≥ 2 * g := by omega
    go_wp2
    go_ret3
    exact ⟨_, rfl, Kd.R_nil _ _ _ _ _, by rw [← hW1, ← hW2]; exact HB.out⟩
set_option maxHeartbeats 1600000 in
set_option maxRecDepth 100000 in
theorem move_one_yes (g : Int) (A : Option Addr) (c : Nat) (rels : List ByteArray) (s : ByteArray) (m : S52) (w : World) (hC : Kd.C Kd.string w A rels.length rels) (hc : rels.length ≤ c) (hr : relsL rels) (hg : 1 ≤ g ∧ g ≤ 8) (hs : s.size ≤ 1000000) (hL : allL (bytesOf s)) (h : ¬ m.f1 < 0) (h' : ¬ m.f1 > s.size) (k1 : m.f0 = 1) (h3 : 0 ≤ m.f2) (h4 : m.f2 < 2 * g) :
    Calls Try.prog 66 #[.agg #[.int .i64 g, .slice A rels.length c], .string s, .agg #[.int .i64 m.f0, .int .i64 m.f1, .int .i64 m.f2, .int .i64 m.f3, .int .i64 m.f4, .bool m.f5]] w fun e w' => ∃ v : Value, e = .returned (.tuple #[.string (repl s m.f1.toNat 0 (pairS m.f2)), v, .bool true]) ∧ Kd.R k59 59 w' w.heap.size (fun _ => True) v [] ∧ Below w.heap.size w w' := by
  obtain ⟨hg1, hg2⟩ := hg
  have HC := Aside0.mk hC
  have HL := Aside0.mk hL
  have HRL := Aside0.mk hr
  clear hC hL hr
  obtain ⟨W1, hW1⟩ : ∃ W1, W1 = w.alloc (.cells #[.int .i64 g, .slice A rels.length c] 24) := ⟨_, rfl⟩
  obtain ⟨W2, hW2⟩ : ∃ W2, W2 = W1.alloc (.cells #[.int .i64 m.f0, .int .i64 m.f1, .int .i64 m.f2, .int .i64 m.f3, .int .i64 m.f4, .bool m.f5] 52) := ⟨_, rfl⟩
  have z1 : W1.heap.size = w.heap.size + 1 := by rw [hW1, World.size_alloc]
  have HP : Aside0 (W2.heap[w.heap.size]? = some (.cells #[.int .i64 g, .slice A rels.length c] 24 (0, 0))) := ⟨by rw [hW2]; exact blk_alloc (by rw [hW1]; exact Go.heap_alloc_new _ _) _⟩
  have HM : Aside0 (W2.heap[w.heap.size + 1]? = some (.cells #[.int .i64 m.f0, .int .i64 m.f1, .int .i64 m.f2, .int .i64 m.f3, .int .i64 m.f4, .bool m.f5] 52 (0, 0))) := ⟨by rw [hW2, ← z1]; exact Go.heap_alloc_new _ _⟩
  have HB : Aside0 (Below w.heap.size w W2) := ⟨by rw [hW2, hW1]; exact below_alloc (below_alloc (Below.refl _ _) _) _⟩
  have HS : Aside0 (∀ W', Below W2.heap.size W2 W' → W'.cell? ⟨w.heap.size + 1, 0, none⟩ = some (.int .i64 m.f0) ∧ W'.cell? ⟨w.heap.size + 1, 1, none⟩ = some (.int .i64 m.f1) ∧ W'.cell? ⟨w.heap.size + 1, 2, none⟩ = some (.int .i64 m.f2) ∧ W'.cell? ⟨w.heap.size + 1, 3, none⟩ = some (.int .i64 m.f3) ∧ W'.cell? ⟨w.heap.size + 1, 4, none⟩ = some (.int .i64 m.f4) ∧ W'.cell? ⟨w.heap.size + 1, 5, none⟩ = some (.bool m.f5) ∧ W'.cell? ⟨w.heap.size, 0, none⟩ = some (.int .i64 g) ∧ W'.cell? ⟨w.heap.size, 1, none⟩ = some (.slice A rels.length c) ∧ Below W2.heap.size W2 W') :=
    ⟨fun W' hb => ⟨(blk_cell (blk_below HM.out hb) 0).trans rfl, (blk_cell (blk_below HM.out hb) 1).trans rfl, (blk_cell (blk_below HM.out hb) 2).trans rfl, (blk_cell (blk_below HM.out hb) 3).trans rfl, (blk_cell (blk_below HM.out hb) 4).trans rfl, (blk_cell (blk_below HM.out hb) 5).trans rfl, (blk_cell (blk_below HP.out hb) 0).trans rfl, (blk_cell (blk_below HP.out hb) 1).trans rfl, hb⟩⟩
  obtain ⟨m0, m1, m2, m3, m4, m5, p0, p1, _⟩ := HS.out W2 (Below.refl _ _)
  clear z1
  go_enter Try.func66, Try.ntmps66
  have e1 : (m.f0 == 1) = true := by simp [k1]
  have K1 := Aside0.mk k1
  clear k1
  obtain ⟨x0, x1, x2⟩ := letter_xor m.f2 h3 (by omega)
  obtain ⟨u1, hu1⟩ : ∃ u1, u1 = strOfNums [letterB m.f2] := ⟨_, rfl⟩
  obtain ⟨u2, hu2⟩ : ∃ u2, u2 = strOfNums [otherB (letterB m.f2)] := ⟨_, rfl⟩
  have y1 : u1.size = 1 := by rw [hu1, strOfNums_size]; rfl
  have y2 : u2.size = 1 := by rw [hu2, strOfNums_size]; rfl
  have za : (9223372036854775807 < m.f1.toNat + u1.size) = False := eq_false (by rw [y1]; omega)
  have zb : (9223372036854775807 < m.f1.toNat + u1.size + u2.size) = False := eq_false (by rw [y1, y2]; omega)
  have zc : (9223372036854775807 < m.f1.toNat + u1.size + u2.size + (s.size - m.f1.toNat)) = False := eq_false (by rw [y1, y2]; omega)
  have Y := Aside0.mk (And.intro hu1 hu2)
  have L1 : Aside0 (∀ w, Calls Try.prog 73 #[.int .i64 m.f2] w fun e w' => e = .returned (.string u1) ∧ Below w.heap.size w w') := ⟨by rw [hu1]; exact letterR_calls m.f2 h3 (by omega)⟩
  have L2 : Aside0 (∀ w, Calls Try.prog 73 #[.int .i64 (Go.bits .xor .i64 m.f2 1)] w fun e w' => e = .returned (.string u2) ∧ Below w.heap.size w w') := ⟨by rw [hu2, ← x2]; exact letterR_calls _ x0 x1⟩
  clear hu1 hu2 y1 y2 x0 x1 x2
  have n3 : ¬ m.f2 < 0 := by omega
  have n4 : ¬ m.f2 ≥ 2 * g := by omega
  go_wp2_with (fail)
  rw [← hW1, ← hW2]
  clear hW1 hW2
  have hb00 := Below.refl W2.heap.size W2
  go_region_held3 (fun W' => W'.cell? ⟨w.heap.size + 1, 0, none⟩ = some (.int .i64 m.f0) ∧ W'.cell? ⟨w.heap.size + 1, 1, none⟩ = some (.int .i64 m.f1) ∧ W'.cell? ⟨w.heap.size + 1, 2, none⟩ = some (.int .i64 m.f2) ∧ W'.cell? ⟨w.heap.size + 1, 3, none⟩ = some (.int .i64 m.f3) ∧ W'.cell? ⟨w.heap.size + 1, 4, none⟩ = some (.int .i64 m.f4) ∧ W'.cell? ⟨w.heap.size + 1, 5, none⟩ = some (.bool m.f5) ∧ W'.cell? ⟨w.heap.size, 0, none⟩ = some (.int .i64 g) ∧ W'.cell? ⟨w.heap.size, 1, none⟩ = some (.slice A rels.length c) ∧ Below W2.heap.size W2 W') (first | exact HS.out _ (by assumption) | exact HS.out _ (below_drew (by assumption)) | exact HS.out _ (pw_below_drewN (by assumption) _) | exact HS.out _ (below_alloc (by assumption) _) | exact HS.out _ (below_alloc (below_drew (by assumption)) _)) (first | (go_at_call 73; refine (L1.out _).mono ?_; rintro e w' ⟨rfl, hb⟩; clear L1; have hbn : Below W2.heap.size W2 w' := below_step (by first | assumption | exact below_drew (by assumption)) hb) | (go_at_call 73; refine (L2.out _).mono ?_; rintro e w' ⟨rfl, hb⟩; have hbn : Below W2.heap.size W2 w' := below_step (by first | assumption | exact below_drew (by assumption)) hb))
  all_goals
    go_wp2
    go_ret3
    refine ⟨_, ?_, Kd.R_nil _ _ _ _ _, below_step HB.out (by first | assumption | exact pw_below_drewN (Below.refl _ _) _ | exact below_drew (by assumption) | exact pw_below_drewN (by assumption) _)⟩
    refine Eq.trans (b := .returned (.tuple #[.string (s.extract 0 m.f1.toNat ++ u1 ++ u2 ++ s.extract m.f1.toNat s.size), .slice none 0 0, .bool true])) rfl ?_
    rw [Y.out.1, Y.out.2, repl_pair]
set_option maxHeartbeats 1600000 in
set_option maxRecDepth 100000 in
theorem move_two_no0 (g : Int) (A : Option Addr) (c : Nat) (rels : List ByteArray) (s : ByteArray) (m : S52) (w : World) (hC : Kd.C Kd.string w A rels.length rels) (hc : rels.length ≤ c) (hr : relsL rels) (hg : 1 ≤ g ∧ g ≤ 8) (hs : s.size ≤ 1000000) (hL : allL (bytesOf s)) (h : ¬ m.f1 < 0) (h' : ¬ m.f1 > s.size) (k1 : m.f0 = 2) (h2 : m.f1 + 2 > s.size) :
    Calls Try.prog 66 #[.agg #[.int .i64 g, .slice A rels.length c], .string s, .agg #[.int .i64 m.f0, .int .i64 m.f1, .int .i64 m.f2, .int .i64 m.f3, .int .i64 m.f4, .bool m.f5]] w fun e w' => ∃ v : Value, e = .returned (.tuple #[.string ⟨#[]⟩, v, .bool false]) ∧ Kd.R k59 59 w' w.heap.size (fun _ => True) v [] ∧ Below w.heap.size w w' := by
  obtain ⟨hg1, hg2⟩ := hg
  have HC := Aside0.mk hC
  have HL := Aside0.mk hL
  have HRL := Aside0.mk hr
  clear hC hL hr
  obtain ⟨W1, hW1⟩ : ∃ W1, W1 = w.alloc (.cells #[.int .i64 g, .slice A rels.length c] 24) := ⟨_, rfl⟩
  obtain ⟨W2, hW2⟩ : ∃ W2, W2 = W1.alloc (.cells #[.int .i64 m.f0, .int .i64 m.f1, .int .i64 m.f2, .int .i64 m.f3, .int .i64 m.f4, .bool m.f5] 52) := ⟨_, rfl⟩
  have z1 : W1.heap.size = w.heap.size + 1 := by rw [hW1, World.size_alloc]
  have HP : Aside0 (W2.heap[w.heap.size]? = some (.cells #[.int .i64 g, .slice A rels.length c] 24 (0, 0))) := ⟨by rw [hW2]; exact blk_alloc (by rw [hW1]; exact Go.heap_alloc_new _ _) _⟩
  have HM : Aside0 (W2.heap[w.heap.size + 1]? = some (.cells #[.int .i64 m.f0, .int .i64 m.f1, .int .i64 m.f2, .int .i64 m.f3, .int .i64 m.f4, .bool m.f5] 52 (0, 0))) := ⟨by rw [hW2, ← z1]; exact Go.heap_alloc_new _ _⟩
  have HB : Aside0 (Below w.heap.size w W2) := ⟨by rw [hW2, hW1]; exact below_alloc (below_alloc (Below.refl _ _) _) _⟩
  have HS : Aside0 (∀ W', Below W2.heap.size W2 W' → W'.cell? ⟨w.heap.size + 1, 0, none⟩ = some (.int .i64 m.f0) ∧ W'.cell? ⟨w.heap.size + 1, 1, none⟩ = some (.int .i64 m.f1) ∧ W'.cell? ⟨w.heap.size + 1, 2, none⟩ = some (.int .i64 m.f2) ∧ W'.cell? ⟨w.heap.size + 1, 3, none⟩ = some (.int .i64 m.f3) ∧ W'.cell? ⟨w.heap.size + 1, 4, none⟩ = some (.int .i64 m.f4) ∧ W'.cell? ⟨w.heap.size + 1, 5, none⟩ = some (.bool m.f5) ∧ W'.cell? ⟨w.heap.size, 0, none⟩ = some (.int .i64 g) ∧ W'.cell? ⟨w.heap.size, 1, none⟩ = some (.slice A rels.length c) ∧ Below W2.heap.size W2 W') :=
    ⟨fun W' hb => ⟨(blk_cell (blk_below HM.out hb) 0).trans rfl, (blk_cell (blk_below HM.out hb) 1).trans rfl, (blk_cell (blk_below HM.out hb) 2).trans rfl, (blk_cell (blk_below HM.out hb) 3).trans rfl, (blk_cell (blk_below HM.out hb) 4).trans rfl, (blk_cell (blk_below HM.out hb) 5).trans rfl, (blk_cell (blk_below HP.out hb) 0).trans rfl, (blk_cell (blk_below HP.out hb) 1).trans rfl, hb⟩⟩
  obtain ⟨m0, m1, m2, m3, m4, m5, p0, p1, _⟩ := HS.out W2 (Below.refl _ _)
  clear z1
  go_enter Try.func66, Try.ntmps66
  have e1 : (m.f0 == 1) = false := by simp [k1]
  have e2 : (m.f0 == 2) = true := by simp [k1]
  have K1 := Aside0.mk k1
  clear k1
  have kw : IntKind.i64.wrap (m.f1 + 2) = m.f1 + 2 := IntWalk.i64_in _ (by omega)
  have kw1 : IntKind.i64.wrap (m.f1 + 1) = m.f1 + 1 := IntWalk.i64_in _ (by omega)
  have d2 : decide ((s.size : Int) < m.f1 + 2) = true := by simp; omega
  go_wp2_with (fail)
  rw [← hW1, ← hW2]
  clear hW1 hW2
  go_quiet (fail)
  go_wp2
  go_ret3
  exact ⟨_, rfl, Kd.R_nil _ _ _ _ _, below_step HB.out (by first | assumption | exact pw_below_drewN (Below.refl _ _) _ | exact below_drew (by assumption) | exact pw_below_drewN (by assumption) _)⟩
set_option maxHeartbeats 1600000 in
set_option maxRecDepth 100000 in
theorem move_two_no1 (g : Int) (A : Option Addr) (c : Nat) (rels : List ByteArray) (s : ByteArray) (m : S52) (w : World) (hC : Kd.C Kd.string w A rels.length rels) (hc : rels.length ≤ c) (hr : relsL rels) (hg : 1 ≤ g ∧ g ≤ 8) (hs : s.size ≤ 1000000) (hL : allL (bytesOf s)) (h : ¬ m.f1 < 0) (h' : ¬ m.f1 > s.size) (k1 : m.f0 = 2) (h2 : ¬ m.f1 + 2 > s.size) (hne : (bt s (m.f1 + 1) != otherB (bt s m.f1)) = true) :
    Calls Try.prog 66 #[.agg #[.int .i64 g, .slice A rels.length c], .string s, .agg #[.int .i64 m.f0, .int .i64 m.f1, .int .i64 m.f2, .int .i64 m.f3, .int .i64 m.f4, .bool m.f5]] w fun e w' => ∃ v : Value, e = .returned (.tuple #[.string ⟨#[]⟩, v, .bool false]) ∧ Kd.R k59 59 w' w.heap.size (fun _ => True) v [] ∧ Below w.heap.size w w' := by
  obtain ⟨hg1, hg2⟩ := hg
  have HC := Aside0.mk hC
  have HL := Aside0.mk hL
  have HRL := Aside0.mk hr
  clear hC hL hr
  obtain ⟨W1, hW1⟩ : ∃ W1, W1 = w.alloc (.cells #[.int .i64 g, .slice A rels.length c] 24) := ⟨_, rfl⟩
  obtain ⟨W2, hW2⟩ : ∃ W2, W2 = W1.alloc (.cells #[.int .i64 m.f0, .int .i64 m.f1, .int .i64 m.f2, .int .i64 m.f3, .int .i64 m.f4, .bool m.f5] 52) := ⟨_, rfl⟩
  have z1 : W1.heap.size = w.heap.size + 1 := by rw [hW1, World.size_alloc]
  have HP : Aside0 (W2.heap[w.heap.size]? = some (.cells #[.int .i64 g, .slice A rels.length c] 24 (0, 0))) := ⟨by rw [hW2]; exact blk_alloc (by rw [hW1]; exact Go.heap_alloc_new _ _) _⟩
  have HM : Aside0 (W2.heap[w.heap.size + 1]? = some (.cells #[.int .i64 m.f0, .int .i64 m.f1, .int .i64 m.f2, .int .i64 m.f3, .int .i64 m.f4, .bool m.f5] 52 (0, 0))) := ⟨by rw [hW2, ← z1]; exact Go.heap_alloc_new _ _⟩
  have HB : Aside0 (Below w.heap.size w W2) := ⟨by rw [hW2, hW1]; exact below_alloc (below_alloc (Below.refl _ _) _) _⟩
  have HS : Aside0 (∀ W', Below W2.heap.size W2 W' → W'.cell? ⟨w.heap.size + 1, 0, none⟩ = some (.int .i64 m.f0) ∧ W'.cell? ⟨w.heap.size + 1, 1, none⟩ = some (.int .i64 m.f1) ∧ W'.cell? ⟨w.heap.size + 1, 2, none⟩ = some (.int .i64 m.f2) ∧ W'.cell? ⟨w.heap.size + 1, 3, none⟩ = some (.int .i64 m.f3) ∧ W'.cell? ⟨w.heap.size + 1, 4, none⟩ = some (.int .i64 m.f4) ∧ W'.cell? ⟨w.heap.size + 1, 5, none⟩ = some (.bool m.f5) ∧ W'.cell? ⟨w.heap.size, 0, none⟩ = some (.int .i64 g) ∧ W'.cell? ⟨w.heap.size, 1, none⟩ = some (.slice A rels.length c) ∧ Below W2.heap.size W2 W') :=
    ⟨fun W' hb => ⟨(blk_cell (blk_below HM.out hb) 0).trans rfl, (blk_cell (blk_below HM.out hb) 1).trans rfl, (blk_cell (blk_below HM.out hb) 2).trans rfl, (blk_cell (blk_below HM.out hb) 3).trans rfl, (blk_cell (blk_below HM.out hb) 4).trans rfl, (blk_cell (blk_below HM.out hb) 5).trans rfl, (blk_cell (blk_below HP.out hb) 0).trans rfl, (blk_cell (blk_below HP.out hb) 1).trans rfl, hb⟩⟩
  obtain ⟨m0, m1, m2, m3, m4, m5, p0, p1, _⟩ := HS.out W2 (Below.refl _ _)
  clear z1
  go_enter Try.func66, Try.ntmps66
  have e1 : (m.f0 == 1) = false := by simp [k1]
  have e2 : (m.f0 == 2) = true := by simp [k1]
  have K1 := Aside0.mk k1
  clear k1
  have kw : IntKind.i64.wrap (m.f1 + 2) = m.f1 + 2 := IntWalk.i64_in _ (by omega)
  have kw1 : IntKind.i64.wrap (m.f1 + 1) = m.f1 + 1 := IntWalk.i64_in _ (by omega)
  have i0 : m.f1 < s.size := by omega
  have i1 : m.f1 + 1 < s.size := by omega
  have i2 : 0 ≤ m.f1 + 1 := by omega
  have i3 : m.f1 + 2 ≤ s.size := by omega
  have i4 : 0 ≤ m.f1 + 2 := by omega
  have i5 : 0 ≤ m.f1 := by omega
  have i6 : m.f1 ≤ s.size := by omega
  have d2 : decide ((s.size : Int) < m.f1 + 2) = false := by simp; omega
  have b1 := bt_at s m.f1
  have b2 := bt_at s (m.f1 + 1)
  have L1 : Aside0 (∀ w, Calls Try.prog 49 #[.int .u8 (bt s m.f1)] w fun e w' => e = .returned (.int .u8 (otherB (bt s m.f1))) ∧ Below w.heap.size w w') := ⟨fun w => invertedR_calls _ (bt_isL HL.out (by omega) (by omega)) w⟩
  go_wp2_with (fail)
  rw [← hW1, ← hW2]
  clear hW1 hW2
  have hb00 := Below.refl W2.heap.size W2
  go_region_held3 (fun W' => W'.cell? ⟨w.heap.size + 1, 0, none⟩ = some (.int .i64 m.f0) ∧ W'.cell? ⟨w.heap.size + 1, 1, none⟩ = some (.int .i64 m.f1) ∧ W'.cell? ⟨w.heap.size + 1, 2, none⟩ = some (.int .i64 m.f2) ∧ W'.cell? ⟨w.heap.size + 1, 3, none⟩ = some (.int .i64 m.f3) ∧ W'.cell? ⟨w.heap.size + 1, 4, none⟩ = some (.int .i64 m.f4) ∧ W'.cell? ⟨w.heap.size + 1, 5, none⟩ = some (.bool m.f5) ∧ W'.cell? ⟨w.heap.size, 0, none⟩ = some (.int .i64 g) ∧ W'.cell? ⟨w.heap.size, 1, none⟩ = some (.slice A rels.length c) ∧ Below W2.heap.size W2 W') (first | exact HS.out _ (by assumption) | exact HS.out _ (below_drew (by assumption)) | exact HS.out _ (pw_below_drewN (by assumption) _) | exact HS.out _ (below_alloc (by assumption) _) | exact HS.out _ (below_alloc (below_drew (by assumption)) _)) (first | (go_at_call 49; refine (L1.out _).mono ?_; rintro e w' ⟨rfl, hb⟩; clear L1; have hbn : Below W2.heap.size W2 w' := below_step (by first | assumption | exact below_drew (by assumption)) hb))
  all_goals
    go_wp2
    go_ret3
    exact ⟨_, rfl, Kd.R_nil _ _ _ _ _, below_step HB.out (by first | assumption | exact pw_below_drewN (Below.refl _ _) _ | exact below_drew (by assumption) | exact pw_below_drewN (by assumption) _)⟩
set_option maxHeartbeats 1600000 in
set_option maxRecDepth 100000 in
theorem move_two_yes (g : Int) (A : Option Addr) (c : Nat) (rels : List ByteArray) (s : ByteArray) (m : S52) (w : World) (hC : Kd.C Kd.string w A rels.length rels) (hc : rels.length ≤ c) (hr : relsL rels) (hg : 1 ≤ g ∧ g ≤ 8) (hs : s.size ≤ 1000000) (hL : allL (bytesOf s)) (h : ¬ m.f1 < 0) (h' : ¬ m.f1 > s.size) (k1 : m.f0 = 2) (h2 : ¬ m.f1 + 2 > s.size) (hne : (bt s (m.f1 + 1) != otherB (bt s m.f1)) = false) :
    Calls Try.prog 66 #[.agg #[.int .i64 g, .slice A rels.length c], .string s, .agg #[.int .i64 m.f0, .int .i64 m.f1, .int .i64 m.f2, .int .i64 m.f3, .int .i64 m.f4, .bool m.f5]] w fun e w' => ∃ v : Value, e = .returned (.tuple #[.string (repl s m.f1.toNat 2 ⟨#[]⟩), v, .bool true]) ∧ Kd.R k59 59 w' w.heap.size (fun _ => True) v [] ∧ Below w.heap.size w w' := by
  obtain ⟨hg1, hg2⟩ := hg
  have HC := Aside0.mk hC
  have HL := Aside0.mk hL
  have HRL := Aside0.mk hr
  clear hC hL hr
  obtain ⟨W1, hW1⟩ : ∃ W1, W1 = w.alloc (.cells #[.int .i64 g, .slice A rels.length c] 24) := ⟨_, rfl⟩
  obtain ⟨W2, hW2⟩ : ∃ W2, W2 = W1.alloc (.cells #[.int .i64 m.f0, .int .i64 m.f1, .int .i64 m.f2, .int .i64 m.f3, .int .i64 m.f4, .bool m.f5] 52) := ⟨_, rfl⟩
  have z1 : W1.heap.size = w.heap.size + 1 := by rw [hW1, World.size_alloc]
  have HP : Aside0 (W2.heap[w.heap.size]? = some (.cells #[.int .i64 g, .slice A rels.length c] 24 (0, 0))) := ⟨by rw [hW2]; exact blk_alloc (by rw [hW1]; exact Go.heap_alloc_new _ _) _⟩
  have HM : Aside0 (W2.heap[w.heap.size + 1]? = some (.cells #[.int .i64 m.f0, .int .i64 m.f1, .int .i64 m.f2, .int .i64 m.f3, .int .i64 m.f4, .bool m.f5] 52 (0, 0))) := ⟨by rw [hW2, ← z1]; exact Go.heap_alloc_new _ _⟩
  have HB : Aside0 (Below w.heap.size w W2) := ⟨by rw [hW2, hW1]; exact below_alloc (below_alloc (Below.refl _ _) _) _⟩
  have HS : Aside0 (∀ W', Below W2.heap.size W2 W' → W'.cell? ⟨w.heap.size + 1, 0, none⟩ = some (.int .i64 m.f0) ∧ W'.cell? ⟨w.heap.size + 1, 1, none⟩ = some (.int .i64 m.f1) ∧ W'.cell? ⟨w.heap.size + 1, 2, none⟩ = some (.int .i64 m.f2) ∧ W'.cell? ⟨w.heap.size + 1, 3, none⟩ = some (.int .i64 m.f3) ∧ W'.cell? ⟨w.heap.size + 1, 4, none⟩ = some (.int .i64 m.f4) ∧ W'.cell? ⟨w.heap.size + 1, 5, none⟩ = some (.bool m.f5) ∧ W'.cell? ⟨w.heap.size, 0, none⟩ = some (.int .i64 g) ∧ W'.cell? ⟨w.heap.size, 1, none⟩ = some (.slice A rels.length c) ∧ Below W2.heap.size W2 W') :=
    ⟨fun W' hb => ⟨(blk_cell (blk_below HM.out hb) 0).trans rfl, (blk_cell (blk_below HM.out hb) 1).trans rfl, (blk_cell (blk_below HM.out hb) 2).trans rfl, (blk_cell (blk_below HM.out hb) 3).trans rfl, (blk_cell (blk_below HM.out hb) 4).trans rfl, (blk_cell (blk_below HM.out hb) 5).trans rfl, (blk_cell (blk_below HP.out hb) 0).trans rfl, (blk_cell (blk_below HP.out hb) 1).trans rfl, hb⟩⟩
  obtain ⟨m0, m1, m2, m3, m4, m5, p0, p1, _⟩ := HS.out W2 (Below.refl _ _)
  clear z1
  go_enter Try.func66, Try.ntmps66
  have e1 : (m.f0 == 1) = false := by simp [k1]
  have e2 : (m.f0 == 2) = true := by simp [k1]
  have K1 := Aside0.mk k1
  clear k1
  have kw : IntKind.i64.wrap (m.f1 + 2) = m.f1 + 2 := IntWalk.i64_in _ (by omega)
  have kw1 : IntKind.i64.wrap (m.f1 + 1) = m.f1 + 1 := IntWalk.i64_in _ (by omega)
  have i0 : m.f1 < s.size := by omega
  have i1 : m.f1 + 1 < s.size := by omega
  have i2 : 0 ≤ m.f1 + 1 := by omega
  have i3 : m.f1 + 2 ≤ s.size := by omega
  have i4 : 0 ≤ m.f1 + 2 := by omega
  have i5 : 0 ≤ m.f1 := by omega
  have i6 : m.f1 ≤ s.size := by omega
  have d2 : decide ((s.size : Int) < m.f1 + 2) = false := by simp; omega
  have b1 := bt_at s m.f1
  have b2 := bt_at s (m.f1 + 1)
  have L1 : Aside0 (∀ w, Calls Try.prog 49 #[.int .u8 (bt s m.f1)] w fun e w' => e = .returned (.int .u8 (otherB (bt s m.f1))) ∧ Below w.heap.size w w') := ⟨fun w => invertedR_calls _ (bt_isL HL.out (by omega) (by omega)) w⟩
  go_wp2_with (fail)
  rw [← hW1, ← hW2]
  clear hW1 hW2
  have zd : (9223372036854775807 < m.f1.toNat + (s.size - (m.f1 + 2).toNat)) = False := eq_false (by omega)
  have zt : (m.f1 + 2).toNat = m.f1.toNat + 2 := by omega
  have ZT := Aside0.mk zt
  clear zt
  have hb00 := Below.refl W2.heap.size W2
  go_region_held3 (fun W' => W'.cell? ⟨w.heap.size + 1, 0, none⟩ = some (.int .i64 m.f0) ∧ W'.cell? ⟨w.heap.size + 1, 1, none⟩ = some (.int .i64 m.f1) ∧ W'.cell? ⟨w.heap.size + 1, 2, none⟩ = some (.int .i64 m.f2) ∧ W'.cell? ⟨w.heap.size + 1, 3, none⟩ = some (.int .i64 m.f3) ∧ W'.cell? ⟨w.heap.size + 1, 4, none⟩ = some (.int .i64 m.f4) ∧ W'.cell? ⟨w.heap.size + 1, 5, none⟩ = some (.bool m.f5) ∧ W'.cell? ⟨w.heap.size, 0, none⟩ = some (.int .i64 g) ∧ W'.cell? ⟨w.heap.size, 1, none⟩ = some (.slice A rels.length c) ∧ Below W2.heap.size W2 W') (first | exact HS.out _ (by assumption) | exact HS.out _ (below_drew (by assumption)) | exact HS.out _ (pw_below_drewN (by assumption) _) | exact HS.out _ (below_alloc (by assumption) _) | exact HS.out _ (below_alloc (below_drew (by assumption)) _)) (first | (go_at_call 49; refine (L1.out _).mono ?_; rintro e w' ⟨rfl, hb⟩; clear L1; have hbn : Below W2.heap.size W2 w' := below_step (by first | assumption | exact below_drew (by assumption)) hb))
  all_goals
    go_wp2_with (fail)
    have hq := (HS.out _ hbn).2.1
    have hw := hbn
    go_quiet (fail)
  all_goals
    go_wp2
    go_ret3
    refine ⟨_, ?_, Kd.R_nil _ _ _ _ _, below_step HB.out (by first | assumption | exact pw_below_drewN (Below.refl _ _) _ | exact below_drew (by assumption) | exact pw_below_drewN (by assumption) _)⟩
    refine Eq.trans (b := .returned (.tuple #[.string (s.extract 0 m.f1.toNat ++ s.extract (m.f1 + 2).toNat s.size), .slice none 0 0, .bool true])) rfl ?_
    rw [ZT.out, repl_del]
set_option maxHeartbeats 1600000 in
set_option maxRecDepth 100000 in
theorem move_rel_no3 (g : Int) (A : Option Addr) (c : Nat) (rels : List ByteArray) (s : ByteArray) (m : S52) (w : World) (hC : Kd.C Kd.string w A rels.length rels) (hc : rels.length ≤ c) (hr : relsL rels) (hg : 1 ≤ g ∧ g ≤ 8) (hs : s.size ≤ 1000000) (hL : allL (bytesOf s)) (h : ¬ m.f1 < 0) (h' : ¬ m.f1 > s.size) (k1 : m.f0 = 3) (hrel : turnedS rels m = (⟨#[]⟩, ⟨#[]⟩, false)) :
    Calls Try.prog 66 #[.agg #[.int .i64 g, .slice A rels.length c], .string s, .agg #[.int .i64 m.f0, .int .i64 m.f1, .int .i64 m.f2, .int .i64 m.f3, .int .i64 m.f4, .bool m.f5]] w fun e w' => ∃ v : Value, e = .returned (.tuple #[.string ⟨#[]⟩, v, .bool false]) ∧ Kd.R k59 59 w' w.heap.size (fun _ => True) v [] ∧ Below w.heap.size w w' := by
  obtain ⟨hg1, hg2⟩ := hg
  have HC := Aside0.mk hC
  have HL := Aside0.mk hL
  have HRL := Aside0.mk hr
  clear hC hL hr
  obtain ⟨W1, hW1⟩ : ∃ W1, W1 = w.alloc (.cells #[.int .i64 g, .slice A rels.length c] 24) := ⟨_, rfl⟩
  obtain ⟨W2, hW2⟩ : ∃ W2, W2 = W1.alloc (.cells #[.int .i64 m.f0, .int .i64 m.f1, .int .i64 m.f2, .int .i64 m.f3, .int .i64 m.f4, .bool m.f5] 52) := ⟨_, rfl⟩
  have z1 : W1.heap.size = w.heap.size + 1 := by rw [hW1, World.size_alloc]
  have HP : Aside0 (W2.heap[w.heap.size]? = some (.cells #[.int .i64 g, .slice A rels.length c] 24 (0, 0))) := ⟨by rw [hW2]; exact blk_alloc (by rw [hW1]; exact Go.heap_alloc_new _ _) _⟩
  have HM : Aside0 (W2.heap[w.heap.size + 1]? = some (.cells #[.int .i64 m.f0, .int .i64 m.f1, .int .i64 m.f2, .int .i64 m.f3, .int .i64 m.f4, .bool m.f5] 52 (0, 0))) := ⟨by rw [hW2, ← z1]; exact Go.heap_alloc_new _ _⟩
  have HB : Aside0 (Below w.heap.size w W2) := ⟨by rw [hW2, hW1]; exact below_alloc (below_alloc (Below.refl _ _) _) _⟩
  have HS : Aside0 (∀ W', Below W2.heap.size W2 W' → W'.cell? ⟨w.heap.size + 1, 0, none⟩ = some (.int .i64 m.f0) ∧ W'.cell? ⟨w.heap.size + 1, 1, none⟩ = some (.int .i64 m.f1) ∧ W'.cell? ⟨w.heap.size + 1, 2, none⟩ = some (.int .i64 m.f2) ∧ W'.cell? ⟨w.heap.size + 1, 3, none⟩ = some (.int .i64 m.f3) ∧ W'.cell? ⟨w.heap.size + 1, 4, none⟩ = some (.int .i64 m.f4) ∧ W'.cell? ⟨w.heap.size + 1, 5, none⟩ = some (.bool m.f5) ∧ W'.cell? ⟨w.heap.size, 0, none⟩ = some (.int .i64 g) ∧ W'.cell? ⟨w.heap.size, 1, none⟩ = some (.slice A rels.length c) ∧ Below W2.heap.size W2 W') :=
    ⟨fun W' hb => ⟨(blk_cell (blk_below HM.out hb) 0).trans rfl, (blk_cell (blk_below HM.out hb) 1).trans rfl, (blk_cell (blk_below HM.out hb) 2).trans rfl, (blk_cell (blk_below HM.out hb) 3).trans rfl, (blk_cell (blk_below HM.out hb) 4).trans rfl, (blk_cell (blk_below HM.out hb) 5).trans rfl, (blk_cell (blk_below HP.out hb) 0).trans rfl, (blk_cell (blk_below HP.out hb) 1).trans rfl, hb⟩⟩
  obtain ⟨m0, m1, m2, m3, m4, m5, p0, p1, _⟩ := HS.out W2 (Below.refl _ _)
  clear z1
  go_enter Try.func66, Try.ntmps66
  have e1 : (m.f0 == 1) = false := by simp [k1]
  have e2 : (m.f0 == 2) = false := by simp [k1]
  have e3 : (m.f0 == 3) = true := by simp [k1]
  have K1 := Aside0.mk k1
  clear k1
  have T := Aside0.mk hrel
  clear hrel
  go_wp2_with (go_at_call 67; go_must (rw [← hW1, ← hW2]; clear hW1 hW2; refine (turnedR_calls g A c rels HRL.out m _ (Kd.C_below HC.out HB.out) hc _ _ _ T.out).mono ?_; rintro e w2 ⟨rfl, hb⟩; have HB2 := Aside0.mk hb; obtain ⟨n0, n1, n2, n3, n4, n5, r0, r1, _⟩ := HS.out _ hb; clear hb))
  go_ret3
  exact ⟨_, rfl, Kd.R_nil _ _ _ _ _, below_step HB.out HB2.out⟩
set_option maxHeartbeats 1600000 in
set_option maxRecDepth 100000 in
theorem move_rel_no4 (g : Int) (A : Option Addr) (c : Nat) (rels : List ByteArray) (s : ByteArray) (m : S52) (w : World) (hC : Kd.C Kd.string w A rels.length rels) (hc : rels.length ≤ c) (hr : relsL rels) (hg : 1 ≤ g ∧ g ≤ 8) (hs : s.size ≤ 1000000) (hL : allL (bytesOf s)) (h : ¬ m.f1 < 0) (h' : ¬ m.f1 > s.size) (k1 : m.f0 = 4) (hrel : turnedS rels m = (⟨#[]⟩, ⟨#[]⟩, false)) :
    Calls Try.prog 66 #[.agg #[.int .i64 g, .slice A rels.length c], .string s, .agg #[.int .i64 m.f0, .int .i64 m.f1, .int .i64 m.f2, .int .i64 m.f3, .int .i64 m.f4, .bool m.f5]] w fun e w' => ∃ v : Value, e = .returned (.tuple #[.string ⟨#[]⟩, v, .bool false]) ∧ Kd.R k59 59 w' w.heap.size (fun _ => True) v [] ∧ Below w.heap.size w w' := by
  obtain ⟨hg1, hg2⟩ := hg
  have HC := Aside0.mk hC
  have HL := Aside0.mk hL
  have HRL := Aside0.mk hr
  clear hC hL hr
  obtain ⟨W1, hW1⟩ : ∃ W1, W1 = w.alloc (.cells #[.int .i64 g, .slice A rels.length c] 24) := ⟨_, rfl⟩
  obtain ⟨W2, hW2⟩ : ∃ W2, W2 = W1.alloc (.cells #[.int .i64 m.f0, .int .i64 m.f1, .int .i64 m.f2, .int .i64 m.f3, .int .i64 m.f4, .bool m.f5] 52) := ⟨_, rfl⟩
  have z1 : W1.heap.size = w.heap.size + 1 := by rw [hW1, World.size_alloc]
  have HP : Aside0 (W2.heap[w.heap.size]? = some (.cells #[.int .i64 g, .slice A rels.length c] 24 (0, 0))) := ⟨by rw [hW2]; exact blk_alloc (by rw [hW1]; exact Go.heap_alloc_new _ _) _⟩
  have HM : Aside0 (W2.heap[w.heap.size + 1]? = some (.cells #[.int .i64 m.f0, .int .i64 m.f1, .int .i64 m.f2, .int .i64 m.f3, .int .i64 m.f4, .bool m.f5] 52 (0, 0))) := ⟨by rw [hW2, ← z1]; exact Go.heap_alloc_new _ _⟩
  have HB : Aside0 (Below w.heap.size w W2) := ⟨by rw [hW2, hW1]; exact below_alloc (below_alloc (Below.refl _ _) _) _⟩
  have HS : Aside0 (∀ W', Below W2.heap.size W2 W' → W'.cell? ⟨w.heap.size + 1, 0, none⟩ = some (.int .i64 m.f0) ∧ W'.cell? ⟨w.heap.size + 1, 1, none⟩ = some (.int .i64 m.f1) ∧ W'.cell? ⟨w.heap.size + 1, 2, none⟩ = some (.int .i64 m.f2) ∧ W'.cell? ⟨w.heap.size + 1, 3, none⟩ = some (.int .i64 m.f3) ∧ W'.cell? ⟨w.heap.size + 1, 4, none⟩ = some (.int .i64 m.f4) ∧ W'.cell? ⟨w.heap.size + 1, 5, none⟩ = some (.bool m.f5) ∧ W'.cell? ⟨w.heap.size, 0, none⟩ = some (.int .i64 g) ∧ W'.cell? ⟨w.heap.size, 1, none⟩ = some (.slice A rels.length c) ∧ Below W2.heap.size W2 W') :=
    ⟨fun W' hb => ⟨(blk_cell (blk_below HM.out hb) 0).trans rfl, (blk_cell (blk_below HM.out hb) 1).trans rfl, (blk_cell (blk_below HM.out hb) 2).trans rfl, (blk_cell (blk_below HM.out hb) 3).trans rfl, (blk_cell (blk_below HM.out hb) 4).trans rfl, (blk_cell (blk_below HM.out hb) 5).trans rfl, (blk_cell (blk_below HP.out hb) 0).trans rfl, (blk_cell (blk_below HP.out hb) 1).trans rfl, hb⟩⟩
  obtain ⟨m0, m1, m2, m3, m4, m5, p0, p1, _⟩ := HS.out W2 (Below.refl _ _)
  clear z1
  go_enter Try.func66, Try.ntmps66
  have e1 : (m.f0 == 1) = false := by simp [k1]
  have e2 : (m.f0 == 2) = false := by simp [k1]
  have e3 : (m.f0 == 3) = false := by simp [k1]
  have e4 : (m.f0 == 4) = true := by simp [k1]
  have K1 := Aside0.mk k1
  clear k1
  have T := Aside0.mk hrel
  clear hrel
  go_wp2_with (go_at_call 67; go_must (rw [← hW1, ← hW2]; clear hW1 hW2; refine (turnedR_calls g A c rels HRL.out m _ (Kd.C_below HC.out HB.out) hc _ _ _ T.out).mono ?_; rintro e w2 ⟨rfl, hb⟩; have HB2 := Aside0.mk hb; obtain ⟨n0, n1, n2, n3, n4, n5, r0, r1, _⟩ := HS.out _ hb; clear hb))
  go_ret3
  exact ⟨_, rfl, Kd.R_nil _ _ _ _ _, below_step HB.out HB2.out⟩
set_option maxHeartbeats 1600000 in
set_option maxRecDepth 100000 in
theorem move_three_yes (g : Int) (A : Option Addr) (c : Nat) (rels : List ByteArray) (s : ByteArray) (m : S52) (w : World) (hC : Kd.C Kd.string w A rels.length rels) (hc : rels.length ≤ c) (hr : relsL rels) (hg : 1 ≤ g ∧ g ≤ 8) (hs : s.size ≤ 1000000) (hL : allL (bytesOf s)) (h : ¬ m.f1 < 0) (h' : ¬ m.f1 > s.size) (k1 : m.f0 = 3) (hok : relOkM rels m = true) (hrel : turnedS rels m = (rotM rels m, beforeM rels m, true)) :
    Calls Try.prog 66 #[.agg #[.int .i64 g, .slice A rels.length c], .string s, .agg #[.int .i64 m.f0, .int .i64 m.f1, .int .i64 m.f2, .int .i64 m.f3, .int .i64 m.f4, .bool m.f5]] w fun e w' => ∃ v : Value, e = .returned (.tuple #[.string (repl s m.f1.toNat 0 (rotM rels m)), v, .bool true]) ∧ Kd.R k59 59 w' w.heap.size (fun _ => True) v [cellM rels s m (!m.f5)] ∧ Below w.heap.size w w' := by
  obtain ⟨hg1, hg2⟩ := hg
  have HC := Aside0.mk hC
  have HL := Aside0.mk hL
  have HRL := Aside0.mk hr
  clear hC hL hr
  obtain ⟨W1, hW1⟩ : ∃ W1, W1 = w.alloc (.cells #[.int .i64 g, .slice A rels.length c] 24) := ⟨_, rfl⟩
  obtain ⟨W2, hW2⟩ : ∃ W2, W2 = W1.alloc (.cells #[.int .i64 m.f0, .int .i64 m.f1, .int .i64 m.f2, .int .i64 m.f3, .int .i64 m.f4, .bool m.f5] 52) := ⟨_, rfl⟩
  have z1 : W1.heap.size = w.heap.size + 1 := by rw [hW1, World.size_alloc]
  have HP : Aside0 (W2.heap[w.heap.size]? = some (.cells #[.int .i64 g, .slice A rels.length c] 24 (0, 0))) := ⟨by rw [hW2]; exact blk_alloc (by rw [hW1]; exact Go.heap_alloc_new _ _) _⟩
  have HM : Aside0 (W2.heap[w.heap.size + 1]? = some (.cells #[.int .i64 m.f0, .int .i64 m.f1, .int .i64 m.f2, .int .i64 m.f3, .int .i64 m.f4, .bool m.f5] 52 (0, 0))) := ⟨by rw [hW2, ← z1]; exact Go.heap_alloc_new _ _⟩
  have HB : Aside0 (Below w.heap.size w W2) := ⟨by rw [hW2, hW1]; exact below_alloc (below_alloc (Below.refl _ _) _) _⟩
  have HS : Aside0 (∀ W', Below W2.heap.size W2 W' → W'.cell? ⟨w.heap.size + 1, 0, none⟩ = some (.int .i64 m.f0) ∧ W'.cell? ⟨w.heap.size + 1, 1, none⟩ = some (.int .i64 m.f1) ∧ W'.cell? ⟨w.heap.size + 1, 2, none⟩ = some (.int .i64 m.f2) ∧ W'.cell? ⟨w.heap.size + 1, 3, none⟩ = some (.int .i64 m.f3) ∧ W'.cell? ⟨w.heap.size + 1, 4, none⟩ = some (.int .i64 m.f4) ∧ W'.cell? ⟨w.heap.size + 1, 5, none⟩ = some (.bool m.f5) ∧ W'.cell? ⟨w.heap.size, 0, none⟩ = some (.int .i64 g) ∧ W'.cell? ⟨w.heap.size, 1, none⟩ = some (.slice A rels.length c) ∧ Below W2.heap.size W2 W') :=
    ⟨fun W' hb => ⟨(blk_cell (blk_below HM.out hb) 0).trans rfl, (blk_cell (blk_below HM.out hb) 1).trans rfl, (blk_cell (blk_below HM.out hb) 2).trans rfl, (blk_cell (blk_below HM.out hb) 3).trans rfl, (blk_cell (blk_below HM.out hb) 4).trans rfl, (blk_cell (blk_below HM.out hb) 5).trans rfl, (blk_cell (blk_below HP.out hb) 0).trans rfl, (blk_cell (blk_below HP.out hb) 1).trans rfl, hb⟩⟩
  obtain ⟨m0, m1, m2, m3, m4, m5, p0, p1, _⟩ := HS.out W2 (Below.refl _ _)
  clear z1
  go_enter Try.func66, Try.ntmps66
  have e1 : (m.f0 == 1) = false := by simp [k1]
  have e2 : (m.f0 == 2) = false := by simp [k1]
  have e3 : (m.f0 == 3) = true := by simp [k1]
  have K1 := Aside0.mk k1
  clear k1
  obtain ⟨fr, hfr⟩ : ∃ fr, fr = beforeM rels m := ⟨_, rfl⟩
  obtain ⟨rt, hrt⟩ : ∃ rt, rt = rotM rels m := ⟨_, rfl⟩
  rw [← hfr, ← hrt] at hrel
  have hfz : fr.size ≤ 200 := by rw [hfr]; exact (before_L HRL.out hok).1
  have hfl : allL (bytesOf fr) := by rw [hfr]; exact (before_L HRL.out hok).2
  have hrz : rt.size = (relM rels m).size := by rw [hrt]; exact rotM_len hok
  have hrz2 : rt.size ≤ 200 := by rw [hrz]; exact (relM_L HRL.out hok).1
  obtain ⟨iv, hiv⟩ : ∃ iv, iv = invS fr := ⟨_, rfl⟩
  have hvz : iv.size ≤ 200 := by rw [hiv, invS_size]; exact hfz
  obtain ⟨cj, hcj⟩ : ∃ cj, cj = strOfNums (redL [s.extract 0 m.f1.toNat ++ iv]) := ⟨_, rfl⟩
  have L26 : Aside0 (∀ w, Calls Try.prog 26 #[.string fr] w fun e w' => e = .returned (.string iv) ∧ Below w.heap.size w w') := ⟨by rw [hiv]; exact invertR_calls fr (by omega) hfl⟩
  have L25 : Aside0 (∀ w, Calls Try.prog 25 #[.string (s.extract 0 m.f1.toNat ++ iv)] w fun e w' => e = .returned (.string cj) ∧ Below w.heap.size w w') := ⟨by rw [hcj]; exact reduceR_calls _ (by rw [ByteArray.size_append, ByteArray.size_extract]; omega) (by rw [bytesOf_cat]; exact allL_cat (allL_take HL.out _) (by rw [hiv, bytesOf_invS hfl]; exact allL_inv hfl))⟩
  have CJ : Aside0 (cj = strOfNums (redL [s.extract 0 m.f1.toNat, invS (beforeM rels m)])) := ⟨by rw [hcj, redL_cat, hiv, hfr]⟩
  have RT := Aside0.mk hrt
  have RZ := Aside0.mk hrz
  have T := Aside0.mk hrel
  have ze : (9223372036854775807 < m.f1.toNat + iv.size) = False := eq_false (by omega)
  have zf : (9223372036854775807 < m.f1.toNat + rt.size) = False := eq_false (by omega)
  have zg : (9223372036854775807 < m.f1.toNat + rt.size + (s.size - m.f1.toNat)) = False := eq_false (by omega)
  have i5 : 0 ≤ m.f1 := by omega
  have i6 : m.f1 ≤ s.size := by omega
  clear hrel hfr hrt hiv hcj hfz hfl hrz hvz hok
  go_wp2_with (go_at_call 67; go_must (rw [← hW1, ← hW2]; clear hW1 hW2; refine (turnedR_calls g A c rels HRL.out m _ (Kd.C_below HC.out HB.out) hc _ _ _ T.out).mono ?_; rintro e w2 ⟨rfl, hb⟩; have HB2 := Aside0.mk hb; obtain ⟨n0, n1, n2, n3, n4, n5, r0, r1, _⟩ := HS.out _ hb; clear hb))
  go_wp2_with (fail)
  have hb00 := HB2.out
  go_region_held3 (fun W' => W'.cell? ⟨w.heap.size + 1, 0, none⟩ = some (.int .i64 m.f0) ∧ W'.cell? ⟨w.heap.size + 1, 1, none⟩ = some (.int .i64 m.f1) ∧ W'.cell? ⟨w.heap.size + 1, 2, none⟩ = some (.int .i64 m.f2) ∧ W'.cell? ⟨w.heap.size + 1, 3, none⟩ = some (.int .i64 m.f3) ∧ W'.cell? ⟨w.heap.size + 1, 4, none⟩ = some (.int .i64 m.f4) ∧ W'.cell? ⟨w.heap.size + 1, 5, none⟩ = some (.bool m.f5) ∧ W'.cell? ⟨w.heap.size, 0, none⟩ = some (.int .i64 g) ∧ W'.cell? ⟨w.heap.size, 1, none⟩ = some (.slice A rels.length c) ∧ Below W2.heap.size W2 W') (first | exact HS.out _ (by assumption) | exact HS.out _ (below_drew (by assumption)) | exact HS.out _ (pw_below_drewN (by assumption) _) | exact HS.out _ (below_alloc (by assumption) _) | exact HS.out _ (below_alloc (below_drew (by assumption)) _) | exact HS.out _ (below_set (below_set (below_set (by first | assumption | exact below_alloc (by assumption) _ | exact below_drew (by assumption) | exact below_alloc (below_drew (by assumption)) _ | exact below_drew (below_alloc (by assumption) _) | exact below_drew (below_alloc (below_drew (by assumption)) _)) (by first | exact Below.size (B := W2.heap.size) (w := W2) (by assumption) | (have := Below.size (B := W2.heap.size) (w := W2) (by assumption); simpa using this))) (by first | exact Below.size (B := W2.heap.size) (w := W2) (by assumption) | (have := Below.size (B := W2.heap.size) (w := W2) (by assumption); simpa using this))) (by first | exact Below.size (B := W2.heap.size) (w := W2) (by assumption) | (have := Below.size (B := W2.heap.size) (w := W2) (by assumption); simpa using this)))) (first | (go_at_call 26; refine (L26.out _).mono ?_; rintro e w' ⟨rfl, hb⟩; clear L26; have hbn : Below W2.heap.size W2 w' := below_step (by first | assumption | exact below_drew (by assumption) | exact below_alloc (by assumption) _ | exact below_drew (below_alloc (by assumption) _) | exact below_alloc (below_drew (by assumption)) _ | exact below_drew (below_alloc (below_drew (by assumption)) _)) hb; (try (have hbx := blk_below (o := .cells #[.string ⟨#[]⟩, .int .i64 0, .bool false] 59 (0, 0)) (by first | exact blk_drew hbx | exact hbx | exact blk_drew (Go.heap_alloc_new _ _) | exact Go.heap_alloc_new _ _) hb; have hcx0 := (blk_cell hbx 0).trans (show _ = some (Value.string ⟨#[]⟩) from rfl); have hcx1 := (blk_cell hbx 1).trans (show _ = some (Value.int .i64 0) from rfl); have hcx2 := (blk_cell hbx 2).trans (show _ = some (Value.bool false) from rfl); have hfx0 := blk_frozen hbx 0; have hfx1 := blk_frozen hbx 1; have hfx2 := blk_frozen hbx 2))) | (go_at_call 25; refine (L25.out _).mono ?_; rintro e w' ⟨rfl, hb⟩; clear L25; have hbn : Below W2.heap.size W2 w' := below_step (by first | assumption | exact below_drew (by assumption) | exact below_alloc (by assumption) _ | exact below_drew (below_alloc (by assumption) _) | exact below_alloc (below_drew (by assumption)) _ | exact below_drew (below_alloc (below_drew (by assumption)) _)) hb; (try (have hbx := blk_below (o := .cells #[.string ⟨#[]⟩, .int .i64 0, .bool false] 59 (0, 0)) (by first | exact blk_drew hbx | exact hbx | exact blk_drew (Go.heap_alloc_new _ _) | exact Go.heap_alloc_new _ _) hb; have hcx0 := (blk_cell hbx 0).trans (show _ = some (Value.string ⟨#[]⟩) from rfl); have hcx1 := (blk_cell hbx 1).trans (show _ = some (Value.int .i64 0) from rfl); have hcx2 := (blk_cell hbx 2).trans (show _ = some (Value.bool false) from rfl); have hfx0 := blk_frozen hbx 0; have hfx1 := blk_frozen hbx 1; have hfx2 := blk_frozen hbx 2))))
  all_goals
    have HZ : Aside0 (W2.heap.size ≤ _) := ⟨(‹_ ∧ _ ∧ _ ∧ _ ∧ _ ∧ _ ∧ _ ∧ _ ∧ Below W2.heap.size W2 _›).2.2.2.2.2.2.2.2.size⟩
    have hBW := (‹_ ∧ _ ∧ _ ∧ _ ∧ _ ∧ _ ∧ _ ∧ _ ∧ Below W2.heap.size W2 _›).2.2.2.2.2.2.2.2
    first
      | have hBC := blk_put (blk_put (blk_put hbx 0 (.string cj) rfl) 1 (.int .i64 m.f3) rfl) 2 (.bool m.f5) rfl
      | have hBC := Go.heap_alloc_new w' (Obj.cells #[.string cj, .int .i64 m.f3, .bool m.f5] 59)
    obtain ⟨b, hb0⟩ := name_block hBC
    rw [← hb0] at hBC
    try rw [← hb0] at hBW
    have hle : W2.heap.size ≤ b := by
      rw [hb0]
      first
        | exact hbn.size
        | exact (‹Below W2.heap.size W2 _›).size
    clear HZ
    rw [← hb0]
    refine fresh_world (K := fun W => Exit.then _ _ Exit.normal _ W) hBC hBW (fun Wx hX hBX => ?_)
    obtain ⟨y0, y1, y2, y3, y4, y5, _⟩ := HS.out _ hBX
    have hc2 : Wx.cell? ⟨b, 2, none⟩ = some (.bool m.f5) := (blk_cell hX 2).trans rfl
    have hz2 := blk_frozen hX 2
    clear hBW hBC hb0
    go_wp2_with (fail)
    refine fresh_world (K := fun W => Code.wp _ _ _ _ W) (blk_put hX 2 (.bool (!m.f5)) rfl) (below_set hBX (show W2.heap.size ≤ b from hle)) (fun Wy hY hBY => ?_)
    have HCM : Aside0 (cellM rels s m (!m.f5) = ⟨cj, m.f3, !m.f5⟩) := ⟨by unfold cellM; rw [← CJ.out]⟩
    clear y0 y1 y2 y3 y4 y5 hc2 hz2
    have HS2 : Aside0 (∀ W', Below Wy.heap.size Wy W' → (W'.cell? ⟨w.heap.size + 1, 0, none⟩ = some (.int .i64 m.f0) ∧ W'.cell? ⟨w.heap.size + 1, 1, none⟩ = some (.int .i64 m.f1) ∧ W'.cell? ⟨w.heap.size + 1, 2, none⟩ = some (.int .i64 m.f2) ∧ W'.cell? ⟨w.heap.size + 1, 3, none⟩ = some (.int .i64 m.f3) ∧ W'.cell? ⟨w.heap.size + 1, 4, none⟩ = some (.int .i64 m.f4) ∧ W'.cell? ⟨w.heap.size + 1, 5, none⟩ = some (.bool m.f5) ∧ W'.cell? ⟨w.heap.size, 0, none⟩ = some (.int .i64 g) ∧ W'.cell? ⟨w.heap.size, 1, none⟩ = some (.slice A rels.length c)) ∧ W'.cell? ⟨b, 0, none⟩ = some (.string cj) ∧ W'.cell? ⟨b, 1, none⟩ = some (.int .i64 m.f3) ∧ W'.cell? ⟨b, 2, none⟩ = some (.bool (!m.f5)) ∧ Below Wy.heap.size Wy W') :=
      ⟨fun W' hb => ⟨by have := HS.out _ (below_step hBY hb); obtain ⟨a0, a1, a2, a3, a4, a5, a6, a7, _⟩ := this; exact ⟨a0, a1, a2, a3, a4, a5, a6, a7⟩, (blk_cell (blk_below hY hb) 0).trans rfl, (blk_cell (blk_below hY hb) 1).trans rfl, (blk_cell (blk_below hY hb) 2).trans rfl, hb⟩⟩
    have hbz := Below.refl Wy.heap.size Wy
    go_region_held3 (fun W' => (W'.cell? ⟨w.heap.size + 1, 0, none⟩ = some (.int .i64 m.f0) ∧ W'.cell? ⟨w.heap.size + 1, 1, none⟩ = some (.int .i64 m.f1) ∧ W'.cell? ⟨w.heap.size + 1, 2, none⟩ = some (.int .i64 m.f2) ∧ W'.cell? ⟨w.heap.size + 1, 3, none⟩ = some (.int .i64 m.f3) ∧ W'.cell? ⟨w.heap.size + 1, 4, none⟩ = some (.int .i64 m.f4) ∧ W'.cell? ⟨w.heap.size + 1, 5, none⟩ = some (.bool m.f5) ∧ W'.cell? ⟨w.heap.size, 0, none⟩ = some (.int .i64 g) ∧ W'.cell? ⟨w.heap.size, 1, none⟩ = some (.slice A rels.length c)) ∧ W'.cell? ⟨b, 0, none⟩ = some (.string cj) ∧ W'.cell? ⟨b, 1, none⟩ = some (.int .i64 m.f3) ∧ W'.cell? ⟨b, 2, none⟩ = some (.bool (!m.f5)) ∧ Below Wy.heap.size Wy W') (first | exact HS2.out _ (by assumption) | exact HS2.out _ (below_drew (by assumption)) | exact HS2.out _ (pw_below_drewN (by assumption) _) | exact HS2.out _ (below_alloc (by assumption) _) | exact HS2.out _ (below_alloc (below_drew (by assumption)) _)) (fail)
    all_goals
      go_wp2
      go_ret3
      have hbf := (‹_ ∧ _ ∧ _ ∧ _ ∧ Below Wy.heap.size Wy _›).2.2.2.2
      rw [HCM.out]
      rw [← RT.out]
      refine ⟨_, rfl, R_one59 _ _ ⟨cj, m.f3, !m.f5⟩ (Nat.le_trans HB.out.size hBY.size), below_step HB.out (below_step hBY hbf)⟩
set_option maxHeartbeats 1600000 in
set_option maxRecDepth 100000 in
theorem move_four_no0 (g : Int) (A : Option Addr) (c : Nat) (rels : List ByteArray) (s : ByteArray) (m : S52) (w : World) (hC : Kd.C Kd.string w A rels.length rels) (hc : rels.length ≤ c) (hr : relsL rels) (hg : 1 ≤ g ∧ g ≤ 8) (hs : s.size ≤ 1000000) (hL : allL (bytesOf s)) (h : ¬ m.f1 < 0) (h' : ¬ m.f1 > s.size) (k1 : m.f0 = 4) (hok : relOkM rels m = true) (hrel : turnedS rels m = (rotM rels m, beforeM rels m, true)) (h2 : (s.size : Int) - m.f1 < (rotM rels m).size) :
    Calls Try.prog 66 #[.agg #[.int .i64 g, .slice A rels.length c], .string s, .agg #[.int .i64 m.f0, .int .i64 m.f1, .int .i64 m.f2, .int .i64 m.f3, .int .i64 m.f4, .bool m.f5]] w fun e w' => ∃ v : Value, e = .returned (.tuple #[.string ⟨#[]⟩, v, .bool false]) ∧ Kd.R k59 59 w' w.heap.size (fun _ => True) v [] ∧ Below w.heap.size w w' := by
  obtain ⟨hg1, hg2⟩ := hg
  have HC := Aside0.mk hC
  have HL := Aside0.mk hL
  have HRL := Aside0.mk hr
  clear hC hL hr
  obtain ⟨W1, hW1⟩ : ∃ W1, W1 = w.alloc (.cells #[.int .i64 g, .slice A rels.length c] 24) := ⟨_, rfl⟩
  obtain ⟨W2, hW2⟩ : ∃ W2, W2 = W1.alloc (.cells #[.int .i64 m.f0, .int .i64 m.f1, .int .i64 m.f2, .int .i64 m.f3, .int .i64 m.f4, .bool m.f5] 52) := ⟨_, rfl⟩
  have z1 : W1.heap.size = w.heap.size + 1 := by rw [hW1, World.size_alloc]
  have HP : Aside0 (W2.heap[w.heap.size]? = some (.cells #[.int .i64 g, .slice A rels.length c] 24 (0, 0))) := ⟨by rw [hW2]; exact blk_alloc (by rw [hW1]; exact Go.heap_alloc_new _ _) _⟩
  have HM : Aside0 (W2.heap[w.heap.size + 1]? = some (.cells #[.int .i64 m.f0, .int .i64 m.f1, .int .i64 m.f2, .int .i64 m.f3, .int .i64 m.f4, .bool m.f5] 52 (0, 0))) := ⟨by rw [hW2, ← z1]; exact Go.heap_alloc_new _ _⟩
  have HB : Aside0 (Below w.heap.size w W2) := ⟨by rw [hW2, hW1]; exact below_alloc (below_alloc (Below.refl _ _) _) _⟩
  have HS : Aside0 (∀ W', Below W2.heap.size W2 W' → W'.cell? ⟨w.heap.size + 1, 0, none⟩ = some (.int .i64 m.f0) ∧ W'.cell? ⟨w.heap.size + 1, 1, none⟩ = some (.int .i64 m.f1) ∧ W'.cell? ⟨w.heap.size + 1, 2, none⟩ = some (.int .i64 m.f2) ∧ W'.cell? ⟨w.heap.size + 1, 3, none⟩ = some (.int .i64 m.f3) ∧ W'.cell? ⟨w.heap.size + 1, 4, none⟩ = some (.int .i64 m.f4) ∧ W'.cell? ⟨w.heap.size + 1, 5, none⟩ = some (.bool m.f5) ∧ W'.cell? ⟨w.heap.size, 0, none⟩ = some (.int .i64 g) ∧ W'.cell? ⟨w.heap.size, 1, none⟩ = some (.slice A rels.length c) ∧ Below W2.heap.size W2 W') :=
    ⟨fun W' hb => ⟨(blk_cell (blk_below HM.out hb) 0).trans rfl, (blk_cell (blk_below HM.out hb) 1).trans rfl, (blk_cell (blk_below HM.out hb) 2).trans rfl, (blk_cell (blk_below HM.out hb) 3).trans rfl, (blk_cell (blk_below HM.out hb) 4).trans rfl, (blk_cell (blk_below HM.out hb) 5).trans rfl, (blk_cell (blk_below HP.out hb) 0).trans rfl, (blk_cell (blk_below HP.out hb) 1).trans rfl, hb⟩⟩
  obtain ⟨m0, m1, m2, m3, m4, m5, p0, p1, _⟩ := HS.out W2 (Below.refl _ _)
  clear z1
  go_enter Try.func66, Try.ntmps66
  have e1 : (m.f0 == 1) = false := by simp [k1]
  have e2 : (m.f0 == 2) = false := by simp [k1]
  have e3 : (m.f0 == 3) = false := by simp [k1]
  have e4 : (m.f0 == 4) = true := by simp [k1]
  have K1 := Aside0.mk k1
  clear k1
  obtain ⟨fr, hfr⟩ : ∃ fr, fr = beforeM rels m := ⟨_, rfl⟩
  obtain ⟨rt, hrt⟩ : ∃ rt, rt = rotM rels m := ⟨_, rfl⟩
  rw [← hfr, ← hrt] at hrel
  have hfz : fr.size ≤ 200 := by rw [hfr]; exact (before_L HRL.out hok).1
  have hfl : allL (bytesOf fr) := by rw [hfr]; exact (before_L HRL.out hok).2
  have hrz : rt.size = (relM rels m).size := by rw [hrt]; exact rotM_len hok
  have hrz2 : rt.size ≤ 200 := by rw [hrz]; exact (relM_L HRL.out hok).1
  obtain ⟨iv, hiv⟩ : ∃ iv, iv = invS fr := ⟨_, rfl⟩
  have hvz : iv.size ≤ 200 := by rw [hiv, invS_size]; exact hfz
  obtain ⟨cj, hcj⟩ : ∃ cj, cj = strOfNums (redL [s.extract 0 m.f1.toNat ++ iv]) := ⟨_, rfl⟩
  have L26 : Aside0 (∀ w, Calls Try.prog 26 #[.string fr] w fun e w' => e = .returned (.string iv) ∧ Below w.heap.size w w') := ⟨by rw [hiv]; exact invertR_calls fr (by omega) hfl⟩
  have L25 : Aside0 (∀ w, Calls Try.prog 25 #[.string (s.extract 0 m.f1.toNat ++ iv)] w fun e w' => e = .returned (.string cj) ∧ Below w.heap.size w w') := ⟨by rw [hcj]; exact reduceR_calls _ (by rw [ByteArray.size_append, ByteArray.size_extract]; omega) (by rw [bytesOf_cat]; exact allL_cat (allL_take HL.out _) (by rw [hiv, bytesOf_invS hfl]; exact allL_inv hfl))⟩
  have CJ : Aside0 (cj = strOfNums (redL [s.extract 0 m.f1.toNat, invS (beforeM rels m)])) := ⟨by rw [hcj, redL_cat, hiv, hfr]⟩
  have RT := Aside0.mk hrt
  have RZ := Aside0.mk hrz
  have T := Aside0.mk hrel
  have ze : (9223372036854775807 < m.f1.toNat + iv.size) = False := eq_false (by omega)
  have zf : (9223372036854775807 < m.f1.toNat + rt.size) = False := eq_false (by omega)
  have zg : (9223372036854775807 < m.f1.toNat + rt.size + (s.size - m.f1.toNat)) = False := eq_false (by omega)
  have i5 : 0 ≤ m.f1 := by omega
  have i6 : m.f1 ≤ s.size := by omega
  have kq : IntKind.i64.wrap ((s.size : Int) - m.f1) = (s.size : Int) - m.f1 := IntWalk.i64_in _ (by omega)
  have kr : IntKind.i64.wrap (m.f1 + (rt.size : Int)) = m.f1 + (rt.size : Int) := IntWalk.i64_in _ (by omega)
  have d2 : decide ((s.size : Int) - m.f1 < rt.size) = true := by rw [← hrt] at h2; simp; omega
  clear hrel hfr hrt hiv hcj hfz hfl hrz hvz hok
  go_wp2_with (go_at_call 67; go_must (rw [← hW1, ← hW2]; clear hW1 hW2; refine (turnedR_calls g A c rels HRL.out m _ (Kd.C_below HC.out HB.out) hc _ _ _ T.out).mono ?_; rintro e w2 ⟨rfl, hb⟩; have HB2 := Aside0.mk hb; obtain ⟨n0, n1, n2, n3, n4, n5, r0, r1, _⟩ := HS.out _ hb; clear hb))
  go_wp2_with (fail)
  have hb00 := HB2.out
  go_region_held3 (fun W' => W'.cell? ⟨w.heap.size + 1, 0, none⟩ = some (.int .i64 m.f0) ∧ W'.cell? ⟨w.heap.size + 1, 1, none⟩ = some (.int .i64 m.f1) ∧ W'.cell? ⟨w.heap.size + 1, 2, none⟩ = some (.int .i64 m.f2) ∧ W'.cell? ⟨w.heap.size + 1, 3, none⟩ = some (.int .i64 m.f3) ∧ W'.cell? ⟨w.heap.size + 1, 4, none⟩ = some (.int .i64 m.f4) ∧ W'.cell? ⟨w.heap.size + 1, 5, none⟩ = some (.bool m.f5) ∧ W'.cell? ⟨w.heap.size, 0, none⟩ = some (.int .i64 g) ∧ W'.cell? ⟨w.heap.size, 1, none⟩ = some (.slice A rels.length c) ∧ Below W2.heap.size W2 W') (first | exact HS.out _ (by assumption) | exact HS.out _ (below_drew (by assumption)) | exact HS.out _ (pw_below_drewN (by assumption) _) | exact HS.out _ (below_alloc (by assumption) _) | exact HS.out _ (below_alloc (below_drew (by assumption)) _) | exact HS.out _ (below_set (below_set (below_set (by first | assumption | exact below_alloc (by assumption) _ | exact below_drew (by assumption) | exact below_alloc (below_drew (by assumption)) _ | exact below_drew (below_alloc (by assumption) _) | exact below_drew (below_alloc (below_drew (by assumption)) _)) (by first | exact Below.size (B := W2.heap.size) (w := W2) (by assumption) | (have := Below.size (B := W2.heap.size) (w := W2) (by assumption); simpa using this))) (by first | exact Below.size (B := W2.heap.size) (w := W2) (by assumption) | (have := Below.size (B := W2.heap.size) (w := W2) (by assumption); simpa using this))) (by first | exact Below.size (B := W2.heap.size) (w := W2) (by assumption) | (have := Below.size (B := W2.heap.size) (w := W2) (by assumption); simpa using this)))) (first | (go_at_call 26; refine (L26.out _).mono ?_; rintro e w' ⟨rfl, hb⟩; clear L26; have hbn : Below W2.heap.size W2 w' := below_step (by first | assumption | exact below_drew (by assumption) | exact below_alloc (by assumption) _ | exact below_drew (below_alloc (by assumption) _) | exact below_alloc (below_drew (by assumption)) _ | exact below_drew (below_alloc (below_drew (by assumption)) _)) hb; (try (have hbx := blk_below (o := .cells #[.string ⟨#[]⟩, .int .i64 0, .bool false] 59 (0, 0)) (by first | exact blk_drew hbx | exact hbx | exact blk_drew (Go.heap_alloc_new _ _) | exact Go.heap_alloc_new _ _) hb; have hcx0 := (blk_cell hbx 0).trans (show _ = some (Value.string ⟨#[]⟩) from rfl); have hcx1 := (blk_cell hbx 1).trans (show _ = some (Value.int .i64 0) from rfl); have hcx2 := (blk_cell hbx 2).trans (show _ = some (Value.bool false) from rfl); have hfx0 := blk_frozen hbx 0; have hfx1 := blk_frozen hbx 1; have hfx2 := blk_frozen hbx 2))) | (go_at_call 25; refine (L25.out _).mono ?_; rintro e w' ⟨rfl, hb⟩; clear L25; have hbn : Below W2.heap.size W2 w' := below_step (by first | assumption | exact below_drew (by assumption) | exact below_alloc (by assumption) _ | exact below_drew (below_alloc (by assumption) _) | exact below_alloc (below_drew (by assumption)) _ | exact below_drew (below_alloc (below_drew (by assumption)) _)) hb; (try (have hbx := blk_below (o := .cells #[.string ⟨#[]⟩, .int .i64 0, .bool false] 59 (0, 0)) (by first | exact blk_drew hbx | exact hbx | exact blk_drew (Go.heap_alloc_new _ _) | exact Go.heap_alloc_new _ _) hb; have hcx0 := (blk_cell hbx 0).trans (show _ = some (Value.string ⟨#[]⟩) from rfl); have hcx1 := (blk_cell hbx 1).trans (show _ = some (Value.int .i64 0) from rfl); have hcx2 := (blk_cell hbx 2).trans (show _ = some (Value.bool false) from rfl); have hfx0 := blk_frozen hbx 0; have hfx1 := blk_frozen hbx 1; have hfx2 := blk_frozen hbx 2))))
  all_goals
    have HZ : Aside0 (W2.heap.size ≤ _) := ⟨(‹_ ∧ _ ∧ _ ∧ _ ∧ _ ∧ _ ∧ _ ∧ _ ∧ Below W2.heap.size W2 _›).2.2.2.2.2.2.2.2.size⟩
    have hBW := (‹_ ∧ _ ∧ _ ∧ _ ∧ _ ∧ _ ∧ _ ∧ _ ∧ Below W2.heap.size W2 _›).2.2.2.2.2.2.2.2
    first
      | have hBC := blk_put (blk_put (blk_put hbx 0 (.string cj) rfl) 1 (.int .i64 m.f3) rfl) 2 (.bool m.f5) rfl
      | have hBC := Go.heap_alloc_new w' (Obj.cells #[.string cj, .int .i64 m.f3, .bool m.f5] 59)
    obtain ⟨b, hb0⟩ := name_block hBC
    rw [← hb0] at hBC
    try rw [← hb0] at hBW
    have hle : W2.heap.size ≤ b := by
      rw [hb0]
      first
        | exact hbn.size
        | exact (‹Below W2.heap.size W2 _›).size
    clear HZ
    rw [← hb0]
    refine fresh_world (K := fun W => Exit.then _ _ Exit.normal _ W) hBC hBW (fun Wx hX hBX => ?_)
    obtain ⟨y0, y1, y2, y3, y4, y5, _⟩ := HS.out _ hBX
    clear hBW hBC hb0
    go_wp2_with (fail)
    go_ret3
    exact ⟨_, rfl, Kd.R_nil _ _ _ _ _, below_step HB.out hBX⟩
set_option maxHeartbeats 1600000 in
set_option maxRecDepth 100000 in
theorem move_four_no1 (g : Int) (A : Option Addr) (c : Nat) (rels : List ByteArray) (s : ByteArray) (m : S52) (w : World) (hC : Kd.C Kd.string w A rels.length rels) (hc : rels.length ≤ c) (hr : relsL rels) (hg : 1 ≤ g ∧ g ≤ 8) (hs : s.size ≤ 1000000) (hL : allL (bytesOf s)) (h : ¬ m.f1 < 0) (h' : ¬ m.f1 > s.size) (k1 : m.f0 = 4) (hok : relOkM rels m = true) (hrel : turnedS rels m = (rotM rels m, beforeM rels m, true)) (h2 : ¬ (s.size : Int) - m.f1 < (rotM rels m).size) (hne : ((s.extract m.f1.toNat (m.f1 + (rotM rels m).size).toNat).toList == (rotM rels m).toList) = false) :
    Calls Try.prog 66 #[.agg #[.int .i64 g, .slice A rels.length c], .string s, .agg #[.int .i64 m.f0, .int .i64 m.f1, .int .i64 m.f2, .int .i64 m.f3, .int .i64 m.f4, .bool m.f5]] w fun e w' => ∃ v : Value, e = .returned (.tuple #[.string ⟨#[]⟩, v, .bool false]) ∧ Kd.R k59 59 w' w.heap.size (fun _ => True) v [] ∧ Below w.heap.size w w' := by
  obtain ⟨hg1, hg2⟩ := hg
  have HC := Aside0.mk hC
  have HL := Aside0.mk hL
  have HRL := Aside0.mk hr
  clear hC hL hr
  obtain ⟨W1, hW1⟩ : ∃ W1, W1 = w.alloc (.cells #[.int .i64 g, .slice A rels.length c] 24) := ⟨_, rfl⟩
  obtain ⟨W2, hW2⟩ : ∃ W2, W2 = W1.alloc (.cells #[.int .i64 m.f0, .int .i64 m.f1, .int .i64 m.f2, .int .i64 m.f3, .int .i64 m.f4, .bool m.f5] 52) := ⟨_, rfl⟩
  have z1 : W1.heap.size = w.heap.size + 1 := by rw [hW1, World.size_alloc]
  have HP : Aside0 (W2.heap[w.heap.size]? = some (.cells #[.int .i64 g, .slice A rels.length c] 24 (0, 0))) := ⟨by rw [hW2]; exact blk_alloc (by rw [hW1]; exact Go.heap_alloc_new _ _) _⟩
  have HM : Aside0 (W2.heap[w.heap.size + 1]? = some (.cells #[.int .i64 m.f0, .int .i64 m.f1, .int .i64 m.f2, .int .i64 m.f3, .int .i64 m.f4, .bool m.f5] 52 (0, 0))) := ⟨by rw [hW2, ← z1]; exact Go.heap_alloc_new _ _⟩
  have HB : Aside0 (Below w.heap.size w W2) := ⟨by rw [hW2, hW1]; exact below_alloc (below_alloc (Below.refl _ _) _) _⟩
  have HS : Aside0 (∀ W', Below W2.heap.size W2 W' → W'.cell? ⟨w.heap.size + 1, 0, none⟩ = some (.int .i64 m.f0) ∧ W'.cell? ⟨w.heap.size + 1, 1, none⟩ = some (.int .i64 m.f1) ∧ W'.cell? ⟨w.heap.size + 1, 2, none⟩ = some (.int .i64 m.f2) ∧ W'.cell? ⟨w.heap.size + 1, 3, none⟩ = some (.int .i64 m.f3) ∧ W'.cell? ⟨w.heap.size + 1, 4, none⟩ = some (.int .i64 m.f4) ∧ W'.cell? ⟨w.heap.size + 1, 5, none⟩ = some (.bool m.f5) ∧ W'.cell? ⟨w.heap.size, 0, none⟩ = some (.int .i64 g) ∧ W'.cell? ⟨w.heap.size, 1, none⟩ = some (.slice A rels.length c) ∧ Below W2.heap.size W2 W') :=
    ⟨fun W' hb => ⟨(blk_cell (blk_below HM.out hb) 0).trans rfl, (blk_cell (blk_below HM.out hb) 1).trans rfl, (blk_cell (blk_below HM.out hb) 2).trans rfl, (blk_cell (blk_below HM.out hb) 3).trans rfl, (blk_cell (blk_below HM.out hb) 4).trans rfl, (blk_cell (blk_below HM.out hb) 5).trans rfl, (blk_cell (blk_below HP.out hb) 0).trans rfl, (blk_cell (blk_below HP.out hb) 1).trans rfl, hb⟩⟩
  obtain ⟨m0, m1, m2, m3, m4, m5, p0, p1, _⟩ := HS.out W2 (Below.refl _ _)
  clear z1
  go_enter Try.func66, Try.ntmps66
  have e1 : (m.f0 == 1) = false := by simp [k1]
  have e2 : (m.f0 == 2) = false := by simp [k1]
  have e3 : (m.f0 == 3) = false := by simp [k1]
  have e4 : (m.f0 == 4) = true := by simp [k1]
  have K1 := Aside0.mk k1
  clear k1
  obtain ⟨fr, hfr⟩ : ∃ fr, fr = beforeM rels m := ⟨_, rfl⟩
  obtain ⟨rt, hrt⟩ : ∃ rt, rt = rotM rels m := ⟨_, rfl⟩
  rw [← hfr, ← hrt] at hrel
  have hfz : fr.size ≤ 200 := by rw [hfr]; exact (before_L HRL.out hok).1
  have hfl : allL (bytesOf fr) := by rw [hfr]; exact (before_L HRL.out hok).2
  have hrz : rt.size = (relM rels m).size := by rw [hrt]; exact rotM_len hok
  have hrz2 : rt.size ≤ 200 := by rw [hrz]; exact (relM_L HRL.out hok).1
  obtain ⟨iv, hiv⟩ : ∃ iv, iv = invS fr := ⟨_, rfl⟩
  have hvz : iv.size ≤ 200 := by rw [hiv, invS_size]; exact hfz
  obtain ⟨cj, hcj⟩ : ∃ cj, cj = strOfNums (redL [s.extract 0 m.f1.toNat ++ iv]) := ⟨_, rfl⟩
  have L26 : Aside0 (∀ w, Calls Try.prog 26 #[.string fr] w fun e w' => e = .returned (.string iv) ∧ Below w.heap.size w w') := ⟨by rw [hiv]; exact invertR_calls fr (by omega) hfl⟩
  have L25 : Aside0 (∀ w, Calls Try.prog 25 #[.string (s.extract 0 m.f1.toNat ++ iv)] w fun e w' => e = .returned (.string cj) ∧ Below w.heap.size w w') := ⟨by rw [hcj]; exact reduceR_calls _ (by rw [ByteArray.size_append, ByteArray.size_extract]; omega) (by rw [bytesOf_cat]; exact allL_cat (allL_take HL.out _) (by rw [hiv, bytesOf_invS hfl]; exact allL_inv hfl))⟩
  have CJ : Aside0 (cj = strOfNums (redL [s.extract 0 m.f1.toNat, invS (beforeM rels m)])) := ⟨by rw [hcj, redL_cat, hiv, hfr]⟩
  have RT := Aside0.mk hrt
  have RZ := Aside0.mk hrz
  have T := Aside0.mk hrel
  have ze : (9223372036854775807 < m.f1.toNat + iv.size) = False := eq_false (by omega)
  have zf : (9223372036854775807 < m.f1.toNat + rt.size) = False := eq_false (by omega)
  have zg : (9223372036854775807 < m.f1.toNat + rt.size + (s.size - m.f1.toNat)) = False := eq_false (by omega)
  have i5 : 0 ≤ m.f1 := by omega
  have i6 : m.f1 ≤ s.size := by omega
  have kq : IntKind.i64.wrap ((s.size : Int) - m.f1) = (s.size : Int) - m.f1 := IntWalk.i64_in _ (by omega)
  have kr : IntKind.i64.wrap (m.f1 + (rt.size : Int)) = m.f1 + (rt.size : Int) := IntWalk.i64_in _ (by omega)
  have d2 : decide ((s.size : Int) - m.f1 < rt.size) = false := by rw [← hrt] at h2; simp; omega
  have d3 : m.f1 ≤ m.f1 + (rt.size : Int) := by omega
  have d4 : m.f1 + (rt.size : Int) ≤ s.size := by rw [← hrt] at h2; omega
  have d5 : 0 ≤ m.f1 + (rt.size : Int) := by omega
  rw [← hrt] at hne
  clear hrel hfr hrt hiv hcj hfz hfl hrz hvz hok
  go_wp2_with (go_at_call 67; go_must (rw [← hW1, ← hW2]; clear hW1 hW2; refine (turnedR_calls g A c rels HRL.out m _ (Kd.C_below HC.out HB.out) hc _ _ _ T.out).mono ?_; rintro e w2 ⟨rfl, hb⟩; have HB2 := Aside0.mk hb; obtain ⟨n0, n1, n2, n3, n4, n5, r0, r1, _⟩ := HS.out _ hb; clear hb))
  go_wp2_with (fail)
  have hb00 := HB2.out
  go_region_held3 (fun W' => W'.cell? ⟨w.heap.size + 1, 0, none⟩ = some (.int .i64 m.f0) ∧ W'.cell? ⟨w.heap.size + 1, 1, none⟩ = some (.int .i64 m.f1) ∧ W'.cell? ⟨w.heap.size + 1, 2, none⟩ = some (.int .i64 m.f2) ∧ W'.cell? ⟨w.heap.size + 1, 3, none⟩ = some (.int .i64 m.f3) ∧ W'.cell? ⟨w.heap.size + 1, 4, none⟩ = some (.int .i64 m.f4) ∧ W'.cell? ⟨w.heap.size + 1, 5, none⟩ = some (.bool m.f5) ∧ W'.cell? ⟨w.heap.size, 0, none⟩ = some (.int .i64 g) ∧ W'.cell? ⟨w.heap.size, 1, none⟩ = some (.slice A rels.length c) ∧ Below W2.heap.size W2 W') (first | exact HS.out _ (by assumption) | exact HS.out _ (below_drew (by assumption)) | exact HS.out _ (pw_below_drewN (by assumption) _) | exact HS.out _ (below_alloc (by assumption) _) | exact HS.out _ (below_alloc (below_drew (by assumption)) _) | exact HS.out _ (below_set (below_set (below_set (by first | assumption | exact below_alloc (by assumption) _ | exact below_drew (by assumption) | exact below_alloc (below_drew (by assumption)) _ | exact below_drew (below_alloc (by assumption) _) | exact below_drew (below_alloc (below_drew (by assumption)) _)) (by first | exact Below.size (B := W2.heap.size) (w := W2) (by assumption) | (have := Below.size (B := W2.heap.size) (w := W2) (by assumption); simpa using this))) (by first | exact Below.size (B := W2.heap.size) (w := W2) (by assumption) | (have := Below.size (B := W2.heap.size) (w := W2) (by assumption); simpa using this))) (by first | exact Below.size (B := W2.heap.size) (w := W2) (by assumption) | (have := Below.size (B := W2.heap.size) (w := W2) (by assumption); simpa using this)))) (first | (go_at_call 26; refine (L26.out _).mono ?_; rintro e w' ⟨rfl, hb⟩; clear L26; have hbn : Below W2.heap.size W2 w' := below_step (by first | assumption | exact below_drew (by assumption) | exact below_alloc (by assumption) _ | exact below_drew (below_alloc (by assumption) _) | exact below_alloc (below_drew (by assumption)) _ | exact below_drew (below_alloc (below_drew (by assumption)) _)) hb; (try (have hbx := blk_below (o := .cells #[.string ⟨#[]⟩, .int .i64 0, .bool false] 59 (0, 0)) (by first | exact blk_drew hbx | exact hbx | exact blk_drew (Go.heap_alloc_new _ _) | exact Go.heap_alloc_new _ _) hb; have hcx0 := (blk_cell hbx 0).trans (show _ = some (Value.string ⟨#[]⟩) from rfl); have hcx1 := (blk_cell hbx 1).trans (show _ = some (Value.int .i64 0) from rfl); have hcx2 := (blk_cell hbx 2).trans (show _ = some (Value.bool false) from rfl); have hfx0 := blk_frozen hbx 0; have hfx1 := blk_frozen hbx 1; have hfx2 := blk_frozen hbx 2))) | (go_at_call 25; refine (L25.out _).mono ?_; rintro e w' ⟨rfl, hb⟩; clear L25; have hbn : Below W2.heap.size W2 w' := below_step (by first | assumption | exact below_drew (by assumption) | exact below_alloc (by assumption) _ | exact below_drew (below_alloc (by assumption) _) | exact below_alloc (below_drew (by assumption)) _ | exact below_drew (below_alloc (below_drew (by assumption)) _)) hb; (try (have hbx := blk_below (o := .cells #[.string ⟨#[]⟩, .int .i64 0, .bool false] 59 (0, 0)) (by first | exact blk_drew hbx | exact hbx | exact blk_drew (Go.heap_alloc_new _ _) | exact Go.heap_alloc_new _ _) hb; have hcx0 := (blk_cell hbx 0).trans (show _ = some (Value.string ⟨#[]⟩) from rfl); have hcx1 := (blk_cell hbx 1).trans (show _ = some (Value.int .i64 0) from rfl); have hcx2 := (blk_cell hbx 2).trans (show _ = some (Value.bool false) from rfl); have hfx0 := blk_frozen hbx 0; have hfx1 := blk_frozen hbx 1; have hfx2 := blk_frozen hbx 2))))
  all_goals
    have HZ : Aside0 (W2.heap.size ≤ _) := ⟨(‹_ ∧ _ ∧ _ ∧ _ ∧ _ ∧ _ ∧ _ ∧ _ ∧ Below W2.heap.size W2 _›).2.2.2.2.2.2.2.2.size⟩
    have hBW := (‹_ ∧ _ ∧ _ ∧ _ ∧ _ ∧ _ ∧ _ ∧ _ ∧ Below W2.heap.size W2 _›).2.2.2.2.2.2.2.2
    first
      | have hBC := blk_put (blk_put (blk_put hbx 0 (.string cj) rfl) 1 (.int .i64 m.f3) rfl) 2 (.bool m.f5) rfl
      | have hBC := Go.heap_alloc_new w' (Obj.cells #[.string cj, .int .i64 m.f3, .bool m.f5] 59)
    obtain ⟨b, hb0⟩ := name_block hBC
    rw [← hb0] at hBC
    try rw [← hb0] at hBW
    have hle : W2.heap.size ≤ b := by
      rw [hb0]
      first
        | exact hbn.size
        | exact (‹Below W2.heap.size W2 _›).size
    clear HZ
    rw [← hb0]
    refine fresh_world (K := fun W => Exit.then _ _ Exit.normal _ W) hBC hBW (fun Wx hX hBX => ?_)
    obtain ⟨y0, y1, y2, y3, y4, y5, _⟩ := HS.out _ hBX
    clear hBW hBC hb0
    go_wp2_with (fail)
    go_ret3
    exact ⟨_, rfl, Kd.R_nil _ _ _ _ _, below_step HB.out hBX⟩
set_option maxHeartbeats 1600000 in
set_option maxRecDepth 100000 in
theorem move_four_yes (g : Int) (A : Option Addr) (c : Nat) (rels : List ByteArray) (s : ByteArray) (m : S52) (w : World) (hC : Kd.C Kd.string w A rels.length rels) (hc : rels.length ≤ c) (hr : relsL rels) (hg : 1 ≤ g ∧ g ≤ 8) (hs : s.size ≤ 1000000) (hL : allL (bytesOf s)) (h : ¬ m.f1 < 0) (h' : ¬ m.f1 > s.size) (k1 : m.f0 = 4) (hok : relOkM rels m = true) (hrel : turnedS rels m = (rotM rels m, beforeM rels m, true)) (h2 : ¬ (s.size : Int) - m.f1 < (rotM rels m).size) (hne : ((s.extract m.f1.toNat (m.f1 + (rotM rels m).size).toNat).toList == (rotM rels m).toList) = true) :
    Calls Try.prog 66 #[.agg #[.int .i64 g, .slice A rels.length c], .string s, .agg #[.int .i64 m.f0, .int .i64 m.f1, .int .i64 m.f2, .int .i64 m.f3, .int .i64 m.f4, .bool m.f5]] w fun e w' => ∃ v : Value, e = .returned (.tuple #[.string (repl s m.f1.toNat (relM rels m).size ⟨#[]⟩), v, .bool true]) ∧ Kd.R k59 59 w' w.heap.size (fun _ => True) v [cellM rels s m m.f5] ∧ Below w.heap.size w w' := by
  obtain ⟨hg1, hg2⟩ := hg
  have HC := Aside0.mk hC
  have HL := Aside0.mk hL
  have HRL := Aside0.mk hr
  clear hC hL hr
  obtain ⟨W1, hW1⟩ : ∃ W1, W1 = w.alloc (.cells #[.int .i64 g, .slice A rels.length c] 24) := ⟨_, rfl⟩
  obtain ⟨W2, hW2⟩ : ∃ W2, W2 = W1.alloc (.cells #[.int .i64 m.f0, .int .i64 m.f1, .int .i64 m.f2, .int .i64 m.f3, .int .i64 m.f4, .bool m.f5] 52) := ⟨_, rfl⟩
  have z1 : W1.heap.size = w.heap.size + 1 := by rw [hW1, World.size_alloc]
  have HP : Aside0 (W2.heap[w.heap.size]? = some (.cells #[.int .i64 g, .slice A rels.length c] 24 (0, 0))) := ⟨by rw [hW2]; exact blk_alloc (by rw [hW1]; exact Go.heap_alloc_new _ _) _⟩
  have HM : Aside0 (W2.heap[w.heap.size + 1]? = some (.cells #[.int .i64 m.f0, .int .i64 m.f1, .int .i64 m.f2, .int .i64 m.f3, .int .i64 m.f4, .bool m.f5] 52 (0, 0))) := ⟨by rw [hW2, ← z1]; exact Go.heap_alloc_new _ _⟩
  have HB : Aside0 (Below w.heap.size w W2) := ⟨by rw [hW2, hW1]; exact below_alloc (below_alloc (Below.refl _ _) _) _⟩
  have HS : Aside0 (∀ W', Below W2.heap.size W2 W' → W'.cell? ⟨w.heap.size + 1, 0, none⟩ = some (.int .i64 m.f0) ∧ W'.cell? ⟨w.heap.size + 1, 1, none⟩ = some (.int .i64 m.f1) ∧ W'.cell? ⟨w.heap.size + 1, 2, none⟩ = some (.int .i64 m.f2) ∧ W'.cell? ⟨w.heap.size + 1, 3, none⟩ = some (.int .i64 m.f3) ∧ W'.cell? ⟨w.heap.size + 1, 4, none⟩ = some (.int .i64 m.f4) ∧ W'.cell? ⟨w.heap.size + 1, 5, none⟩ = some (.bool m.f5) ∧ W'.cell? ⟨w.heap.size, 0, none⟩ = some (.int .i64 g) ∧ W'.cell? ⟨w.heap.size, 1, none⟩ = some (.slice A rels.length c) ∧ Below W2.heap.size W2 W') :=
    ⟨fun W' hb => ⟨(blk_cell (blk_below HM.out hb) 0).trans rfl, (blk_cell (blk_below HM.out hb) 1).trans rfl, (blk_cell (blk_below HM.out hb) 2).trans rfl, (blk_cell (blk_below HM.out hb) 3).trans rfl, (blk_cell (blk_below HM.out hb) 4).trans rfl, (blk_cell (blk_below HM.out hb) 5).trans rfl, (blk_cell (blk_below HP.out hb) 0).trans rfl, (blk_cell (blk_below HP.out hb) 1).trans rfl, hb⟩⟩
  obtain ⟨m0, m1, m2, m3, m4, m5, p0, p1, _⟩ := HS.out W2 (Below.refl _ _)
  clear z1
  go_enter Try.func66, Try.ntmps66
  have e1 : (m.f0 == 1) = false := by simp [k1]
  have e2 : (m.f0 == 2) = false := by simp [k1]
  have e3 : (m.f0 == 3) = false := by simp [k1]
  have e4 : (m.f0 == 4) = true := by simp [k1]
  have K1 := Aside0.mk k1
  clear k1
  obtain ⟨fr, hfr⟩ : ∃ fr, fr = beforeM rels m := ⟨_, rfl⟩
  obtain ⟨rt, hrt⟩ : ∃ rt, rt = rotM rels m := ⟨_, rfl⟩
  rw [← hfr, ← hrt] at hrel
  have hfz : fr.size ≤ 200 := by rw [hfr]; exact (before_L HRL.out hok).1
  have hfl : allL (bytesOf fr) := by rw [hfr]; exact (before_L HRL.out hok).2
  have hrz : rt.size = (relM rels m).size := by rw [hrt]; exact rotM_len hok
  have hrz2 : rt.size ≤ 200 := by rw [hrz]; exact (relM_L HRL.out hok).1
  obtain ⟨iv, hiv⟩ : ∃ iv, iv = invS fr := ⟨_, rfl⟩
  have hvz : iv.size ≤ 200 := by rw [hiv, invS_size]; exact hfz
  obtain ⟨cj, hcj⟩ : ∃ cj, cj = strOfNums (redL [s.extract 0 m.f1.toNat ++ iv]) := ⟨_, rfl⟩
  have L26 : Aside0 (∀ w, Calls Try.prog 26 #[.string fr] w fun e w' => e = .returned (.string iv) ∧ Below w.heap.size w w') := ⟨by rw [hiv]; exact invertR_calls fr (by omega) hfl⟩
  have L25 : Aside0 (∀ w, Calls Try.prog 25 #[.string (s.extract 0 m.f1.toNat ++ iv)] w fun e w' => e = .returned (.string cj) ∧ Below w.heap.size w w') := ⟨by rw [hcj]; exact reduceR_calls _ (by rw [ByteArray.size_append, ByteArray.size_extract]; omega) (by rw [bytesOf_cat]; exact allL_cat (allL_take HL.out _) (by rw [hiv, bytesOf_invS hfl]; exact allL_inv hfl))⟩
  have CJ : Aside0 (cj = strOfNums (redL [s.extract 0 m.f1.toNat, invS (beforeM rels m)])) := ⟨by rw [hcj, redL_cat, hiv, hfr]⟩
  have RT := Aside0.mk hrt
  have RZ := Aside0.mk hrz
  have T := Aside0.mk hrel
  have ze : (9223372036854775807 < m.f1.toNat + iv.size) = False := eq_false (by omega)
  have zf : (9223372036854775807 < m.f1.toNat + rt.size) = False := eq_false (by omega)
  have zg : (9223372036854775807 < m.f1.toNat + rt.size + (s.size - m.f1.toNat)) = False := eq_false (by omega)
  have i5 : 0 ≤ m.f1 := by omega
  have i6 : m.f1 ≤ s.size := by omega
  have kq : IntKind.i64.wrap ((s.size : Int) - m.f1) = (s.size : Int) - m.f1 := IntWalk.i64_in _ (by omega)
  have kr : IntKind.i64.wrap (m.f1 + (rt.size : Int)) = m.f1 + (rt.size : Int) := IntWalk.i64_in _ (by omega)
  have d2 : decide ((s.size : Int) - m.f1 < rt.size) = false := by rw [← hrt] at h2; simp; omega
  have d3 : m.f1 ≤ m.f1 + (rt.size : Int) := by omega
  have d4 : m.f1 + (rt.size : Int) ≤ s.size := by rw [← hrt] at h2; omega
  have d5 : 0 ≤ m.f1 + (rt.size : Int) := by omega
  rw [← hrt] at hne
  have zt : (m.f1 + (rt.size : Int)).toNat = m.f1.toNat + rt.size := by omega
  have zh : (9223372036854775807 < m.f1.toNat + (s.size - (m.f1 + (rt.size : Int)).toNat)) = False := eq_false (by omega)
  have ZT := Aside0.mk zt
  clear zt
  clear hrel hfr hrt hiv hcj hfz hfl hrz hvz hok
  go_wp2_with (go_at_call 67; go_must (rw [← hW1, ← hW2]; clear hW1 hW2; refine (turnedR_calls g A c rels HRL.out m _ (Kd.C_below HC.out HB.out) hc _ _ _ T.out).mono ?_; rintro e w2 ⟨rfl, hb⟩; have HB2 := Aside0.mk hb; obtain ⟨n0, n1, n2, n3, n4, n5, r0, r1, _⟩ := HS.out _ hb; clear hb))
  go_wp2_with (fail)
  have hb00 := HB2.out
  go_region_held3 (fun W' => W'.cell? ⟨w.heap.size + 1, 0, none⟩ = some (.int .i64 m.f0) ∧ W'.cell? ⟨w.heap.size + 1, 1, none⟩ = some (.int .i64 m.f1) ∧ W'.cell? ⟨w.heap.size + 1, 2, none⟩ = some (.int .i64 m.f2) ∧ W'.cell? ⟨w.heap.size + 1, 3, none⟩ = some (.int .i64 m.f3) ∧ W'.cell? ⟨w.heap.size + 1, 4, none⟩ = some (.int .i64 m.f4) ∧ W'.cell? ⟨w.heap.size + 1, 5, none⟩ = some (.bool m.f5) ∧ W'.cell? ⟨w.heap.size, 0, none⟩ = some (.int .i64 g) ∧ W'.cell? ⟨w.heap.size, 1, none⟩ = some (.slice A rels.length c) ∧ Below W2.heap.size W2 W') (first | exact HS.out _ (by assumption) | exact HS.out _ (below_drew (by assumption)) | exact HS.out _ (pw_below_drewN (by assumption) _) | exact HS.out _ (below_alloc (by assumption) _) | exact HS.out _ (below_alloc (below_drew (by assumption)) _) | exact HS.out _ (below_set (below_set (below_set (by first | assumption | exact below_alloc (by assumption) _ | exact below_drew (by assumption) | exact below_alloc (below_drew (by assumption)) _ | exact below_drew (below_alloc (by assumption) _) | exact below_drew (below_alloc (below_drew (by assumption)) _)) (by first | exact Below.size (B := W2.heap.size) (w := W2) (by assumption) | (have := Below.size (B := W2.heap.size) (w := W2) (by assumption); simpa using this))) (by first | exact Below.size (B := W2.heap.size) (w := W2) (by assumption) | (have := Below.size (B := W2.heap.size) (w := W2) (by assumption); simpa using this))) (by first | exact Below.size (B := W2.heap.size) (w := W2) (by assumption) | (have := Below.size (B := W2.heap.size) (w := W2) (by assumption); simpa using this)))) (first | (go_at_call 26; refine (L26.out _).mono ?_; rintro e w' ⟨rfl, hb⟩; clear L26; have hbn : Below W2.heap.size W2 w' := below_step (by first | assumption | exact below_drew (by assumption) | exact below_alloc (by assumption) _ | exact below_drew (below_alloc (by assumption) _) | exact below_alloc (below_drew (by assumption)) _ | exact below_drew (below_alloc (below_drew (by assumption)) _)) hb; (try (have hbx := blk_below (o := .cells #[.string ⟨#[]⟩, .int .i64 0, .bool false] 59 (0, 0)) (by first | exact blk_drew hbx | exact hbx | exact blk_drew (Go.heap_alloc_new _ _) | exact Go.heap_alloc_new _ _) hb; have hcx0 := (blk_cell hbx 0).trans (show _ = some (Value.string ⟨#[]⟩) from rfl); have hcx1 := (blk_cell hbx 1).trans (show _ = some (Value.int .i64 0) from rfl); have hcx2 := (blk_cell hbx 2).trans (show _ = some (Value.bool false) from rfl); have hfx0 := blk_frozen hbx 0; have hfx1 := blk_frozen hbx 1; have hfx2 := blk_frozen hbx 2))) | (go_at_call 25; refine (L25.out _).mono ?_; rintro e w' ⟨rfl, hb⟩; clear L25; have hbn : Below W2.heap.size W2 w' := below_step (by first | assumption | exact below_drew (by assumption) | exact below_alloc (by assumption) _ | exact below_drew (below_alloc (by assumption) _) | exact below_alloc (below_drew (by assumption)) _ | exact below_drew (below_alloc (below_drew (by assumption)) _)) hb; (try (have hbx := blk_below (o := .cells #[.string ⟨#[]⟩, .int .i64 0, .bool false] 59 (0, 0)) (by first | exact blk_drew hbx | exact hbx | exact blk_drew (Go.heap_alloc_new _ _) | exact Go.heap_alloc_new _ _) hb; have hcx0 := (blk_cell hbx 0).trans (show _ = some (Value.string ⟨#[]⟩) from rfl); have hcx1 := (blk_cell hbx 1).trans (show _ = some (Value.int .i64 0) from rfl); have hcx2 := (blk_cell hbx 2).trans (show _ = some (Value.bool false) from rfl); have hfx0 := blk_frozen hbx 0; have hfx1 := blk_frozen hbx 1; have hfx2 := blk_frozen hbx 2))))
  all_goals
    have HZ : Aside0 (W2.heap.size ≤ _) := ⟨(‹_ ∧ _ ∧ _ ∧ _ ∧ _ ∧ _ ∧ _ ∧ _ ∧ Below W2.heap.size W2 _›).2.2.2.2.2.2.2.2.size⟩
    have hBW := (‹_ ∧ _ ∧ _ ∧ _ ∧ _ ∧ _ ∧ _ ∧ _ ∧ Below W2.heap.size W2 _›).2.2.2.2.2.2.2.2
    first
      | have hBC := blk_put (blk_put (blk_put hbx 0 (.string cj) rfl) 1 (.int .i64 m.f3) rfl) 2 (.bool m.f5) rfl
      | have hBC := Go.heap_alloc_new w' (Obj.cells #[.string cj, .int .i64 m.f3, .bool m.f5] 59)
    obtain ⟨b, hb0⟩ := name_block hBC
    rw [← hb0] at hBC
    try rw [← hb0] at hBW
    have hle : W2.heap.size ≤ b := by
      rw [hb0]
      first
        | exact hbn.size
        | exact (‹Below W2.heap.size W2 _›).size
    clear HZ
    rw [← hb0]
    refine fresh_world (K := fun W => Exit.then _ _ Exit.normal _ W) hBC hBW (fun Wx hX hBX => ?_)
    obtain ⟨y0, y1, y2, y3, y4, y5, _⟩ := HS.out _ hBX
    clear hBW hBC hb0
    go_wp2_with (fail)
    refine fresh_world (K := fun W => Code.wp _ _ _ _ W) hX hBX (fun Wy hY hBY => ?_)
    have HCM : Aside0 (cellM rels s m (m.f5) = ⟨cj, m.f3, m.f5⟩) := ⟨by unfold cellM; rw [← CJ.out]⟩
    clear y0 y1 y2 y3 y4 y5
    have HS2 : Aside0 (∀ W', Below Wy.heap.size Wy W' → (W'.cell? ⟨w.heap.size + 1, 0, none⟩ = some (.int .i64 m.f0) ∧ W'.cell? ⟨w.heap.size + 1, 1, none⟩ = some (.int .i64 m.f1) ∧ W'.cell? ⟨w.heap.size + 1, 2, none⟩ = some (.int .i64 m.f2) ∧ W'.cell? ⟨w.heap.size + 1, 3, none⟩ = some (.int .i64 m.f3) ∧ W'.cell? ⟨w.heap.size + 1, 4, none⟩ = some (.int .i64 m.f4) ∧ W'.cell? ⟨w.heap.size + 1, 5, none⟩ = some (.bool m.f5) ∧ W'.cell? ⟨w.heap.size, 0, none⟩ = some (.int .i64 g) ∧ W'.cell? ⟨w.heap.size, 1, none⟩ = some (.slice A rels.length c)) ∧ W'.cell? ⟨b, 0, none⟩ = some (.string cj) ∧ W'.cell? ⟨b, 1, none⟩ = some (.int .i64 m.f3) ∧ W'.cell? ⟨b, 2, none⟩ = some (.bool (m.f5)) ∧ Below Wy.heap.size Wy W') :=
      ⟨fun W' hb => ⟨by have := HS.out _ (below_step hBY hb); obtain ⟨a0, a1, a2, a3, a4, a5, a6, a7, _⟩ := this; exact ⟨a0, a1, a2, a3, a4, a5, a6, a7⟩, (blk_cell (blk_below hY hb) 0).trans rfl, (blk_cell (blk_below hY hb) 1).trans rfl, (blk_cell (blk_below hY hb) 2).trans rfl, hb⟩⟩
    have hbz := Below.refl Wy.heap.size Wy
    go_region_held3 (fun W' => (W'.cell? ⟨w.heap.size + 1, 0, none⟩ = some (.int .i64 m.f0) ∧ W'.cell? ⟨w.heap.size + 1, 1, none⟩ = some (.int .i64 m.f1) ∧ W'.cell? ⟨w.heap.size + 1, 2, none⟩ = some (.int .i64 m.f2) ∧ W'.cell? ⟨w.heap.size + 1, 3, none⟩ = some (.int .i64 m.f3) ∧ W'.cell? ⟨w.heap.size + 1, 4, none⟩ = some (.int .i64 m.f4) ∧ W'.cell? ⟨w.heap.size + 1, 5, none⟩ = some (.bool m.f5) ∧ W'.cell? ⟨w.heap.size, 0, none⟩ = some (.int .i64 g) ∧ W'.cell? ⟨w.heap.size, 1, none⟩ = some (.slice A rels.length c)) ∧ W'.cell? ⟨b, 0, none⟩ = some (.string cj) ∧ W'.cell? ⟨b, 1, none⟩ = some (.int .i64 m.f3) ∧ W'.cell? ⟨b, 2, none⟩ = some (.bool (m.f5)) ∧ Below Wy.heap.size Wy W') (first | exact HS2.out _ (by assumption) | exact HS2.out _ (below_drew (by assumption)) | exact HS2.out _ (pw_below_drewN (by assumption) _) | exact HS2.out _ (below_alloc (by assumption) _) | exact HS2.out _ (below_alloc (below_drew (by assumption)) _)) (fail)
    all_goals
      go_wp2
      go_ret3
      have hbf := (‹_ ∧ _ ∧ _ ∧ _ ∧ Below Wy.heap.size Wy _›).2.2.2.2
      rw [HCM.out]
      rw [← RZ.out, ← repl_del, ← ZT.out]
      refine ⟨_, rfl, R_one59 _ _ ⟨cj, m.f3, m.f5⟩ (Nat.le_trans HB.out.size hBY.size), below_step HB.out (below_step hBY hbf)⟩
def letB (xs : List Int) : Bool := xs.all (fun c => (decide (97 ≤ c) && decide (c < 105)) || (decide (65 ≤ c) && decide (c < 73)))
theorem letB_iff {xs : List Int} : letB xs = true ↔ allL xs := by
  unfold letB allL isL
  simp
def moveB (g : Int) (rels : List ByteArray) (s : ByteArray) : Bool := decide (1 ≤ g) && decide (g ≤ 8) && rels.all (fun r => decide (r.size ≤ 200) && letB (bytesOf r)) && decide (s.size ≤ 1000000) && letB (bytesOf s)
theorem moveB_iff {g : Int} {rels : List ByteArray} {s : ByteArray} : moveB g rels s = true ↔ (1 ≤ g ∧ g ≤ 8) ∧ relsL rels ∧ s.size ≤ 1000000 ∧ allL (bytesOf s) := by
  unfold moveB relsL
  simp only [Bool.and_eq_true, decide_eq_true_eq, List.all_eq_true, letB_iff, and_assoc]
def moveR (g : Int) (rels : List ByteArray) (s : ByteArray) (m : S52) : ByteArray × List S59 × Bool :=
  match moveS g rels s m with
  | none => (⟨#[]⟩, [], false)
  | some x => (x.1, x.2, true)
theorem moveR_calls (g : Int) (A : Option Addr) (c : Nat) (rels : List ByteArray) (s : ByteArray) (m : S52) (w : World) (hC : Kd.C Kd.string w A rels.length rels) (hc : rels.length ≤ c) (hr : relsL rels) (hg : 1 ≤ g ∧ g ≤ 8) (hs : s.size ≤ 1000000) (hL : allL (bytesOf s)) :
    Calls Try.prog 66 #[.agg #[.int .i64 g, .slice A rels.length c], .string s, .agg #[.int .i64 m.f0, .int .i64 m.f1, .int .i64 m.f2, .int .i64 m.f3, .int .i64 m.f4, .bool m.f5]] w fun e w' => ∃ v : Value, e = .returned (.tuple #[.string (moveR g rels s m).1, v, .bool (moveR g rels s m).2.2]) ∧ Kd.R k59 59 w' w.heap.size (fun _ => True) v (moveR g rels s m).2.1 ∧ Below w.heap.size w w' := by
  have no : moveS g rels s m = none → moveR g rels s m = (⟨#[]⟩, [], false) := fun h => by unfold moveR; rw [h]
  have yes : ∀ x, moveS g rels s m = some x → moveR g rels s m = (x.1, x.2, true) := fun x h => by unfold moveR; rw [h]
  by_cases h1 : m.f1 < 0
  · rw [no (by
      unfold moveS
      split
      · exact if_neg (fun h => by have := h.1; omega)
      · split
        · exact if_neg (fun h => by have := h.1; omega)
        · split
          · exact if_neg (fun h => by have := h.2.1; omega)
          · split
            · exact if_neg (fun h => by have := h.2.1; omega)
            · rfl)]
    exact move_out0 g A c rels s m w hC hc hr hg hs hL h1
  by_cases h2 : m.f1 > s.size
  · rw [no (by
      unfold moveS
      split
      · exact if_neg (fun h => by have := h.2.1; omega)
      · split
        · exact if_neg (fun h => by have := h.2.1; omega)
        · split
          · exact if_neg (fun h => by have := h.2.2; omega)
          · split
            · exact if_neg (fun h => by have := h.2.2.1; omega)
            · rfl)]
    exact move_out1 g A c rels s m w hC hc hr hg hs hL h1 h2
  by_cases k1 : m.f0 = 1
  · by_cases h3 : 0 ≤ m.f2 ∧ m.f2 < 2 * g
    · rw [yes _ (by unfold moveS; rw [if_pos k1]; exact if_pos ⟨by omega, by omega, h3.1, h3.2⟩)]
      exact move_one_yes g A c rels s m w hC hc hr hg hs hL h1 h2 k1 h3.1 h3.2
    · rw [no (by unfold moveS; rw [if_pos k1]; exact if_neg (fun h => h3 ⟨h.2.2.1, h.2.2.2⟩))]
      exact move_one_no g A c rels s m w hC hc hr hg hs hL h1 h2 k1 h3
  by_cases k2 : m.f0 = 2
  · by_cases h3 : m.f1 + 2 > s.size
    · rw [no (by unfold moveS; rw [if_neg k1, if_pos k2]; exact if_neg (fun h => by have := h.2.1; omega))]
      exact move_two_no0 g A c rels s m w hC hc hr hg hs hL h1 h2 k2 h3
    · have i1 := bt_isL hL (i := m.f1) (by omega) (by omega)
      have i2 := bt_isL hL (i := m.f1 + 1) (by omega) (by omega)
      cases hne : (bt s (m.f1 + 1) != otherB (bt s m.f1)) with
      | true =>
        rw [no (by
          unfold moveS
          rw [if_neg k1, if_pos k2]
          refine if_neg (fun h => ?_)
          have h3 := h.2.2
          simp only [canc, beq_iff_eq, decide_eq_true_eq] at h3
          simp only [bne_iff_ne, ne_eq] at hne
          exact hne (by rw [h3, other_other i2]))]
        exact move_two_no1 g A c rels s m w hC hc hr hg hs hL h1 h2 k2 h3 hne
      | false =>
        rw [yes _ (by
          unfold moveS
          rw [if_neg k1, if_pos k2]
          refine if_pos ⟨by omega, by omega, ?_⟩
          simp only [bne_eq_false_iff_eq] at hne
          simp only [canc, beq_iff_eq, decide_eq_true_eq]
          rw [hne, other_other i1])]
        exact move_two_yes g A c rels s m w hC hc hr hg hs hL h1 h2 k2 h3 hne
  by_cases k3 : m.f0 = 3
  · cases hok : relOkM rels m with
    | false =>
      rw [no (by unfold moveS; rw [if_neg k1, if_neg k2, if_pos k3]; exact if_neg (fun h => by rw [hok] at h; cases h.1))]
      exact move_rel_no3 g A c rels s m w hC hc hr hg hs hL h1 h2 k3 (by unfold turnedS; rw [hok]; rfl)
    | true =>
      rw [yes _ (by unfold moveS; rw [if_neg k1, if_neg k2, if_pos k3]; exact if_pos ⟨hok, by omega, by omega⟩)]
      exact move_three_yes g A c rels s m w hC hc hr hg hs hL h1 h2 k3 hok (by unfold turnedS; rw [hok]; rfl)
  by_cases k4 : m.f0 = 4
  · cases hok : relOkM rels m with
    | false =>
      rw [no (by unfold moveS; rw [if_neg k1, if_neg k2, if_neg k3, if_pos k4]; exact if_neg (fun h => by rw [hok] at h; cases h.1))]
      exact move_rel_no4 g A c rels s m w hC hc hr hg hs hL h1 h2 k4 (by unfold turnedS; rw [hok]; rfl)
    | true =>
      have htn : turnedS rels m = (rotM rels m, beforeM rels m, true) := by unfold turnedS; rw [hok]; rfl
      have hpre : prefB (s.extract m.f1.toNat s.size) (rotM rels m) = (decide (¬ (s.size : Int) - m.f1 < (rotM rels m).size) && ((s.extract m.f1.toNat (m.f1 + (rotM rels m).size).toNat).toList == (rotM rels m).toList)) := by
        unfold prefB
        rw [ByteArray.size_extract, ByteArray.extract_extract]
        by_cases hz : (s.size : Int) - m.f1 < (rotM rels m).size
        · rw [decide_eq_false (by omega), decide_eq_false (by omega)]; rfl
        · rw [decide_eq_true (by omega), decide_eq_true (by omega)]
          rw [show min (m.f1.toNat + (rotM rels m).size) s.size = (m.f1 + ((rotM rels m).size : Int)).toNat by omega]
          rfl
      by_cases h3 : (s.size : Int) - m.f1 < (rotM rels m).size
      · rw [no (by unfold moveS; rw [if_neg k1, if_neg k2, if_neg k3, if_pos k4]; exact if_neg (fun h => by have := h.2.2.2; rw [hpre, decide_eq_false (fun hh => hh h3)] at this; cases this))]
        exact move_four_no0 g A c rels s m w hC hc hr hg hs hL h1 h2 k4 hok htn h3
      · cases hne : ((s.extract m.f1.toNat (m.f1 + (rotM rels m).size).toNat).toList == (rotM rels m).toList) with
        | false =>
          rw [no (by unfold moveS; rw [if_neg k1, if_neg k2, if_neg k3, if_pos k4]; exact if_neg (fun h => by have := h.2.2.2; rw [hpre, hne, Bool.and_false] at this; cases this))]
          exact move_four_no1 g A c rels s m w hC hc hr hg hs hL h1 h2 k4 hok htn h3 hne
        | true =>
          rw [yes _ (by unfold moveS; rw [if_neg k1, if_neg k2, if_neg k3, if_pos k4]; exact if_pos ⟨hok, by omega, by omega, by rw [hpre, hne, decide_eq_true h3]; rfl⟩)]
          exact move_four_yes g A c rels s m w hC hc hr hg hs hL h1 h2 k4 hok htn h3 hne
  rw [no (by unfold moveS; rw [if_neg k1, if_neg k2, if_neg k3, if_neg k4])]
  exact move_kind g A c rels s m w hC hc hr hg hs hL h1 h2 k1 k2 k3 k4
end H
def cayleyref04_move.f (g : Int) (rels : List ByteArray) (s : ByteArray) (m0 m1 m2 m3 m4 : Int) (m5 : Bool) : Option (ByteArray × List S59 × Bool) := if moveB g rels s = true then some (moveR g rels s ⟨m0, m1, m2, m3, m4, m5⟩) else none
theorem cayleyref04_move.calls (a0_0 : Int) (A0_1 : Option Addr) (c0_1 : Nat) (l0_1 : List ByteArray) (a1 : ByteArray) (a2_0 : Int) (a2_1 : Int) (a2_2 : Int) (a2_3 : Int) (a2_4 : Int) (a2_5 : Bool) (r1 : ByteArray) (r2 : List S59) (r3 : Bool) (w : World) (hr0_1 : Kd.C Kd.string w A0_1 l0_1.length l0_1) (hc0_1 : l0_1.length ≤ c0_1) (h : cayleyref04_move.f a0_0 l0_1 a1 a2_0 a2_1 a2_2 a2_3 a2_4 a2_5 = some (r1, r2, r3)) :
    Calls Try.prog 66 #[.agg #[.int .i64 a0_0, .slice A0_1 l0_1.length c0_1], .string a1, .agg #[.int .i64 a2_0, .int .i64 a2_1, .int .i64 a2_2, .int .i64 a2_3, .int .i64 a2_4, .bool a2_5]] w fun e w' => ∃ v0_ : Value, e = .returned (.tuple #[.string r1, v0_, .bool r3]) ∧ Kd.R k59 59 w' w.heap.size (fun _ => True) v0_ r2 ∧ Below w.heap.size w w' := by
  unfold cayleyref04_move.f at h
  split at h
  · rename_i hB
    obtain ⟨hg, hr, hs, hL⟩ := moveB_iff.1 hB
    have := moveR_calls a0_0 A0_1 c0_1 l0_1 a1 ⟨a2_0, a2_1, a2_2, a2_3, a2_4, a2_5⟩ w hr0_1 hc0_1 hr hg hs hL
    rw [Option.some.inj h] at this
    exact this
  · cases h
namespace H
end H
end Go.Proofs.Ytmmichdlgjcmoaa.PAll
